/-
  The reference's Scan: its state while the rows are made; while the elements are placed.
-/
import Derived.Test.YtigidchignlpmaaRRef9
import Derived.Test.YtigidchignlpmaaRLawP
import Derived.Test.YtigidchignlpmaaRScan5
namespace Go.Proofs.Ytigidchignlpmaa
open Go Go.RowKit Rg

theorem optPush2 {w : World} {base : Nat} {v : Value} {xs : List (Option Nat)} (h : Own optF 1 3 w base v xs) (hn : xs.length < 1000000) (hb : base ≤ w.heap.size) :
    ∃ A c, v = .slice A xs.length c ∧ ∃ A' c' w2, (Builtin.append_ #[59, 59] 59 #[v, .slice (some ⟨w.heap.size, 0, none⟩) 1 1]).run Try.prog (w.alloc (.cells #[.int .i64 (-1)] 3)) = .ok (.slice A' (xs.length + 1) c') w2 ∧
      Own optF 1 3 w2 base (.slice A' (xs.length + 1) c') (xs ++ [none]) ∧ Ext (fun k => v.ownBlock = some k) w w2 ∧ ((Value.slice A' (xs.length + 1) c').ownBlock = v.ownBlock ∨ ∃ k, (Value.slice A' (xs.length + 1) c').ownBlock = some k ∧ w.heap.size ≤ k) := by
  obtain ⟨A, c, hform, _⟩ := h.form
  have hka : Keep w (w.alloc (.cells #[.int .i64 (-1)] 3)) := (Keep.refl _).alloc _
  have hseg : Seg (w.alloc (.cells #[.int .i64 (-1)] 3)) (some ⟨w.heap.size, 0, none⟩) (([none] : List (Option Nat)).flatMap optF) := Seg.of_blk (Blk.new w 3 [.int .i64 (-1)])
  obtain ⟨v', w2, hrun, hown, hg, hbl⟩ := append_run (ys := [none]) elO (h.keep hka) hseg 1 59 (by simp [maxLen]; omega) (by simp; omega) (Nat.le_trans hb hka.size)
  obtain ⟨A', c', rfl, _⟩ := hown.form
  have e : (xs ++ [(none : Option Nat)]).length = xs.length + 1 := by simp
  rw [e] at hrun hown hbl
  exact ⟨A, c, hform, A', c', w2, hrun, hown, (hka.ext _).grown hg (fun k hk _ => hk), hbl.imp id (fun h => ⟨_, h, hka.size⟩)⟩

/-- The state while its rows are made. -/
structure RS (wa wz : World) (x : RfD) : Prop where
  blk : Blk wz wa.heap.size 66 x.cells
  r1 : Own optF 1 3 wz (wa.heap.size + 1) (.slice x.a1 x.t.regs.length x.c1) x.t.regs
  r2 : Own optF 1 3 wz (wa.heap.size + 1) (.slice x.a2 x.t.slots.length x.c2) x.t.slots
  ap : ∀ k, (Value.slice x.a1 x.t.regs.length x.c1).ownBlock = some k → (Value.slice x.a2 x.t.slots.length x.c2).ownBlock ≠ some k
  keep : Keep wa wz
theorem RS.keepy {wa wz w' : World} {x : RfD} (h : RS wa wz x) (hk : Keep wz w') : RS wa w' x := ⟨h.blk.keep hk, h.r1.keep hk, h.r2.keep hk, h.ap, h.keep.trans hk⟩
theorem RS.start (wa : World) : RS wa (wa.alloc (.cells #[.slice none 0 0, .slice none 0 0] 66)) ⟨none, 0, none, 0, ⟨[], []⟩⟩ :=
  ⟨Blk.new wa _ [.slice none 0 0, .slice none 0 0], Own.nil _ _ _ _ _, Own.nil _ _ _ _ _, (fun k hk => by cases hk), (Keep.refl _).alloc _⟩
theorem RS.ok {wa wz : World} {x : RfD} (h : RS wa wz x) : RfOk wz x := ⟨h.r1.seg, h.r2.seg⟩
theorem RS.off {wa wz : World} {x : RfD} (h : RS wa wz x) {b : Nat} (hb : wz.heap.size ≤ b) : x.Off b :=
  ⟨fun ad e => by have := h.r1.addr_lt e; omega, fun ad e => by have := h.r2.addr_lt e; omega⟩
theorem RS.push1 {wa wz : World} {x : RfD} (h : RS wa wz x) (hn : x.t.regs.length < 1000000) :
    ∃ A' c' w7, (Builtin.append_ #[59, 59] 59 #[.slice x.a1 x.t.regs.length x.c1, .slice (some ⟨wz.heap.size, 0, none⟩) 1 1]).run Try.prog (wz.alloc (.cells #[.int .i64 (-1)] 3)) = .ok (.slice A' (x.t.regs.length + 1) c') w7 ∧
      (∃ u, w7.cell? ⟨wa.heap.size, 0, none⟩ = some u) ∧ w7.frozen? ⟨wa.heap.size, 0, none⟩ = false ∧ wa.heap.size < w7.heap.size ∧
      RS wa (w7.setCell ⟨wa.heap.size, 0, none⟩ (.slice A' (x.t.regs.length + 1) c')) ⟨A', c', x.a2, x.c2, ⟨x.t.regs ++ [none], x.t.slots⟩⟩ := by
  obtain ⟨A, c, hv, A', c', w7, hrun, hown, hE, hb⟩ := optPush2 h.r1 hn (Nat.succ_le_of_lt h.blk.lt)
  have nq : ¬ (Value.slice x.a1 x.t.regs.length x.c1).ownBlock = some wa.heap.size := fun e => by have := (h.r1.lt _ e).1; omega
  have b7 := h.blk.ext hE nq
  have o7 : Own optF 1 3 w7 (wa.heap.size + 1) (.slice x.a2 x.t.slots.length x.c2) _ := h.r2.ext hE (fun k hk e => h.ap k e hk)
  have n1 : ∀ k, (.slice x.a2 x.t.slots.length x.c2 : Value).ownBlock = some k → ¬ k = wa.heap.size := fun k hk => by have := (o7.lt k hk).1; omega
  have n2 : ∀ k, (Value.slice A' (x.t.regs.length + 1) c').ownBlock = some k → ¬ k = wa.heap.size := fun k hk => by have := (hown.lt k hk).1; omega
  have hl : (x.t.regs ++ [(none : Option Nat)]).length = x.t.regs.length + 1 := by simp
  have hk7 : Keep wa w7 := Keep.of_ext h.keep hE (fun k hk e => by have := (h.r1.lt _ e).1; omega)
  refine ⟨A', c', w7, hrun, ⟨_, b7.cell 0⟩, b7.frozen 0, b7.lt, ⟨?_, ?_, ?_, ?_, hk7.setCell (p := ⟨wa.heap.size, 0, none⟩) (Nat.le_refl _) _⟩⟩
  · show Blk _ _ _ [.slice A' (x.t.regs ++ [none]).length c', .slice x.a2 x.t.slots.length x.c2]
    rw [hl]
    exact b7.set_ 0 _
  · exact by show Own _ _ _ _ _ (.slice A' (x.t.regs ++ [none]).length c') _; rw [hl]; exact hown.put_far (p := ⟨wa.heap.size, 0, none⟩) n2 _
  · exact o7.put_far (p := ⟨wa.heap.size, 0, none⟩) n1 _
  · intro k hk
    replace hk : (Value.slice A' (x.t.regs ++ [none]).length c').ownBlock = some k := hk
    rw [hl] at hk
    rcases hb with hb | ⟨k', hk', hge⟩
    · exact h.ap k (hb ▸ hk)
    · rw [hk] at hk'; cases hk'
      intro e
      have := (h.r2.lt k e).2
      omega
theorem RS.push2 {wa wz : World} {x : RfD} (h : RS wa wz x) (hn : x.t.slots.length < 1000000) :
    ∃ A' c' w7, (Builtin.append_ #[59, 59] 59 #[.slice x.a2 x.t.slots.length x.c2, .slice (some ⟨wz.heap.size, 0, none⟩) 1 1]).run Try.prog (wz.alloc (.cells #[.int .i64 (-1)] 3)) = .ok (.slice A' (x.t.slots.length + 1) c') w7 ∧
      (∃ u, w7.cell? ⟨wa.heap.size, 1, none⟩ = some u) ∧ w7.frozen? ⟨wa.heap.size, 1, none⟩ = false ∧ wa.heap.size < w7.heap.size ∧
      RS wa (w7.setCell ⟨wa.heap.size, 1, none⟩ (.slice A' (x.t.slots.length + 1) c')) ⟨x.a1, x.c1, A', c', ⟨x.t.regs, x.t.slots ++ [none]⟩⟩ := by
  obtain ⟨A, c, hv, A', c', w7, hrun, hown, hE, hb⟩ := optPush2 h.r2 hn (Nat.succ_le_of_lt h.blk.lt)
  have nq : ¬ (Value.slice x.a2 x.t.slots.length x.c2).ownBlock = some wa.heap.size := fun e => by have := (h.r2.lt _ e).1; omega
  have b7 := h.blk.ext hE nq
  have o7 : Own optF 1 3 w7 (wa.heap.size + 1) (.slice x.a1 x.t.regs.length x.c1) _ := h.r1.ext hE (fun k hk e => h.ap k hk e)
  have n1 : ∀ k, (.slice x.a1 x.t.regs.length x.c1 : Value).ownBlock = some k → ¬ k = wa.heap.size := fun k hk => by have := (o7.lt k hk).1; omega
  have n2 : ∀ k, (Value.slice A' (x.t.slots.length + 1) c').ownBlock = some k → ¬ k = wa.heap.size := fun k hk => by have := (hown.lt k hk).1; omega
  have hl : (x.t.slots ++ [(none : Option Nat)]).length = x.t.slots.length + 1 := by simp
  have hk7 : Keep wa w7 := Keep.of_ext h.keep hE (fun k hk e => by have := (h.r2.lt _ e).1; omega)
  refine ⟨A', c', w7, hrun, ⟨_, b7.cell 1⟩, b7.frozen 1, b7.lt, ⟨?_, ?_, ?_, ?_, hk7.setCell (p := ⟨wa.heap.size, 1, none⟩) (Nat.le_refl _) _⟩⟩
  · show Blk _ _ _ [.slice x.a1 x.t.regs.length x.c1, .slice A' (x.t.slots ++ [none]).length c']
    rw [hl]
    exact b7.set_ 1 _
  · exact o7.put_far (p := ⟨wa.heap.size, 1, none⟩) n1 _
  · exact by show Own _ _ _ _ _ (.slice A' (x.t.slots ++ [none]).length c') _; rw [hl]; exact hown.put_far (p := ⟨wa.heap.size, 1, none⟩) n2 _
  · intro k hk hk2
    replace hk2 : (Value.slice A' (x.t.slots ++ [none]).length c').ownBlock = some k := hk2
    rw [hl] at hk2
    rcases hb with hb | ⟨k', hk', hge⟩
    · exact h.ap k hk (hb ▸ hk2)
    · rw [hk2] at hk'; cases hk'
      have := (h.r1.lt k hk).2
      omega

/-- The state while the elements are placed. -/
structure RD (wa wc wz : World) (pb : Nat) (x : RfD) (p : List Nat) : Prop where
  blk : Blk wz wa.heap.size 66 x.cells
  pls : Blk wz pb 3 (p.map natC)
  ok : RfOk wz x
  off : x.Off pb
  ext : Ext (fun k => k = wa.heap.size ∨ k = pb) wc wz
theorem RD.keepy {wa wc wz w' : World} {pb : Nat} {x : RfD} {p : List Nat} (h : RD wa wc wz pb x p) (hk : Keep wz w') : RD wa wc w' pb x p :=
  ⟨h.blk.keep hk, h.pls.keep hk, h.ok.keep hk, h.off, h.ext.keepTrans hk⟩
/-- Another state into the box. -/
theorem RD.put {wa wc w' : World} {pb : Nat} {x x' : RfD} {p : List Nat} (h : RD wa wc w' pb x p) (h' : RfOk w' x') (ho : x'.Off pb) (hpb : pb ≠ wa.heap.size) :
    (∃ u, w'.cell? ⟨wa.heap.size, 0, none⟩ = some u) ∧ w'.frozen? ⟨wa.heap.size, 0, none⟩ = false ∧ wa.heap.size < w'.heap.size ∧
    (∃ u, (w'.setCell ⟨wa.heap.size, 0, none⟩ (.slice x'.a1 x'.t.regs.length x'.c1)).cell? ⟨wa.heap.size, 1, none⟩ = some u) ∧ (w'.setCell ⟨wa.heap.size, 0, none⟩ (.slice x'.a1 x'.t.regs.length x'.c1)).frozen? ⟨wa.heap.size, 1, none⟩ = false ∧
    RD wa wc ((w'.setCell ⟨wa.heap.size, 0, none⟩ (.slice x'.a1 x'.t.regs.length x'.c1)).setCell ⟨wa.heap.size, 1, none⟩ (.slice x'.a2 x'.t.slots.length x'.c2)) pb x' p := by
  have b1 := h.blk.set_ 0 (.slice x'.a1 x'.t.regs.length x'.c1)
  have b2 := b1.set_ 1 (.slice x'.a2 x'.t.slots.length x'.c2)
  have hs1 : ∀ v ∈ x.cells.set 0 (.slice x'.a1 x'.t.regs.length x'.c1), ∃ B n c, v = .slice B n c := fun v hv => by
    rcases List.mem_or_eq_of_mem_set hv with h1 | rfl
    · exact cells_slices x v h1
    · exact ⟨_, _, _, rfl⟩
  refine ⟨⟨_, h.blk.cell 0⟩, h.blk.frozen 0, h.blk.lt, ⟨.slice x.a2 x.t.slots.length x.c2, b1.cell 1⟩, b1.frozen 1, ⟨b2, ?_, ⟨?_, ?_⟩, ho, ?_⟩⟩
  · exact (h.pls.far (p := ⟨wa.heap.size, 0, none⟩) hpb _).far (p := ⟨wa.heap.size, 1, none⟩) hpb _
  · exact seg_off b1 hs1 (seg_off h.blk (cells_slices x) h'.regs 0 _) 1 _
  · exact seg_off b1 hs1 (seg_off h.blk (cells_slices x) h'.slots 0 _) 1 _
  · exact (h.ext.setCell (p := ⟨wa.heap.size, 0, none⟩) (fun _ => .inl rfl) _).setCell (p := ⟨wa.heap.size, 1, none⟩) (fun _ => .inl rfl) _
theorem seg_far {w : World} {A : Option Addr} {xs : List Value} (hs : Seg w A xs) {p : Addr} (h : ∀ ad, A = some ad → ad.block ≠ p.block) (u : Value) : Seg (w.setCell p u) A xs := fun j v hv => by
  obtain ⟨b, off, rfl, hbl, hc⟩ := hs.addr (by have := (List.getElem?_eq_some_iff.1 hv).1; omega)
  have h1 := hc j v hv
  have hadd : (⟨b, off, none⟩ : Addr).add j = ⟨b, off + j, none⟩ := by unfold Addr.add; split <;> simp_all
  refine ⟨_, rfl, ?_⟩
  rw [hadd]
  have h3 : (w.setCell p u).heap[b]? = w.heap[b]? := Below.heap_setCell w p u b (h _ rfl)
  have h4 : (w.setCell p u).cell? ⟨b, off + j, none⟩ = w.cell? ⟨b, off + j, none⟩ := World.cell?_of_block h3
  exact h4.trans h1
/-- A place is written. -/
theorem RD.place {wa wc w' : World} {pb : Nat} {x : RfD} {p : List Nat} (h : RD wa wc w' pb x p) (hpb : pb ≠ wa.heap.size) (i r : Nat) : RD wa wc (w'.setCell ⟨pb, i, none⟩ (natC r)) pb x (p.set i r) := by
  refine ⟨h.blk.far (p := ⟨pb, i, none⟩) (fun e => hpb e.symm) _, ?_, ⟨seg_far h.ok.regs (p := ⟨pb, i, none⟩) h.off.1 _, seg_far h.ok.slots (p := ⟨pb, i, none⟩) h.off.2 _⟩, h.off, h.ext.setCell (p := ⟨pb, i, none⟩) (fun _ => .inr rfl) _⟩
  have := h.pls.set_ i (natC r)
  rwa [← List.map_set] at this
end Go.Proofs.Ytigidchignlpmaa
