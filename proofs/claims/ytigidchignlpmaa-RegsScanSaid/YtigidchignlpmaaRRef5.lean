/-
  The reference's free.
-/
import Derived.Test.YtigidchignlpmaaRRef4
namespace Go.Proofs.Ytigidchignlpmaa
open Go Go.RowKit Rg

/-- What is left at a. -/
def backAt (E : Nat → Int) (a : Int) (o : Option Nat) : Option Nat := match o with
  | none => none
  | some y => if E y ≤ a then none else some y
theorem backAt_eq (B E : Nat → Int) (x : Nat) : backAt E (B x) = back1 B E x := rfl

theorem opt_at {w wr : World} {P : Option Addr} {l : List (Option Nat)} {k : Nat} {o : Option Nat} (h : Seg w P (l.flatMap optF)) (hkeep : Keep w wr) (ho : l[k]? = some o) :
    ∃ b off, P = some ⟨b, off, none⟩ ∧ b < w.heap.size ∧ wr.cell? ⟨b, off + k, none⟩ = some (optC o) := by
  obtain ⟨hk, e⟩ := List.getElem?_eq_some_iff.1 ho
  obtain ⟨b, off, e', hb, hc⟩ := h.elem 1 (fun _ => rfl) (by omega) hk
  rw [e] at hc
  exact ⟨b, off, e', hb, by have := hkeep.cell (hc 0 _ rfl); simpa using this⟩

theorem optPush {w : World} {base : Nat} {v : Value} {xs : List (Option Nat)} (h : Own optF 1 3 w base v xs) (o : Option Nat) {z : Int} (hz : optC o = .int .i64 z) (hn : xs.length < 1000000) (hb : base ≤ w.heap.size) :
    ∃ A c, v = .slice A xs.length c ∧ ∃ A' c' w2, (Builtin.append_ #[59, 59] 59 #[.slice A xs.length c, .slice (some ⟨w.heap.size, 0, none⟩) 1 1]).run Try.prog (w.alloc (.cells #[.int .i64 z] 3)) = .ok (.slice A' (xs.length + 1) c') w2 ∧
      Own optF 1 3 w2 base (.slice A' (xs.length + 1) c') (xs ++ [o]) ∧ Ext (fun k => base ≤ k) w w2 := by
  obtain ⟨A, c, hv, A', c', w2, hrun, hown, hE, _, _⟩ := h.push1 elO o hn (by omega) hb 59
  refine ⟨A, c, hv, A', c', w2, ?_, hown, hE⟩
  rw [← hv]
  have e : (optF o).toArray = #[.int .i64 z] := by unfold optF; rw [hz]
  rw [e] at hrun
  exact hrun
theorem optC_int (o : Option Nat) : ∃ z : Int, optC o = .int .i64 z := by
  cases o with
  | none => exact ⟨_, rfl⟩
  | some y => exact ⟨_, rfl⟩

set_option maxHeartbeats 4000000 in
theorem rFree_calls (x : RfD) (A : Option Addr) (ls : List LvD) (c : Nat) (a : Int) (w : World) (h : RfOk w x) (hl : Lives w A ls) (hn : ls.length ≤ 60) (hne : ∀ x ∈ ls, 0 < x.l.length) (hr : x.t.regs.length ≤ 60) (hb : ∀ y, some y ∈ x.t.regs → y < ls.length) :
    Calls Try.prog 40 #[.agg x.cells.toArray, .slice A ls.length c, .int .i64 a] w fun e w' => ∃ x', e = .returned (.agg x'.cells.toArray) ∧ x'.t = ⟨x.t.regs.map (backAt (EL ls) a), x.t.slots⟩ ∧ RfOk w' x' ∧ (∀ b, b < w.heap.size → x.Off b → x'.Off b) ∧ Keep w w' := by
  obtain ⟨a1, c1, a2, c2, t⟩ := x
  obtain ⟨regs, slots⟩ := t
  replace hr : regs.length ≤ 60 := hr
  replace hb : ∀ y, some y ∈ regs → y < ls.length := hb
  show Calls Try.prog 40 #[.agg #[.slice a1 regs.length c1, .slice a2 slots.length c2], .slice A ls.length c, .int .i64 a] w _
  obtain ⟨wa, hwa⟩ : ∃ wa : World, wa = ((w.alloc (.cells #[.slice a1 regs.length c1, .slice a2 slots.length c2] 66)).alloc (.cells #[.slice none 0 0, .slice none 0 0] 66)) := ⟨_, rfl⟩
  have hka : Keep w wa := by rw [hwa]; exact ((Keep.refl _).alloc _).alloc _
  have b0 : Blk wa w.heap.size 66 [.slice a1 regs.length c1, .slice a2 slots.length c2] := by rw [hwa]; exact (Blk.new w _ [.slice a1 regs.length c1, .slice a2 slots.length c2]).keep ((Keep.refl _).alloc _)
  have b1 : Blk wa (w.heap.size + 1) 66 [.slice none 0 0, .slice none 0 0] := by
    rw [hwa]
    have := Blk.new (w.alloc (.cells #[.slice a1 regs.length c1, .slice a2 slots.length c2] 66)) 66 [.slice none 0 0, .slice none 0 0]
    simpa using this
  go_enter Try.func40, Try.ntmps40
  go_wp2_with fail
  rw [← hwa]
  have hza : wa.heap.size = w.heap.size + 1 + 1 := by rw [hwa]; simp
  clear hwa
  go_loopw [7, 8] (fun vo vi wr => ∃ i : Nat, i ≤ regs.length ∧ vi = .int .i64 i ∧ Own optF 1 3 wr wa.heap.size vo ((regs.take i).map (backAt (EL ls) a)) ∧ Keep wa wr) (fun _ i _ => regs.length - (intOf i).toNat)
  case atStart => exact ⟨0, Nat.zero_le _, rfl, Own.nil _ _ _ _ _, Keep.refl _⟩
  case round =>
    obtain ⟨i, hi, rfl, hown, hkeep⟩ := hrel
    have g0 : wr.cell? ⟨w.heap.size, 0, none⟩ = some (.slice a1 regs.length c1) := hkeep.cell (b0.cell 0)
    have g1 : wr.cell? ⟨w.heap.size, 1, none⟩ = some (.slice a2 slots.length c2) := hkeep.cell (b0.cell 1)
    have lg := Nat.lt_of_lt_of_le b0.lt hkeep.size
    by_cases hin : i < regs.length
    · obtain ⟨o, ho⟩ := get_some hin
      obtain ⟨b, off, rfl, hbb, c0⟩ := opt_at h.regs (hka.trans hkeep) ho
      have hbl := Nat.lt_of_lt_of_le hbb (hka.trans hkeep).size
      have hii : (i : Int) < (regs.length : Int) := by omega
      have hi0 : (0 : Int) ≤ (i : Int) := by omega
      have Ht := Lib.hid (show (regs.take (i + 1)).map (backAt (EL ls) a) = (regs.take i).map (backAt (EL ls) a) ++ [backAt (EL ls) a o] by rw [List.take_add_one, ho, List.map_append]; rfl)
      have hlen : ((regs.take i).map (backAt (EL ls) a)).length = i := by simp; omega
      cases o with
      | none =>
        have c0' : wr.cell? ⟨b, off + i, none⟩ = some (.int .i64 (-1)) := c0
        obtain ⟨Ao, co, rfl, A', c', w2, hrun, hown2, hE⟩ := optPush hown none (z := -1) rfl (by rw [hlen]; omega) hkeep.size
        rw [hlen] at hrun hown2
        have Hrel := Lib.hid (show Own optF 1 3 w2 wa.heap.size (.slice A' (i + 1) c') ((regs.take (i + 1)).map (backAt (EL ls) a)) ∧ Keep wa w2 from ⟨by rw [Ht.out]; exact hown2, Keep.of_ext hkeep hE (fun k hk => by show ¬ wa.heap.size ≤ k; omega)⟩)
        rw [hlen]
        clear hown hown2 hE hkeep Ht c0 ho h hl hne hb b0 b1
        go_wp2_with (at_builtin; refine wpList_append_eq rfl _ _ _ rfl _ _ rfl rfl _ _ hrun ?_; clear hrun)
        go_roundw
        case rel => exact ⟨i + 1, hin, by go_num, Hrel.out.1, Hrel.out.2⟩
        case measure => simp [intOf]; omega
      | some y =>
        have c0' : wr.cell? ⟨b, off + i, none⟩ = some (.int .i64 (y : Int)) := c0
        have hy := hb y (List.mem_of_getElem? ho)
        obtain ⟨x, hx⟩ := get_some hy
        obtain ⟨bx, offx, hA, hbx, x0, x1, xok⟩ := hl.get (hka.trans hkeep) hx
        have hbxl := Nat.lt_of_lt_of_le hbx (hka.trans hkeep).size
        subst hA
        have hyy : (y : Int) < (ls.length : Int) := by omega
        have hy0 : (0 : Int) ≤ (y : Int) := by omega
        have HE := Lib.hid (rEnd_calls x.val x.a x.l x.c wr xok.seg (hne x (List.mem_of_getElem? hx)) xok.len)
        have hEy := EL_get hx
        by_cases hle : fin x.l ≤ a
        · have hba : backAt (EL ls) a (some y) = none := by show (if EL ls y ≤ a then none else some y) = none; rw [hEy]; exact if_pos hle
          rw [hba] at Ht
          have Hown := Lib.hid hown
          have Hkeep := Lib.hid hkeep
          clear hown hkeep c0 ho h hl hne hb b0 b1 hx xok hba hEy
          go_wp2_with fail
          refine HE.out.mono ?_
          rintro e w1 ⟨rfl, k1⟩
          obtain ⟨Ao, co, rfl, A', c', w2, hrun, hown2, hE⟩ := optPush (Hown.out.keep k1) none (z := -1) rfl (by rw [hlen]; omega) (Hkeep.out.trans k1).size
          rw [hlen] at hrun hown2
          have Hrel := Lib.hid (show Own optF 1 3 w2 wa.heap.size (.slice A' (i + 1) c') ((regs.take (i + 1)).map (backAt (EL ls) a)) ∧ Keep wa w2 from ⟨by rw [Ht.out]; exact hown2, Keep.of_ext (Hkeep.out.trans k1) hE (fun k hk => by show ¬ wa.heap.size ≤ k; omega)⟩)
          rw [hlen]
          clear Hown hown2 hE Hkeep Ht HE k1 g0 g1 c0' x0 x1
          go_wp2_with (at_builtin; refine wpList_append_eq rfl _ _ _ rfl _ _ rfl rfl _ _ hrun ?_; clear hrun)
          go_roundw
          case rel => exact ⟨i + 1, hin, by go_num, Hrel.out.1, Hrel.out.2⟩
          case measure => simp [intOf]; omega
        · have hba : backAt (EL ls) a (some y) = some y := by show (if EL ls y ≤ a then none else some y) = some y; rw [hEy]; exact if_neg hle
          have hle' : decide (fin x.l ≤ a) = false := decide_eq_false hle
          rw [hba] at Ht
          have Hown := Lib.hid hown
          have Hkeep := Lib.hid hkeep
          clear hown hkeep c0 ho h hl hne hb b0 b1 hx xok hba hEy
          go_wp2_with fail
          refine HE.out.mono ?_
          rintro e w1 ⟨rfl, k1⟩
          obtain ⟨Ao, co, rfl, A', c', w2, hrun, hown2, hE⟩ := optPush (Hown.out.keep k1) (some y) (z := (y : Int)) rfl (by rw [hlen]; omega) (Hkeep.out.trans k1).size
          rw [hlen] at hrun hown2
          have Hrel := Lib.hid (show Own optF 1 3 w2 wa.heap.size (.slice A' (i + 1) c') ((regs.take (i + 1)).map (backAt (EL ls) a)) ∧ Keep wa w2 from ⟨by rw [Ht.out]; exact hown2, Keep.of_ext (Hkeep.out.trans k1) hE (fun k hk => by show ¬ wa.heap.size ≤ k; omega)⟩)
          rw [hlen]
          clear Hown hown2 hE Hkeep Ht HE k1 g0 g1 c0' x0 x1
          go_wp2_with (at_builtin; refine wpList_append_eq rfl _ _ _ rfl _ _ rfl rfl _ _ hrun ?_; clear hrun)
          go_roundw
          case rel => exact ⟨i + 1, hin, by go_num, Hrel.out.1, Hrel.out.2⟩
          case measure => simp [intOf]; omega
    · have hl2 : i = regs.length := by omega
      rw [hl2, List.take_length] at hown
      obtain ⟨Ao, co, rfl, _⟩ := hown.form
      simp only [List.length_map] at hown ⊢
      have b0r := b0.keep hkeep
      have b1r := b1.keep hkeep
      have b04 := b0r.set_ 0 (.slice Ao regs.length co)
      have b14 := b1r.far (p := ⟨w.heap.size, 0, none⟩) (by show ¬ w.heap.size + 1 = w.heap.size; omega) (.slice Ao regs.length co)
      have b15 := b14.set_ 0 (.slice Ao regs.length co)
      have b16 := b15.set_ 1 (.slice a2 slots.length c2)
      have Hfin := Lib.hid (show ∃ x' : RfD, (.agg #[.slice Ao regs.length co, .slice a2 slots.length c2] : Value) = .agg x'.cells.toArray ∧ x'.t = ⟨regs.map (backAt (EL ls) a), slots⟩ ∧ RfOk (((wr.setCell ⟨w.heap.size, 0, none⟩ (.slice Ao regs.length co)).setCell ⟨w.heap.size + 1, 0, none⟩ (.slice Ao regs.length co)).setCell ⟨w.heap.size + 1, 1, none⟩ (.slice a2 slots.length c2)) x' ∧ (∀ b, b < w.heap.size → RfD.Off ⟨a1, c1, a2, c2, ⟨regs, slots⟩⟩ b → x'.Off b) ∧
          Keep w (((wr.setCell ⟨w.heap.size, 0, none⟩ (.slice Ao regs.length co)).setCell ⟨w.heap.size + 1, 0, none⟩ (.slice Ao regs.length co)).setCell ⟨w.heap.size + 1, 1, none⟩ (.slice a2 slots.length c2)) from by
        have kk : Keep w (((wr.setCell ⟨w.heap.size, 0, none⟩ (.slice Ao regs.length co)).setCell ⟨w.heap.size + 1, 0, none⟩ (.slice Ao regs.length co)).setCell ⟨w.heap.size + 1, 1, none⟩ (.slice a2 slots.length c2)) :=
          (((hka.trans hkeep).setCell (p := ⟨w.heap.size, 0, none⟩) (Nat.le_refl _) _).setCell (p := ⟨w.heap.size + 1, 0, none⟩) (by show w.heap.size ≤ w.heap.size + 1; omega) _).setCell (p := ⟨w.heap.size + 1, 1, none⟩) (by show w.heap.size ≤ w.heap.size + 1; omega) _
        have ho : ∀ k, (Value.slice Ao regs.length co).ownBlock = some k → w.heap.size + 1 < k := fun k hk => by have := (hown.lt k hk).1; omega
        have hown' : Own optF 1 3 wr wa.heap.size (.slice Ao (regs.map (backAt (EL ls) a)).length co) (regs.map (backAt (EL ls) a)) := by rw [List.length_map]; exact hown
        have ho' : ∀ k, (Value.slice Ao (regs.map (backAt (EL ls) a)).length co).ownBlock = some k → w.heap.size + 1 < k := by rw [List.length_map]; exact ho
        refine ⟨⟨Ao, co, a2, c2, ⟨regs.map (backAt (EL ls) a), slots⟩⟩, by simp [RfD.cells], rfl, ⟨?_, (h.keep kk).slots⟩, fun b hb ho => ⟨fun ad e => by have := hown'.addr_ge e; omega, ho.2⟩, kk⟩
        exact (((hown'.put_far (p := ⟨w.heap.size, 0, none⟩) (fun k hk => by have := ho' k hk; show ¬ k = w.heap.size; omega) _).put_far (p := ⟨w.heap.size + 1, 0, none⟩) (fun k hk => by have := ho' k hk; show ¬ k = w.heap.size + 1; omega) _).put_far (p := ⟨w.heap.size + 1, 1, none⟩) (fun k hk => by have := ho' k hk; show ¬ k = w.heap.size + 1; omega) _).seg)
      have y0f := b0r.frozen 0
      have z0 : (wr.setCell ⟨w.heap.size, 0, none⟩ (.slice Ao regs.length co)).cell? ⟨w.heap.size, 0, none⟩ = some (.slice Ao regs.length co) := b04.cell 0
      have z1 : (wr.setCell ⟨w.heap.size, 0, none⟩ (.slice Ao regs.length co)).cell? ⟨w.heap.size, 1, none⟩ = some (.slice a2 slots.length c2) := b04.cell 1
      have t0 : (wr.setCell ⟨w.heap.size, 0, none⟩ (.slice Ao regs.length co)).cell? ⟨w.heap.size + 1, 0, none⟩ = some (.slice none 0 0) := b14.cell 0
      have t0f := b14.frozen 0
      have t0l := b14.lt
      have t1 : ((wr.setCell ⟨w.heap.size, 0, none⟩ (.slice Ao regs.length co)).setCell ⟨w.heap.size + 1, 0, none⟩ (.slice Ao regs.length co)).cell? ⟨w.heap.size + 1, 1, none⟩ = some (.slice none 0 0) := b15.cell 1
      have t1f := b15.frozen 1
      have v0 : (((wr.setCell ⟨w.heap.size, 0, none⟩ (.slice Ao regs.length co)).setCell ⟨w.heap.size + 1, 0, none⟩ (.slice Ao regs.length co)).setCell ⟨w.heap.size + 1, 1, none⟩ (.slice a2 slots.length c2)).cell? ⟨w.heap.size + 1, 0, none⟩ = some (.slice Ao regs.length co) := b16.cell 0
      have v1 : (((wr.setCell ⟨w.heap.size, 0, none⟩ (.slice Ao regs.length co)).setCell ⟨w.heap.size + 1, 0, none⟩ (.slice Ao regs.length co)).setCell ⟨w.heap.size + 1, 1, none⟩ (.slice a2 slots.length c2)).cell? ⟨w.heap.size + 1, 1, none⟩ = some (.slice a2 slots.length c2) := b16.cell 1
      clear b0 b1 b0r b1r b04 b14 b15 b16 hown h hl hne hb hl2 hkeep hka hza
      obtain ⟨w3, hw3⟩ : ∃ w3, wr.setCell ⟨w.heap.size, 0, none⟩ (.slice Ao regs.length co) = w3 := ⟨_, rfl⟩
      simp only [hw3] at Hfin z0 z1 t0 t0f t0l t1 t1f v0 v1
      obtain ⟨w5, hw5⟩ : ∃ w5, w3.setCell ⟨w.heap.size + 1, 0, none⟩ (.slice Ao regs.length co) = w5 := ⟨_, rfl⟩
      simp only [hw5] at Hfin t1 t1f v0 v1
      obtain ⟨w6, hw6⟩ : ∃ w6, w5.setCell ⟨w.heap.size + 1, 1, none⟩ (.slice a2 slots.length c2) = w6 := ⟨_, rfl⟩
      simp only [hw6] at Hfin v0 v1
      go_wp2
      obtain ⟨x', e1, e2, e3, e4⟩ := Hfin.out
      exact bodyPost_ret (v := .agg #[.slice Ao regs.length co, .slice a2 slots.length c2]) (by simp [results, Try.results40, go_sem, v0, v1]) rfl ⟨x', by rw [e1], e2, e3, e4⟩
end Go.Proofs.Ytigidchignlpmaa
