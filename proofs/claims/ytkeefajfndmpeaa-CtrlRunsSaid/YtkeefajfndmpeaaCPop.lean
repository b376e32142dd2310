/-
  pop: removes the innermost control frame.
-/
import Derived.Test.YtkeefajfndmpeaaCBase
import Derived.Laws.CopyRow
import Derived.Laws.OwnMore
namespace Go.Proofs.Ytkeefajfndmpeaa
open Go Go.RowKit

section
variable {P : Program} {t e : TypeId} {s bytes : Nat} {α : Type} {f : α → List Value}
theorem make_run (E : ElT P t e s bytes f) (w : World) (n : Nat) (hbytes : bytes * n ≤ 281474976710656) (h63 : n ≤ maxLen) :
    ∃ w' cur, (Instr.makeSlice t (.int .i64 (n : Int)) (.int .i64 (n : Int))).run P w = .ok (.slice (some ⟨w.heap.size, 0, none⟩) n n) w' ∧ Blk w' w.heap.size e cur ∧ cur.length = n * s ∧ Keep w w' := by
  obtain ⟨i, z, hi, hz, hsz, hby, hzs⟩ := E.info
  obtain ⟨w', hrun, ho, hg⟩ := run_make_full (P := P) (w := w) w.heap.size t e i z s E.slice hi hz hsz .i64 .i64 n (by rw [hby]; exact hbytes) h63 (Nat.le_refl _)
  have hk : Keep w w' := (Keep.refl w).grown hg (fun k hk => by cases hk)
  rcases ho.2 with ⟨hv, _⟩ | ⟨g, cap, cur, hv, _, hh, _, _, hc, _⟩
  · cases hv
  · injection hv with h1 h2 h3
    injection h1 with h1
    injection h1 with h1
    subst h1
    subst h3
    exact ⟨w', cur.toList, hrun, by unfold Blk; rw [hh], by simpa using hc, hk⟩
theorem copy_run (E : ElT P t e s bytes f) (w : World) (g n c : Nat) (ad : Addr) (m cc : Nat) (cur : List Value) {te : TypeId} (xs : List α) (hg : Blk w g te cur) (hm : n ≤ m) (hx : xs.length = n) (hseg : Seg w (some ad) (xs.flatMap f)) (hcur : cur.length = n * s) (ty : TypeId) :
    ∃ w', (Builtin.copy_ #[t, t] ty #[.slice (some ⟨g, 0, none⟩) n c, .slice (some ad) m cc]).run P w = .ok (.int .i64 (n : Int)) w' ∧ Blk w' g te (xs.flatMap f) ∧ Ext (fun k => k = g) w w' := by
  obtain ⟨i, z, hi, hz, hsz, hby, hzs⟩ := E.info
  have hlen : (xs.flatMap f).length = n * s := by rw [flat_length f s E.len, hx]
  have hone : ∀ u ∈ xs.flatMap f, u.oneCell' = true := fun u hu => by
    obtain ⟨x, _, hx⟩ := List.mem_flatMap.1 hu
    exact E.one x u hx
  have hl := run_loadCells_list (P := P) w ad (xs.flatMap f) (fun j u hu => by obtain ⟨ad', he, hc⟩ := hseg j u hu; cases he; exact hc)
  have hst := run_storeCells_at P g 0 te (xs.flatMap f) 0 cur.toArray w hg (by simp [hlen, hcur]) hone
  rw [hlen] at hl
  refine ⟨w.setRow g (xs.flatMap f).toArray, ?_, setRow_heap w g _ _ te _ hg, ⟨rfl, rfl, rfl, by simp [World.setRow], fun k _ hk => setRow_other w g k _ hk⟩⟩
  have hmin : Nat.min m n = n := Nat.min_eq_right hm
  have hd : cur.drop (xs.flatMap f).length = [] := List.drop_of_length_le (by rw [hlen, hcur]; exact Nat.le_refl _)
  simp [Builtin.copy_, run_underlying E.slice, Builtin.lenOf, Builtin.firstCells, sizeOf, typeInfo, hi, hsz, hmin, hl, goInt]
  simp at hst
  rw [hst]
  simp [hlen, hcur]
  rw [← List.length_flatMap, hd, List.append_nil]
end
theorem wpList_make_eq {P : Program} {w : World} {ops : Array Oper} {rest : List Oper} {o : Oper} {a : Act} {Q : Exit → Act → World → Prop} (hgd : o.guard = none) (x y : Operand) (t : TypeId) (ho : o.op = .makeSlice t x y) (v u : Value) (hx : a.eval x = v) (hy : a.eval y = u)
    (v' : Value) (w' : World) (hrun : (Instr.makeSlice t v u).run P w = .ok v' w') (h : wpList P ops Q rest (a.put o.dst v') w') : wpList P ops Q (o :: rest) a w := by
  refine wpList_plain hgd fun K hK => ?_
  unfold Oper.wp
  simp [execOp, ho, hx, hy, hrun, Result.andThen]
  exact hK _ _ h
theorem wpList_copy_eq {P : Program} {w : World} {ops : Array Oper} {rest : List Oper} {o : Oper} {a : Act} {Q : Exit → Act → World → Prop} (hgd : o.guard = none) (x y : Operand) (t : TypeId)
    (ho : o.op = .call { callee := .builtin .copy, args := #[x, y], argTypes := #[t, t] }) (v u : Value) (hx : a.eval x = v) (hy : a.eval y = u)
    (v' : Value) (w' : World) (hrun : (Builtin.copy_ #[t, t] o.type #[v, u]).run P w = .ok v' w') (h : wpList P ops Q rest (a.put o.dst v') w') : wpList P ops Q (o :: rest) a w := by
  refine wpList_plain hgd fun K hK => ?_
  unfold Oper.wp execOp
  simp only [ho, resolve, invoke, builtin, Sem.run_bind, Sem.run_pure, Result.andThen_ok, List.map_toArray, List.map_cons, List.map_nil, hx, hy, hrun]
  exact hK _ _ h

theorem bd_at {w : World} {base : Nat} {v : Value} {l : List BD} (h : Own blkC 5 100 w base v l) {k : Nat} (hk : k < l.length) :
    ∃ g c, v = .slice (some ⟨g, 0, none⟩) l.length c ∧ g < w.heap.size ∧ base ≤ g ∧ ∀ j u, (blkC l[k])[j]? = some u → w.cell? ⟨g, k * 5 + j, none⟩ = some u := by
  obtain ⟨g, c, rfl, hg, hbase, _⟩ := own_at h (by omega)
  obtain ⟨b, off, e, hb, hc⟩ := (Own.seg h).elem 5 (fun _ => rfl) (by omega) hk
  cases e
  exact ⟨g, c, rfl, hg, hbase, fun j u hu => by have := hc j u hu; simpa using this⟩

theorem CP.row_new {F F1 : Nat → Prop} {w W : World} {b bst : Nat} {s : Stk} {vb vb' : Value} {bds bds' : List BD} {rd : LD} {live live' : Bool} {broken broken' : Int} (h : CP F F1 w b bst s vb bds rd live broken) (hE : Ext (fun k => k = b) w W)
    (hb : Blk W b 83 [.pointer (some ⟨bst, 0, none⟩), vb', rd.v, .bool live', .int .i64 broken']) (ho : Own blkC 5 100 W w.heap.size vb' bds') (hl : ∀ x ∈ bds', x.p.Kt F w ∧ x.r.Kt F w) :
    ∃ F', CP F' F1 W b bst s vb' bds' rd live' broken' ∧ Ext F w W ∧ ∀ k, F' k → F k ∨ w.heap.size ≤ k := by
  have hE2 : Ext F w W := hE.mono fun k _ hk => hk ▸ h.fb
  have hF' : ∀ k, (F k ∨ vb'.ownBlock = some k) → F k ∨ w.heap.size ≤ k := fun k hk => hk.imp id (fun h1 => (ho.lt k h1).1)
  refine ⟨fun k => F k ∨ vb'.ownBlock = some k, ⟨?_, hb, ho.mono (Nat.zero_le _), fun x hx => ⟨(hl x hx).1.ext hE2 hF', (hl x hx).2.ext hE2 hF'⟩, h.res.ext hE2 hF', .inl h.fb, h.nb, fun k hk => .inl (h.sub k hk), fun k hk => ⟨.inr hk, fun h1 => ?_⟩, ?_⟩, hE2, hF'⟩
  · exact h.st.of_keep (fun k hk => hE.block k (h.st.lt k hk) (fun e => h.nb (e ▸ hk))) hE.size
  · have := h.st.lt k h1; have := (ho.lt k hk).1; omega
  · rintro k (hk | hk)
    · exact Nat.lt_of_lt_of_le (h.lt k hk) hE2.size
    · exact (ho.lt k hk).2

theorem Own.of_blk {α : Type} {f : α → List Value} {s : Nat} {e : TypeId} {w : World} {g base : Nat} {xs : List α} (h : Blk w g e (xs.flatMap f)) (hf : ∀ x, (f x).length = s) (hb : base ≤ g) (hm : xs.length ≤ maxLen) : Own f s e w base (.slice (some ⟨g, 0, none⟩) xs.length xs.length) xs := by
  have hl := flat_length f s hf xs
  refine ⟨hl, .inr ⟨g, xs.length, _, rfl, hb, h, Nat.le_refl _, hm, by simpa using hl, ?_⟩⟩
  simp
  exact List.take_of_length_le (by omega)

set_option maxHeartbeats 1000000 in
set_option maxRecDepth 100000 in
theorem cpop_calls {F F1 : Nat → Prop} {w : World} {b bst : Nat} {s : Stk} {vb : Value} {bds : List BD} {x : BD} {rd : LD} {live : Bool} {broken : Int} (h : CP F F1 w b bst s vb (bds ++ [x]) rd live broken) (hn : bds.length ≤ 900000) :
    Calls Try.prog 62 #[.pointer (some ⟨b, 0, none⟩)] w fun e w' =>
      e = .returned (.agg #[.int .i64 x.kind, .slice x.p.a x.p.l.length x.p.c, .slice x.r.a x.r.l.length x.r.c, .bool x.other, .bool x.live]) ∧ ∃ F' vb', CP F' F1 w' b bst s vb' bds rd live broken ∧ Ext F w w' ∧ ∀ k, F' k → F k ∨ w.heap.size ≤ k := by
  obtain ⟨g, c, rfl, hg, _, hcell⟩ := bd_at h.own (k := bds.length) (by simp)
  rw [show (bds ++ [x])[bds.length]'(by simp) = x by simp] at hcell
  have hseg := (Own.seg h.own)
  obtain ⟨N, hN⟩ : ∃ N, N = (bds ++ [x]).length := ⟨_, rfl⟩
  have hNl : N = bds.length + 1 := by rw [hN]; simp
  obtain ⟨wa, hwa⟩ : ∃ wa : World, wa = (w.alloc (.cells #[.int .i64 0, .slice none 0 0, .slice none 0 0, .bool false, .bool false] 100)).alloc (.cells (blkC x).toArray 100) := ⟨_, rfl⟩
  have hka : Keep w wa := by rw [hwa]; exact ((Keep.refl _).alloc _).alloc _
  have hza : wa.heap.size = w.heap.size + 1 + 1 := by rw [hwa]; simp
  have bz : Blk wa w.heap.size 100 [.int .i64 0, .slice none 0 0, .slice none 0 0, .bool false, .bool false] := by rw [hwa]; exact (Blk.new w _ _).keep ((Keep.refl _).alloc _)
  have bx : Blk wa (w.heap.size + 1) 100 (blkC x) := by
    rw [hwa]
    have := Blk.new (w.alloc (.cells #[.int .i64 0, .slice none 0 0, .slice none 0 0, .bool false, .bool false] 100)) 100 (blkC x)
    simpa using this
  obtain ⟨w2, cur, hrun2, bg2, hcl, hk2⟩ := make_run elB wa bds.length (by omega) (by unfold maxLen; omega)
  have hsg2 : Seg w2 (some ⟨g, 0, none⟩) (bds.flatMap blkC) := by
    have h1 := ((hseg.keep hka).keep hk2).take (bds.length * 5)
    rw [flat_take blkC 5 (fun _ => rfl)] at h1
    simpa using h1
  obtain ⟨w3, hrun3, bg3, hE3⟩ := copy_run elB w2 wa.heap.size bds.length bds.length ⟨g, 0, none⟩ N c cur bds bg2 (by omega) rfl hsg2 hcl 3
  have hk3 : Keep wa w3 := ⟨hE3.os.trans hk2.os, hE3.tape.trans hk2.tape, hE3.output.trans hk2.output, Nat.le_trans hk2.size hE3.size, fun k hk => (hE3.block k (Nat.lt_of_lt_of_le hk hk2.size) (by omega)).trans (hk2.block k hk)⟩
  have hb2 := (h.blk.keep hka).keep hk2
  have hb3 := (h.blk.keep hka).keep hk3
  have bz3 := bz.keep hk3
  have bx3 := bx.keep hk3
  have hbl := h.blk.lt
  have hfin : ∀ W : World, W = ((((((w3.setCell ⟨b, 1, none⟩ (.slice (some ⟨wa.heap.size, 0, none⟩) bds.length bds.length)).setCell ⟨w.heap.size, 0, none⟩ (.int .i64 x.kind)).setCell ⟨w.heap.size, 1, none⟩ (.slice x.p.a x.p.l.length x.p.c)).setCell ⟨w.heap.size, 2, none⟩ (.slice x.r.a x.r.l.length x.r.c)).setCell ⟨w.heap.size, 3, none⟩ (.bool x.other)).setCell ⟨w.heap.size, 4, none⟩ (.bool x.live)) →
      ∃ F' vb', CP F' F1 W b bst s vb' bds rd live broken ∧ Ext F w W ∧ ∀ k, F' k → F k ∨ w.heap.size ≤ k := by
    intro W hW
    have hEW : Ext (fun k => k = b) w W := by
      rw [hW]
      have h1 := (((hka.trans hk3).ext (fun k => k = b)).setCell (p := ⟨b, 1, none⟩) (fun _ => rfl) (.slice (some ⟨wa.heap.size, 0, none⟩) bds.length bds.length))
      exact ((((h1.setCell (p := ⟨w.heap.size, 0, none⟩) (fun h => absurd h (Nat.lt_irrefl _)) _).setCell (p := ⟨w.heap.size, 1, none⟩) (fun h => absurd h (Nat.lt_irrefl _)) _).setCell (p := ⟨w.heap.size, 2, none⟩) (fun h => absurd h (Nat.lt_irrefl _)) _).setCell (p := ⟨w.heap.size, 3, none⟩) (fun h => absurd h (Nat.lt_irrefl _)) _).setCell (p := ⟨w.heap.size, 4, none⟩) (fun h => absurd h (Nat.lt_irrefl _)) _
    have hne : b ≠ w.heap.size := by omega
    have hbW : Blk W b 83 [.pointer (some ⟨bst, 0, none⟩), .slice (some ⟨wa.heap.size, 0, none⟩) bds.length bds.length, rd.v, .bool live, .int .i64 broken] := by
      rw [hW]
      exact (((((hb3.set_ 1 _).far (p := ⟨w.heap.size, 0, none⟩) hne _).far (p := ⟨w.heap.size, 1, none⟩) hne _).far (p := ⟨w.heap.size, 2, none⟩) hne _).far (p := ⟨w.heap.size, 3, none⟩) hne _).far (p := ⟨w.heap.size, 4, none⟩) hne _
    have hn2 : wa.heap.size ≠ w.heap.size := by omega
    have hn3 : wa.heap.size ≠ b := by omega
    have hgW : Blk W wa.heap.size 100 (bds.flatMap blkC) := by
      rw [hW]
      exact (((((bg3.far (p := ⟨b, 1, none⟩) hn3 _).far (p := ⟨w.heap.size, 0, none⟩) hn2 _).far (p := ⟨w.heap.size, 1, none⟩) hn2 _).far (p := ⟨w.heap.size, 2, none⟩) hn2 _).far (p := ⟨w.heap.size, 3, none⟩) hn2 _).far (p := ⟨w.heap.size, 4, none⟩) hn2 _
    obtain ⟨F', h1, h2, h3⟩ := h.row_new hEW hbW (Own.of_blk hgW (fun _ => rfl) (by omega) (by unfold maxLen; omega)) (fun y hy => h.ls y (List.mem_append.2 (.inl hy)))
    exact ⟨F', _, h1, h2, h3⟩
  have Hfin := Lib.hid hfin
  have c1 : w.cell? ⟨b, 1, none⟩ = some (.slice (some ⟨g, 0, none⟩) N c) := by rw [hN]; exact h.blk.cell 1
  have d1 : w2.cell? ⟨b, 1, none⟩ = some (.slice (some ⟨g, 0, none⟩) N c) := by rw [hN]; exact hb2.cell 1
  have e1 : w3.cell? ⟨b, 1, none⟩ = some (.slice (some ⟨g, 0, none⟩) N c) := by rw [hN]; exact hb3.cell 1
  have e1f := hb3.frozen 1
  have l2 := hb2.lt
  have l3 := hb3.lt
  have q0 : w.cell? ⟨g, bds.length * 5, none⟩ = some (.int .i64 x.kind) := hcell 0 _ rfl
  have q1 : w.cell? ⟨g, bds.length * 5 + 1, none⟩ = some (.slice x.p.a x.p.l.length x.p.c) := hcell 1 _ rfl
  have q2 : w.cell? ⟨g, bds.length * 5 + 2, none⟩ = some (.slice x.r.a x.r.l.length x.r.c) := hcell 2 _ rfl
  have q3 : w.cell? ⟨g, bds.length * 5 + 3, none⟩ = some (.bool x.other) := hcell 3 _ rfl
  have q4 : w.cell? ⟨g, bds.length * 5 + 4, none⟩ = some (.bool x.live) := hcell 4 _ rfl
  have x0 : w3.cell? ⟨w.heap.size + 1, 0, none⟩ = some (.int .i64 x.kind) := bx3.cell 0
  have x1 : w3.cell? ⟨w.heap.size + 1, 1, none⟩ = some (.slice x.p.a x.p.l.length x.p.c) := bx3.cell 1
  have x2 : w3.cell? ⟨w.heap.size + 1, 2, none⟩ = some (.slice x.r.a x.r.l.length x.r.c) := bx3.cell 2
  have x3 : w3.cell? ⟨w.heap.size + 1, 3, none⟩ = some (.bool x.other) := bx3.cell 3
  have x4 : w3.cell? ⟨w.heap.size + 1, 4, none⟩ = some (.bool x.live) := bx3.cell 4
  have lx := bx3.lt
  have z0 : w3.cell? ⟨w.heap.size, 0, none⟩ = some (.int .i64 0) := bz3.cell 0
  have z1 : w3.cell? ⟨w.heap.size, 1, none⟩ = some (.slice none 0 0) := bz3.cell 1
  have z2 : w3.cell? ⟨w.heap.size, 2, none⟩ = some (.slice none 0 0) := bz3.cell 2
  have z3 : w3.cell? ⟨w.heap.size, 3, none⟩ = some (.bool false) := bz3.cell 3
  have z4 : w3.cell? ⟨w.heap.size, 4, none⟩ = some (.bool false) := bz3.cell 4
  have fz := bz3.frozen
  have lz := bz3.lt
  have hi1 : (N : Int) - 1 = (bds.length : Int) := by omega
  have hw : IntKind.i64.wrap ((N : Int) - 1) = (bds.length : Int) := by rw [hi1]; exact IntWalk.i64_in _ (by omega)
  have hm0 : (0 : Int) ≤ (bds.length : Int) := by omega
  have hm1 : (bds.length : Int) < (N : Int) := by omega
  have hbg : ¬ b = w.heap.size := by omega
  have hbg1 : ¬ b = w.heap.size + 1 := by omega
  have hrun2' : (Instr.makeSlice 81 (.int .i64 (bds.length : Int)) (.int .i64 (bds.length : Int))).run Try.prog ((w.alloc (.cells #[.int .i64 0, .slice none 0 0, .slice none 0 0, .bool false, .bool false] 100)).alloc (.cells #[.int .i64 x.kind, .slice x.p.a x.p.l.length x.p.c, .slice x.r.a x.r.l.length x.r.c, .bool x.other, .bool x.live] 100)) = .ok (.slice (some ⟨wa.heap.size, 0, none⟩) bds.length bds.length) w2 := by
    have e := hrun2
    rw [hwa] at e ⊢
    exact e
  clear hfin h hseg hN hNl hwa hrun2 hcell bz bx bg2 bg3 hE3 hsg2 hb2 hb3 bz3 bx3 hi1 hza hka hk2 hk3 hcl
  go_enter Try.func62, Try.ntmps62
  go_wp2_with (first | (refine wpList_make_eq rfl (.tmp 19) (.tmp 19) _ rfl _ _ rfl rfl _ _ hrun2' ?_; clear hrun2') | (refine wpList_copy_eq rfl (.tmp 21) (.tmp 25) _ rfl _ _ rfl rfl _ _ hrun3 ?_; clear hrun3))
  refine bodyPost_ret (v := .agg #[.int .i64 x.kind, .slice x.p.a x.p.l.length x.p.c, .slice x.r.a x.r.l.length x.r.c, .bool x.other, .bool x.live]) (by simp [results, Try.results62, go_sem, z0, z1, z2, z3, z4]) rfl ⟨rfl, Hfin.out _ rfl⟩
end Go.Proofs.Ytkeefajfndmpeaa
