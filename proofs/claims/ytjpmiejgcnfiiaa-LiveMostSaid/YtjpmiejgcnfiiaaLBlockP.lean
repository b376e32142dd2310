/-
  The ranges within a block, as the program finds them: its rows of beginnings and ends.
-/
import Derived.Test.YtjpmiejgcnfiiaaLAdd
set_option linter.unusedVariables false
set_option linter.unusedSimpArgs false
namespace Go.Proofs.Ytjpmiejgcnfiiaa
open Go Go.RowKit

/-- The rows from, to and made, in memory; all else is as it was in w4. -/
structure BM (w4 wr : World) (bf bt bm nv : Nat) (fr tl : List Int) (ml : List Bool) : Prop where
  f : IBlk wr bf 3 fr
  t : IBlk wr bt 3 tl
  m : BBlk wr bm 4 ml
  fl : fr.length = nv
  tl_ : tl.length = nv
  ml_ : ml.length = nv
  ext : Ext (fun k => k = bf ∨ k = bt ∨ k = bm) w4 wr
  ft : bf ≠ bt
/-- What they hold, value by value. -/
structure ST (w4 wr : World) (bf bt bm nv : Nat) (G : Nat → Int × Int) (M : Nat → Bool) : Prop where
  ex : ∃ fr tl ml, BM w4 wr bf bt bm nv fr tl ml ∧ (∀ v, v < nv → (fr.getD v 0, tl.getD v 0) = G v) ∧ ∀ v, v < nv → ml.getD v false = M v
theorem getD_set_int (s : List Int) (v i : Nat) (b : Int) (hv : v < s.length) : (s.set v b).getD i 0 = if i = v then b else s.getD i 0 := by
  rw [List.getD_eq_getElem?_getD, List.getD_eq_getElem?_getD, List.getElem?_set]
  by_cases e : v = i
  · subst e; simp [hv]
  · rw [if_neg e, if_neg (fun h => e h.symm)]
section
variable {w4 wr : World} {bf bt bm nv : Nat} {G G' : Nat → Int × Int} {M M' : Nat → Bool}
theorem ST.setF (h : ST w4 wr bf bt bm nv G M) {u : Nat} (hu : u < nv) (X : Int) (hG : ∀ v, v < nv → G' v = if v = u then (X, (G v).2) else G v) : ST w4 (wr.setCell ⟨bf, u, none⟩ (.int .i64 X)) bf bt bm nv G' M := by
  obtain ⟨fr, tl, ml, h1, h2, h3⟩ := h.ex
  have hfm : bf ≠ bm := h1.f.ne h1.m (by decide)
  refine ⟨fr.set u X, tl, ml, ⟨h1.f.put u X, h1.t.far (p := ⟨bf, u, none⟩) (fun e => h1.ft e.symm) _, h1.m.far (p := ⟨bf, u, none⟩) (fun e => hfm e.symm) _, by simp [h1.fl], h1.tl_, h1.ml_, h1.ext.setCell (p := ⟨bf, u, none⟩) (fun _ => .inl rfl) _, h1.ft⟩, fun v hv => ?_, h3⟩
  rw [getD_set_int fr u v X (by rw [h1.fl]; exact hu), hG v hv]
  have := h2 v hv
  split
  · rw [← this]
  · exact this
theorem ST.setT (h : ST w4 wr bf bt bm nv G M) {u : Nat} (hu : u < nv) (Y : Int) (hG : ∀ v, v < nv → G' v = if v = u then ((G v).1, Y) else G v) : ST w4 (wr.setCell ⟨bt, u, none⟩ (.int .i64 Y)) bf bt bm nv G' M := by
  obtain ⟨fr, tl, ml, h1, h2, h3⟩ := h.ex
  have htm : bt ≠ bm := h1.t.ne h1.m (by decide)
  refine ⟨fr, tl.set u Y, ml, ⟨h1.f.far (p := ⟨bt, u, none⟩) h1.ft _, h1.t.put u Y, h1.m.far (p := ⟨bt, u, none⟩) (fun e => htm e.symm) _, h1.fl, by simp [h1.tl_], h1.ml_, h1.ext.setCell (p := ⟨bt, u, none⟩) (fun _ => .inr (.inl rfl)) _, h1.ft⟩, fun v hv => ?_, h3⟩
  rw [getD_set_int tl u v Y (by rw [h1.tl_]; exact hu), hG v hv]
  have := h2 v hv
  split
  · rw [← this]
  · exact this
theorem ST.setM (h : ST w4 wr bf bt bm nv G M) {u : Nat} (hu : u < nv) (hM : ∀ v, v < nv → M' v = if v = u then true else M v) : ST w4 (wr.setCell ⟨bm, u, none⟩ (.bool true)) bf bt bm nv G M' := by
  obtain ⟨fr, tl, ml, h1, h2, h3⟩ := h.ex
  have hfm : bf ≠ bm := h1.f.ne h1.m (by decide)
  have htm : bt ≠ bm := h1.t.ne h1.m (by decide)
  refine ⟨fr, tl, ml.set u true, ⟨h1.f.far (p := ⟨bm, u, none⟩) hfm _, h1.t.far (p := ⟨bm, u, none⟩) htm _, h1.m.put u true, h1.fl, h1.tl_, by simp [h1.ml_], h1.ext.setCell (p := ⟨bm, u, none⟩) (fun _ => .inr (.inr rfl)) _, h1.ft⟩, h2, fun v hv => ?_⟩
  rw [Lv.getD_set_bool ml u v true (by rw [h1.ml_]; exact hu), hM v hv, h3 v hv]
theorem ST.congr (h : ST w4 wr bf bt bm nv G M) (hG : ∀ v, v < nv → G' v = G v) (hM : ∀ v, v < nv → M' v = M v) : ST w4 wr bf bt bm nv G' M' := by
  obtain ⟨fr, tl, ml, h1, h2, h3⟩ := h.ex
  exact ⟨fr, tl, ml, h1, fun v hv => by rw [hG v hv]; exact h2 v hv, fun v hv => by rw [hM v hv]; exact h3 v hv⟩
theorem ST.ext (h : ST w4 wr bf bt bm nv G M) : Ext (fun k => k = bf ∨ k = bt ∨ k = bm) w4 wr := by
  obtain ⟨fr, tl, ml, h1, _⟩ := h.ex
  exact h1.ext
theorem ST.at_ (h : ST w4 wr bf bt bm nv G M) {u : Nat} (hu : u < nv) : ∃ z, wr.cell? ⟨bf, u, none⟩ = some (.int .i64 (G u).1) ∧ wr.cell? ⟨bt, u, none⟩ = some (.int .i64 (G u).2) ∧ wr.cell? ⟨bm, u, none⟩ = some (.bool z) ∧
    wr.frozen? ⟨bf, u, none⟩ = false ∧ wr.frozen? ⟨bt, u, none⟩ = false ∧ wr.frozen? ⟨bm, u, none⟩ = false ∧ bf < wr.heap.size ∧ bt < wr.heap.size ∧ bm < wr.heap.size := by
  obtain ⟨fr, tl, ml, h1, h2, h3⟩ := h.ex
  have e := h2 u hu
  have c1 := h1.f.get (k := u) (by rw [h1.fl]; exact hu)
  have c2 := h1.t.get (k := u) (by rw [h1.tl_]; exact hu)
  have c3 := h1.m.get (k := u) (by rw [h1.ml_]; exact hu)
  rw [List.getD_eq_getElem?_getD, List.getD_eq_getElem?_getD, List.getElem?_eq_getElem (by rw [h1.fl]; exact hu), List.getElem?_eq_getElem (by rw [h1.tl_]; exact hu)] at e
  refine ⟨_, by rw [← e]; exact c1, by rw [← e]; exact c2, c3, h1.f.frozen u, h1.t.frozen u, h1.m.frozen u, h1.f.lt, h1.t.lt, h1.m.lt⟩
theorem ST.lts (h : ST w4 wr bf bt bm nv G M) : bf < wr.heap.size ∧ bt < wr.heap.size ∧ bm < wr.heap.size := by
  obtain ⟨fr, tl, ml, h1, h2, h3⟩ := h.ex
  exact ⟨h1.f.lt, h1.t.lt, h1.m.lt⟩
/-- New blocks are made behind it. -/
theorem ST.keep {w' : World} (h : ST w4 wr bf bt bm nv G M) (hk : Keep wr w') : ST w4 w' bf bt bm nv G M := by
  obtain ⟨fr, tl, ml, h1, h2, h3⟩ := h.ex
  exact ⟨fr, tl, ml, ⟨h1.f.keep hk, h1.t.keep hk, h1.m.keep hk, h1.fl, h1.tl_, h1.ml_, h1.ext.keepTrans hk, h1.ft⟩, h2, h3⟩
theorem ST.cell (h : ST w4 wr bf bt bm nv G M) {p : Addr} {v : Value} (hc : w4.cell? p = some v) (h1 : p.block ≠ bf) (h2 : p.block ≠ bt) (h3 : p.block ≠ bm) : wr.cell? p = some v :=
  (World.cell?_of_block (h.ext.block p.block (World.block_lt_of_cell? _ _ hc) (fun e => e.elim h1 (fun e => e.elim h2 h3)))).trans hc
end
/-- A number of a row, and the row's cell. -/
theorem at_row {w wr : World} {A : Option Addr} {l : List Int} {nv k : Nat} {T : Nat → Prop} (hb : ∀ v ∈ l, 0 ≤ v ∧ v < (nv : Int)) (hs : Seg w A (l.flatMap intC)) (hk : k < l.length) (hE : Ext T w wr) (hA : ∀ ad, A = some ad → l ≠ [] → ¬ T ad.block) :
    ∃ (u b off : Nat), l[k]? = some (u : Int) ∧ u < nv ∧ A = some ⟨b, off, none⟩ ∧ wr.cell? ⟨b, off + k, none⟩ = some (.int .i64 (u : Int)) ∧ ¬ T b := by
  obtain ⟨u, hu, hun⟩ := int_in hb hk
  obtain ⟨b, off, e, hbl, hc⟩ := int_at hs (Keep.refl _) hk
  have h1 := Option.some.inj ((List.getElem?_eq_getElem hk).symm.trans hu)
  rw [h1] at hc
  have hne := hA _ e (fun e => by rw [e] at hk; simp at hk)
  exact ⟨u, b, off, hu, hun, e, (World.cell?_of_block (hE.block b hbl hne)).trans hc, hne⟩
theorem mem_take {l : List Int} {k u v : Nat} (h : l[k]? = some (u : Int)) : v ∈ nat (l.take (k + 1)) ↔ v = u ∨ v ∈ nat (l.take k) := by
  unfold nat
  rw [List.take_add_one, h, List.map_append, List.mem_append]
  constructor
  · rintro (h1 | h1)
    · exact .inr h1
    · left; simpa using h1
  · rintro (h1 | h1)
    · exact .inr (by simpa using h1)
    · exact .inl h1

/-! ### The stages, for each value -/

section
variable (y : BkD) (n : Nat) (at_ : Int) (bg : Nat → Bool) (m0 : Nat → Bool)
def g0 (k v : Nat) : Int × Int := (if v < k then (if bg v then at_ else -1) else 0, 0)
def g1 (k v : Nat) : Int × Int := if v ∈ nat (y.params.l.take k) then (at_, at_ + 1) else (if bg v then at_ else -1, 0)
def g2 (i v : Nat) : Int × Int := ((y.p n).ins.zipIdx.take i).foldl (Lv.insV v at_) (Lv.startV (y.p n) v at_ (bg v))
def g3 (x : InD) (i j v : Nat) : Int × Int := if v ∈ nat (x.args.l.take j) then ((g2 y n at_ bg i v).1, at_ + 2 * ((i : Int) + 1) + 1) else g2 y n at_ bg i v
def g4 (x : InD) (i j v : Nat) : Int × Int := if v ∈ nat (x.outs.l.take j) then (at_ + 2 * ((i : Int) + 1) + 1, at_ + 2 * ((i : Int) + 1) + 2) else g3 y n at_ bg x i x.args.l.length v
def g5 (k v : Nat) : Int × Int := if v ∈ nat (y.endsI.take k) then ((g2 y n at_ bg y.ins.l.length v).1, Lv.closeV (y.p n) at_ - 1) else g2 y n at_ bg y.ins.l.length v
def g6 (bh : Nat → Bool) (v : Nat) : Int × Int := Lv.blkV (y.p n) v at_ (bg v) (bh v)
def m1 (k v : Nat) : Bool := m0 v || decide (v ∈ nat (y.params.l.take k))
def m2 (i v : Nat) : Bool := m0 v || decide (v ∈ nat y.params.l) || (y.ins.l.take i).any fun x => decide (v ∈ nat x.outs.l)
def m4 (x : InD) (i j v : Nat) : Bool := m2 y m0 i v || decide (v ∈ nat (x.outs.l.take j))
end
section
variable {y : BkD} {n : Nat} {at_ : Int} {bg : Nat → Bool} {m0 : Nat → Bool} {x : InD} {i j k u v : Nat}
theorem g0_succ (hk : k = u) : g0 at_ bg (k + 1) v = if v = u then (if bg u then at_ else -1, (g0 at_ bg k v).2) else g0 at_ bg k v := by
  subst hk
  unfold g0
  by_cases e : v = k
  · subst e; simp
  · rw [if_neg e]
    by_cases h : v < k
    · rw [if_pos h, if_pos (by omega)]
    · rw [if_neg h, if_neg (by omega)]
theorem g1_start {nv : Nat} (hv : v < nv) : g1 y at_ bg 0 v = g0 at_ bg nv v := by unfold g1 g0; simp [nat, hv]
theorem g1_succ (h : y.params.l[k]? = some (u : Int)) : g1 y at_ bg (k + 1) v = if v = u then (at_, at_ + 1) else g1 y at_ bg k v := by
  unfold g1
  by_cases e : v = u
  · rw [if_pos e, if_pos ((mem_take h).2 (.inl e))]
  · rw [if_neg e]
    by_cases g : v ∈ nat (y.params.l.take k)
    · rw [if_pos g, if_pos ((mem_take h).2 (.inr g))]
    · rw [if_neg g, if_neg (fun h' => ((mem_take h).1 h').elim e g)]
theorem m1_succ (h : y.params.l[k]? = some (u : Int)) : m1 y m0 (k + 1) v = if v = u then true else m1 y m0 k v := by
  unfold m1
  by_cases e : v = u
  · rw [if_pos e, decide_eq_true ((mem_take h).2 (.inl e)), Bool.or_true]
  · rw [if_neg e]
    congr 1
    rw [decide_eq_decide, mem_take h]
    exact ⟨fun h => h.resolve_left e, .inr⟩
theorem g2_start (hk : y.params.l.length ≤ k) : g2 y n at_ bg 0 v = g1 y at_ bg k v := by
  unfold g2 g1 Lv.startV
  rw [List.take_zero, List.take_of_length_le hk]; rfl
theorem m2_start (hk : y.params.l.length ≤ k) : m2 y m0 0 v = m1 y m0 k v := by
  unfold m2 m1
  rw [List.take_of_length_le hk]; simp
theorem g3_start : g3 y n at_ bg x i 0 v = g2 y n at_ bg i v := by unfold g3; simp [nat]
theorem g3_succ (h : x.args.l[j]? = some (u : Int)) : g3 y n at_ bg x i (j + 1) v = if v = u then ((g3 y n at_ bg x i j v).1, at_ + 2 * ((i : Int) + 1) + 1) else g3 y n at_ bg x i j v := by
  have e1 : (g3 y n at_ bg x i j v).1 = (g2 y n at_ bg i v).1 := by unfold g3; split <;> rfl
  rw [e1]
  unfold g3
  by_cases e : v = u
  · rw [if_pos e, if_pos ((mem_take h).2 (.inl e))]
  · rw [if_neg e]
    by_cases g : v ∈ nat (x.args.l.take j)
    · rw [if_pos g, if_pos ((mem_take h).2 (.inr g))]
    · rw [if_neg g, if_neg (fun h' => ((mem_take h).1 h').elim e g)]
theorem g4_start : g4 y n at_ bg x i 0 v = g3 y n at_ bg x i x.args.l.length v := by unfold g4; simp [nat]
theorem g4_succ (h : x.outs.l[j]? = some (u : Int)) : g4 y n at_ bg x i (j + 1) v = if v = u then (at_ + 2 * ((i : Int) + 1) + 1, at_ + 2 * ((i : Int) + 1) + 2) else g4 y n at_ bg x i j v := by
  unfold g4
  by_cases e : v = u
  · rw [if_pos e, if_pos ((mem_take h).2 (.inl e))]
  · rw [if_neg e]
    by_cases g : v ∈ nat (x.outs.l.take j)
    · rw [if_pos g, if_pos ((mem_take h).2 (.inr g))]
    · rw [if_neg g, if_neg (fun h' => ((mem_take h).1 h').elim e g)]
theorem m4_start : m4 y m0 x i 0 v = m2 y m0 i v := by unfold m4; simp [nat]
theorem m4_succ (h : x.outs.l[j]? = some (u : Int)) : m4 y m0 x i (j + 1) v = if v = u then true else m4 y m0 x i j v := by
  unfold m4
  by_cases e : v = u
  · rw [if_pos e, decide_eq_true ((mem_take h).2 (.inl e)), Bool.or_true]
  · rw [if_neg e]
    congr 1
    rw [decide_eq_decide, mem_take h]
    exact ⟨fun h => h.resolve_left e, .inr⟩
theorem g2_succ (h : y.ins.l[i]? = some x) : g2 y n at_ bg (i + 1) v = g4 y n at_ bg x i x.outs.l.length v := by
  have hz : (y.p n).ins.zipIdx[i]? = some (x.p, i) := by
    rw [List.getElem?_zipIdx]
    show Option.map _ (y.ins.l.map InD.p)[i]? = _
    rw [List.getElem?_map, h]; simp
  have e : g2 y n at_ bg (i + 1) v = Lv.insV v at_ (g2 y n at_ bg i v) (x.p, i) := by
    unfold g2
    rw [List.take_add_one, hz]
    show List.foldl _ _ (_ ++ [_]) = _
    rw [List.foldl_append]; rfl
  rw [e]
  unfold g4 g3 Lv.insV
  rw [List.take_length, List.take_length]
  rfl
theorem m2_succ (h : y.ins.l[i]? = some x) : m2 y m0 (i + 1) v = m4 y m0 x i x.outs.l.length v := by
  unfold m4 m2
  rw [List.take_add_one, h, List.take_length, List.any_append]
  simp [Bool.or_assoc]
theorem g5_start : g5 y n at_ bg 0 v = g2 y n at_ bg y.ins.l.length v := by unfold g5; simp [nat]
theorem g5_succ (h : y.endsI[k]? = some (u : Int)) : g5 y n at_ bg (k + 1) v = if v = u then ((g5 y n at_ bg k v).1, Lv.closeV (y.p n) at_ - 1) else g5 y n at_ bg k v := by
  have e1 : (g5 y n at_ bg k v).1 = (g2 y n at_ bg y.ins.l.length v).1 := by unfold g5; split <;> rfl
  rw [e1]
  unfold g5
  by_cases e : v = u
  · rw [if_pos e, if_pos ((mem_take h).2 (.inl e))]
  · rw [if_neg e]
    by_cases g : v ∈ nat (y.endsI.take k)
    · rw [if_pos g, if_pos ((mem_take h).2 (.inr g))]
    · rw [if_neg g, if_neg (fun h' => ((mem_take h).1 h').elim e g)]
theorem g6_eq (bh : Nat → Bool) (hk : y.endsI.length ≤ k) : g6 y n at_ bg bh v = if bh v then ((g5 y n at_ bg k v).1, Lv.closeV (y.p n) at_) else g5 y n at_ bg k v := by
  have e2 : g2 y n at_ bg y.ins.l.length v = (y.p n).ins.zipIdx.foldl (Lv.insV v at_) (Lv.startV (y.p n) v at_ (bg v)) := by
    unfold g2
    rw [List.take_of_length_le (by simp [BkD.p])]
  unfold g6 Lv.blkV g5
  rw [List.take_of_length_le hk, e2]
  rfl
theorem m2_end (y : BkD) (n : Nat) (m0 : Nat → Bool) (v : Nat) : m2 y m0 y.ins.l.length v = true ↔ m0 v = true ∨ (y.p n).makes v := by
  unfold m2 Lv.PBlk.makes
  rw [List.take_length, Bool.or_eq_true, Bool.or_eq_true, decide_eq_true_eq, List.any_eq_true, or_assoc]
  constructor
  · rintro (h | h | ⟨x, hx, h⟩)
    · exact .inl h
    · exact .inr (.inl h)
    · exact .inr (.inr ⟨x.p, List.mem_map.2 ⟨x, hx, rfl⟩, of_decide_eq_true h⟩)
  · rintro (h | h | ⟨x, hx, h⟩)
    · exact .inl h
    · exact .inr (.inl h)
    · obtain ⟨z, hz, rfl⟩ := List.mem_map.1 (show x ∈ y.ins.l.map InD.p from hx)
      exact .inr (.inr ⟨z, hz, decide_eq_true h⟩)
end
/-- The rows of ranges when the first k values have been looked at. -/
def addK (y : BkD) (n : Nat) (at_ : Int) (bg bh : Nat → Bool) (L : List (List Lv.Rng)) (k : Nat) : List (List Lv.Rng) :=
  (List.range L.length).map fun v => if v < k then (match Lv.rangeP (y.p n) v at_ (bg v) (bh v) with | some r => Lv.joinR (L.getD v []) r | none => L.getD v []) else L.getD v []
section
variable {y : BkD} {n : Nat} {at_ : Int} {bg bh : Nat → Bool} {L : List (List Lv.Rng)} {k : Nat}
theorem addK_len : (addK y n at_ bg bh L k).length = L.length := by simp [addK]
theorem addK_get {v : Nat} (hv : v < L.length) : (addK y n at_ bg bh L k)[v]? = some (if v < k then (match Lv.rangeP (y.p n) v at_ (bg v) (bh v) with | some r => Lv.joinR (L.getD v []) r | none => L.getD v []) else L.getD v []) := by
  unfold addK; rw [List.getElem?_map, List.getElem?_range hv]; rfl
theorem addK_zero : addK y n at_ bg bh L 0 = L := by
  refine List.ext_getElem? fun v => ?_
  rcases Nat.lt_or_ge v L.length with h | h
  · rw [addK_get h, if_neg (by omega), List.getD_eq_getElem?_getD, List.getElem?_eq_getElem h]; rfl
  · rw [List.getElem?_eq_none (by rw [addK_len]; exact h), List.getElem?_eq_none h]
theorem addK_at (hk : k < L.length) : (addK y n at_ bg bh L k).getD k [] = L.getD k [] := by
  rw [List.getD_eq_getElem?_getD, addK_get hk, if_neg (by omega)]; rfl
theorem addK_some (hk : k < L.length) {r : Lv.Rng} (hr : Lv.rangeP (y.p n) k at_ (bg k) (bh k) = some r) : (addK y n at_ bg bh L k).set k (Lv.joinR ((addK y n at_ bg bh L k).getD k []) r) = addK y n at_ bg bh L (k + 1) := by
  refine List.ext_getElem? fun v => ?_
  rw [addK_at hk, List.getElem?_set]
  by_cases e : k = v
  · subst e
    rw [if_pos rfl, if_pos (by rw [addK_len]; exact hk), addK_get hk, if_pos (by omega), hr]
  · rw [if_neg e]
    rcases Nat.lt_or_ge v L.length with h | h
    · rw [addK_get h, addK_get h]
      by_cases g : v < k
      · rw [if_pos g, if_pos (by omega)]
      · rw [if_neg g, if_neg (by omega)]
    · rw [List.getElem?_eq_none (by rw [addK_len]; exact h), List.getElem?_eq_none (by rw [addK_len]; exact h)]
theorem addK_none (hr : Lv.rangeP (y.p n) k at_ (bg k) (bh k) = none) : addK y n at_ bg bh L k = addK y n at_ bg bh L (k + 1) := by
  refine List.ext_getElem? fun v => ?_
  rcases Nat.lt_or_ge v L.length with h | h
  · rw [addK_get h, addK_get h]
    by_cases e : v = k
    · subst e; rw [if_neg (by omega), if_pos (by omega), hr]
    · by_cases g : v < k
      · rw [if_pos g, if_pos (by omega)]
      · rw [if_neg g, if_neg (by omega)]
  · rw [List.getElem?_eq_none (by rw [addK_len]; exact h), List.getElem?_eq_none (by rw [addK_len]; exact h)]
theorem joinR_len (l : List Lv.Rng) (r : Lv.Rng) : (Lv.joinR l r).length ≤ l.length + 1 := by
  rcases List.eq_nil_or_concat l with rfl | ⟨k, q, rfl⟩
  · simp [Lv.joinR_nil]
  · rw [List.concat_eq_append]
    by_cases h : r.1 ≤ q.2
    · rw [Lv.joinR_in h]; simp
    · rw [Lv.joinR_out h]; simp
theorem addK_row {c : Nat} (hL : ∀ l ∈ L, l.length ≤ c) : ∀ l ∈ addK y n at_ bg bh L k, l.length ≤ c + 1 := by
  intro l hl
  obtain ⟨v, hv, e⟩ := List.getElem_of_mem hl
  rw [addK_len] at hv
  have h1 := addK_get (y := y) (n := n) (at_ := at_) (bg := bg) (bh := bh) (k := k) hv
  have h2 : (L.getD v []).length ≤ c := by
    rw [List.getD_eq_getElem?_getD, List.getElem?_eq_getElem hv]; exact hL _ (List.getElem_mem hv)
  rw [← e, ← Option.some.inj ((List.getElem?_eq_getElem _).symm.trans h1).symm]
  split
  · split
    · exact Nat.le_trans (joinR_len _ _) (by omega)
    · omega
  · omega
end
end Go.Proofs.Ytjpmiejgcnfiiaa
