import Derived.Test.YtjpmiejgcnfiiaaGreatQ11
import Derived.StillTailTactics
set_option linter.unusedVariables false
set_option linter.unusedSimpArgs false
namespace Go.Proofs.YtjpmiejgcnfiiaaGreat
open Go Go.RowKit

/-- The rows from, to and made, in memory; all else is as it was in w4. -/
structure BM (w4 wr : World) (bf bt bm nv : Nat) (fr tl : List Int) (ml : List Bool) : Prop where
 f : IBlk wr bf 3 fr
 t : IBlk wr bt 3 tl
 m : BBlk wr bm 4 ml
 fl : fr.length = nv
 tl_ : tl.length = nv
 ml_ : ml.length = nv
 ext : Ext (fun k => k = bf ∨ k = bt ∨ k = bm) w4 wr
 ft : bf ≠ bt
/-- What they hold, value by value. -/
structure ST (w4 wr : World) (bf bt bm nv : Nat) (G : Nat → Int × Int) (M : Nat → Bool) : Prop where
 ex : ∃ fr tl ml, BM w4 wr bf bt bm nv fr tl ml ∧ (∀ v, v < nv → (fr.getD v 0, tl.getD v 0) = G v) ∧ ∀ v, v < nv → ml.getD v false = M v
theorem getD_set_int (s : List Int) (v i : Nat) (b : Int) (hv : v < s.length) : (s.set v b).getD i 0 = if i = v then b else s.getD i 0 := by
 rw [List.getD_eq_getElem?_getD, List.getD_eq_getElem?_getD, List.getElem?_set]
 by_cases e : v = i
 ·subst e; simp [hv]
 ·rw [if_neg e, if_neg (fun h => e h.symm)]
section
variable {w4 wr : World} {bf bt bm nv : Nat} {G G' : Nat → Int × Int} {M M' : Nat → Bool}
theorem ST.setF (h : ST w4 wr bf bt bm nv G M) {u : Nat} (hu : u < nv) (X : Int) (hG : ∀ v, v < nv → G' v = if v = u then (X, (G v).2) else G v) : ST w4 (wr.setCell ⟨bf, u, none⟩ (.int .i64 X)) bf bt bm nv G' M := by
 obtain ⟨fr, tl, ml, h1, h2, h3⟩ := h.ex
 have hfm : bf ≠ bm := h1.f.ne h1.m (by decide)
 refine ⟨fr.set u X, tl, ml, ⟨h1.f.put u X, h1.t.far (p := ⟨bf, u, none⟩) (fun e => h1.ft e.symm) _, h1.m.far (p := ⟨bf, u, none⟩) (fun e => hfm e.symm) _, by simp [h1.fl], h1.tl_, h1.ml_, h1.ext.setCell (p := ⟨bf, u, none⟩) (fun _ => .inl rfl) _, h1.ft⟩, fun v hv => ?_, h3⟩
 rw [getD_set_int fr u v X (by rw [h1.fl]; exact hu), hG v hv]
 have := h2 v hv
 split
 ·rw [← this]
 ·exact this
theorem ST.setT (h : ST w4 wr bf bt bm nv G M) {u : Nat} (hu : u < nv) (Y : Int) (hG : ∀ v, v < nv → G' v = if v = u then ((G v).1, Y) else G v) : ST w4 (wr.setCell ⟨bt, u, none⟩ (.int .i64 Y)) bf bt bm nv G' M := by
 obtain ⟨fr, tl, ml, h1, h2, h3⟩ := h.ex
 have htm : bt ≠ bm := h1.t.ne h1.m (by decide)
 refine ⟨fr, tl.set u Y, ml, ⟨h1.f.far (p := ⟨bt, u, none⟩) h1.ft _, h1.t.put u Y, h1.m.far (p := ⟨bt, u, none⟩) (fun e => htm e.symm) _, h1.fl, by simp [h1.tl_], h1.ml_, h1.ext.setCell (p := ⟨bt, u, none⟩) (fun _ => .inr (.inl rfl)) _, h1.ft⟩, fun v hv => ?_, h3⟩
 rw [getD_set_int tl u v Y (by rw [h1.tl_]; exact hu), hG v hv]
 have := h2 v hv
 split
 ·rw [← this]
 ·exact this
theorem ST.setM (h : ST w4 wr bf bt bm nv G M) {u : Nat} (hu : u < nv) (hM : ∀ v, v < nv → M' v = if v = u then true else M v) : ST w4 (wr.setCell ⟨bm, u, none⟩ (.bool true)) bf bt bm nv G M' := by
 obtain ⟨fr, tl, ml, h1, h2, h3⟩ := h.ex
 have hfm : bf ≠ bm := h1.f.ne h1.m (by decide)
 have htm : bt ≠ bm := h1.t.ne h1.m (by decide)
 refine ⟨fr, tl, ml.set u true, ⟨h1.f.far (p := ⟨bm, u, none⟩) hfm _, h1.t.far (p := ⟨bm, u, none⟩) htm _, h1.m.put u true, h1.fl, h1.tl_, by simp [h1.ml_], h1.ext.setCell (p := ⟨bm, u, none⟩) (fun _ => .inr (.inr rfl)) _, h1.ft⟩, h2, fun v hv => ?_⟩
 rw [Lv.getD_set_bool ml u v true (by rw [h1.ml_]; exact hu), hM v hv, h3 v hv]
theorem ST.congr (h : ST w4 wr bf bt bm nv G M) (hG : ∀ v, v < nv → G' v = G v) (hM : ∀ v, v < nv → M' v = M v) : ST w4 wr bf bt bm nv G' M' := by
 obtain ⟨fr, tl, ml, h1, h2, h3⟩ := h.ex
 exact ⟨fr, tl, ml, h1, fun v hv => by rw [hG v hv]; exact h2 v hv, fun v hv => by rw [hM v hv]; exact h3 v hv⟩
theorem ST.ext (h : ST w4 wr bf bt bm nv G M) : Ext (fun k => k = bf ∨ k = bt ∨ k = bm) w4 wr := by
 obtain ⟨fr, tl, ml, h1, _⟩ := h.ex
 exact h1.ext
theorem ST.at_ (h : ST w4 wr bf bt bm nv G M) {u : Nat} (hu : u < nv) : ∃ z, wr.cell? ⟨bf, u, none⟩ = some (.int .i64 (G u).1) ∧ wr.cell? ⟨bt, u, none⟩ = some (.int .i64 (G u).2) ∧ wr.cell? ⟨bm, u, none⟩ = some (.bool z) ∧
  wr.frozen? ⟨bf, u, none⟩ = false ∧ wr.frozen? ⟨bt, u, none⟩ = false ∧ wr.frozen? ⟨bm, u, none⟩ = false ∧ bf < wr.heap.size ∧ bt < wr.heap.size ∧ bm < wr.heap.size := by
 obtain ⟨fr, tl, ml, h1, h2, h3⟩ := h.ex
 have e := h2 u hu
 have c1 := h1.f.get (k := u) (by rw [h1.fl]; exact hu)
 have c2 := h1.t.get (k := u) (by rw [h1.tl_]; exact hu)
 have c3 := h1.m.get (k := u) (by rw [h1.ml_]; exact hu)
 rw [List.getD_eq_getElem?_getD, List.getD_eq_getElem?_getD, List.getElem?_eq_getElem (by rw [h1.fl]; exact hu), List.getElem?_eq_getElem (by rw [h1.tl_]; exact hu)] at e
 refine ⟨_, by rw [← e]; exact c1, by rw [← e]; exact c2, c3, h1.f.frozen u, h1.t.frozen u, h1.m.frozen u, h1.f.lt, h1.t.lt, h1.m.lt⟩
theorem ST.lts (h : ST w4 wr bf bt bm nv G M) : bf < wr.heap.size ∧ bt < wr.heap.size ∧ bm < wr.heap.size := by
 obtain ⟨fr, tl, ml, h1, h2, h3⟩ := h.ex
 exact ⟨h1.f.lt, h1.t.lt, h1.m.lt⟩
/-- New blocks are made behind it. -/
theorem ST.keep {w' : World} (h : ST w4 wr bf bt bm nv G M) (hk : Keep wr w') : ST w4 w' bf bt bm nv G M := by
 obtain ⟨fr, tl, ml, h1, h2, h3⟩ := h.ex
 exact ⟨fr, tl, ml, ⟨h1.f.keep hk, h1.t.keep hk, h1.m.keep hk, h1.fl, h1.tl_, h1.ml_, h1.ext.keepTrans hk, h1.ft⟩, h2, h3⟩
theorem ST.cell (h : ST w4 wr bf bt bm nv G M) {p : Addr} {v : Value} (hc : w4.cell? p = some v) (h1 : p.block ≠ bf) (h2 : p.block ≠ bt) (h3 : p.block ≠ bm) : wr.cell? p = some v :=
 (World.cell?_of_block (h.ext.block p.block (World.block_lt_of_cell? _ _ hc) (fun e => e.elim h1 (fun e => e.elim h2 h3)))).trans hc
end
/-- A number of a row, and the row's cell. -/
theorem at_row {w wr : World} {A : Option Addr} {l : List Int} {nv k : Nat} {T : Nat → Prop} (hb : ∀ v ∈ l, 0 ≤ v ∧ v < (nv : Int)) (hs : Seg w A (l.flatMap intC)) (hk : k < l.length) (hE : Ext T w wr) (hA : ∀ ad, A = some ad → l ≠ [] → ¬ T ad.block) :
  ∃ (u b off : Nat), l[k]? = some (u : Int) ∧ u < nv ∧ A = some ⟨b, off, none⟩ ∧ wr.cell? ⟨b, off + k, none⟩ = some (.int .i64 (u : Int)) ∧ ¬ T b := by
 obtain ⟨u, hu, hun⟩ := int_in hb hk
 obtain ⟨b, off, e, hbl, hc⟩ := int_at hs (Keep.refl _) hk
 have h1 := Option.some.inj ((List.getElem?_eq_getElem hk).symm.trans hu)
 rw [h1] at hc
 have hne := hA _ e (fun e => by rw [e] at hk; simp at hk)
 exact ⟨u, b, off, hu, hun, e, (World.cell?_of_block (hE.block b hbl hne)).trans hc, hne⟩
theorem mem_take {l : List Int} {k u v : Nat} (h : l[k]? = some (u : Int)) : v ∈ nat (l.take (k + 1)) ↔ v = u ∨ v ∈ nat (l.take k) := by
 unfold nat
 rw [List.take_add_one, h, List.map_append, List.mem_append]
 constructor
 ·rintro (h1 | h1)
  ·exact .inr h1
  ·left; simpa using h1
 ·rintro (h1 | h1)
  ·exact .inr (by simpa using h1)
  ·exact .inl h1

/-! ### The stages, for each value -/

section
variable (y : BkD) (n : Nat) (at_ : Int) (bg : Nat → Bool) (m0 : Nat → Bool)
def g0 (k v : Nat) : Int × Int := (if v < k then (if bg v then at_ else -1) else 0, 0)
def g1 (k v : Nat) : Int × Int := if v ∈ nat (y.params.l.take k) then (at_, at_ + 1) else (if bg v then at_ else -1, 0)
def g2 (i v : Nat) : Int × Int := ((y.p n).ins.zipIdx.take i).foldl (Lv.insV v at_) (Lv.startV (y.p n) v at_ (bg v))
def g3 (x : InD) (i j v : Nat) : Int × Int := if v ∈ nat (x.args.l.take j) then ((g2 y n at_ bg i v).1, at_ + 2 * ((i : Int) + 1) + 1) else g2 y n at_ bg i v
def g4 (x : InD) (i j v : Nat) : Int × Int := if v ∈ nat (x.outs.l.take j) then (at_ + 2 * ((i : Int) + 1) + 1, at_ + 2 * ((i : Int) + 1) + 2) else g3 y n at_ bg x i x.args.l.length v
def g5 (k v : Nat) : Int × Int := if v ∈ nat (y.endsI.take k) then ((g2 y n at_ bg y.ins.l.length v).1, Lv.closeV (y.p n) at_ - 1) else g2 y n at_ bg y.ins.l.length v
def g6 (bh : Nat → Bool) (v : Nat) : Int × Int := Lv.blkV (y.p n) v at_ (bg v) (bh v)
def m1 (k v : Nat) : Bool := m0 v || decide (v ∈ nat (y.params.l.take k))
def m2 (i v : Nat) : Bool := m0 v || decide (v ∈ nat y.params.l) || (y.ins.l.take i).any fun x => decide (v ∈ nat x.outs.l)
def m4 (x : InD) (i j v : Nat) : Bool := m2 y m0 i v || decide (v ∈ nat (x.outs.l.take j))
end
section
variable {y : BkD} {n : Nat} {at_ : Int} {bg : Nat → Bool} {m0 : Nat → Bool} {x : InD} {i j k u v : Nat}
theorem g0_succ (hk : k = u) : g0 at_ bg (k + 1) v = if v = u then (if bg u then at_ else -1, (g0 at_ bg k v).2) else g0 at_ bg k v := by
 subst hk
 unfold g0
 by_cases e : v = k
 ·subst e; simp
 ·rw [if_neg e]
  by_cases h : v < k
  ·rw [if_pos h, if_pos (by omega)]
  ·rw [if_neg h, if_neg (by omega)]
theorem g1_start {nv : Nat} (hv : v < nv) : g1 y at_ bg 0 v = g0 at_ bg nv v := by unfold g1 g0; simp [nat, hv]
theorem g1_succ (h : y.params.l[k]? = some (u : Int)) : g1 y at_ bg (k + 1) v = if v = u then (at_, at_ + 1) else g1 y at_ bg k v := by
 unfold g1
 by_cases e : v = u
 ·rw [if_pos e, if_pos ((mem_take h).2 (.inl e))]
 ·rw [if_neg e]
  by_cases g : v ∈ nat (y.params.l.take k)
  ·rw [if_pos g, if_pos ((mem_take h).2 (.inr g))]
  ·rw [if_neg g, if_neg (fun h' => ((mem_take h).1 h').elim e g)]
theorem m1_succ (h : y.params.l[k]? = some (u : Int)) : m1 y m0 (k + 1) v = if v = u then true else m1 y m0 k v := by
 unfold m1
 by_cases e : v = u
 ·rw [if_pos e, decide_eq_true ((mem_take h).2 (.inl e)), Bool.or_true]
 ·rw [if_neg e]
  congr 1
  rw [decide_eq_decide, mem_take h]
  exact ⟨fun h => h.resolve_left e, .inr⟩
theorem g2_start (hk : y.params.l.length ≤ k) : g2 y n at_ bg 0 v = g1 y at_ bg k v := by
 unfold g2 g1 Lv.startV
 rw [List.take_zero, List.take_of_length_le hk]; rfl
theorem m2_start (hk : y.params.l.length ≤ k) : m2 y m0 0 v = m1 y m0 k v := by
 unfold m2 m1
 rw [List.take_of_length_le hk]; simp
theorem g3_start : g3 y n at_ bg x i 0 v = g2 y n at_ bg i v := by unfold g3; simp [nat]
theorem g3_succ (h : x.args.l[j]? = some (u : Int)) : g3 y n at_ bg x i (j + 1) v = if v = u then ((g3 y n at_ bg x i j v).1, at_ + 2 * ((i : Int) + 1) + 1) else g3 y n at_ bg x i j v := by
 have e1 : (g3 y n at_ bg x i j v).1 = (g2 y n at_ bg i v).1 := by unfold g3; split <;> rfl
 rw [e1]
 unfold g3
 by_cases e : v = u
 ·rw [if_pos e, if_pos ((mem_take h).2 (.inl e))]
 ·rw [if_neg e]
  by_cases g : v ∈ nat (x.args.l.take j)
  ·rw [if_pos g, if_pos ((mem_take h).2 (.inr g))]
  ·rw [if_neg g, if_neg (fun h' => ((mem_take h).1 h').elim e g)]
theorem g4_start : g4 y n at_ bg x i 0 v = g3 y n at_ bg x i x.args.l.length v := by unfold g4; simp [nat]
theorem g4_succ (h : x.outs.l[j]? = some (u : Int)) : g4 y n at_ bg x i (j + 1) v = if v = u then (at_ + 2 * ((i : Int) + 1) + 1, at_ + 2 * ((i : Int) + 1) + 2) else g4 y n at_ bg x i j v := by
 unfold g4
 by_cases e : v = u
 ·rw [if_pos e, if_pos ((mem_take h).2 (.inl e))]
 ·rw [if_neg e]
  by_cases g : v ∈ nat (x.outs.l.take j)
  ·rw [if_pos g, if_pos ((mem_take h).2 (.inr g))]
  ·rw [if_neg g, if_neg (fun h' => ((mem_take h).1 h').elim e g)]
theorem m4_start : m4 y m0 x i 0 v = m2 y m0 i v := by unfold m4; simp [nat]
theorem m4_succ (h : x.outs.l[j]? = some (u : Int)) : m4 y m0 x i (j + 1) v = if v = u then true else m4 y m0 x i j v := by
 unfold m4
 by_cases e : v = u
 ·rw [if_pos e, decide_eq_true ((mem_take h).2 (.inl e)), Bool.or_true]
 ·rw [if_neg e]
  congr 1
  rw [decide_eq_decide, mem_take h]
  exact ⟨fun h => h.resolve_left e, .inr⟩
theorem g2_succ (h : y.ins.l[i]? = some x) : g2 y n at_ bg (i + 1) v = g4 y n at_ bg x i x.outs.l.length v := by
 have hz : (y.p n).ins.zipIdx[i]? = some (x.p, i) := by
  rw [List.getElem?_zipIdx]
  show Option.map _ (y.ins.l.map InD.p)[i]? = _
  rw [List.getElem?_map, h]; simp
 have e : g2 y n at_ bg (i + 1) v = Lv.insV v at_ (g2 y n at_ bg i v) (x.p, i) := by
  unfold g2
  rw [List.take_add_one, hz]
  show List.foldl _ _ (_ ++ [_]) = _
  rw [List.foldl_append]; rfl
 rw [e]
 unfold g4 g3 Lv.insV
 rw [List.take_length, List.take_length]
 rfl
theorem m2_succ (h : y.ins.l[i]? = some x) : m2 y m0 (i + 1) v = m4 y m0 x i x.outs.l.length v := by
 unfold m4 m2
 rw [List.take_add_one, h, List.take_length, List.any_append]
 simp [Bool.or_assoc]
theorem g5_start : g5 y n at_ bg 0 v = g2 y n at_ bg y.ins.l.length v := by unfold g5; simp [nat]
theorem g5_succ (h : y.endsI[k]? = some (u : Int)) : g5 y n at_ bg (k + 1) v = if v = u then ((g5 y n at_ bg k v).1, Lv.closeV (y.p n) at_ - 1) else g5 y n at_ bg k v := by
 have e1 : (g5 y n at_ bg k v).1 = (g2 y n at_ bg y.ins.l.length v).1 := by unfold g5; split <;> rfl
 rw [e1]
 unfold g5
 by_cases e : v = u
 ·rw [if_pos e, if_pos ((mem_take h).2 (.inl e))]
 ·rw [if_neg e]
  by_cases g : v ∈ nat (y.endsI.take k)
  ·rw [if_pos g, if_pos ((mem_take h).2 (.inr g))]
  ·rw [if_neg g, if_neg (fun h' => ((mem_take h).1 h').elim e g)]
theorem g6_eq (bh : Nat → Bool) (hk : y.endsI.length ≤ k) : g6 y n at_ bg bh v = if bh v then ((g5 y n at_ bg k v).1, Lv.closeV (y.p n) at_) else g5 y n at_ bg k v := by
 have e2 : g2 y n at_ bg y.ins.l.length v = (y.p n).ins.zipIdx.foldl (Lv.insV v at_) (Lv.startV (y.p n) v at_ (bg v)) := by
  unfold g2
  rw [List.take_of_length_le (by simp [BkD.p])]
 unfold g6 Lv.blkV g5
 rw [List.take_of_length_le hk, e2]
 rfl
theorem m2_end (y : BkD) (n : Nat) (m0 : Nat → Bool) (v : Nat) : m2 y m0 y.ins.l.length v = true ↔ m0 v = true ∨ (y.p n).makes v := by
 unfold m2 Lv.PBlk.makes
 rw [List.take_length, Bool.or_eq_true, Bool.or_eq_true, decide_eq_true_eq, List.any_eq_true, or_assoc]
 constructor
 ·rintro (h | h | ⟨x, hx, h⟩)
  ·exact .inl h
  ·exact .inr (.inl h)
  ·exact .inr (.inr ⟨x.p, List.mem_map.2 ⟨x, hx, rfl⟩, of_decide_eq_true h⟩)
 ·rintro (h | h | ⟨x, hx, h⟩)
  ·exact .inl h
  ·exact .inr (.inl h)
  ·obtain ⟨z, hz, rfl⟩ := List.mem_map.1 (show x ∈ y.ins.l.map InD.p from hx)
   exact .inr (.inr ⟨z, hz, decide_eq_true h⟩)
end
/-- The rows of ranges when the first k values have been looked at. -/
def addK (y : BkD) (n : Nat) (at_ : Int) (bg bh : Nat → Bool) (L : List (List Lv.Rng)) (k : Nat) : List (List Lv.Rng) :=
 (List.range L.length).map fun v => if v < k then (match Lv.rangeP (y.p n) v at_ (bg v) (bh v) with | some r => Lv.joinR (L.getD v []) r | none => L.getD v []) else L.getD v []
section
variable {y : BkD} {n : Nat} {at_ : Int} {bg bh : Nat → Bool} {L : List (List Lv.Rng)} {k : Nat}
theorem addK_len : (addK y n at_ bg bh L k).length = L.length := by simp [addK]
theorem addK_get {v : Nat} (hv : v < L.length) : (addK y n at_ bg bh L k)[v]? = some (if v < k then (match Lv.rangeP (y.p n) v at_ (bg v) (bh v) with | some r => Lv.joinR (L.getD v []) r | none => L.getD v []) else L.getD v []) := by
 unfold addK; rw [List.getElem?_map, List.getElem?_range hv]; rfl
theorem addK_zero : addK y n at_ bg bh L 0 = L := by
 refine List.ext_getElem? fun v => ?_
 rcases Nat.lt_or_ge v L.length with h | h
 ·rw [addK_get h, if_neg (by omega), List.getD_eq_getElem?_getD, List.getElem?_eq_getElem h]; rfl
 ·rw [List.getElem?_eq_none (by rw [addK_len]; exact h), List.getElem?_eq_none h]
theorem addK_at (hk : k < L.length) : (addK y n at_ bg bh L k).getD k [] = L.getD k [] := by
 rw [List.getD_eq_getElem?_getD, addK_get hk, if_neg (by omega)]; rfl
theorem addK_some (hk : k < L.length) {r : Lv.Rng} (hr : Lv.rangeP (y.p n) k at_ (bg k) (bh k) = some r) : (addK y n at_ bg bh L k).set k (Lv.joinR ((addK y n at_ bg bh L k).getD k []) r) = addK y n at_ bg bh L (k + 1) := by
 refine List.ext_getElem? fun v => ?_
 rw [addK_at hk, List.getElem?_set]
 by_cases e : k = v
 ·subst e
  rw [if_pos rfl, if_pos (by rw [addK_len]; exact hk), addK_get hk, if_pos (by omega), hr]
 ·rw [if_neg e]
  rcases Nat.lt_or_ge v L.length with h | h
  ·rw [addK_get h, addK_get h]
   by_cases g : v < k
   ·rw [if_pos g, if_pos (by omega)]
   ·rw [if_neg g, if_neg (by omega)]
  ·rw [List.getElem?_eq_none (by rw [addK_len]; exact h), List.getElem?_eq_none (by rw [addK_len]; exact h)]
theorem addK_none (hr : Lv.rangeP (y.p n) k at_ (bg k) (bh k) = none) : addK y n at_ bg bh L k = addK y n at_ bg bh L (k + 1) := by
 refine List.ext_getElem? fun v => ?_
 rcases Nat.lt_or_ge v L.length with h | h
 ·rw [addK_get h, addK_get h]
  by_cases e : v = k
  ·subst e; rw [if_neg (by omega), if_pos (by omega), hr]
  ·by_cases g : v < k
   ·rw [if_pos g, if_pos (by omega)]
   ·rw [if_neg g, if_neg (by omega)]
 ·rw [List.getElem?_eq_none (by rw [addK_len]; exact h), List.getElem?_eq_none (by rw [addK_len]; exact h)]
theorem joinR_len (l : List Lv.Rng) (r : Lv.Rng) : (Lv.joinR l r).length ≤ l.length + 1 := by
 rcases List.eq_nil_or_concat l with rfl | ⟨k, q, rfl⟩
 ·simp [Lv.joinR_nil]
 ·rw [List.concat_eq_append]
  by_cases h : r.1 ≤ q.2
  ·rw [Lv.joinR_in h]; simp
  ·rw [Lv.joinR_out h]; simp
theorem addK_row {c : Nat} (hL : ∀ l ∈ L, l.length ≤ c) : ∀ l ∈ addK y n at_ bg bh L k, l.length ≤ c + 1 := by
 intro l hl
 obtain ⟨v, hv, e⟩ := List.getElem_of_mem hl
 rw [addK_len] at hv
 have h1 := addK_get (y := y) (n := n) (at_ := at_) (bg := bg) (bh := bh) (k := k) hv
 have h2 : (L.getD v []).length ≤ c := by
  rw [List.getD_eq_getElem?_getD, List.getElem?_eq_getElem hv]; exact hL _ (List.getElem_mem hv)
 rw [← e, ← Option.some.inj ((List.getElem?_eq_getElem _).symm.trans h1).symm]
 split
 ·split
  ·exact Nat.le_trans (joinR_len _ _) (by omega)
  ·omega
 ·omega
end
end Go.Proofs.YtjpmiejgcnfiiaaGreat
namespace Go.Proofs.YtjpmiejgcnfiiaaGreat
open Go Go.RowKit

theorem Seg.nb {w w' : World} {A : Option Addr} {xs : List Value} {bm : Nat} {m0 : List Bool} (h : Seg w A xs) (hm : BBlk w bm 4 m0) (hx : ∀ v ∈ xs, ∀ b, v ≠ .bool b) (hE : Ext (fun q => q = bm) w w') : Seg w' A xs := fun j u hu => by
 obtain ⟨ad, e, hc⟩ := h j u hu
 have hlt := World.block_lt_of_cell? w _ hc
 refine ⟨ad, e, (World.cell?_of_block (hE.block _ hlt (fun e' => ?_))).trans hc⟩
 have hsp := World.cell?_spot hc
 obtain ⟨b, o, sp⟩ := ad
 obtain ⟨o', ho'⟩ : ∃ o', (⟨b, o, sp⟩ : Addr).add j = ⟨bm, o', none⟩ := by
  generalize (⟨b, o, sp⟩ : Addr).add j = a at e' hsp
  obtain ⟨b2, o2, s2⟩ := a
  have h1 : b2 = bm := e'
  have h2 : s2 = none := hsp
  subst h1 h2
  exact ⟨o2, rfl⟩
 rw [ho', hm.cell, List.getElem?_map] at hc
 cases hz : m0[o']? with
 | none => rw [hz] at hc; cases hc
 | some z =>
  rw [hz] at hc
  exact hx u (List.mem_of_getElem? hu) z (Option.some.inj hc).symm
theorem nb_flat {α : Type} {f : α → List Value} {l : List α} (h : ∀ x, ∀ v ∈ f x, ∀ b, v ≠ .bool b) : ∀ v ∈ l.flatMap f, ∀ b, v ≠ .bool b := fun v hv => by
 obtain ⟨x, _, hx⟩ := List.mem_flatMap.1 hv
 exact h x v hx
theorem nb_int (x : Int) : ∀ v ∈ intC x, ∀ b, v ≠ .bool b := fun v hv b e => by simp [intC] at hv; subst hv; cases e
theorem nb_in (x : InD) : ∀ v ∈ inC x, ∀ b, v ≠ .bool b := fun v hv b e => by
 simp [inC] at hv
 rcases hv with rfl | rfl | rfl | rfl | rfl | rfl | rfl <;> cases e
theorem nb_ed (x : EdD) : ∀ v ∈ edC x, ∀ b, v ≠ .bool b := fun v hv b e => by
 simp [edC] at hv
 rcases hv with rfl | rfl <;> cases e
theorem BkOk.nb {w w' : World} {y : BkD} {bm : Nat} {m0 : List Bool} (h : BkOk w y) (hm : BBlk w bm 4 m0) (hE : Ext (fun q => q = bm) w w') : BkOk w' y :=
 have num : ∀ {x : RwD Int}, NumOk w x → NumOk w' x := fun hx => ⟨hx.seg.nb hm (nb_flat nb_int) hE, hx.len⟩
 ⟨num h.params, h.insSeg.nb hm (nb_flat nb_in) hE, fun i hi => ⟨num (h.ins i hi).args, num (h.ins i hi).outs⟩, h.insLen, num h.args, h.toSeg.nb hm (nb_flat nb_ed) hE, fun e he => ⟨num (h.to e he).args⟩, h.toLen⟩
theorem RowsAt.kinds {α : Type} {f : α → List Value} {s : Nat} {ei eo : TypeId} {w w' : World} {b base : Nat} {L : List (List α)} {S : Nat → Prop} (h : RowsAt f s ei eo w b base L) (hE : Ext S w w') (hb : ¬ S b) (hs : ∀ k cs fl, w.heap[k]? = some (.cells cs ei fl) → ¬ S k) : RowsAt f s ei eo w' b base L := by
 obtain ⟨vs, h1, h2, h3, h4⟩ := h
 refine ⟨vs, h1.ext hE hb, h2, fun i v l hv hl => (h3 i v l hv hl).ext hE (fun k hk => ?_), h4⟩
 rcases (h3 i v l hv hl).2 with ⟨e, _⟩ | ⟨g1, cap, cur, e, _, hh, _⟩
 ·rw [e] at hk; cases hk
 ·rw [e] at hk
  simp only [Value.ownBlock, Option.some.injEq] at hk
  subst hk
  exact hs _ _ _ hh

/-- The last loop. -/
structure FSt (w wr : World) (bf bt bm bl base nv : Nat) (G : Nat → Int × Int) (M : Nat → Bool) (L : List (List Lv.Rng)) (k : Nat) : Prop where
 ex : ∃ fr tl ml, IBlk wr bf 3 fr ∧ IBlk wr bt 3 tl ∧ BBlk wr bm 4 ml ∧ fr.length = nv ∧ tl.length = nv ∧ ml.length = nv ∧ (∀ v, k ≤ v → v < nv → (fr.getD v 0, tl.getD v 0) = G v) ∧ ∀ v, v < nv → ml.getD v false = M v
 rows : RgRows wr bl base L
 ext : Ext (RngS base bl bm w) w wr
section
variable {w w4 wr w' : World} {bf bt bm bl base nv k : Nat} {G : Nat → Int × Int} {M : Nat → Bool} {L L' : List (List Lv.Rng)}
theorem FSt.start {m0 : List Bool} (h : ST w4 wr bf bt bm nv G M) (hk : Keep w w4) (hf : w.heap.size ≤ bf) (ht : w.heap.size ≤ bt) (hL : RgRows w bl base L) (hne : bm ≠ bl) (hm : BBlk w bm 4 m0) : FSt w wr bf bt bm bl base nv G M L 0 := by
 obtain ⟨fr, tl, ml, h1, h2, h3⟩ := h.ex
 have hE : Ext (fun q => q = bm) w wr := (hk.ext _).trans h1.ext (fun i hi e => by rcases e with e | e | e <;> first | omega | exact e)
 refine ⟨⟨fr, tl, ml, h1.f, h1.t, h1.m, h1.fl, h1.tl_, h1.ml_, fun v _ hv => h2 v hv, h3⟩, RowsAt.kinds hL hE (fun e => hne e.symm) (fun k cs fl hh e => ?_), hE.mono (fun _ _ e => .inr (.inl e))⟩
 subst e
 unfold BBlk Blk at hm
 rw [hm] at hh; cases hh
theorem FSt.keep (h : FSt w wr bf bt bm bl base nv G M L k) (hk : Keep wr w') : FSt w w' bf bt bm bl base nv G M L k := by
 obtain ⟨fr, tl, ml, h1, h2, h3, h4, h5, h6, h7, h8⟩ := h.ex
 exact ⟨⟨fr, tl, ml, h1.keep hk, h2.keep hk, h3.keep hk, h4, h5, h6, h7, h8⟩, h.rows.keep hk, h.ext.keepTrans hk⟩
theorem FSt.skip (h : FSt w wr bf bt bm bl base nv G M L k) (e : L = L') : FSt w wr bf bt bm bl base nv G M L' (k + 1) := by
 obtain ⟨fr, tl, ml, h1, h2, h3, h4, h5, h6, h7, h8⟩ := h.ex
 subst e
 exact ⟨⟨fr, tl, ml, h1, h2, h3, h4, h5, h6, fun v hv => h7 v (by omega), h8⟩, h.rows, h.ext⟩
theorem FSt.add (h : FSt w wr bf bt bm bl base nv G M L k) (hE : Ext (RngS base bl bm wr) wr w') (hL : RgRows w' bl base L') (hm : ∀ ml : List Bool, BBlk wr bm 4 ml → BBlk w' bm 4 ml) (hbf : bf ≠ bl ∧ bf ≠ bm) (hbt : bt ≠ bl ∧ bt ≠ bm) : FSt w w' bf bt bm bl base nv G M L' (k + 1) := by
 obtain ⟨fr, tl, ml, h1, h2, h3, h4, h5, h6, h7, h8⟩ := h.ex
 exact ⟨⟨fr, tl, ml, Blk.rngS h1 hE hbf.1 hbf.2 (by decide), Blk.rngS h2 hE hbt.1 hbt.2 (by decide), hm ml h3, h4, h5, h6, fun v hv => h7 v (by omega), h8⟩, hL, RngS.trans h.ext hE⟩
theorem FSt.put (h : FSt w wr bf bt bm bl base nv G M L k) (hk : k < nv) (hw : w.heap.size ≤ bt) (hft : bf ≠ bt) (hbl : bl ≠ bt) (Y : Int) : FSt w (wr.setCell ⟨bt, k, none⟩ (.int .i64 Y)) bf bt bm bl base nv (fun v => if v = k then ((G v).1, Y) else G v) M L k := by
 obtain ⟨fr, tl, ml, h1, h2, h3, h4, h5, h6, h7, h8⟩ := h.ex
 have htm : bt ≠ bm := h2.ne h3 (by decide)
 refine ⟨⟨fr, tl.set k Y, ml, h1.far (p := ⟨bt, k, none⟩) hft _, h2.put k Y, h3.far (p := ⟨bt, k, none⟩) (fun e => htm e.symm) _, h4, by simp [h5], h6, fun v hv hvn => ?_, h8⟩, h.rows.put_far h2 (fun e => hbl e.symm) (.inr (by decide)) _, h.ext.setCell (p := ⟨bt, k, none⟩) (fun e => by have : bt < w.heap.size := e; omega) _⟩
 rw [getD_set_int tl k v Y (by rw [h5]; exact hk)]
 have := h7 v hv hvn
 show _ = if v = k then _ else _
 split
 ·rw [← this]
 ·exact this
theorem FSt.at_ (h : FSt w wr bf bt bm bl base nv G M L k) (hk : k < nv) : wr.cell? ⟨bf, k, none⟩ = some (.int .i64 (G k).1) ∧ wr.cell? ⟨bt, k, none⟩ = some (.int .i64 (G k).2) ∧ wr.frozen? ⟨bt, k, none⟩ = false ∧ bf < wr.heap.size ∧ bt < wr.heap.size := by
 obtain ⟨fr, tl, ml, h1, h2, h3, h4, h5, h6, h7, h8⟩ := h.ex
 have e := h7 k (Nat.le_refl _) hk
 have c1 := h1.get (k := k) (by rw [h4]; exact hk)
 have c2 := h2.get (k := k) (by rw [h5]; exact hk)
 rw [List.getD_eq_getElem?_getD, List.getD_eq_getElem?_getD, List.getElem?_eq_getElem (by rw [h4]; exact hk), List.getElem?_eq_getElem (by rw [h5]; exact hk)] at e
 exact ⟨by rw [← e]; exact c1, by rw [← e]; exact c2, h2.frozen k, h1.lt, h2.lt⟩
theorem FSt.congr {G' : Nat → Int × Int} (h : FSt w wr bf bt bm bl base nv G M L k) (hG : ∀ v, k ≤ v → v < nv → G' v = G v) : FSt w wr bf bt bm bl base nv G' M L k := by
 obtain ⟨fr, tl, ml, h1, h2, h3, h4, h5, h6, h7, h8⟩ := h.ex
 exact ⟨⟨fr, tl, ml, h1, h2, h3, h4, h5, h6, fun v hv hvn => by rw [hG v hv hvn]; exact h7 v hv hvn, h8⟩, h.rows, h.ext⟩
theorem FSt.marks (h : FSt w wr bf bt bm bl base nv G M L k) : ∃ m', BBlk wr bm 4 m' ∧ m'.length = nv ∧ ∀ v, v < nv → m'.getD v false = M v := by
 obtain ⟨fr, tl, ml, h1, h2, h3, h4, h5, h6, h7, h8⟩ := h.ex
 exact ⟨ml, h3, h6, h8⟩
end
end Go.Proofs.YtjpmiejgcnfiiaaGreat
namespace Go.Proofs.YtjpmiejgcnfiiaaGreat
open Go Go.RowKit

set_option maxHeartbeats 8000000 in
set_option maxRecDepth 100000 in
theorem block_calls (x : SsD) (b br bl bm base nv cl cm : Nat) (at_ : Int) (y : BkD) (Ab Ah : Option Addr) (cb ch base1 base2 : Nat) (bgl bhl m0 : List Bool) (L : List (List Lv.Rng)) (w : World) (h : SsOk w x) (hs : Small x) (hb : x.blocks.l[b]? = some y) (hnv : x.vals.l.length = nv) (hy : y.In nv)
  (hr : Blk w br 95 [.slice (some ⟨bl, 0, none⟩) nv cl, .slice (some ⟨bm, 0, none⟩) nv cm]) (hL : RgRows w bl base L) (hLl : L.length = nv) (hLr : ∀ l ∈ L, l.length ≤ 900000) (hm : BBlk w bm 4 m0) (hml : m0.length = nv) (hbase : base ≤ w.heap.size)
  (hob : Own boolC 1 4 w base1 (.slice Ab nv cb) bgl) (hobl : bgl.length = nv) (hobm : (Value.slice Ab nv cb).ownBlock ≠ some bm) (hoh : Own boolC 1 4 w base2 (.slice Ah nv ch) bhl) (hohl : bhl.length = nv) (hohm : (Value.slice Ah nv ch).ownBlock ≠ some bm) (hat0 : 0 ≤ at_) (hat1 : at_ ≤ 2004000) :
  Calls Tryz.prog 30 #[.pointer (some ⟨br, 0, none⟩), .agg (ssC x).toArray, .int .i64 (b : Int), .int .i64 at_, .slice Ab nv cb, .slice Ah nv ch] w fun e w' => (∃ u, e = .returned u) ∧
   RgRows w' bl base (addK y x.blocks.l.length at_ (fun v => bgl.getD v false) (fun v => bhl.getD v false) L nv) ∧ (∃ m', BBlk w' bm 4 m' ∧ m'.length = nv ∧ ∀ v, v < nv → m'.getD v false = m2 y (fun v => m0.getD v false) y.ins.l.length v) ∧ Ext (RngS base bl bm w) w w' := by
 obtain ⟨vp, vr, va, nv', vc, ba, nb, bc, hop⟩ := x.opened
 obtain rfl : nv' = nv := by rw [← hop.nv, hnv]
 have hbll := (List.getElem?_eq_some_iff.1 hb).1
 have hyk := h.blocks y (List.mem_of_getElem? hb)
 have hends := fun (W : World) (hk : BkOk W y) => ends_calls y W hk (hs.ends y (List.mem_of_getElem? hb))
 unfold RwD.v at hends
 have hyi : y.ins.l.length ≤ 1000 := hs.ins y (List.mem_of_getElem? hb)
 have hnv1 : nv' ≤ 1000 := by rw [← hnv]; exact hs.vals
 obtain ⟨N, hN⟩ : ∃ N, x.blocks.l.length = N := ⟨_, rfl⟩
 obtain ⟨BG, hBG⟩ : ∃ BG, (fun v => bgl.getD v false) = BG := ⟨_, rfl⟩
 obtain ⟨BH, hBH⟩ : ∃ BH, (fun v => bhl.getD v false) = BH := ⟨_, rfl⟩
 obtain ⟨M0, hM0⟩ : ∃ M0, (fun v => m0.getD v false) = M0 := ⟨_, rfl⟩
 rw [hop.agg, hN, hBG, hBH, hM0]
 obtain ⟨W, hW, hk, c0, c1, c2, c3, lt⟩ := box4 w 39 vp vr (.slice va nv' vc) (.slice ba nb bc)
 obtain ⟨B, off, hBa, hBl, hbn, y0, y1, y2, y3, y4, y5, y6⟩ := bk_open hop h hk hb
 subst hBa
 have hbb : (b : Int) < (nb : Int) := by omega
 have hbb0 : (0 : Int) ≤ (b : Int) := by omega
 obtain ⟨W2, hW2⟩ : ∃ W2, W.alloc (.cells #[.slice y.params.a y.params.l.length y.params.c, .slice y.ins.a y.ins.l.length y.ins.c, .int .i64 y.kind, .int .i64 y.cond, .slice y.args.a y.args.l.length y.args.c, .slice y.to.a y.to.l.length y.to.c, .int .i64 y.trap] 57) = W2 := ⟨_, rfl⟩
 have hk2 : Keep W W2 := by rw [← hW2]; exact (Keep.refl _).alloc _
 have hx : Blk W2 W.heap.size 57 [.slice y.params.a y.params.l.length y.params.c, .slice y.ins.a y.ins.l.length y.ins.c, .int .i64 y.kind, .int .i64 y.cond, .slice y.args.a y.args.l.length y.args.c, .slice y.to.a y.to.l.length y.to.c, .int .i64 y.trap] := by rw [← hW2]; exact Blk.new W _ _
 obtain ⟨W3, hmk1, hbf, hk3⟩ := make_ints W2 nv' (by omega)
 obtain ⟨w4, hmk2, hbt, hk4⟩ := make_ints W3 nv' (by omega)
 have hsz0 : W.heap.size = w.heap.size + 1 := by rw [← hW]; simp
 have hsz2 : W2.heap.size = W.heap.size + 1 := by rw [← hW2]; simp
 obtain ⟨bf, hbfe⟩ : ∃ bf, W2.heap.size = bf := ⟨_, rfl⟩
 obtain ⟨bt, hbte⟩ : ∃ bt, W3.heap.size = bt := ⟨_, rfl⟩
 rw [hsz0] at hx
 have z1 : W2.cell? ⟨w.heap.size + 1, 1, none⟩ = some (.slice y.ins.a y.ins.l.length y.ins.c) := hx.cell 1
 have zl : w.heap.size + 1 < W2.heap.size := hx.lt
 rw [hbfe] at hmk1 hbf
 rw [hbte] at hmk2 hbt
 have hbfx : bf = w.heap.size + 1 + 1 := by omega
 have hbtf : bf < bt := by rw [← hbte]; exact hbf.lt
 have hbrw : br < w.heap.size := hr.lt
 have hblw : bl < w.heap.size := by obtain ⟨vs, hv⟩ := hL.blk; exact hv.lt
 have hbmw : bm < w.heap.size := hm.lt
 have K24 := hk3.trans hk4
 have Kw4 : Keep w w4 := (hk.trans hk2).trans K24
 have hbl_ne : br ≠ bl := by obtain ⟨vs, hv⟩ := hL.blk; exact hr.ne hv (by decide)
 have hbm_ne : br ≠ bm := hr.ne hm (by decide)
 have hbml : bm ≠ bl := by obtain ⟨vs, hv⟩ := hL.blk; exact hm.ne hv (by decide)
 have hobl2 : ∀ k, (Value.slice Ab nv' cb).ownBlock = some k → k ≠ bl := by obtain ⟨vs, hv⟩ := hL.blk; exact fun k hk => hob.blk_apart hv (by decide) hk
 have hohl2 : ∀ k, (Value.slice Ah nv' ch).ownBlock = some k → k ≠ bl := by obtain ⟨vs, hv⟩ := hL.blk; exact fun k hk => hoh.blk_apart hv (by decide) hk
 have xk : Blk w4 (w.heap.size + 1) 57 _ := hx.keep K24
 have x0 : w4.cell? ⟨w.heap.size + 1, 0, none⟩ = some (.slice y.params.a y.params.l.length y.params.c) := xk.cell 0
 have x1 : w4.cell? ⟨w.heap.size + 1, 1, none⟩ = some (.slice y.ins.a y.ins.l.length y.ins.c) := xk.cell 1
 have x2 : w4.cell? ⟨w.heap.size + 1, 2, none⟩ = some (.int .i64 y.kind) := xk.cell 2
 have x3 : w4.cell? ⟨w.heap.size + 1, 2 + 1, none⟩ = some (.int .i64 y.cond) := xk.cell 3
 have x4 : w4.cell? ⟨w.heap.size + 1, 2 + 2, none⟩ = some (.slice y.args.a y.args.l.length y.args.c) := xk.cell 4
 have x5 : w4.cell? ⟨w.heap.size + 1, 2 + 3, none⟩ = some (.slice y.to.a y.to.l.length y.to.c) := xk.cell 5
 have x6 : w4.cell? ⟨w.heap.size + 1, 2 + 4, none⟩ = some (.int .i64 y.trap) := xk.cell 6
 have r0 : w4.cell? ⟨br, 0, none⟩ = some (.slice (some ⟨bl, 0, none⟩) nv' cl) := Kw4.cell (hr.cell 0)
 have r1 : w4.cell? ⟨br, 1, none⟩ = some (.slice (some ⟨bm, 0, none⟩) nv' cm) := Kw4.cell (hr.cell 1)
 have e2 := (hk2.trans hk3).cell c1
 have e1 := hk2.cell c1
 have gv2 := hk2.cell c2
 have gv3 := (hk2.trans hk3).cell c2
 have glt2 := Nat.lt_of_lt_of_le lt hk2.size
 have glt3 := Nat.lt_of_lt_of_le lt (hk2.trans hk3).size
 have Hst0 := Lib.hid (show ST w4 w4 bf bt bm nv' (g0 at_ BG 0) M0 from ⟨List.replicate nv' 0, List.replicate nv' 0, m0, ⟨hbf.keep hk4, hbt, hm.keep Kw4, by simp, by simp, hml, Ext.refl _ _, by omega⟩, fun v hv => by
  unfold g0; rw [if_neg (by omega), List.getD_eq_getElem?_getD, List.getElem?_replicate, if_pos hv]; rfl, fun v hv => by rw [← hM0]⟩)
 have HM0 := Lib.hid hm
 have HGX := Lib.hid (show (w.heap.size + 1 = bf → False) ∧ (w.heap.size + 1 = bt → False) ∧ (w.heap.size + 1 = bm → False) from ⟨by omega, by omega, by omega⟩)
 have HYW := Lib.hid (show ∀ (wr : World) (G : Nat → Int × Int) (M : Nat → Bool), ST w4 wr bf bt bm nv' G M → BkOk wr y from fun wr G M h => hyk.nb hm ((Kw4.ext _).trans h.ext (fun i hi e => by rcases e with e | e | e <;> first | omega | exact e)))
 have HB := Lib.hid hob
 have HH := Lib.hid hoh
 have HL := Lib.hid hL
 have Hr := Lib.hid hr
 have HKw4 := Lib.hid Kw4
 have Hyk := Lib.hid hyk
 have Hy := Lib.hid hy
 have Hends := Lib.hid hends
 have HBG := Lib.hid hBG
 have HBH := Lib.hid hBH
 have Hobl := Lib.hid hobl
 have Hohl := Lib.hid hohl
 have Hbgk := Lib.hid (show ∀ k, (Value.slice Ab nv' cb).ownBlock = some k → k ≠ bl ∧ k ≠ bm from fun k hk => ⟨hobl2 k hk, fun e => hobm (by rw [hk, e])⟩)
 have Hbhk := Lib.hid (show ∀ k, (Value.slice Ah nv' ch).ownBlock = some k → k ≠ bl ∧ k ≠ bm from fun k hk => ⟨hohl2 k hk, fun e => hohm (by rw [hk, e])⟩)
 have HLl := Lib.hid hLl
 have HLr := Lib.hid hLr
 have Hbase := Lib.hid hbase
 have hbrf : br ≠ bf := by omega
 have hbrt : br ≠ bt := by omega
 have hgf : (w.heap.size + 1) ≠ bf := by omega
 have hgt : (w.heap.size + 1) ≠ bt := by omega
 have hgm : (w.heap.size + 1) ≠ bm := by omega
 have hft : bf ≠ bt := by omega
 have htf : bt ≠ bf := by omega
 have hfm : bf ≠ bm := by omega
 have htm : bt ≠ bm := by omega
 have hmf : bm ≠ bf := by omega
 have hmt : bm ≠ bt := by omega
 have lgx : (w.heap.size + 1) < w4.heap.size := xk.lt
 have HT := Lib.hid (show ∀ q, q < w.heap.size → q ≠ bm → ¬ (q = bf ∨ q = bt ∨ q = bm) from fun q h1 h2 e => by rcases e with e | e | e <;> omega)
 have hyil : y.ins.l.length ≤ maxLen := hyk.insLen
 have hypl : y.params.l.length ≤ maxLen := hyk.params.len
 unfold maxLen at hyil hypl
 obtain ⟨mi, hmi⟩ : ∃ mi, y.ins.l.length = mi := ⟨_, rfl⟩
 obtain ⟨mp, hmp⟩ : ∃ mp, y.params.l.length = mp := ⟨_, rfl⟩
 obtain ⟨yia, hyia⟩ : ∃ q, y.ins.a = q := ⟨_, rfl⟩
 obtain ⟨ypa, hypa⟩ : ∃ q, y.params.a = q := ⟨_, rfl⟩
 have Hmi := Lib.hid hmi
 have Hmp := Lib.hid hmp
 have Hyia := Lib.hid hyia
 have Hypa := Lib.hid hypa
 rw [hmi, hyia] at x1 y1 z1 hW2
 rw [hmi] at hyil hyi
 rw [hmp, hypa] at x0 y0 hW2
 rw [hmp] at hypl
 have sw1 : (0 : Int) ≤ (mi : Int) + 2 := by omega
 have sw2 : (mi : Int) + 2 ≤ 1002 := by omega
 have sw3 : (0 : Int) ≤ 2 * ((mi : Int) + 2) := by omega
 have sw4 : 2 * ((mi : Int) + 2) ≤ 2004 := by omega
 have sw5 : at_ + 2 * ((mi : Int) + 2) ≤ 2006004 := by omega
 have sw6 : (0 : Int) ≤ at_ + 2 * ((mi : Int) + 2) := by omega
 have Hclose := Lib.hid (show Lv.closeV (y.p N) at_ = at_ + 2 * ((mi : Int) + 2) by unfold Lv.closeV; rw [BkD.p_ins, hmi])
 clear hob hoh hL hr hm hml h hs hb hnv hy hop hyk hends hN hBG hBH hM0 hobl hohl hobm hohm hobl2 hohl2 hbf hbt hk2 hk3 hk4 K24 Kw4 xk hx hmi hmp hyia hypa hLl hLr hbase hbll hk
 have XC := Lib.hid (show w4.cell? ⟨w.heap.size + 1, 0, none⟩ = some (.slice ypa mp y.params.c) ∧ w4.cell? ⟨w.heap.size + 1, 1, none⟩ = some (.slice yia mi y.ins.c) ∧ w4.cell? ⟨w.heap.size + 1, 2, none⟩ = some (.int .i64 y.kind) ∧ w4.cell? ⟨w.heap.size + 1, 2 + 1, none⟩ = some (.int .i64 y.cond) ∧ w4.cell? ⟨w.heap.size + 1, 2 + 2, none⟩ = some (.slice y.args.a y.args.l.length y.args.c) ∧ w4.cell? ⟨w.heap.size + 1, 2 + 3, none⟩ = some (.slice y.to.a y.to.l.length y.to.c) ∧ w4.cell? ⟨w.heap.size + 1, 2 + 4, none⟩ = some (.int .i64 y.trap) from ⟨x0, x1, x2, x3, x4, x5, x6⟩)
 have RC := Lib.hid (show w4.cell? ⟨br, 0, none⟩ = some (.slice (some ⟨bl, 0, none⟩) nv' cl) ∧ w4.cell? ⟨br, 1, none⟩ = some (.slice (some ⟨bm, 0, none⟩) nv' cm) from ⟨r0, r1⟩)
 have NE := Lib.hid (show (bt = bf → False) ∧ (bf = bt → False) ∧ (bf = bm → False) ∧ (bm = bf → False) ∧ (bt = bm → False) ∧ (bm = bt → False) ∧ (br = bf → False) ∧ (br = bt → False) ∧ (br = bm → False) ∧ (br = bl → False) ∧ (bm = bl → False) from ⟨htf, hft, hfm, hmf, htm, hmt, hbrf, hbrt, hbm_ne, hbl_ne, hbml⟩)
 have LT := Lib.hid (show w.heap.size + 1 + 1 = bf ∧ bf < bt ∧ br < w.heap.size ∧ bl < w.heap.size ∧ bm < w.heap.size ∧ w.heap.size + 1 < w4.heap.size from ⟨hbfx.symm, hbtf, hbrw, hblw, hbmw, lgx⟩)
 clear x0 x1 x2 x3 x4 x5 x6 r0 r1 htf hft hfm hmf htm hmt hbrf hbrt hbm_ne hbl_ne hbml hbtf hbrw hblw hbmw lgx hbfx hgf hgt hgm e1 e2 hbfe
 go_enter Tryz.func30, Tryz.ntmps30
 go_wp2_with (first | (refine wpList_make_eq rfl _ _ _ rfl _ _ rfl rfl _ _ hmk1 ?_; clear hmk1) | (refine wpList_make_eq rfl _ _ _ rfl _ _ rfl rfl _ _ hmk2 ?_; clear hmk2))
 go_loopw [16, 51] (fun _ vi wr => ∃ k : Nat, k ≤ nv' ∧ vi = .int .i64 k ∧ Hid (ST w4 wr bf bt bm nv' (g0 at_ BG k) (M0))) (fun _ vi _ => nv' - (intOf vi).toNat)
 case atStart => exact ⟨0, Nat.zero_le _, rfl, Lib.hid (Hst0.out)⟩
 case round =>
  obtain ⟨k, hk, rfl, hst⟩ := hrel
  by_cases hink : k < nv'
  ·have k1 : (k : Int) < (nv' : Int) := by omega
   have k0 : (0 : Int) ≤ (k : Int) := by omega
   have hE := hst.out.ext
   have hkb : k < bgl.length := by rw [Hobl.out]; exact hink
   obtain ⟨b1, o1, e1, hb1, qb⟩ := bool_at HB.out.segN.2 HKw4.out hkb
   subst e1
   have hb1m := (Hbgk.out b1 rfl).2
   have hb1f : b1 ≠ bf := by have := LT.out; omega
   have qz := hst.out.cell qb (by show b1 ≠ bf; have := LT.out; omega) (by show b1 ≠ bt; have := LT.out; omega) hb1m
   have hz : bgl[k] = BG k := by rw [← HBG.out]; show _ = bgl.getD k false; rw [List.getD_eq_getElem?_getD, List.getElem?_eq_getElem hkb]; rfl
   rw [hz] at qz
   obtain ⟨z, c1f, _, _, f1f, _, _, l1f, _⟩ := hst.out.at_ hink
   have Hd := Lib.hid (hst.out.setF hink (-1) (G' := fun v => if v = k then (-1, (g0 at_ BG k v).2) else g0 at_ BG k v) (fun _ _ => rfl))
   cases hzk : BG k with
   | false =>
    rw [hzk] at qz
    have Hn := Lib.hid (Hd.out.congr (G' := g0 at_ BG (k + 1)) (M' := M0) (fun v _ => by rw [g0_succ rfl, hzk]; rfl) (fun _ _ => rfl))
    clear Hd hz hzk hE hst qb
    go_wp2
    go_roundw
    case rel => exact ⟨k + 1, hink, by go_num, Lib.hid Hn.out⟩
    case measure => simp [intOf]; omega
   | true =>
    rw [hzk] at qz
    have Hn := Lib.hid (Hd.out.setF hink at_ (G' := g0 at_ BG (k + 1)) (fun v _ => by rw [g0_succ rfl, hzk]; by_cases e : v = k <;> simp [e]))
    have Hn2 := Lib.hid (hst.out.setF hink at_ (G' := g0 at_ BG (k + 1)) (fun v _ => by rw [g0_succ rfl, hzk]; rfl))
    clear Hd hz hzk hE hst qb
    go_wp2
    go_roundw
    case rel => exact ⟨k + 1, hink, by go_num, by first | exact Lib.hid Hn.out | exact Lib.hid Hn2.out⟩
    case measure => simp [intOf]; omega
  ·have hkek : nv' = k := by omega
   subst hkek
   have xx0 := hst.out.cell XC.out.1 HGX.out.1 HGX.out.2.1 HGX.out.2.2
   have lx := Nat.lt_of_lt_of_le LT.out.2.2.2.2.2 hst.out.ext.size
   have H1 := Lib.hid (hst.out.congr (G' := g1 y at_ BG 0) (M' := m1 y M0 0) (fun v hv => g1_start hv) (fun v _ => by unfold m1; simp [nat]))
   clear hst
   go_wp2_with fail
   clear xx0 lx
   go_loopw [18, 69] (fun _ vi wr => ∃ k : Nat, k ≤ mp ∧ vi = .int .i64 k ∧ Hid (ST w4 wr bf bt bm nv' (g1 y at_ BG k) (m1 y M0 k))) (fun _ vi _ => mp - (intOf vi).toNat)
   case atStart => exact ⟨0, Nat.zero_le _, rfl, Lib.hid (H1.out)⟩
   case round =>
    obtain ⟨k, hk, rfl, hst⟩ := hrel
    by_cases hink : k < mp
    ·have k1 : (k : Int) < (mp : Int) := by omega
     have k0 : (0 : Int) ≤ (k : Int) := by omega
     obtain ⟨u, b1, o1, hu, hun, e1, q1, _⟩ := at_row (T := fun _ => False) Hy.out.params (HYW.out _ _ _ hst.out).params.seg (by rw [Hmp.out]; exact hink) (Ext.refl _ _) (fun _ _ _ h => h)
     rw [Hypa.out] at e1
     subst e1
     obtain ⟨z, c1f, c1t, c1m, f1f, f1t, f1m, l1f, l1t, l1m⟩ := hst.out.at_ hun
     have rr := hst.out.cell RC.out.2 (by show br ≠ bf; exact NE.out.2.2.2.2.2.2.1) (by show br ≠ bt; exact NE.out.2.2.2.2.2.2.2.1) (by show br ≠ bm; exact NE.out.2.2.2.2.2.2.2.2.1)
     have Ha := hst.out.setF hun at_ (G' := fun v => if v = u then (at_, (g1 y at_ BG k v).2) else g1 y at_ BG k v) (fun _ _ => rfl)
     have Hc := Ha.setT hun (at_ + 1) (G' := g1 y at_ BG (k + 1)) (fun v _ => by rw [g1_succ hu]; by_cases e : v = u <;> simp [e])
     have Hn := Lib.hid (Hc.setM hun (M' := m1 y M0 (k + 1)) (fun v _ => m1_succ hu))
     have u1 : (u : Int) < (nv' : Int) := by omega
     have u0 : (0 : Int) ≤ (u : Int) := by omega
     have nA : bt ≠ bf := NE.out.1
     have nC : bf ≠ bm := NE.out.2.2.1
     have nE : bt ≠ bm := NE.out.2.2.2.2.1
     have nG : br ≠ bf := NE.out.2.2.2.2.2.2.1
     have nH : br ≠ bt := NE.out.2.2.2.2.2.2.2.1
     have nI : br ≠ bm := NE.out.2.2.2.2.2.2.2.2.1
     clear Ha Hc hst hu
     go_wp2
     go_roundw
     case rel => exact ⟨k + 1, hink, by go_num, Lib.hid Hn.out⟩
     case measure => simp [intOf]; omega
    ·have hkek : mp = k := by omega
     subst hkek
     have xx1 := hst.out.cell XC.out.2.1 HGX.out.1 HGX.out.2.1 HGX.out.2.2
     have lx := Nat.lt_of_lt_of_le LT.out.2.2.2.2.2 hst.out.ext.size
     have H2 := Lib.hid (hst.out.congr (G' := g2 y N at_ BG 0) (M' := m2 y M0 0) (fun v _ => g2_start (by rw [Hmp.out]; omega)) (fun v _ => m2_start (by rw [Hmp.out]; omega)))
     clear hst
     go_wp2_with fail
     clear xx1 lx
     go_loopw [19, 20, 21, 92] (fun _ _ _ vi wr => ∃ k : Nat, k ≤ mi ∧ vi = .int .i64 k ∧ Hid (ST w4 wr bf bt bm nv' (g2 y N at_ BG k) (m2 y M0 k))) (fun _ _ _ vi _ => mi - (intOf vi).toNat)
     case atStart => exact ⟨0, Nat.zero_le _, rfl, Lib.hid (H2.out)⟩
     case round =>
      obtain ⟨k, hk, rfl, hst⟩ := hrel
      by_cases hink : k < mi
      ·have k1 : (k : Int) < (mi : Int) := by omega
       have k0 : (0 : Int) ≤ (k : Int) := by omega
       obtain ⟨ii, hii⟩ := get_some (l := y.ins.l) (k := k) (by rw [Hmi.out]; exact hink)
       have Hii := Lib.hid hii
       have Hmem := Lib.hid (List.mem_of_getElem? hii)
       have HIy := Lib.hid (show (∀ v ∈ ii.args.l, 0 ≤ v ∧ v < (nv' : Int)) ∧ (∀ v ∈ ii.outs.l, 0 ≤ v ∧ v < (nv' : Int)) from ⟨Hy.out.args ii (List.mem_of_getElem? hii), Hy.out.outs ii (List.mem_of_getElem? hii)⟩)
       obtain ⟨Bi, oi, eBi, hBi, _, i0, i1, i2, i3, i4, i5, i6⟩ := in_open (HYW.out _ _ _ hst.out) (Keep.refl _) hii
       rw [Hyia.out] at eBi
       subst eBi
       obtain ⟨W5, hW5, k5, p5, p6, lW5, szW5⟩ := box7 wr 63 (.int .i64 ii.kind) (.int .i64 ii.op) (.int .i64 ii.a) (.int .i64 ii.b) (.int .u64 ii.n) (.slice ii.args.a ii.args.l.length ii.args.c) (.slice ii.outs.a ii.outs.l.length ii.outs.c)
       obtain ⟨l1f, l1t, l1m⟩ := hst.out.lts
       have H3 := Lib.hid ((hst.out.keep k5).congr (G' := g3 y N at_ BG ii k 0) (M' := m2 y M0 k) (fun v _ => g3_start) (fun _ _ => rfl))
       obtain ⟨gb, hgb⟩ : ∃ gb, wr.heap.size = gb := ⟨_, rfl⟩
       rw [hgb] at p5 p6 lW5
       have lgb : gb < W5.heap.size := lW5
       have hgbf : gb ≠ bf := by omega
       have hgbt : gb ≠ bt := by omega
       have hgbm : gb ≠ bm := by omega
       have hmaL : ii.args.l.length ≤ maxLen := (Hyk.out.ins ii Hmem.out).args.len
       unfold maxLen at hmaL
       obtain ⟨ma, hma⟩ : ∃ ma, ii.args.l.length = ma := ⟨_, rfl⟩
       obtain ⟨aa, haa⟩ : ∃ aa, ii.args.a = aa := ⟨_, rfl⟩
       have Hma := Lib.hid hma
       have Haa := Lib.hid haa
       rw [hma] at hmaL p5 i5 hW5
       rw [haa] at p5 i5 hW5
       have t1 : (0 : Int) ≤ (k : Int) + 1 := by omega
       have t2 : (k : Int) + 1 ≤ 1000 := by omega
       have t3 : (0 : Int) ≤ 2 * ((k : Int) + 1) := by omega
       have t4 : 2 * ((k : Int) + 1) ≤ 2000 := by omega
       have t5 : (0 : Int) ≤ at_ + 2 * ((k : Int) + 1) := by omega
       have t6 : at_ + 2 * ((k : Int) + 1) ≤ 2006000 := by omega
       clear hma haa hst hii k5 szW5 lW5
       go_wp2_with fail
       clear hW5 i0 i1 i2 i3 i4 i5 i6
       go_loopw [23, 105] (fun _ vi wr => ∃ j : Nat, j ≤ ma ∧ vi = .int .i64 j ∧ Hid (ST w4 wr bf bt bm nv' (g3 y N at_ BG ii k j) (m2 y M0 k)) ∧ Hid (Ext (fun q => q = bf ∨ q = bt ∨ q = bm) W5 wr)) (fun _ vi _ => ma - (intOf vi).toNat)
       case atStart => exact ⟨0, Nat.zero_le _, rfl, Lib.hid (H3.out), Lib.hid (Ext.refl _ _)⟩
       case round =>
        obtain ⟨j, hj, rfl, hst, hEb⟩ := hrel
        by_cases hinj : j < ma
        ·have j1 : (j : Int) < (ma : Int) := by omega
         have j0 : (0 : Int) ≤ (j : Int) := by omega
         obtain ⟨u, b1, o1, hu, hun, e1, q1, _⟩ := at_row (T := fun _ => False) HIy.out.1 ((HYW.out _ _ _ hst.out).ins ii Hmem.out).args.seg (by rw [Hma.out]; exact hinj) (Ext.refl _ _) (fun _ _ _ h => h)
         rw [Haa.out] at e1
         subst e1
         obtain ⟨z, c1f, c1t, c1m, f1f, f1t, f1m, l1f, l1t, l1m⟩ := hst.out.at_ hun
         have Hn := Lib.hid (hst.out.setT hun (at_ + 2 * ((k : Int) + 1) + 1) (G' := g3 y N at_ BG ii k (j + 1)) (fun v _ => g3_succ hu))
         have HnE := Lib.hid (hEb.out.setCell (p := ⟨bt, u, none⟩) (fun _ => .inr (.inl rfl)) (.int .i64 (at_ + 2 * ((k : Int) + 1) + 1)))
         have u1 : (u : Int) < (nv' : Int) := by omega
         have u0 : (0 : Int) ≤ (u : Int) := by omega
         clear hst hEb hu
         go_wp2
         go_roundw
         case rel => exact ⟨j + 1, hinj, by go_num, Lib.hid Hn.out, Lib.hid HnE.out⟩
         case measure => simp [intOf]; omega
        ·have hkej : ma = j := by omega
         subst hkej
         have p6r := (World.cell?_of_block (hEb.out.block gb lgb (by show ¬ (gb = bf ∨ gb = bt ∨ gb = bm); omega))).trans p6
         have lgr := Nat.lt_of_lt_of_le lgb hEb.out.size
         have H4 := Lib.hid (hst.out.congr (G' := g4 y N at_ BG ii k 0) (M' := m4 y M0 ii k 0) (fun v _ => by rw [g4_start, Hma.out]) (fun v _ => m4_start))
         have hmoL : ii.outs.l.length ≤ maxLen := (Hyk.out.ins ii Hmem.out).outs.len
         unfold maxLen at hmoL
         obtain ⟨mo, hmo⟩ : ∃ mo, ii.outs.l.length = mo := ⟨_, rfl⟩
         obtain ⟨oa, hoa⟩ : ∃ oa, ii.outs.a = oa := ⟨_, rfl⟩
         have Hmo := Lib.hid hmo
         have Hoa := Lib.hid hoa
         rw [hmo] at hmoL p6r
         rw [hoa] at p6r
         clear hmo hoa hst hEb p5 p6
         go_wp2_with fail
         go_loopw [25, 118] (fun _ vi wr => ∃ l : Nat, l ≤ mo ∧ vi = .int .i64 l ∧ Hid (ST w4 wr bf bt bm nv' (g4 y N at_ BG ii k l) (m4 y M0 ii k l))) (fun _ vi _ => mo - (intOf vi).toNat)
         case atStart => exact ⟨0, Nat.zero_le _, rfl, Lib.hid (H4.out)⟩
         case round =>
          obtain ⟨l, hl, rfl, hst⟩ := hrel
          by_cases hinl : l < mo
          ·have l1 : (l : Int) < (mo : Int) := by omega
           have l0 : (0 : Int) ≤ (l : Int) := by omega
           obtain ⟨u, b1, o1, hu, hun, e1, q1, _⟩ := at_row (T := fun _ => False) HIy.out.2 ((HYW.out _ _ _ hst.out).ins ii Hmem.out).outs.seg (by rw [Hmo.out]; exact hinl) (Ext.refl _ _) (fun _ _ _ h => h)
           rw [Hoa.out] at e1
           subst e1
           obtain ⟨z, c1f, c1t, c1m, f1f, f1t, f1m, l1f, l1t, l1m⟩ := hst.out.at_ hun
           have rr := hst.out.cell RC.out.2 (by show br ≠ bf; exact NE.out.2.2.2.2.2.2.1) (by show br ≠ bt; exact NE.out.2.2.2.2.2.2.2.1) (by show br ≠ bm; exact NE.out.2.2.2.2.2.2.2.2.1)
           have Ha := hst.out.setF hun (at_ + 2 * ((k : Int) + 1) + 1) (G' := fun v => if v = u then (at_ + 2 * ((k : Int) + 1) + 1, (g4 y N at_ BG ii k l v).2) else g4 y N at_ BG ii k l v) (fun _ _ => rfl)
           have Hc := Ha.setT hun (at_ + 2 * ((k : Int) + 1) + 2) (G' := g4 y N at_ BG ii k (l + 1)) (fun v _ => by rw [g4_succ hu]; by_cases e : v = u <;> simp [e])
           have Hn := Lib.hid (Hc.setM hun (M' := m4 y M0 ii k (l + 1)) (fun v _ => m4_succ hu))
           have u1 : (u : Int) < (nv' : Int) := by omega
           have u0 : (0 : Int) ≤ (u : Int) := by omega
           have nA : bt ≠ bf := NE.out.1
           have nC : bf ≠ bm := NE.out.2.2.1
           have nE : bt ≠ bm := NE.out.2.2.2.2.1
           have nG : br ≠ bf := NE.out.2.2.2.2.2.2.1
           have nH : br ≠ bt := NE.out.2.2.2.2.2.2.2.1
           have nI : br ≠ bm := NE.out.2.2.2.2.2.2.2.2.1
           clear Ha Hc hst hu
           go_wp2
           go_roundw
           case rel => exact ⟨l + 1, hinl, by go_num, Lib.hid Hn.out⟩
           case measure => simp [intOf]; omega
          ·have hkel : mo = l := by omega
           subst hkel
           have Hn := Lib.hid (hst.out.congr (G' := g2 y N at_ BG (k + 1)) (M' := m2 y M0 (k + 1)) (fun v _ => by rw [g2_succ Hii.out, Hmo.out]) (fun v _ => by rw [m2_succ Hii.out, Hmo.out]))
           clear hst
           go_wp2
           go_roundw
           case rel => exact ⟨k + 1, hink, by go_num, Lib.hid Hn.out⟩
           case measure => simp [intOf]; omega
      ·have hkek : mi = k := by omega
       subst hkek
       have hyw := HYW.out _ _ _ hst.out
       have hen := Hends.out wr hyw
       have Hen := Lib.hid hen
       have xx2 := hst.out.cell XC.out.2.2.1 HGX.out.1 HGX.out.2.1 HGX.out.2.2
       have xx3 := hst.out.cell XC.out.2.2.2.1 HGX.out.1 HGX.out.2.1 HGX.out.2.2
       have xx4 := hst.out.cell XC.out.2.2.2.2.1 HGX.out.1 HGX.out.2.1 HGX.out.2.2
       have xx5 := hst.out.cell XC.out.2.2.2.2.2.1 HGX.out.1 HGX.out.2.1 HGX.out.2.2
       have xx6 := hst.out.cell XC.out.2.2.2.2.2.2 HGX.out.1 HGX.out.2.1 HGX.out.2.2
       have lx := Nat.lt_of_lt_of_le LT.out.2.2.2.2.2 hst.out.ext.size
       obtain ⟨l1f, l1t, l1m⟩ := hst.out.lts
       have Hstx := Lib.hid hst.out
       clear hyw hen hst
       go_wp2_with fail
       refine Hen.out.mono ?_
       clear Hen
       rintro e w5 ⟨v5, rfl, hown5, hk5⟩
       obtain ⟨A5, c5, rfl, hl5, hc5⟩ := hown5.form
       have H5 := Lib.hid ((Hstx.out.keep hk5).congr (G' := g5 y N at_ BG 0) (M' := m2 y M0 mi) (fun v _ => by rw [g5_start, Hmi.out]) (fun _ _ => rfl))
       have Hseg5 := Lib.hid hown5.segN.2
       have Haw5 := Lib.hid (show ∀ ad, A5 = some ad → ¬ (ad.block = bf ∨ ad.block = bt ∨ ad.block = bm) from fun ad ha => by have := hown5.addr_ge ha; omega)
       have hmeL : y.endsI.length ≤ maxLen := Nat.le_trans hl5 hc5
       unfold maxLen at hmeL
       obtain ⟨me, hme⟩ : ∃ me, y.endsI.length = me := ⟨_, rfl⟩
       have Hme := Lib.hid hme
       rw [hme] at hmeL ⊢
       clear hown5 hk5 hl5 hc5 hme xx2 xx3 xx4 xx5 xx6 lx
       go_wp2_with fail
       go_loopw [27, 144] (fun _ vi wr => ∃ k : Nat, k ≤ me ∧ vi = .int .i64 k ∧ Hid (ST w4 wr bf bt bm nv' (g5 y N at_ BG k) (m2 y M0 mi)) ∧ Hid (Ext (fun q => q = bf ∨ q = bt ∨ q = bm) w5 wr)) (fun _ vi _ => me - (intOf vi).toNat)
       case atStart => exact ⟨0, Nat.zero_le _, rfl, Lib.hid (H5.out), Lib.hid (Ext.refl _ _)⟩
       case round =>
        obtain ⟨k, hk, rfl, hst, hEb⟩ := hrel
        by_cases hink : k < me
        ·have k1 : (k : Int) < (me : Int) := by omega
         have k0 : (0 : Int) ≤ (k : Int) := by omega
         obtain ⟨u, b1, o1, hu, hun, e1, q1, _⟩ := at_row (T := fun q => q = bf ∨ q = bt ∨ q = bm) Hy.out.ends Hseg5.out (by rw [Hme.out]; exact hink) hEb.out (fun ad ha hl => Haw5.out ad ha)
         subst e1
         obtain ⟨z, c1f, c1t, c1m, f1f, f1t, f1m, l1f, l1t, l1m⟩ := hst.out.at_ hun
         have Hn := Lib.hid (hst.out.setT hun (at_ + 2 * ((mi : Int) + 2) - 1) (G' := g5 y N at_ BG (k + 1)) (fun v _ => by rw [g5_succ hu, Hclose.out]))
         have HnE := Lib.hid (hEb.out.setCell (p := ⟨bt, u, none⟩) (fun _ => .inr (.inl rfl)) (.int .i64 (at_ + 2 * ((mi : Int) + 2) - 1)))
         have u1 : (u : Int) < (nv' : Int) := by omega
         have u0 : (0 : Int) ≤ (u : Int) := by omega
         clear hst hEb hu
         go_wp2
         go_roundw
         case rel => exact ⟨k + 1, hink, by go_num, Lib.hid Hn.out, Lib.hid HnE.out⟩
         case measure => simp [intOf]; omega
        ·have hkek : me = k := by omega
         subst hkek
         have hEw : Ext (fun q => q = bm) w wr := ((HKw4.out.ext _).trans hst.out.ext (fun i hi e => by have := LT.out; rcases e with e | e | e <;> first | omega | exact e))
         have HF := Lib.hid (show FSt w wr bf bt bm bl base nv' (g5 y N at_ BG me) (m2 y M0 mi) (addK y N at_ BG BH L 0) 0 from by
          rw [addK_zero]
          exact FSt.start hst.out HKw4.out (by have := LT.out; omega) (by have := LT.out; omega) HL.out NE.out.2.2.2.2.2.2.2.2.2.2 HM0.out)
         clear hst hEb hEw
         go_wp2_with fail
         go_loopw [28, 156] (fun _ vi wr => ∃ k : Nat, k ≤ nv' ∧ vi = .int .i64 k ∧ Hid (FSt w wr bf bt bm bl base nv' (g5 y N at_ BG me) (m2 y M0 mi) (addK y N at_ BG BH L k) k)) (fun _ vi _ => nv' - (intOf vi).toNat)
         case atStart => exact ⟨0, Nat.zero_le _, rfl, HF⟩
         case round =>
          clear HF
          obtain ⟨k, hk, rfl, hfs⟩ := hrel
          by_cases hink : k < nv'
          ·have k1 : (k : Int) < (nv' : Int) := by omega
           have k0 : (0 : Int) ≤ (k : Int) := by omega
           have hkb : k < bhl.length := by rw [Hohl.out]; exact hink
           obtain ⟨b1, o1, e1, hb1, qz⟩ := bool_at (HH.out.rngS hfs.out.ext Hbhk.out (by decide)).segN.2 (Keep.refl _) hkb
           subst e1
           have hz : bhl[k] = BH k := by rw [← HBH.out]; show _ = bhl.getD k false; rw [List.getD_eq_getElem?_getD, List.getElem?_eq_getElem hkb]; rfl
           rw [hz] at qz
           have hg6 := g6_eq (y := y) (n := N) (at_ := at_) (bg := BG) (v := k) BH (Nat.le_of_eq Hme.out)
           obtain ⟨F, hF⟩ : ∃ F, (g5 y N at_ BG me k).1 = F := ⟨_, rfl⟩
           cases hzk : BH k with
           | false =>
            rw [hzk] at qz hg6
            obtain ⟨T, hT⟩ : ∃ T, (g5 y N at_ BG me k).2 = T := ⟨_, rfl⟩
            obtain ⟨c1f, c1t, f1t, l1f, l1t⟩ := hfs.out.at_ hink
            rw [hF] at c1f
            rw [hT] at c1t
            have Hrange := Lib.hid (show Lv.rangeP (y.p N) k at_ (BG k) (BH k) = if 0 ≤ F ∧ F < T then some (F, T) else none from by
             have e : g6 y N at_ BG BH k = (F, T) := by rw [hg6, ← hF, ← hT]; rfl
             show (if 0 ≤ (g6 y N at_ BG BH k).1 ∧ (g6 y N at_ BG BH k).1 < (g6 y N at_ BG BH k).2 then some (g6 y N at_ BG BH k) else none) = _
             rw [e])
            clear hg6 hF hT hz hzk
            have HnS := Lib.hid (show ∀ n : Nat, Lv.rangeP (y.p N) k at_ (BG k) (BH k) = none → FSt w (wr.drewN n) bf bt bm bl base nv' (g5 y N at_ BG me) (m2 y M0 mi) (addK y N at_ BG BH L (k + 1)) (k + 1) from fun n hn => ((hfs.out.keep ((Keep.refl _).drewN n)).skip (addK_none hn)).congr (fun v hv _ => by rfl))
            have HnA := Lib.hid (show ∀ n : Nat, Lv.rangeP (y.p N) k at_ (BG k) (BH k) = some (F, T) → Calls Tryz.prog 51 #[.pointer (some ⟨br, 0, none⟩), .int .i64 (k : Int), .int .i64 F, .int .i64 T] ((wr.drewN n).drew) (fun e w' => (∃ u, e = .returned u) ∧ FSt w w' bf bt bm bl base nv' (g5 y N at_ BG me) (m2 y M0 mi) (addK y N at_ BG BH L (k + 1)) (k + 1)) from fun n hn => by
             have hfa := hfs.out.keep (((Keep.refl wr).drewN n).drew)
             have hkL : k < L.length := by rw [HLl.out]; exact hink
             have nbl : bf ≠ bl ∧ bt ≠ bl := by have := LT.out; omega
             refine (add_calls (addK y N at_ BG BH L k) br bl bl base nv' cl k F T _ [.slice (some ⟨bm, 0, none⟩) nv' cm] (Blk.rngS Hr.out hfa.ext NE.out.2.2.2.2.2.2.2.2.2.1 NE.out.2.2.2.2.2.2.2.2.1 (by decide)) hfa.rows (by rw [addK_len]; exact HLl.out) hink (fun l hl => by have := addK_row HLr.out l hl; omega) (Nat.le_trans Hbase.out hfa.ext.size)).mono ?_
             rintro e w' ⟨h1, h2, h3⟩
             rw [addK_some hkL hn] at h2
             exact ⟨h1, (hfa.add (h3.mono fun i _ e => by rcases e with e | e | e <;> first | exact .inl e | exact .inr (.inr e)) h2 (fun ml hb => Blk.rngS hb h3 NE.out.2.2.2.2.2.2.2.2.2.2 NE.out.2.2.2.2.2.2.2.2.2.2 (by decide)) ⟨nbl.1, NE.out.2.2.1⟩ ⟨nbl.2, NE.out.2.2.2.2.1⟩).congr (fun v hv _ => by rfl)⟩)
            clear hfs
            by_cases a1 : 0 ≤ F
            ·by_cases a2 : F < T
             ·have Hadd := Lib.hid (fun n => HnA.out n (Hrange.out.trans (if_pos ⟨a1, a2⟩)))
              clear HnA HnS Hrange
              go_wp2_with fail
              go_quiet (fail)
              go_wp2_with fail
              obtain ⟨wq, hwq⟩ : ∃ wq, wr.drewN nq = wq := ⟨_, rfl⟩
              have Hadd := Hadd.out nq
              have v1 : wq.cell? ⟨bf, k, none⟩ = some (.int .i64 F) := by rw [← hwq]; exact c1f
              have v2 : wq.cell? ⟨bt, k, none⟩ = some (.int .i64 T) := by rw [← hwq]; exact c1t
              have v3 : bf < wq.heap.size := by rw [← hwq]; exact l1f
              have v4 : bt < wq.heap.size := by rw [← hwq]; exact l1t
              rw [hwq] at Hadd ⊢
              have Hadd := Lib.hid Hadd
              clear hwq c1f c1t l1f l1t
              go_still_tail 10, (by kernel_rfl)
              change wpList _ _ _ _ _ wq.drew
              go_wp2_with fail
              refine Hadd.out.mono ?_
              clear Hadd
              rintro e w6 ⟨⟨u6, rfl⟩, hf6⟩
              have Hn := Lib.hid hf6
              clear hf6
              go_wp2
              go_roundw
              case rel => exact ⟨k + 1, hink, by go_num, Hn⟩
              case measure => simp [intOf]; omega
             ·have a2d : decide (F < T) = false := decide_eq_false a2
              have Hn := Lib.hid (fun n => HnS.out n (Hrange.out.trans (if_neg (fun h => a2 h.2))))
              clear HnA HnS Hrange
              go_wp2_with fail
              go_quiet (fail)
              go_wp2
              go_roundw
              case rel => exact ⟨k + 1, hink, by go_num, Lib.hid (Hn.out _)⟩
              case measure => simp [intOf]; omega
            ·have a1d : decide (0 ≤ F) = false := decide_eq_false a1
             have Hn := Lib.hid (fun n => HnS.out n (Hrange.out.trans (if_neg (fun h => a1 h.1))))
             clear HnA HnS Hrange
             go_wp2_with fail
             go_quiet (fail)
             go_wp2
             go_roundw
             case rel => exact ⟨k + 1, hink, by go_num, Lib.hid (Hn.out _)⟩
             case measure => simp [intOf]; omega
           | true =>
            rw [hzk] at qz hg6
            obtain ⟨c1f, c1t, f1t, l1f, l1t⟩ := hfs.out.at_ hink
            rw [hF] at c1f
            have hf2 := hfs.out.put hink (by have := LT.out; omega) NE.out.2.1 (by have := LT.out; omega) (at_ + 2 * ((mi : Int) + 2))
            have Hrange := Lib.hid (show Lv.rangeP (y.p N) k at_ (BG k) (BH k) = if 0 ≤ F ∧ F < (at_ + 2 * ((mi : Int) + 2)) then some (F, (at_ + 2 * ((mi : Int) + 2))) else none from by
             have e : g6 y N at_ BG BH k = (F, (at_ + 2 * ((mi : Int) + 2))) := by rw [hg6, Hclose.out, ← hF]; rfl
             show (if 0 ≤ (g6 y N at_ BG BH k).1 ∧ (g6 y N at_ BG BH k).1 < (g6 y N at_ BG BH k).2 then some (g6 y N at_ BG BH k) else none) = _
             rw [e])
            obtain ⟨wc, hwc⟩ : ∃ wc, wr.setCell ⟨bt, k, none⟩ (.int .i64 (at_ + 2 * ((mi : Int) + 2))) = wc := ⟨_, rfl⟩
            rw [hwc] at hf2
            obtain ⟨d1f, d1t, _, m1f, m1t⟩ := hf2.at_ hink
            replace d1f : wc.cell? ⟨bf, k, none⟩ = some (.int .i64 F) := by rw [d1f, if_pos rfl, hF]
            replace d1t : wc.cell? ⟨bt, k, none⟩ = some (.int .i64 (at_ + 2 * ((mi : Int) + 2))) := by rw [d1t, if_pos rfl]
            have Hf2 := Lib.hid hf2
            have Hwc := Lib.hid hwc
            clear hg6 hF hz hzk hfs hf2 hwc
            go_wp2_with fail
            rw [Hwc.out]
            clear c1f c1t f1t l1f l1t qz Hwc
            have HnS := Lib.hid (show ∀ n : Nat, Lv.rangeP (y.p N) k at_ (BG k) (BH k) = none → FSt w (wc.drewN n) bf bt bm bl base nv' (g5 y N at_ BG me) (m2 y M0 mi) (addK y N at_ BG BH L (k + 1)) (k + 1) from fun n hn => ((Hf2.out.keep ((Keep.refl _).drewN n)).skip (addK_none hn)).congr (fun v hv _ => by show _ = (if v = k then _ else _); rw [if_neg (by omega)]))
            have HnA := Lib.hid (show ∀ n : Nat, Lv.rangeP (y.p N) k at_ (BG k) (BH k) = some (F, (at_ + 2 * ((mi : Int) + 2))) → Calls Tryz.prog 51 #[.pointer (some ⟨br, 0, none⟩), .int .i64 (k : Int), .int .i64 F, .int .i64 (at_ + 2 * ((mi : Int) + 2))] ((wc.drewN n).drew) (fun e w' => (∃ u, e = .returned u) ∧ FSt w w' bf bt bm bl base nv' (g5 y N at_ BG me) (m2 y M0 mi) (addK y N at_ BG BH L (k + 1)) (k + 1)) from fun n hn => by
             have hfa := Hf2.out.keep (((Keep.refl wc).drewN n).drew)
             have hkL : k < L.length := by rw [HLl.out]; exact hink
             have nbl : bf ≠ bl ∧ bt ≠ bl := by have := LT.out; omega
             refine (add_calls (addK y N at_ BG BH L k) br bl bl base nv' cl k F (at_ + 2 * ((mi : Int) + 2)) _ [.slice (some ⟨bm, 0, none⟩) nv' cm] (Blk.rngS Hr.out hfa.ext NE.out.2.2.2.2.2.2.2.2.2.1 NE.out.2.2.2.2.2.2.2.2.1 (by decide)) hfa.rows (by rw [addK_len]; exact HLl.out) hink (fun l hl => by have := addK_row HLr.out l hl; omega) (Nat.le_trans Hbase.out hfa.ext.size)).mono ?_
             rintro e w' ⟨h1, h2, h3⟩
             rw [addK_some hkL hn] at h2
             exact ⟨h1, (hfa.add (h3.mono fun i _ e => by rcases e with e | e | e <;> first | exact .inl e | exact .inr (.inr e)) h2 (fun ml hb => Blk.rngS hb h3 NE.out.2.2.2.2.2.2.2.2.2.2 NE.out.2.2.2.2.2.2.2.2.2.2 (by decide)) ⟨nbl.1, NE.out.2.2.1⟩ ⟨nbl.2, NE.out.2.2.2.2.1⟩).congr (fun v hv _ => by show _ = (if v = k then _ else _); rw [if_neg (by omega)])⟩)
            clear Hf2
            by_cases a1 : 0 ≤ F
            ·by_cases a2 : F < (at_ + 2 * ((mi : Int) + 2))
             ·have Hadd := Lib.hid (fun n => HnA.out n (Hrange.out.trans (if_pos ⟨a1, a2⟩)))
              clear HnA HnS Hrange
              go_wp2_with fail
              go_quiet (fail)
              go_wp2_with fail
              obtain ⟨wq, hwq⟩ : ∃ wq, wc.drewN nq = wq := ⟨_, rfl⟩
              have Hadd := Hadd.out nq
              have v1 : wq.cell? ⟨bf, k, none⟩ = some (.int .i64 F) := by rw [← hwq]; exact d1f
              have v2 : wq.cell? ⟨bt, k, none⟩ = some (.int .i64 (at_ + 2 * ((mi : Int) + 2))) := by rw [← hwq]; exact d1t
              have v3 : bf < wq.heap.size := by rw [← hwq]; exact m1f
              have v4 : bt < wq.heap.size := by rw [← hwq]; exact m1t
              rw [hwq] at Hadd ⊢
              have Hadd := Lib.hid Hadd
              clear hwq d1f d1t m1f m1t
              go_still_tail 10, (by kernel_rfl)
              change wpList _ _ _ _ _ wq.drew
              go_wp2_with fail
              refine Hadd.out.mono ?_
              clear Hadd
              rintro e w6 ⟨⟨u6, rfl⟩, hf6⟩
              have Hn := Lib.hid hf6
              clear hf6
              go_wp2
              go_roundw
              case rel => exact ⟨k + 1, hink, by go_num, Hn⟩
              case measure => simp [intOf]; omega
             ·have a2d : decide (F < (at_ + 2 * ((mi : Int) + 2))) = false := decide_eq_false a2
              have Hn := Lib.hid (fun n => HnS.out n (Hrange.out.trans (if_neg (fun h => a2 h.2))))
              clear HnA HnS Hrange
              go_wp2_with fail
              go_quiet (fail)
              go_wp2
              go_roundw
              case rel => exact ⟨k + 1, hink, by go_num, Lib.hid (Hn.out _)⟩
              case measure => simp [intOf]; omega
            ·have a1d : decide (0 ≤ F) = false := decide_eq_false a1
             have Hn := Lib.hid (fun n => HnS.out n (Hrange.out.trans (if_neg (fun h => a1 h.1))))
             clear HnA HnS Hrange
             go_wp2_with fail
             go_quiet (fail)
             go_wp2
             go_roundw
             case rel => exact ⟨k + 1, hink, by go_num, Lib.hid (Hn.out _)⟩
             case measure => simp [intOf]; omega
          ·have hkek : nv' = k := by omega
           subst hkek
           have Hfin := Lib.hid (show RgRows wr bl base (addK y N at_ BG BH L nv') ∧ (∃ m', BBlk wr bm 4 m' ∧ m'.length = nv' ∧ ∀ v, v < nv' → m'.getD v false = m2 y M0 y.ins.l.length v) ∧ Ext (RngS base bl bm w) w wr from ⟨hfs.out.rows, by rw [Hmi.out]; exact hfs.out.marks, hfs.out.ext⟩)
           clear hfs
           go_wp2
           refine bodyPost_end (results_none rfl _ _ _) rfl ⟨⟨_, rfl⟩, Hfin.out.1, Hfin.out.2.1, Hfin.out.2.2⟩
end Go.Proofs.YtjpmiejgcnfiiaaGreat
