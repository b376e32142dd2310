/-
  Words on memory that all walks of this seat use: what stays when blocks are made or some are written, rows of cells, maps. No program in sight.
-/
import Derived.WalkKit
import Derived.Maps.OwnSet
import Derived.Lib.Hide
import Derived.DeepKeys4
import Derived.Deep.Draws
import Derived.Maps.AppendAt
import Derived.Deep.LoopGhost
set_option linter.unusedVariables false
set_option linter.unusedSimpArgs false
namespace Go.Proofs.Ytjpmiejgcnfiiaa
open Go Go.RowKit

/-! ### What stays -/

/-- w' is w with new blocks, and with changes to old blocks of S alone. -/
structure Ext (S : Nat → Prop) (w w' : World) : Prop where
  os : w'.os = w.os
  tape : w'.tape = w.tape
  output : w'.output = w.output
  size : w.heap.size ≤ w'.heap.size
  block : ∀ k, k < w.heap.size → ¬ S k → w'.heap[k]? = w.heap[k]?

theorem Ext.refl (S : Nat → Prop) (w : World) : Ext S w w := ⟨rfl, rfl, rfl, Nat.le_refl _, fun _ _ _ => rfl⟩
theorem Ext.trans {S T : Nat → Prop} {a b c : World} (h : Ext S a b) (k : Ext T b c) (hs : ∀ i, i < a.heap.size → T i → S i) : Ext S a c :=
  ⟨k.os.trans h.os, k.tape.trans h.tape, k.output.trans h.output, Nat.le_trans h.size k.size,
   fun i hi hn => (k.block i (Nat.lt_of_lt_of_le hi h.size) (fun t => hn (hs i hi t))).trans (h.block i hi hn)⟩
theorem Ext.mono {S T : Nat → Prop} {a b : World} (h : Ext S a b) (hs : ∀ i, i < a.heap.size → S i → T i) : Ext T a b :=
  ⟨h.os, h.tape, h.output, h.size, fun i hi hn => h.block i hi (fun s => hn (hs i hi s))⟩
theorem Ext.drew {S : Nat → Prop} {a w : World} (h : Ext S a w) : Ext S a w.drew := ⟨h.os, h.tape, h.output, h.size, h.block⟩
theorem Ext.drewN {S : Nat → Prop} {a w : World} (h : Ext S a w) (n : Nat) : Ext S a (w.drewN n) := ⟨h.os, h.tape, h.output, h.size, h.block⟩
theorem Ext.alloc {S : Nat → Prop} {a w : World} (h : Ext S a w) (o : Obj) : Ext S a (w.alloc o) :=
  ⟨h.os, h.tape, h.output, Nat.le_trans h.size (by simp), fun i hi hn => (Below.heap_alloc w o i (Nat.lt_of_lt_of_le hi h.size)).trans (h.block i hi hn)⟩
theorem Ext.setCell {S : Nat → Prop} {a w : World} (h : Ext S a w) {p : Addr} (hp : p.block < a.heap.size → S p.block) (u : Value) : Ext S a (w.setCell p u) :=
  ⟨h.os, h.tape, h.output, by simpa [World.setCell] using h.size, fun i hi hn => (Below.heap_setCell w p u i (by rintro rfl; exact hn (hp hi))).trans (h.block i hi hn)⟩
theorem Ext.of_grown {w w' : World} {row : Option Nat} (h : w.grownBy w' row) : Ext (fun k => row = some k) w w' :=
  ⟨h.os, h.tape, h.output, h.size, fun i hi hn => h.block i hi (fun e => hn e.symm)⟩
theorem Ext.grown {S : Nat → Prop} {a w w' : World} {row : Option Nat} (h : Ext S a w) (hg : w.grownBy w' row) (hr : ∀ k, row = some k → k < a.heap.size → S k) : Ext S a w' :=
  h.trans (Ext.of_grown hg) fun i hi e => hr i e hi
theorem Ext.of_below {B : Nat} {w w' : World} (h : Below B w w') : Ext (fun k => B ≤ k) w w' :=
  ⟨h.os, h.tape, h.output, h.size, fun i _ hn => h.block i (by omega)⟩
theorem Ext.below {B : Nat} {S : Nat → Prop} {w w' : World} (h : Ext S w w') (hB : B ≤ w.heap.size) (hs : ∀ k, k < B → ¬ S k) : Below B w w' :=
  ⟨h.os, h.tape, h.output, h.size, fun i hi => h.block i (by omega) (hs i hi)⟩

/-- Nothing that was there has changed. -/
abbrev Keep (w w' : World) : Prop := Below w.heap.size w w'
theorem Keep.refl (w : World) : Keep w w := Below.refl _ _
theorem Keep.trans {a b c : World} (h : Keep a b) (k : Keep b c) : Keep a c := Below.trans h (k.mono h.size)
theorem Keep.drew {a w : World} (h : Keep a w) : Keep a w.drew := Below.drew h
theorem Keep.drewN {a w : World} (h : Keep a w) (n : Nat) : Keep a (w.drewN n) := ⟨h.os, h.tape, h.output, h.size, h.block⟩
theorem Keep.alloc {a w : World} (h : Keep a w) (o : Obj) : Keep a (w.alloc o) := Below.alloc h h.size o
theorem Keep.setCell {a w : World} (h : Keep a w) {p : Addr} (hp : a.heap.size ≤ p.block) (u : Value) : Keep a (w.setCell p u) := Below.setCell h hp u
theorem Keep.cell {a w : World} (h : Keep a w) {p : Addr} {v : Value} (hc : a.cell? p = some v) : w.cell? p = some v :=
  (Below.cell h (World.block_lt_of_cell? a p hc)).trans hc
theorem Keep.grown {a w w' : World} {row : Option Nat} (h : Keep a w) (hg : w.grownBy w' row) (hr : ∀ k, row = some k → a.heap.size ≤ k) : Keep a w' := Below.grown h hg h.size hr
theorem Keep.ext {a w : World} (h : Keep a w) (S : Nat → Prop) : Ext S a w := ⟨h.os, h.tape, h.output, h.size, fun k hk _ => h.block k hk⟩
theorem Ext.keepTrans {S : Nat → Prop} {a b c : World} (h : Ext S a b) (k : Keep b c) : Ext S a c := h.trans (k.ext (fun _ => False)) (fun _ _ hf => hf.elim)
theorem Keep.heap {a w : World} (h : Keep a w) {k : Nat} {o : Obj} (hc : a.heap[k]? = some o) : w.heap[k]? = some o := by
  rcases Nat.lt_or_ge k a.heap.size with hlt | hge
  · exact (h.block k hlt).trans hc
  · rw [Array.getElem?_eq_none hge] at hc; cases hc

/-! ### A row of cells -/

/-- From A on lie the cells xs (A: whatever, where xs is empty). -/
def Seg (w : World) (A : Option Addr) (xs : List Value) : Prop :=
  ∀ j u, xs[j]? = some u → ∃ ad, A = some ad ∧ w.cell? (ad.add j) = some u

theorem add_block (a : Addr) (n : Nat) : (a.add n).block = a.block := by unfold Addr.add; split <;> rfl
theorem add_add' (a : Addr) (i j : Nat) : (a.add i).add j = a.add (i + j) := by
  unfold Addr.add
  by_cases hi : i = 0 <;> by_cases hj : j = 0 <;> simp [hi, hj, Nat.add_assoc]

theorem Seg.nil (w : World) (A : Option Addr) : Seg w A [] := fun j u h => by simp at h
theorem Seg.keepAll {w w' : World} {A : Option Addr} {xs : List Value} (h : Seg w A xs) (hk : ∀ p v, w.cell? p = some v → w'.cell? p = some v) : Seg w' A xs := fun j u hu => by
  obtain ⟨ad, e, hc⟩ := h j u hu
  exact ⟨ad, e, hk _ _ hc⟩
theorem Seg.keep {w w' : World} {A : Option Addr} {xs : List Value} (h : Seg w A xs) (hk : Keep w w') : Seg w' A xs := h.keepAll fun _ _ hc => hk.cell hc
theorem Seg.ext {S : Nat → Prop} {w w' : World} {A : Option Addr} {xs : List Value} (h : Seg w A xs) (hk : Ext S w w') (hs : ∀ ad, A = some ad → ad.block < w.heap.size → ¬ S ad.block) : Seg w' A xs := fun j u hu => by
  obtain ⟨ad, e, hc⟩ := h j u hu
  have hlt := World.block_lt_of_cell? w _ hc
  rw [add_block] at hlt
  exact ⟨ad, e, (World.cell?_of_block (by rw [add_block]; exact hk.block _ hlt (hs ad e hlt))).trans hc⟩
theorem Seg.drop {w : World} {A : Option Addr} {xs : List Value} (h : Seg w A xs) (k : Nat) : Seg w (A.map (·.add k)) (xs.drop k) := fun j u hu => by
  rw [List.getElem?_drop] at hu
  obtain ⟨ad, e, hc⟩ := h _ u hu
  exact ⟨ad.add k, by rw [e]; rfl, by rw [add_add']; exact hc⟩
theorem Seg.take {w : World} {A : Option Addr} {xs : List Value} (h : Seg w A xs) (k : Nat) : Seg w A (xs.take k) := fun j u hu => by
  rw [List.getElem?_take] at hu
  split at hu
  · exact h j u hu
  · cases hu
theorem Seg.at_ {w : World} {A : Option Addr} {xs : List Value} (h : Seg w A xs) {j : Nat} (hj : j < xs.length) : ∃ ad, A = some ad ∧ w.cell? (ad.add j) = some xs[j] :=
  h j _ (List.getElem?_eq_getElem hj)
/-- The address, written out, of a row that is not empty. -/
theorem Seg.addr {w : World} {A : Option Addr} {xs : List Value} (h : Seg w A xs) (hx : 0 < xs.length) : ∃ b off, A = some ⟨b, off, none⟩ ∧ b < w.heap.size ∧ ∀ j u, xs[j]? = some u → w.cell? ⟨b, off + j, none⟩ = some u := by
  obtain ⟨ad, e, hc⟩ := h.at_ hx
  have hlt := World.block_lt_of_cell? w _ hc
  rw [add_block] at hlt
  obtain ⟨b, off, spot⟩ := ad
  have hsp : spot = none := by simpa [Addr.add] using World.cell?_spot hc
  subst hsp
  refine ⟨b, off, e, hlt, fun j u hu => ?_⟩
  obtain ⟨ad', e', hc'⟩ := h j u hu
  rw [e] at e'
  cases e'
  have : (⟨b, off, none⟩ : Addr).add j = ⟨b, off + j, none⟩ := by unfold Addr.add; split <;> simp_all
  rwa [this] at hc'
theorem Seg.of_own {w : World} {base : Nat} {e : TypeId} {size n : Nat} {A : Option Addr} {c : Nat} {xs : List Value} (h : w.ownsRow base e size (.slice A n c) n xs) : Seg w A xs := fun j u hu => by
  rcases h.2 with ⟨hv, hn⟩ | ⟨g, cap, cur, hv, _, hh, _⟩
  · have : xs = [] := List.eq_nil_of_length_eq_zero (by rw [h.1, hn]; omega)
    subst this; simp at hu
  · have hA : A = some ⟨g, 0, none⟩ := by injection hv
    subst hA
    exact ⟨_, rfl, h.cells (g := g) rfl j u hu⟩

/-! ### Rows of elements -/

theorem flat_get {α : Type} (f : α → List Value) (s : Nat) (hf : ∀ x, (f x).length = s) : ∀ (l : List α) (k j : Nat) (hk : k < l.length), j < s → (l.flatMap f)[k * s + j]? = (f l[k])[j]?
  | [], k, j, hk, _ => by simp at hk
  | x :: l, 0, j, _, hj => by
    rw [List.flatMap_cons, List.getElem?_append_left (by rw [hf]; omega)]; simp
  | x :: l, k + 1, j, hk, hj => by
    rw [List.flatMap_cons, List.getElem?_append_right (by rw [hf]; rw [Nat.add_mul]; omega), hf]
    have := flat_get f s hf l k j (by simpa using hk) hj
    rw [show (k + 1) * s + j - s = k * s + j by rw [Nat.add_mul]; omega]
    simpa using this

theorem flat_length {α : Type} (f : α → List Value) (s : Nat) (hf : ∀ x, (f x).length = s) (l : List α) : (l.flatMap f).length = l.length * s := by
  induction l with
  | nil => simp
  | cons x l ih => rw [List.flatMap_cons, List.length_append, ih, hf, List.length_cons, Nat.add_mul]; omega

theorem flat_take {α : Type} (f : α → List Value) (s : Nat) (hf : ∀ x, (f x).length = s) : ∀ (l : List α) (k : Nat), (l.flatMap f).take (k * s) = (l.take k).flatMap f
  | [], k => by simp
  | x :: l, 0 => by simp
  | x :: l, k + 1 => by
    rw [List.flatMap_cons, List.take_succ_cons, List.flatMap_cons, Nat.add_mul, Nat.one_mul, List.take_append, hf, Nat.add_sub_cancel, flat_take f s hf l k, List.take_of_length_le (by rw [hf]; omega)]

theorem flat_drop {α : Type} (f : α → List Value) (s : Nat) (hf : ∀ x, (f x).length = s) : ∀ (l : List α) (k : Nat), (l.flatMap f).drop (k * s) = (l.drop k).flatMap f
  | [], k => by simp
  | x :: l, 0 => by simp
  | x :: l, k + 1 => by
    rw [List.flatMap_cons, List.drop_succ_cons, Nat.add_mul, Nat.one_mul, List.drop_append, hf, Nat.add_sub_cancel, flat_drop f s hf l k, List.drop_of_length_le (by rw [hf]; omega), List.nil_append]

/-- The k-th element of a row that is not empty. -/
theorem Seg.elem {α : Type} {f : α → List Value} (s : Nat) (hf : ∀ x, (f x).length = s) {w : World} {A : Option Addr} {l : List α} (h : Seg w A (l.flatMap f)) (h0 : 0 < s) {k : Nat} (hk : k < l.length) :
    ∃ b off, A = some ⟨b, off, none⟩ ∧ b < w.heap.size ∧ ∀ j u, (f l[k])[j]? = some u → w.cell? ⟨b, off + (k * s + j), none⟩ = some u := by
  have hlen : 0 < (l.flatMap f).length := by rw [flat_length f s hf]; exact Nat.mul_pos (by omega) h0
  obtain ⟨b, off, e, hb, hc⟩ := h.addr hlen
  refine ⟨b, off, e, hb, fun j u hu => hc _ u ?_⟩
  have hj : j < s := by
    have := (List.getElem?_eq_some_iff.1 hu).1
    rwa [hf] at this
  rw [flat_get f s hf l k j hk hj, hu]

/-- The number fits an int. -/
abbrev W64 (n : Int) : Prop := (Lit.int .i64 n).wf = true

/-- A key that is a struct of a bool and an int. -/
theorem key_two {P : Program} {k : TypeId} {f0 f1 : Field} (hu : P.underlying k = some (.struct #[f0, f1])) (hkt : P.keyType k = true) (hc : P.cellsOf k = 2)
    (h0 : P.underlying f0.type = some .bool) (h1 : P.underlying f1.type = some (.int .i64)) (hc0 : P.cellsOf f0.type = 1) (hc1 : P.cellsOf f1.type = 1)
    (ho0 : f0.offset = 0) (ho1 : f1.offset = 1) (hn0 : f0.name ≠ "_") (hn1 : f1.name ≠ "_") (ht : 0 < P.types.size) (a : Bool) (n : Int) (h : W64 n) :
    keyOf P k (.agg #[.bool a, .int .i64 n]) = some (.string (keyBytes [.bool a, .int .i64 n])) := by
  obtain ⟨m, hm⟩ : ∃ m, P.types.size = m + 1 := ⟨P.types.size - 1, by omega⟩
  simp [keyOf, hu, hkt, Value.formed, hc, hm, Program.keyLits, h0, h1, hc0, hc1, ho0, ho1, hn0, hn1, Value.cells, show (Lit.int .i64 n).wf = true from h]

/-- Two structs of a bool and an int held against each other. -/
theorem eql_two {P : Program} {t : TypeId} {f0 f1 : Field} (hu : P.underlying t = some (.struct #[f0, f1])) (hp : P.stoodInHeld t = false)
    (h0 : P.underlying f0.type = some .bool) (h1 : P.underlying f1.type = some (.int .i64))
    (ho0 : f0.offset = 0) (ho1 : f1.offset = 1) (hn0 : f0.name ≠ "_") (hn1 : f1.name ≠ "_") (a b : Bool) (m n : Int) (w : World) :
    (binOp .eql t (.agg #[.bool a, .int .i64 m]) (.agg #[.bool b, .int .i64 n])).run P w = .ok (.bool (decide (((a, m) : Bool × Int) = (b, n)))) w := by
  have hf : P.fieldsOf t = #[f0, f1] := by simp [Program.fieldsOf, hu]
  simp only [binOp, Op.equal, Op.maxDepth, Sem.run_bind]
  rw [run_equalIn_struct (P := P) w _ t _ _ (by rw [hf]; exact hu) hp, hf]
  by_cases hab : a = b <;> by_cases hmn : m = n <;>
    simp [Op.eqFields, hn0, hn1, ho0, ho1, part, isAgg, run_underlying h0, run_underlying h1, run_equalIn_bool' w _ _ _ _ h0, run_equalIn_int w _ _ _ _ _ _ h1, hab, hmn, Result.andThen]

theorem neq_of_eql {P : Program} {t : TypeId} {xs ys : Array Value} {w : World} {r : Bool} (h : (binOp .eql t (.agg xs) (.agg ys)).run P w = .ok (.bool r) w) :
    (binOp .neq t (.agg xs) (.agg ys)).run P w = .ok (.bool (!r)) w := by
  simp only [binOp, Sem.run_bind] at h ⊢
  cases hr : (Op.equal t (.agg xs) (.agg ys)).run P w with
  | ok x w' =>
    rw [hr] at h
    simp [Result.andThen] at h ⊢
    obtain ⟨rfl, rfl⟩ := h
    exact ⟨rfl, rfl⟩
  | halt x w' => rw [hr] at h; simp [Result.andThen] at h

theorem take_snoc {α : Type} (l : List α) {k : Nat} (h : k < l.length) : l.take (k + 1) = l.take k ++ [l[k]] := List.take_succ_eq_append_getElem h

/-- Block b is a row of cells, known whole, that may be written. -/
def Blk (w : World) (b : Nat) (t : TypeId) (cs : List Value) : Prop := w.heap[b]? = some (.cells cs.toArray t (0, 0))
theorem Blk.lt {w : World} {b : Nat} {t : TypeId} {cs : List Value} (h : Blk w b t cs) : b < w.heap.size := (Array.getElem?_eq_some_iff.1 h).1
theorem Blk.cell {w : World} {b : Nat} {t : TypeId} {cs : List Value} (h : Blk w b t cs) (i : Nat) : w.cell? ⟨b, i, none⟩ = cs[i]? := by
  rw [cell_of_row w b i cs.toArray t (0, 0) h]; simp
theorem Blk.frozen {w : World} {b : Nat} {t : TypeId} {cs : List Value} (h : Blk w b t cs) (i : Nat) : w.frozen? ⟨b, i, none⟩ = false := frozen_of_row w b i cs.toArray t h
theorem Blk.keep {w w' : World} {b : Nat} {t : TypeId} {cs : List Value} (h : Blk w b t cs) (hk : Keep w w') : Blk w' b t cs := (hk.block b h.lt).trans h
theorem Blk.ext {S : Nat → Prop} {w w' : World} {b : Nat} {t : TypeId} {cs : List Value} (h : Blk w b t cs) (hk : Ext S w w') (hs : ¬ S b) : Blk w' b t cs := (hk.block b h.lt hs).trans h
theorem Blk.new (w : World) (t : TypeId) (cs : List Value) : Blk (w.alloc (.cells cs.toArray t)) w.heap.size t cs := heap_alloc_new w _
theorem Blk.set_ {w : World} {b : Nat} {t : TypeId} {cs : List Value} (h : Blk w b t cs) (i : Nat) (u : Value) : Blk (w.setCell ⟨b, i, none⟩ u) b t (cs.set i u) := by
  unfold Blk at h ⊢
  rw [heap_setCell_same w b i cs.toArray t u h]; simp
theorem Blk.far {w : World} {b : Nat} {t : TypeId} {cs : List Value} (h : Blk w b t cs) {p : Addr} (hp : b ≠ p.block) (u : Value) : Blk (w.setCell p u) b t cs := (Below.heap_setCell w p u b hp).trans h
theorem Blk.ne {w : World} {b b' : Nat} {t t' : TypeId} {cs cs' : List Value} (h : Blk w b t cs) (h' : Blk w b' t' cs') (hne : t ≠ t') : b ≠ b' := by
  rintro rfl
  unfold Blk at h h'
  rw [h] at h'
  injection h' with h'
  injection h' with _ ht
  exact hne ht
theorem Seg.of_blk {w : World} {b : Nat} {t : TypeId} {cs : List Value} (h : Blk w b t cs) : Seg w (some ⟨b, 0, none⟩) cs := fun j u hu => by
  refine ⟨_, rfl, ?_⟩
  have hadd : (⟨b, 0, none⟩ : Addr).add j = ⟨b, j, none⟩ := by unfold Addr.add; split <;> simp_all
  rw [hadd, h.cell, hu]

/-! ### Rows that the call owns, and append -/

/-- The slice type t of elements e; an element x lies in the s cells 'f x'. -/
structure ElT (P : Program) (t e : TypeId) (s bytes : Nat) {α : Type} (f : α → List Value) : Prop where
  slice : P.underlying t = some (.slice e)
  info : ∃ i z, P.info? e = some i ∧ i.zero = some z ∧ i.size = s ∧ i.bytes = bytes ∧ z.cells.size = s
  pos : 0 < s
  len : ∀ x, (f x).length = s
  one : ∀ x, ∀ u ∈ f x, u.oneCell' = true

theorem info_of {P : Program} {e : TypeId} {z : Value} {s b : Nat} (h : (P.info? e).map (fun i => (i.zero, i.size, i.bytes)) = some (some z, s, b)) (hz : z.cells.size = s) :
    ∃ i z, P.info? e = some i ∧ i.zero = some z ∧ i.size = s ∧ i.bytes = b ∧ z.cells.size = s := by
  cases hi : P.info? e with
  | none => simp [hi] at h
  | some i =>
    simp [hi] at h
    exact ⟨i, z, rfl, h.1, h.2.1, h.2.2, hz⟩

/-- The slice v is the call's own (nil, or in a block from base on) and holds xs. -/
def Own {α : Type} (f : α → List Value) (s : Nat) (e : TypeId) (w : World) (base : Nat) (v : Value) (xs : List α) : Prop := w.ownsRow base e s v xs.length (xs.flatMap f)

section
variable {P : Program} {t e : TypeId} {s bytes : Nat} {α : Type} {f : α → List Value} {w w' : World} {base : Nat} {v : Value} {xs ys : List α}

theorem Own.nil (f : α → List Value) (s : Nat) (e : TypeId) (w : World) (base : Nat) : Own f s e w base (.slice none 0 0) [] := by
  show w.ownsRow base e s (.slice none 0 0) 0 _
  exact World.ownsRow_nil w base e s
theorem Own.form (h : Own f s e w base v xs) : ∃ A c, v = .slice A xs.length c ∧ xs.length ≤ c ∧ c ≤ maxLen := by
  rcases h.2 with ⟨hv, hn⟩ | ⟨g, cap, cur, hv, _, _, hn, hm, _⟩
  · exact ⟨none, 0, by rw [hv, hn], by omega, by simp [maxLen]⟩
  · exact ⟨_, _, hv, hn, hm⟩
theorem Own.seg {A : Option Addr} {c : Nat} (h : Own f s e w base (.slice A xs.length c) xs) : Seg w A (xs.flatMap f) := Seg.of_own h
theorem Own.segN {A : Option Addr} {n c : Nat} (h : Own f s e w base (.slice A n c) xs) : n = xs.length ∧ Seg w A (xs.flatMap f) := by
  obtain ⟨A', c', hv, _⟩ := h.form
  injection hv with h1 h2 h3
  subst h2
  exact ⟨rfl, h.seg⟩
theorem Own.lt (h : Own f s e w base v xs) : ∀ k, v.ownBlock = some k → base ≤ k ∧ k < w.heap.size := World.ownsRow.lt h
theorem Own.grown {row : Option Nat} (h : Own f s e w base v xs) (hg : w.grownBy w' row) (hne : v.ownBlock = none ∨ v.ownBlock ≠ row) : Own f s e w' base v xs := World.ownsRow.kept h hg hne
theorem Own.keep (h : Own f s e w base v xs) (hk : Keep w w') : Own f s e w' base v xs :=
  World.ownsRow.kept (row := none) h ⟨hk.os, hk.tape, hk.output, hk.size, fun k hk' _ => hk.block k hk'⟩ (by cases hv : v.ownBlock <;> simp)
theorem Own.ext {S : Nat → Prop} (h : Own f s e w base v xs) (hk : Ext S w w') (hs : ∀ k, v.ownBlock = some k → ¬ S k) : Own f s e w' base v xs := by
  cases hv : v.ownBlock with
  | none =>
    rcases h.2 with h0 | ⟨g, cap, cur, rfl, _⟩
    · exact ⟨h.1, .inl h0⟩
    · simp [Value.ownBlock] at hv
  | some k =>
    rcases h.2 with ⟨rfl, _⟩ | ⟨g, cap, cur, rfl, hb, hg, r⟩
    · simp [Value.ownBlock] at hv
    · refine ⟨h.1, .inr ⟨g, cap, cur, rfl, hb, ?_, r⟩⟩
      rw [hk.block g (Array.getElem?_eq_some_iff.1 hg).1 (hs g rfl)]; exact hg
theorem Own.alloc (h : Own f s e w base v xs) (o : Obj) : Own f s e (w.alloc o) base v xs := World.ownsRow.alloc h o
theorem Own.mono {base' : Nat} (h : Own f s e w base v xs) (hb : base' ≤ base) : Own f s e w base' v xs := by
  refine ⟨h.1, ?_⟩
  rcases h.2 with h0 | ⟨g, cap, cur, hv, hg, r⟩
  · exact .inl h0
  · exact .inr ⟨g, cap, cur, hv, by omega, r⟩

theorem append_nil_run {i : TypeInfo} {n : Nat} {zs : List Value} (ht : P.underlying t = some (.slice e)) (hi : P.info? e = some i) (ty : TypeId) (h : w.ownsRow base e s v n zs) (c : Nat) :
    (Builtin.append_ #[t, t] ty #[v, .slice none 0 c]).run P w = .ok v w := by
  rcases h.2 with ⟨rfl, rfl⟩ | ⟨g, cap, cur, rfl, _, _, hnc, _⟩
  · simp [Builtin.append_, run_underlying ht, sizeOf, typeInfo, hi, Builtin.lenOf, Builtin.firstCells]
  · simp [Builtin.append_, run_underlying ht, sizeOf, typeInfo, hi, Builtin.lenOf, Builtin.firstCells, hnc, storeCells]

/-- append onto a slice of the call's own. -/
theorem append_run (E : ElT P t e s bytes f) (h : Own f s e w base v xs) {A : Option Addr} (hs : Seg w A (ys.flatMap f)) (c : Nat) (ty : TypeId)
    (h63 : xs.length + ys.length ≤ maxLen) (hbytes : (xs.length + ys.length) * bytes ≤ 140737488355328) (hbase : base ≤ w.heap.size) :
    ∃ v' w', (Builtin.append_ #[t, t] ty #[v, .slice A ys.length c]).run P w = .ok v' w' ∧ Own f s e w' base v' (xs ++ ys) ∧ w.grownBy w' v.ownBlock ∧ (v'.ownBlock = v.ownBlock ∨ v'.ownBlock = some w.heap.size) := by
  obtain ⟨i, z, hi, hz, hsz, hby, hzs⟩ := E.info
  have hone : ∀ u ∈ ys.flatMap f, u.oneCell' = true := fun u hu => by
    obtain ⟨x, _, hx⟩ := List.mem_flatMap.1 hu
    exact E.one x u hx
  cases A with
  | none =>
    have hy : ys = [] := by
      cases ys with
      | nil => rfl
      | cons y ys =>
        have hp : 0 < ((y :: ys).flatMap f).length := by rw [flat_length f s E.len]; exact Nat.mul_pos (by simp) E.pos
        obtain ⟨ad, he, _⟩ := hs.at_ hp
        cases he
    subst hy
    refine ⟨v, w, append_nil_run E.slice hi ty h c, by simpa using h, World.grownBy.refl w _, .inl rfl⟩
  | some ad =>
    obtain ⟨v', w', hrun, h2, h3, _, h5⟩ := run_append_own_at (P := P) w base t ty e i z s bytes E.slice hi hz hsz hby hzs E.pos v xs.length _ h ad ys.length c (ys.flatMap f) (flat_length f s E.len ys)
      (fun j u hu => by obtain ⟨ad', he, hc⟩ := hs j u hu; cases he; exact hc) hone h63 hbytes hbase
    refine ⟨v', w', hrun, ?_, h3, h5⟩
    unfold Own
    rw [List.length_append, List.flatMap_append]
    exact h2
end

theorem own_at {α : Type} {f : α → List Value} {s : Nat} {e : TypeId} {w : World} {base : Nat} {v : Value} {xs : List α} (h : Own f s e w base v xs) (hx : 0 < xs.length) :
    ∃ g c, v = .slice (some ⟨g, 0, none⟩) xs.length c ∧ g < w.heap.size ∧ base ≤ g ∧ ∀ j u, (xs.flatMap f)[j]? = some u → w.cell? ⟨g, j, none⟩ = some u := by
  rcases h.2 with ⟨_, hn⟩ | ⟨g, cap, cur, hv, hb, hh, _⟩
  · omega
  · refine ⟨g, cap, hv, (Array.getElem?_eq_some_iff.1 hh).1, hb, fun j u hu => ?_⟩
    have := World.ownsRow.cells h (g := g) (by rw [hv]; rfl) j u hu
    have hadd : (⟨g, 0, none⟩ : Addr).add j = ⟨g, j, none⟩ := by unfold Addr.add; split <;> simp_all
    rwa [hadd] at this

theorem wpList_append_eq {P : Program} {w : World} {ops : Array Oper} {rest : List Oper} {o : Oper} {a : Act} {Q : Exit → Act → World → Prop} (hgd : o.guard = none) (x y : Operand) (t : TypeId)
    (ho : o.op = .call { callee := .builtin .append, args := #[x, y], argTypes := #[t, t] }) (v u : Value) (hx : a.eval x = v) (hy : a.eval y = u)
    (v' : Value) (w' : World) (hrun : (Builtin.append_ #[t, t] o.type #[v, u]).run P w = .ok v' w') (h : wpList P ops Q rest (a.put o.dst v') w') : wpList P ops Q (o :: rest) a w := by
  refine wpList_plain hgd fun K hK => ?_
  unfold Oper.wp execOp
  simp only [ho, resolve, invoke, builtin, Sem.run_bind, Sem.run_pure, Result.andThen_ok, List.map_toArray, List.map_cons, List.map_nil, hx, hy, hrun]
  exact hK _ _ h

theorem wpList_delete_eq {P : Program} {w : World} {ops : Array Oper} {rest : List Oper} {o : Oper} {a : Act} {Q : Exit → Act → World → Prop} (hgd : o.guard = none) (x y : Operand) (t t' : TypeId)
    (ho : o.op = .call { callee := .builtin .delete, args := #[x, y], argTypes := #[t, t'] }) (v u : Value) (hx : a.eval x = v) (hy : a.eval y = u)
    (v' : Value) (w' : World) (hrun : (Builtin.delete_ #[t, t'] o.type #[v, u]).run P w = .ok v' w') (h : wpList P ops Q rest (a.put o.dst v') w') : wpList P ops Q (o :: rest) a w := by
  refine wpList_plain hgd fun K hK => ?_
  unfold Oper.wp execOp
  simp only [ho, resolve, invoke, builtin, Sem.run_bind, Sem.run_pure, Result.andThen_ok, List.map_toArray, List.map_cons, List.map_nil, hx, hy, hrun]
  exact hK _ _ h

/-! ### Maps -/

open Classical in
/-- Block b is a map of n entries whose keys are keys of type k; M says what it holds. -/
def MapAt (P : Program) (k : TypeId) (w : World) (b n : Nat) (M : Value → Option Value) : Prop :=
  ∃ es clock, w.heap[b]? = some (.map es clock) ∧ (∀ e ∈ es.toList, ∃ l, keyOf P k e.key = some l) ∧ (es.toList.map (·.key)).Nodup ∧ es.size = n ∧
    ∀ key v, M key = some v ↔ ∃ e ∈ es.toList, e.key = key ∧ e.val = v

open Classical in
noncomputable def putM (M : Value → Option Value) (key v : Value) : Value → Option Value := fun x => if x = key then some v else M x
open Classical in
noncomputable def delM (M : Value → Option Value) (key : Value) : Value → Option Value := fun x => if x = key then none else M x

section
variable {P : Program} {k : TypeId} {w w' : World} {b n : Nat} {M : Value → Option Value}

theorem MapAt.lt (h : MapAt P k w b n M) : b < w.heap.size := by
  obtain ⟨es, clock, hb, _⟩ := h
  exact (Array.getElem?_eq_some_iff.1 hb).1
theorem MapAt.of_heap (h : MapAt P k w b n M) (he : w'.heap[b]? = w.heap[b]?) : MapAt P k w' b n M := by
  obtain ⟨es, clock, hb, r⟩ := h
  exact ⟨es, clock, he.trans hb, r⟩
theorem MapAt.keep (h : MapAt P k w b n M) (hk : Keep w w') : MapAt P k w' b n M := h.of_heap (hk.block b h.lt)
theorem MapAt.ext {S : Nat → Prop} (h : MapAt P k w b n M) (hk : Ext S w w') (hs : ¬ S b) : MapAt P k w' b n M := h.of_heap (hk.block b h.lt hs)
theorem MapAt.alloc (h : MapAt P k w b n M) (o : Obj) : MapAt P k (w.alloc o) b n M := h.keep (Keep.alloc (Keep.refl _) o)
theorem MapAt.setCell (h : MapAt P k w b n M) {p : Addr} (hp : b ≠ p.block) (u : Value) : MapAt P k (w.setCell p u) b n M := h.of_heap (Below.heap_setCell w p u b hp)
theorem MapAt.made (P : Program) (k : TypeId) (w : World) : MapAt P k (w.alloc (.map #[] 0)) w.heap.size 0 (fun _ => none) :=
  ⟨#[], 0, heap_alloc_new w _, by simp, by simp, rfl, by simp⟩
theorem MapAt.size (h : MapAt P k w b n M) : n = 0 ↔ ∀ key, M key = none := by
  obtain ⟨es, clock, _, _, _, rfl, hM⟩ := h
  constructor
  · intro h0 key
    have : es.toList = [] := List.eq_nil_of_length_eq_zero (by simpa using h0)
    cases hm : M key with
    | none => rfl
    | some v => obtain ⟨e, he, _⟩ := (hM key v).1 hm; rw [this] at he; simp at he
  · intro hn
    rcases Nat.eq_zero_or_pos es.size with h0 | h0
    · exact h0
    · have := (hM es[0].key es[0].val).2 ⟨es[0], by simp, rfl, rfl⟩
      rw [hn] at this; cases this

theorem lookup_run (h : MapAt P k w b n M) (K : Maps.Keyed P k) {t e : TypeId} (ht : P.underlying t = some (.map k e)) {z : Value} (hz : (zeroValue e).run P w = .ok z w)
    {key : Value} {kl : Lit} (hkey : keyOf P k key = some kl) (c : Bool) :
    (Instr.lookup t (.map (some b)) key c).run P w = .ok (if c then .tuple #[(M key).getD z, .bool (M key).isSome] else (M key).getD z) w := by
  obtain ⟨es, clock, hb, hks, hnd, _, hM⟩ := h
  rcases K.find w hkey es.toList hks with ⟨h1, h2⟩ | ⟨j, e0, h1, h2, h3⟩
  · have hn : M key = none := by
      cases hm : M key with
      | none => rfl
      | some v => obtain ⟨e, he, h4, _⟩ := (hM key v).1 hm; exact absurd h4 (h2 e he)
    rw [hn]
    cases c <;> simp [Instr.lookup, run_underlying ht, MapKept.run_getObj_map hb, K.check w _ hkey, h1, hz, Result.andThen]
  · have hs : M key = some e0.val := (hM key _).2 ⟨e0, List.mem_of_getElem? h2, h3, rfl⟩
    rw [hs]
    cases c <;> simp [Instr.lookup, run_underlying ht, MapKept.run_getObj_map hb, K.check w _ hkey, h1, Result.andThen]

theorem update_run (h : MapAt P k w b n M) (K : Maps.Keyed P k) {t e : TypeId} (ht : P.underlying t = some (.map k e)) {key v : Value} {kl : Lit} (hkey : keyOf P k key = some kl) :
    ∃ w', (Instr.mapUpdate t (.map (some b)) key v).run P w = .ok () w' ∧ MapAt P k w' b (if (M key).isSome then n else n + 1) (putM M key v) ∧ w.grownBy w' (some b) := by
  obtain ⟨es, clock, hb, hks, hnd, hsz, hM⟩ := h
  rcases K.find w hkey es.toList hks with ⟨h1, h2⟩ | ⟨j, e0, h1, h2, h3⟩
  · have hn : M key = none := by
      cases hm : M key with
      | none => rfl
      | some v => obtain ⟨e, he, h4, _⟩ := (hM key v).1 hm; exact absurd h4 (h2 e he)
    refine ⟨ChangeMaps.setBlock w b (.map (es.push ⟨key, v, clock⟩) (clock + 1)), ?_, ⟨es.push ⟨key, v, clock⟩, clock + 1, ChangeMaps.heap_setBlock_same hb _, ?_, ?_, ?_, ?_⟩,
      ⟨rfl, rfl, rfl, by simp [ChangeMaps.setBlock], fun i _ hi => ChangeMaps.heap_setBlock_other hb _ (fun e => hi (by rw [e]))⟩⟩
    · simp [Instr.mapUpdate, run_underlying ht, MapKept.run_getObj_map hb, K.check w false hkey, h1, MapKept.run_setObj_map _ hb, Result.andThen, ChangeMaps.setBlock]
    · intro e he
      simp only [Array.toList_push, List.mem_append, List.mem_singleton] at he
      rcases he with he | rfl
      · exact hks e he
      · exact ⟨kl, hkey⟩
    · rw [Array.toList_push, List.map_append, List.map_singleton, List.nodup_append]
      refine ⟨hnd, by simp, ?_⟩
      intro x hx y hy
      obtain ⟨e, he, rfl⟩ := List.mem_map.1 hx
      simp only [List.mem_singleton] at hy
      rw [hy]; exact h2 e he
    · rw [hn]; simpa using hsz
    · intro x u
      simp only [putM, Array.toList_push, List.mem_append, List.mem_singleton]
      by_cases hx : x = key
      · subst hx
        rw [if_pos rfl]
        constructor
        · intro hu; exact ⟨⟨x, v, clock⟩, .inr rfl, rfl, by simpa using hu⟩
        · rintro ⟨e, he | rfl, h4, h5⟩
          · exact absurd h4 (h2 e he)
          · rw [← h5]
      · rw [if_neg hx, hM]
        constructor
        · rintro ⟨e, he, h4⟩; exact ⟨e, .inl he, h4⟩
        · rintro ⟨e, he | rfl, h4, h5⟩
          · exact ⟨e, he, h4, h5⟩
          · exact absurd h4.symm hx
  · have hs : M key = some e0.val := (hM key _).2 ⟨e0, List.mem_of_getElem? h2, h3, rfl⟩
    have hj : es[j]? = some e0 := by simpa using h2
    have hjl : j < es.toList.length := (List.getElem?_eq_some_iff.1 h2).1
    have hlist : (es.modify j (fun e' => { e' with key := key, val := v })).toList = es.toList.set j { e0 with key := key, val := v } := by
      rw [Array.toList_modify, ChangeMaps.modify_eq_set _ _ _ _ h2]
    have hkeys : (es.toList.set j { e0 with key := key, val := v }).map (·.key) = es.toList.map (·.key) := by
      apply List.ext_getElem?
      intro i
      simp only [List.getElem?_map, List.getElem?_set]
      by_cases hij : j = i
      · subst hij; rw [if_pos rfl, if_pos hjl, h2]; simp [h3]
      · rw [if_neg hij]
    have hmem : ∀ e, e ∈ es.toList.set j { e0 with key := key, val := v } ↔ e = { e0 with key := key, val := v } ∨ (e ∈ es.toList ∧ e.key ≠ key) := by
      intro e
      constructor
      · intro he
        obtain ⟨i, hi, ex⟩ := List.getElem_of_mem he
        rw [List.getElem_set] at ex
        split at ex
        · exact .inl ex.symm
        · rename_i hne
          have hi' : i < es.toList.length := by simpa using hi
          refine .inr ⟨ex ▸ List.getElem_mem hi', fun hk => hne ?_⟩
          have hp := List.pairwise_iff_getElem.1 hnd
          have e1 : (es.toList.map (·.key))[i]'(by simpa using hi') = (es.toList.map (·.key))[j]'(by simpa using hjl) := by
            simp only [List.getElem_map]
            rw [ex, hk, ← h3]
            have := List.getElem?_eq_some_iff.1 h2
            rw [this.2]
          rcases Nat.lt_trichotomy i j with h' | h' | h'
          · exact absurd e1 (hp i j (by simpa using hi') (by simpa using hjl) h')
          · exact h'.symm
          · exact absurd e1.symm (hp j i (by simpa using hjl) (by simpa using hi') h')
      · rintro (rfl | ⟨he, hne⟩)
        · exact List.mem_set hjl _
        · obtain ⟨i, hi, rfl⟩ := List.getElem_of_mem he
          have hij : j ≠ i := by
            rintro rfl
            have := List.getElem?_eq_some_iff.1 h2
            rw [this.2] at hne
            exact hne h3
          have : (es.toList.set j { e0 with key := key, val := v })[i]'(by simpa using hi) = es.toList[i] := by
            rw [List.getElem_set]; rw [if_neg hij]
          rw [← this]; exact List.getElem_mem _
    refine ⟨ChangeMaps.setBlock w b (.map (es.modify j (fun e' => { e' with key := key, val := v })) clock), ?_, ⟨es.modify j (fun e' => { e' with key := key, val := v }), clock, ChangeMaps.heap_setBlock_same hb _, ?_, ?_, ?_, ?_⟩,
      ⟨rfl, rfl, rfl, by simp [ChangeMaps.setBlock], fun i _ hi => ChangeMaps.heap_setBlock_other hb _ (fun e => hi (by rw [e]))⟩⟩
    · simp [Instr.mapUpdate, run_underlying ht, MapKept.run_getObj_map hb, K.check w false hkey, h1, hj, h3, K.stays w hkey, MapKept.run_setObj_map _ hb, Result.andThen, ChangeMaps.setBlock]
    · rw [hlist]
      intro e he
      rcases (hmem e).1 he with rfl | ⟨he, _⟩
      · exact ⟨kl, hkey⟩
      · exact hks e he
    · rw [hlist, hkeys]; exact hnd
    · rw [hs]; simpa using hsz
    · intro x u
      rw [hlist]
      simp only [putM]
      by_cases hx : x = key
      · subst hx
        rw [if_pos rfl]
        constructor
        · intro hu; exact ⟨_, (hmem _).2 (.inl rfl), rfl, by simpa using hu⟩
        · rintro ⟨e, he, h4, h5⟩
          rcases (hmem e).1 he with rfl | ⟨_, hne⟩
          · rw [← h5]
          · exact absurd h4 hne
      · rw [if_neg hx, hM]
        constructor
        · rintro ⟨e, he, h4, h5⟩; exact ⟨e, (hmem e).2 (.inr ⟨he, by rw [h4]; exact hx⟩), h4, h5⟩
        · rintro ⟨e, he, h4, h5⟩
          rcases (hmem e).1 he with rfl | ⟨he, _⟩
          · exact absurd h4.symm hx
          · exact ⟨e, he, h4, h5⟩

theorem delete_run (h : MapAt P k w b n M) (K : Maps.Keyed P k) {t e : TypeId} (ht : P.underlying t = some (.map k e)) {ty te : TypeId} {key : Value} {kl : Lit} (hkey : keyOf P k key = some kl) :
    ∃ w', (Builtin.delete_ #[t, te] ty #[.map (some b), key]).run P w = .ok (.tuple #[]) w' ∧ MapAt P k w' b (if (M key).isSome then n - 1 else n) (delM M key) ∧ w.grownBy w' (some b) := by
  obtain ⟨es, clock, hb, hks, hnd, hsz, hM⟩ := h
  rcases K.find w hkey es.toList hks with ⟨h1, h2⟩ | ⟨j, e0, h1, h2, h3⟩
  · have hn : M key = none := by
      cases hm : M key with
      | none => rfl
      | some v => obtain ⟨e, he, h4, _⟩ := (hM key v).1 hm; exact absurd h4 (h2 e he)
    refine ⟨ChangeMaps.setBlock w b (.map es clock), ?_, ⟨es, clock, ChangeMaps.heap_setBlock_same hb _, hks, hnd, by rw [hn]; simpa using hsz, ?_⟩,
      ⟨rfl, rfl, rfl, by simp [ChangeMaps.setBlock], fun i _ hi => ChangeMaps.heap_setBlock_other hb _ (fun e => hi (by rw [e]))⟩⟩
    · simp [Builtin.delete_, run_underlying ht, MapKept.run_getObj_map hb, K.check w _ hkey, h1, MapKept.run_setObj_map _ hb, Result.andThen, ChangeMaps.setBlock]
    · intro x u
      simp only [delM]
      by_cases hx : x = key
      · subst hx; rw [if_pos rfl]
        constructor
        · intro hu; cases hu
        · rintro ⟨e, he, h4, _⟩; exact absurd h4 (h2 e he)
      · rw [if_neg hx, hM]
  · have hs : M key = some e0.val := (hM key _).2 ⟨e0, List.mem_of_getElem? h2, h3, rfl⟩
    have hj : es[j]? = some e0 := by simpa using h2
    have hjl : j < es.toList.length := (List.getElem?_eq_some_iff.1 h2).1
    have hjs : j < es.size := by simpa using hjl
    have hlist : (es.eraseIdxIfInBounds j).toList = es.toList.eraseIdx j := by simp [Array.toList_eraseIdxIfInBounds]
    have hmem : ∀ e, e ∈ es.toList.eraseIdx j ↔ e ∈ es.toList ∧ e.key ≠ key := by
      intro e
      rw [List.mem_eraseIdx_iff_getElem]
      have hp := List.pairwise_iff_getElem.1 hnd
      have hgj : es.toList[j] = e0 := (List.getElem?_eq_some_iff.1 h2).2
      constructor
      · rintro ⟨i, hi, hne, rfl⟩
        refine ⟨List.getElem_mem hi, fun hk => ?_⟩
        have e1 : (es.toList.map (·.key))[i]'(by simpa using hi) = (es.toList.map (·.key))[j]'(by simpa using hjl) := by
          simp only [List.getElem_map]; rw [hk, hgj, h3]
        rcases Nat.lt_or_gt_of_ne hne with h' | h'
        · exact absurd e1 (hp i j (by simpa using hi) (by simpa using hjl) h')
        · exact absurd e1.symm (hp j i (by simpa using hjl) (by simpa using hi) h')
      · rintro ⟨he, hne⟩
        obtain ⟨i, hi, rfl⟩ := List.getElem_of_mem he
        refine ⟨i, hi, ?_, rfl⟩
        rintro rfl
        rw [hgj] at hne; exact hne h3
    refine ⟨ChangeMaps.setBlock w b (.map (es.eraseIdxIfInBounds j) clock), ?_, ⟨es.eraseIdxIfInBounds j, clock, ChangeMaps.heap_setBlock_same hb _, ?_, ?_, ?_, ?_⟩,
      ⟨rfl, rfl, rfl, by simp [ChangeMaps.setBlock], fun i _ hi => ChangeMaps.heap_setBlock_other hb _ (fun e => hi (by rw [e]))⟩⟩
    · simp [Builtin.delete_, run_underlying ht, MapKept.run_getObj_map hb, K.check w _ hkey, h1, MapKept.run_setObj_map _ hb, Result.andThen, ChangeMaps.setBlock]
    · rw [hlist]; intro e he; exact hks e ((hmem e).1 he).1
    · rw [hlist]; exact hnd.sublist ((List.eraseIdx_sublist _ _).map _)
    · rw [hs, ← hsz]
      have : (es.eraseIdxIfInBounds j).size = (es.eraseIdxIfInBounds j).toList.length := (Array.length_toList).symm
      rw [this, hlist, List.length_eraseIdx_of_lt hjl]; simp
    · intro x u
      rw [hlist]
      simp only [delM]
      by_cases hx : x = key
      · subst hx; rw [if_pos rfl]
        constructor
        · intro hu; cases hu
        · rintro ⟨e, he, h4, _⟩; exact absurd h4 ((hmem e).1 he).2
      · rw [if_neg hx, hM]
        constructor
        · rintro ⟨e, he, h4, h5⟩; exact ⟨e, (hmem e).2 ⟨he, by rw [h4]; exact hx⟩, h4, h5⟩
        · rintro ⟨e, he, h4, h5⟩; exact ⟨e, ((hmem e).1 he).1, h4, h5⟩

theorem len_run (h : MapAt P k w b n M) {t ty e : TypeId} (ht : P.underlying t = some (.map k e)) : (Builtin.len_ #[t] ty #[.map (some b)]).run P w = .ok (.int .i64 n) w := by
  obtain ⟨es, clock, hb, _, _, hsz, _⟩ := h
  simp [Builtin.len_, run_underlying ht, MapKept.run_getObj_map hb, Result.andThen, goInt, hsz]

end
end Go.Proofs.Ytjpmiejgcnfiiaa
