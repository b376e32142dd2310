import Derived.WalkKit
import Derived.Maps.OwnSet
import Derived.Lib.Hide
import Derived.DeepKeys4
import Derived.Deep.Draws
import Derived.Maps.AppendAt
import Derived.Deep.LoopGhost
import Derived.ProofKit
import Derived.OpenShut
import Derived.ShutString
import Derived.ChangeOld
import Derived.Below
import Derived.Deep.Slices
import Derived.Test.YtjpmiejgcnfiiaaGreatRows
set_option linter.unusedVariables false
set_option linter.unusedSimpArgs false
namespace Go.Proofs.YtjpmiejgcnfiiaaGreat
open Go Go.RowKit

/-! ### What stays -/

/-- w' is w with new blocks, and with changes to old blocks of S alone. -/
structure Ext (S : Nat → Prop) (w w' : World) : Prop where
  os : w'.os = w.os
  tape : w'.tape = w.tape
  output : w'.output = w.output
  size : w.heap.size ≤ w'.heap.size
  block : ∀ k, k < w.heap.size → ¬ S k → w'.heap[k]? = w.heap[k]?

theorem Ext.refl (S : Nat → Prop) (w : World) : Ext S w w := ⟨rfl, rfl, rfl, Nat.le_refl _, fun _ _ _ => rfl⟩
theorem Ext.trans {S T : Nat → Prop} {a b c : World} (h : Ext S a b) (k : Ext T b c) (hs : ∀ i, i < a.heap.size → T i → S i) : Ext S a c :=
  ⟨k.os.trans h.os, k.tape.trans h.tape, k.output.trans h.output, Nat.le_trans h.size k.size,
   fun i hi hn => (k.block i (Nat.lt_of_lt_of_le hi h.size) (fun t => hn (hs i hi t))).trans (h.block i hi hn)⟩
theorem Ext.mono {S T : Nat → Prop} {a b : World} (h : Ext S a b) (hs : ∀ i, i < a.heap.size → S i → T i) : Ext T a b :=
  ⟨h.os, h.tape, h.output, h.size, fun i hi hn => h.block i hi (fun s => hn (hs i hi s))⟩
theorem Ext.drew {S : Nat → Prop} {a w : World} (h : Ext S a w) : Ext S a w.drew := ⟨h.os, h.tape, h.output, h.size, h.block⟩
theorem Ext.drewN {S : Nat → Prop} {a w : World} (h : Ext S a w) (n : Nat) : Ext S a (w.drewN n) := ⟨h.os, h.tape, h.output, h.size, h.block⟩
theorem Ext.alloc {S : Nat → Prop} {a w : World} (h : Ext S a w) (o : Obj) : Ext S a (w.alloc o) :=
  ⟨h.os, h.tape, h.output, Nat.le_trans h.size (by simp), fun i hi hn => (Below.heap_alloc w o i (Nat.lt_of_lt_of_le hi h.size)).trans (h.block i hi hn)⟩
theorem Ext.setCell {S : Nat → Prop} {a w : World} (h : Ext S a w) {p : Addr} (hp : p.block < a.heap.size → S p.block) (u : Value) : Ext S a (w.setCell p u) :=
  ⟨h.os, h.tape, h.output, by simpa [World.setCell] using h.size, fun i hi hn => (Below.heap_setCell w p u i (by rintro rfl; exact hn (hp hi))).trans (h.block i hi hn)⟩
theorem Ext.of_grown {w w' : World} {row : Option Nat} (h : w.grownBy w' row) : Ext (fun k => row = some k) w w' :=
  ⟨h.os, h.tape, h.output, h.size, fun i hi hn => h.block i hi (fun e => hn e.symm)⟩
theorem Ext.grown {S : Nat → Prop} {a w w' : World} {row : Option Nat} (h : Ext S a w) (hg : w.grownBy w' row) (hr : ∀ k, row = some k → k < a.heap.size → S k) : Ext S a w' :=
  h.trans (Ext.of_grown hg) fun i hi e => hr i e hi
theorem Ext.of_below {B : Nat} {w w' : World} (h : Below B w w') : Ext (fun k => B ≤ k) w w' :=
  ⟨h.os, h.tape, h.output, h.size, fun i _ hn => h.block i (by omega)⟩
theorem Ext.below {B : Nat} {S : Nat → Prop} {w w' : World} (h : Ext S w w') (hB : B ≤ w.heap.size) (hs : ∀ k, k < B → ¬ S k) : Below B w w' :=
  ⟨h.os, h.tape, h.output, h.size, fun i hi => h.block i (by omega) (hs i hi)⟩

/-- Nothing that was there has changed. -/
abbrev Keep (w w' : World) : Prop := Below w.heap.size w w'
theorem Keep.refl (w : World) : Keep w w := Below.refl _ _
theorem Keep.trans {a b c : World} (h : Keep a b) (k : Keep b c) : Keep a c := Below.trans h (k.mono h.size)
theorem Keep.drew {a w : World} (h : Keep a w) : Keep a w.drew := Below.drew h
theorem Keep.drewN {a w : World} (h : Keep a w) (n : Nat) : Keep a (w.drewN n) := ⟨h.os, h.tape, h.output, h.size, h.block⟩
theorem Keep.alloc {a w : World} (h : Keep a w) (o : Obj) : Keep a (w.alloc o) := Below.alloc h h.size o
theorem Keep.setCell {a w : World} (h : Keep a w) {p : Addr} (hp : a.heap.size ≤ p.block) (u : Value) : Keep a (w.setCell p u) := Below.setCell h hp u
theorem Keep.cell {a w : World} (h : Keep a w) {p : Addr} {v : Value} (hc : a.cell? p = some v) : w.cell? p = some v :=
  (Below.cell h (World.block_lt_of_cell? a p hc)).trans hc
theorem Keep.grown {a w w' : World} {row : Option Nat} (h : Keep a w) (hg : w.grownBy w' row) (hr : ∀ k, row = some k → a.heap.size ≤ k) : Keep a w' := Below.grown h hg h.size hr
theorem Keep.ext {a w : World} (h : Keep a w) (S : Nat → Prop) : Ext S a w := ⟨h.os, h.tape, h.output, h.size, fun k hk _ => h.block k hk⟩
theorem Ext.keepTrans {S : Nat → Prop} {a b c : World} (h : Ext S a b) (k : Keep b c) : Ext S a c := h.trans (k.ext (fun _ => False)) (fun _ _ hf => hf.elim)
theorem Keep.heap {a w : World} (h : Keep a w) {k : Nat} {o : Obj} (hc : a.heap[k]? = some o) : w.heap[k]? = some o := by
  rcases Nat.lt_or_ge k a.heap.size with hlt | hge
  · exact (h.block k hlt).trans hc
  · rw [Array.getElem?_eq_none hge] at hc; cases hc

/-! ### A row of cells -/

/-- From A on lie the cells xs (A: whatever, where xs is empty). -/
def Seg (w : World) (A : Option Addr) (xs : List Value) : Prop :=
  ∀ j u, xs[j]? = some u → ∃ ad, A = some ad ∧ w.cell? (ad.add j) = some u

theorem add_block (a : Addr) (n : Nat) : (a.add n).block = a.block := by unfold Addr.add; split <;> rfl
theorem add_add' (a : Addr) (i j : Nat) : (a.add i).add j = a.add (i + j) := by
  unfold Addr.add
  by_cases hi : i = 0 <;> by_cases hj : j = 0 <;> simp [hi, hj, Nat.add_assoc]

theorem Seg.nil (w : World) (A : Option Addr) : Seg w A [] := fun j u h => by simp at h
theorem Seg.keepAll {w w' : World} {A : Option Addr} {xs : List Value} (h : Seg w A xs) (hk : ∀ p v, w.cell? p = some v → w'.cell? p = some v) : Seg w' A xs := fun j u hu => by
  obtain ⟨ad, e, hc⟩ := h j u hu
  exact ⟨ad, e, hk _ _ hc⟩
theorem Seg.keep {w w' : World} {A : Option Addr} {xs : List Value} (h : Seg w A xs) (hk : Keep w w') : Seg w' A xs := h.keepAll fun _ _ hc => hk.cell hc
theorem Seg.ext {S : Nat → Prop} {w w' : World} {A : Option Addr} {xs : List Value} (h : Seg w A xs) (hk : Ext S w w') (hs : ∀ ad, A = some ad → ad.block < w.heap.size → ¬ S ad.block) : Seg w' A xs := fun j u hu => by
  obtain ⟨ad, e, hc⟩ := h j u hu
  have hlt := World.block_lt_of_cell? w _ hc
  rw [add_block] at hlt
  exact ⟨ad, e, (World.cell?_of_block (by rw [add_block]; exact hk.block _ hlt (hs ad e hlt))).trans hc⟩
theorem Seg.drop {w : World} {A : Option Addr} {xs : List Value} (h : Seg w A xs) (k : Nat) : Seg w (A.map (·.add k)) (xs.drop k) := fun j u hu => by
  rw [List.getElem?_drop] at hu
  obtain ⟨ad, e, hc⟩ := h _ u hu
  exact ⟨ad.add k, by rw [e]; rfl, by rw [add_add']; exact hc⟩
theorem Seg.take {w : World} {A : Option Addr} {xs : List Value} (h : Seg w A xs) (k : Nat) : Seg w A (xs.take k) := fun j u hu => by
  rw [List.getElem?_take] at hu
  split at hu
  · exact h j u hu
  · cases hu
theorem Seg.at_ {w : World} {A : Option Addr} {xs : List Value} (h : Seg w A xs) {j : Nat} (hj : j < xs.length) : ∃ ad, A = some ad ∧ w.cell? (ad.add j) = some xs[j] :=
  h j _ (List.getElem?_eq_getElem hj)
/-- The address, written out, of a row that is not empty. -/
theorem Seg.addr {w : World} {A : Option Addr} {xs : List Value} (h : Seg w A xs) (hx : 0 < xs.length) : ∃ b off, A = some ⟨b, off, none⟩ ∧ b < w.heap.size ∧ ∀ j u, xs[j]? = some u → w.cell? ⟨b, off + j, none⟩ = some u := by
  obtain ⟨ad, e, hc⟩ := h.at_ hx
  have hlt := World.block_lt_of_cell? w _ hc
  rw [add_block] at hlt
  obtain ⟨b, off, spot⟩ := ad
  have hsp : spot = none := by simpa [Addr.add] using World.cell?_spot hc
  subst hsp
  refine ⟨b, off, e, hlt, fun j u hu => ?_⟩
  obtain ⟨ad', e', hc'⟩ := h j u hu
  rw [e] at e'
  cases e'
  have : (⟨b, off, none⟩ : Addr).add j = ⟨b, off + j, none⟩ := by unfold Addr.add; split <;> simp_all
  rwa [this] at hc'
theorem Seg.of_own {w : World} {base : Nat} {e : TypeId} {size n : Nat} {A : Option Addr} {c : Nat} {xs : List Value} (h : w.ownsRow base e size (.slice A n c) n xs) : Seg w A xs := fun j u hu => by
  rcases h.2 with ⟨hv, hn⟩ | ⟨g, cap, cur, hv, _, hh, _⟩
  · have : xs = [] := List.eq_nil_of_length_eq_zero (by rw [h.1, hn]; omega)
    subst this; simp at hu
  · have hA : A = some ⟨g, 0, none⟩ := by injection hv
    subst hA
    exact ⟨_, rfl, h.cells (g := g) rfl j u hu⟩

/-! ### Rows of elements -/

theorem flat_get {α : Type} (f : α → List Value) (s : Nat) (hf : ∀ x, (f x).length = s) : ∀ (l : List α) (k j : Nat) (hk : k < l.length), j < s → (l.flatMap f)[k * s + j]? = (f l[k])[j]?
  | [], k, j, hk, _ => by simp at hk
  | x :: l, 0, j, _, hj => by
    rw [List.flatMap_cons, List.getElem?_append_left (by rw [hf]; omega)]; simp
  | x :: l, k + 1, j, hk, hj => by
    rw [List.flatMap_cons, List.getElem?_append_right (by rw [hf]; rw [Nat.add_mul]; omega), hf]
    have := flat_get f s hf l k j (by simpa using hk) hj
    rw [show (k + 1) * s + j - s = k * s + j by rw [Nat.add_mul]; omega]
    simpa using this

theorem flat_length {α : Type} (f : α → List Value) (s : Nat) (hf : ∀ x, (f x).length = s) (l : List α) : (l.flatMap f).length = l.length * s := by
  induction l with
  | nil => simp
  | cons x l ih => rw [List.flatMap_cons, List.length_append, ih, hf, List.length_cons, Nat.add_mul]; omega

theorem flat_take {α : Type} (f : α → List Value) (s : Nat) (hf : ∀ x, (f x).length = s) : ∀ (l : List α) (k : Nat), (l.flatMap f).take (k * s) = (l.take k).flatMap f
  | [], k => by simp
  | x :: l, 0 => by simp
  | x :: l, k + 1 => by
    rw [List.flatMap_cons, List.take_succ_cons, List.flatMap_cons, Nat.add_mul, Nat.one_mul, List.take_append, hf, Nat.add_sub_cancel, flat_take f s hf l k, List.take_of_length_le (by rw [hf]; omega)]

theorem flat_drop {α : Type} (f : α → List Value) (s : Nat) (hf : ∀ x, (f x).length = s) : ∀ (l : List α) (k : Nat), (l.flatMap f).drop (k * s) = (l.drop k).flatMap f
  | [], k => by simp
  | x :: l, 0 => by simp
  | x :: l, k + 1 => by
    rw [List.flatMap_cons, List.drop_succ_cons, Nat.add_mul, Nat.one_mul, List.drop_append, hf, Nat.add_sub_cancel, flat_drop f s hf l k, List.drop_of_length_le (by rw [hf]; omega), List.nil_append]

/-- The k-th element of a row that is not empty. -/
theorem Seg.elem {α : Type} {f : α → List Value} (s : Nat) (hf : ∀ x, (f x).length = s) {w : World} {A : Option Addr} {l : List α} (h : Seg w A (l.flatMap f)) (h0 : 0 < s) {k : Nat} (hk : k < l.length) :
    ∃ b off, A = some ⟨b, off, none⟩ ∧ b < w.heap.size ∧ ∀ j u, (f l[k])[j]? = some u → w.cell? ⟨b, off + (k * s + j), none⟩ = some u := by
  have hlen : 0 < (l.flatMap f).length := by rw [flat_length f s hf]; exact Nat.mul_pos (by omega) h0
  obtain ⟨b, off, e, hb, hc⟩ := h.addr hlen
  refine ⟨b, off, e, hb, fun j u hu => hc _ u ?_⟩
  have hj : j < s := by
    have := (List.getElem?_eq_some_iff.1 hu).1
    rwa [hf] at this
  rw [flat_get f s hf l k j hk hj, hu]

/-- The number fits an int. -/
abbrev W64 (n : Int) : Prop := (Lit.int .i64 n).wf = true

/-- A key that is a struct of a bool and an int. -/
theorem key_two {P : Program} {k : TypeId} {f0 f1 : Field} (hu : P.underlying k = some (.struct #[f0, f1])) (hkt : P.keyType k = true) (hc : P.cellsOf k = 2)
    (h0 : P.underlying f0.type = some .bool) (h1 : P.underlying f1.type = some (.int .i64)) (hc0 : P.cellsOf f0.type = 1) (hc1 : P.cellsOf f1.type = 1)
    (ho0 : f0.offset = 0) (ho1 : f1.offset = 1) (hn0 : f0.name ≠ "_") (hn1 : f1.name ≠ "_") (ht : 0 < P.types.size) (a : Bool) (n : Int) (h : W64 n) :
    keyOf P k (.agg #[.bool a, .int .i64 n]) = some (.string (keyBytes [.bool a, .int .i64 n])) := by
  obtain ⟨m, hm⟩ : ∃ m, P.types.size = m + 1 := ⟨P.types.size - 1, by omega⟩
  simp [keyOf, hu, hkt, Value.formed, hc, hm, Program.keyLits, h0, h1, hc0, hc1, ho0, ho1, hn0, hn1, Value.cells, show (Lit.int .i64 n).wf = true from h]

/-- Two structs of a bool and an int held against each other. -/
theorem eql_two {P : Program} {t : TypeId} {f0 f1 : Field} (hu : P.underlying t = some (.struct #[f0, f1])) (hp : P.stoodInHeld t = false)
    (h0 : P.underlying f0.type = some .bool) (h1 : P.underlying f1.type = some (.int .i64))
    (ho0 : f0.offset = 0) (ho1 : f1.offset = 1) (hn0 : f0.name ≠ "_") (hn1 : f1.name ≠ "_") (a b : Bool) (m n : Int) (w : World) :
    (binOp .eql t (.agg #[.bool a, .int .i64 m]) (.agg #[.bool b, .int .i64 n])).run P w = .ok (.bool (decide (((a, m) : Bool × Int) = (b, n)))) w := by
  have hf : P.fieldsOf t = #[f0, f1] := by simp [Program.fieldsOf, hu]
  simp only [binOp, Op.equal, Op.maxDepth, Sem.run_bind]
  rw [run_equalIn_struct (P := P) w _ t _ _ (by rw [hf]; exact hu) hp, hf]
  by_cases hab : a = b <;> by_cases hmn : m = n <;>
    simp [Op.eqFields, hn0, hn1, ho0, ho1, part, isAgg, run_underlying h0, run_underlying h1, run_equalIn_bool' w _ _ _ _ h0, run_equalIn_int w _ _ _ _ _ _ h1, hab, hmn, Result.andThen]

theorem neq_of_eql {P : Program} {t : TypeId} {xs ys : Array Value} {w : World} {r : Bool} (h : (binOp .eql t (.agg xs) (.agg ys)).run P w = .ok (.bool r) w) :
    (binOp .neq t (.agg xs) (.agg ys)).run P w = .ok (.bool (!r)) w := by
  simp only [binOp, Sem.run_bind] at h ⊢
  cases hr : (Op.equal t (.agg xs) (.agg ys)).run P w with
  | ok x w' =>
    rw [hr] at h
    simp [Result.andThen] at h ⊢
    obtain ⟨rfl, rfl⟩ := h
    exact ⟨rfl, rfl⟩
  | halt x w' => rw [hr] at h; simp [Result.andThen] at h

theorem take_snoc {α : Type} (l : List α) {k : Nat} (h : k < l.length) : l.take (k + 1) = l.take k ++ [l[k]] := List.take_succ_eq_append_getElem h

/-- Block b is a row of cells, known whole, that may be written. -/
def Blk (w : World) (b : Nat) (t : TypeId) (cs : List Value) : Prop := w.heap[b]? = some (.cells cs.toArray t (0, 0))
theorem Blk.lt {w : World} {b : Nat} {t : TypeId} {cs : List Value} (h : Blk w b t cs) : b < w.heap.size := (Array.getElem?_eq_some_iff.1 h).1
theorem Blk.cell {w : World} {b : Nat} {t : TypeId} {cs : List Value} (h : Blk w b t cs) (i : Nat) : w.cell? ⟨b, i, none⟩ = cs[i]? := by
  rw [cell_of_row w b i cs.toArray t (0, 0) h]; simp
theorem Blk.frozen {w : World} {b : Nat} {t : TypeId} {cs : List Value} (h : Blk w b t cs) (i : Nat) : w.frozen? ⟨b, i, none⟩ = false := frozen_of_row w b i cs.toArray t h
theorem Blk.keep {w w' : World} {b : Nat} {t : TypeId} {cs : List Value} (h : Blk w b t cs) (hk : Keep w w') : Blk w' b t cs := (hk.block b h.lt).trans h
theorem Blk.ext {S : Nat → Prop} {w w' : World} {b : Nat} {t : TypeId} {cs : List Value} (h : Blk w b t cs) (hk : Ext S w w') (hs : ¬ S b) : Blk w' b t cs := (hk.block b h.lt hs).trans h
theorem Blk.new (w : World) (t : TypeId) (cs : List Value) : Blk (w.alloc (.cells cs.toArray t)) w.heap.size t cs := heap_alloc_new w _
theorem Blk.set_ {w : World} {b : Nat} {t : TypeId} {cs : List Value} (h : Blk w b t cs) (i : Nat) (u : Value) : Blk (w.setCell ⟨b, i, none⟩ u) b t (cs.set i u) := by
  unfold Blk at h ⊢
  rw [heap_setCell_same w b i cs.toArray t u h]; simp
theorem Blk.far {w : World} {b : Nat} {t : TypeId} {cs : List Value} (h : Blk w b t cs) {p : Addr} (hp : b ≠ p.block) (u : Value) : Blk (w.setCell p u) b t cs := (Below.heap_setCell w p u b hp).trans h
theorem Blk.ne {w : World} {b b' : Nat} {t t' : TypeId} {cs cs' : List Value} (h : Blk w b t cs) (h' : Blk w b' t' cs') (hne : t ≠ t') : b ≠ b' := by
  rintro rfl
  unfold Blk at h h'
  rw [h] at h'
  injection h' with h'
  injection h' with _ ht
  exact hne ht
theorem Seg.of_blk {w : World} {b : Nat} {t : TypeId} {cs : List Value} (h : Blk w b t cs) : Seg w (some ⟨b, 0, none⟩) cs := fun j u hu => by
  refine ⟨_, rfl, ?_⟩
  have hadd : (⟨b, 0, none⟩ : Addr).add j = ⟨b, j, none⟩ := by unfold Addr.add; split <;> simp_all
  rw [hadd, h.cell, hu]

/-! ### Rows that the call owns, and append -/

/-- The slice type t of elements e; an element x lies in the s cells 'f x'. -/
structure ElT (P : Program) (t e : TypeId) (s bytes : Nat) {α : Type} (f : α → List Value) : Prop where
  slice : P.underlying t = some (.slice e)
  info : ∃ i z, P.info? e = some i ∧ i.zero = some z ∧ i.size = s ∧ i.bytes = bytes ∧ z.cells.size = s
  pos : 0 < s
  len : ∀ x, (f x).length = s
  one : ∀ x, ∀ u ∈ f x, u.oneCell' = true

theorem info_of {P : Program} {e : TypeId} {z : Value} {s b : Nat} (h : (P.info? e).map (fun i => (i.zero, i.size, i.bytes)) = some (some z, s, b)) (hz : z.cells.size = s) :
    ∃ i z, P.info? e = some i ∧ i.zero = some z ∧ i.size = s ∧ i.bytes = b ∧ z.cells.size = s := by
  cases hi : P.info? e with
  | none => simp [hi] at h
  | some i =>
    simp [hi] at h
    exact ⟨i, z, rfl, h.1, h.2.1, h.2.2, hz⟩

/-- The slice v is the call's own (nil, or in a block from base on) and holds xs. -/
def Own {α : Type} (f : α → List Value) (s : Nat) (e : TypeId) (w : World) (base : Nat) (v : Value) (xs : List α) : Prop := w.ownsRow base e s v xs.length (xs.flatMap f)

section
variable {P : Program} {t e : TypeId} {s bytes : Nat} {α : Type} {f : α → List Value} {w w' : World} {base : Nat} {v : Value} {xs ys : List α}

theorem Own.nil (f : α → List Value) (s : Nat) (e : TypeId) (w : World) (base : Nat) : Own f s e w base (.slice none 0 0) [] := by
  show w.ownsRow base e s (.slice none 0 0) 0 _
  exact World.ownsRow_nil w base e s
theorem Own.form (h : Own f s e w base v xs) : ∃ A c, v = .slice A xs.length c ∧ xs.length ≤ c ∧ c ≤ maxLen := by
  rcases h.2 with ⟨hv, hn⟩ | ⟨g, cap, cur, hv, _, _, hn, hm, _⟩
  · exact ⟨none, 0, by rw [hv, hn], by omega, by simp [maxLen]⟩
  · exact ⟨_, _, hv, hn, hm⟩
theorem Own.seg {A : Option Addr} {c : Nat} (h : Own f s e w base (.slice A xs.length c) xs) : Seg w A (xs.flatMap f) := Seg.of_own h
theorem Own.segN {A : Option Addr} {n c : Nat} (h : Own f s e w base (.slice A n c) xs) : n = xs.length ∧ Seg w A (xs.flatMap f) := by
  obtain ⟨A', c', hv, _⟩ := h.form
  injection hv with h1 h2 h3
  subst h2
  exact ⟨rfl, h.seg⟩
theorem Own.lt (h : Own f s e w base v xs) : ∀ k, v.ownBlock = some k → base ≤ k ∧ k < w.heap.size := World.ownsRow.lt h
theorem Own.grown {row : Option Nat} (h : Own f s e w base v xs) (hg : w.grownBy w' row) (hne : v.ownBlock = none ∨ v.ownBlock ≠ row) : Own f s e w' base v xs := World.ownsRow.kept h hg hne
theorem Own.keep (h : Own f s e w base v xs) (hk : Keep w w') : Own f s e w' base v xs :=
  World.ownsRow.kept (row := none) h ⟨hk.os, hk.tape, hk.output, hk.size, fun k hk' _ => hk.block k hk'⟩ (by cases hv : v.ownBlock <;> simp)
theorem Own.ext {S : Nat → Prop} (h : Own f s e w base v xs) (hk : Ext S w w') (hs : ∀ k, v.ownBlock = some k → ¬ S k) : Own f s e w' base v xs := by
  cases hv : v.ownBlock with
  | none =>
    rcases h.2 with h0 | ⟨g, cap, cur, rfl, _⟩
    · exact ⟨h.1, .inl h0⟩
    · simp [Value.ownBlock] at hv
  | some k =>
    rcases h.2 with ⟨rfl, _⟩ | ⟨g, cap, cur, rfl, hb, hg, r⟩
    · simp [Value.ownBlock] at hv
    · refine ⟨h.1, .inr ⟨g, cap, cur, rfl, hb, ?_, r⟩⟩
      rw [hk.block g (Array.getElem?_eq_some_iff.1 hg).1 (hs g rfl)]; exact hg
theorem Own.alloc (h : Own f s e w base v xs) (o : Obj) : Own f s e (w.alloc o) base v xs := World.ownsRow.alloc h o
theorem Own.mono {base' : Nat} (h : Own f s e w base v xs) (hb : base' ≤ base) : Own f s e w base' v xs := by
  refine ⟨h.1, ?_⟩
  rcases h.2 with h0 | ⟨g, cap, cur, hv, hg, r⟩
  · exact .inl h0
  · exact .inr ⟨g, cap, cur, hv, by omega, r⟩

theorem append_nil_run {i : TypeInfo} {n : Nat} {zs : List Value} (ht : P.underlying t = some (.slice e)) (hi : P.info? e = some i) (ty : TypeId) (h : w.ownsRow base e s v n zs) (c : Nat) :
    (Builtin.append_ #[t, t] ty #[v, .slice none 0 c]).run P w = .ok v w := by
  rcases h.2 with ⟨rfl, rfl⟩ | ⟨g, cap, cur, rfl, _, _, hnc, _⟩
  · simp [Builtin.append_, run_underlying ht, sizeOf, typeInfo, hi, Builtin.lenOf, Builtin.firstCells]
  · simp [Builtin.append_, run_underlying ht, sizeOf, typeInfo, hi, Builtin.lenOf, Builtin.firstCells, hnc, storeCells]

/-- append onto a slice of the call's own. -/
theorem append_run (E : ElT P t e s bytes f) (h : Own f s e w base v xs) {A : Option Addr} (hs : Seg w A (ys.flatMap f)) (c : Nat) (ty : TypeId)
    (h63 : xs.length + ys.length ≤ maxLen) (hbytes : (xs.length + ys.length) * bytes ≤ 140737488355328) (hbase : base ≤ w.heap.size) :
    ∃ v' w', (Builtin.append_ #[t, t] ty #[v, .slice A ys.length c]).run P w = .ok v' w' ∧ Own f s e w' base v' (xs ++ ys) ∧ w.grownBy w' v.ownBlock ∧ (v'.ownBlock = v.ownBlock ∨ v'.ownBlock = some w.heap.size) := by
  obtain ⟨i, z, hi, hz, hsz, hby, hzs⟩ := E.info
  have hone : ∀ u ∈ ys.flatMap f, u.oneCell' = true := fun u hu => by
    obtain ⟨x, _, hx⟩ := List.mem_flatMap.1 hu
    exact E.one x u hx
  cases A with
  | none =>
    have hy : ys = [] := by
      cases ys with
      | nil => rfl
      | cons y ys =>
        have hp : 0 < ((y :: ys).flatMap f).length := by rw [flat_length f s E.len]; exact Nat.mul_pos (by simp) E.pos
        obtain ⟨ad, he, _⟩ := hs.at_ hp
        cases he
    subst hy
    refine ⟨v, w, append_nil_run E.slice hi ty h c, by simpa using h, World.grownBy.refl w _, .inl rfl⟩
  | some ad =>
    obtain ⟨v', w', hrun, h2, h3, _, h5⟩ := run_append_own_at (P := P) w base t ty e i z s bytes E.slice hi hz hsz hby hzs E.pos v xs.length _ h ad ys.length c (ys.flatMap f) (flat_length f s E.len ys)
      (fun j u hu => by obtain ⟨ad', he, hc⟩ := hs j u hu; cases he; exact hc) hone h63 hbytes hbase
    refine ⟨v', w', hrun, ?_, h3, h5⟩
    unfold Own
    rw [List.length_append, List.flatMap_append]
    exact h2
end

theorem own_at {α : Type} {f : α → List Value} {s : Nat} {e : TypeId} {w : World} {base : Nat} {v : Value} {xs : List α} (h : Own f s e w base v xs) (hx : 0 < xs.length) :
    ∃ g c, v = .slice (some ⟨g, 0, none⟩) xs.length c ∧ g < w.heap.size ∧ base ≤ g ∧ ∀ j u, (xs.flatMap f)[j]? = some u → w.cell? ⟨g, j, none⟩ = some u := by
  rcases h.2 with ⟨_, hn⟩ | ⟨g, cap, cur, hv, hb, hh, _⟩
  · omega
  · refine ⟨g, cap, hv, (Array.getElem?_eq_some_iff.1 hh).1, hb, fun j u hu => ?_⟩
    have := World.ownsRow.cells h (g := g) (by rw [hv]; rfl) j u hu
    have hadd : (⟨g, 0, none⟩ : Addr).add j = ⟨g, j, none⟩ := by unfold Addr.add; split <;> simp_all
    rwa [hadd] at this

theorem wpList_append_eq {P : Program} {w : World} {ops : Array Oper} {rest : List Oper} {o : Oper} {a : Act} {Q : Exit → Act → World → Prop} (hgd : o.guard = none) (x y : Operand) (t : TypeId)
    (ho : o.op = .call { callee := .builtin .append, args := #[x, y], argTypes := #[t, t] }) (v u : Value) (hx : a.eval x = v) (hy : a.eval y = u)
    (v' : Value) (w' : World) (hrun : (Builtin.append_ #[t, t] o.type #[v, u]).run P w = .ok v' w') (h : wpList P ops Q rest (a.put o.dst v') w') : wpList P ops Q (o :: rest) a w := by
  refine wpList_plain hgd fun K hK => ?_
  unfold Oper.wp execOp
  simp only [ho, resolve, invoke, builtin, Sem.run_bind, Sem.run_pure, Result.andThen_ok, List.map_toArray, List.map_cons, List.map_nil, hx, hy, hrun]
  exact hK _ _ h

theorem wpList_delete_eq {P : Program} {w : World} {ops : Array Oper} {rest : List Oper} {o : Oper} {a : Act} {Q : Exit → Act → World → Prop} (hgd : o.guard = none) (x y : Operand) (t t' : TypeId)
    (ho : o.op = .call { callee := .builtin .delete, args := #[x, y], argTypes := #[t, t'] }) (v u : Value) (hx : a.eval x = v) (hy : a.eval y = u)
    (v' : Value) (w' : World) (hrun : (Builtin.delete_ #[t, t'] o.type #[v, u]).run P w = .ok v' w') (h : wpList P ops Q rest (a.put o.dst v') w') : wpList P ops Q (o :: rest) a w := by
  refine wpList_plain hgd fun K hK => ?_
  unfold Oper.wp execOp
  simp only [ho, resolve, invoke, builtin, Sem.run_bind, Sem.run_pure, Result.andThen_ok, List.map_toArray, List.map_cons, List.map_nil, hx, hy, hrun]
  exact hK _ _ h

/-! ### Maps -/

open Classical in
/-- Block b is a map of n entries whose keys are keys of type k; M says what it holds. -/
def MapAt (P : Program) (k : TypeId) (w : World) (b n : Nat) (M : Value → Option Value) : Prop :=
  ∃ es clock, w.heap[b]? = some (.map es clock) ∧ (∀ e ∈ es.toList, ∃ l, keyOf P k e.key = some l) ∧ (es.toList.map (·.key)).Nodup ∧ es.size = n ∧
    ∀ key v, M key = some v ↔ ∃ e ∈ es.toList, e.key = key ∧ e.val = v

open Classical in
noncomputable def putM (M : Value → Option Value) (key v : Value) : Value → Option Value := fun x => if x = key then some v else M x
open Classical in
noncomputable def delM (M : Value → Option Value) (key : Value) : Value → Option Value := fun x => if x = key then none else M x

section
variable {P : Program} {k : TypeId} {w w' : World} {b n : Nat} {M : Value → Option Value}

theorem MapAt.lt (h : MapAt P k w b n M) : b < w.heap.size := by
  obtain ⟨es, clock, hb, _⟩ := h
  exact (Array.getElem?_eq_some_iff.1 hb).1
theorem MapAt.of_heap (h : MapAt P k w b n M) (he : w'.heap[b]? = w.heap[b]?) : MapAt P k w' b n M := by
  obtain ⟨es, clock, hb, r⟩ := h
  exact ⟨es, clock, he.trans hb, r⟩
theorem MapAt.keep (h : MapAt P k w b n M) (hk : Keep w w') : MapAt P k w' b n M := h.of_heap (hk.block b h.lt)
theorem MapAt.ext {S : Nat → Prop} (h : MapAt P k w b n M) (hk : Ext S w w') (hs : ¬ S b) : MapAt P k w' b n M := h.of_heap (hk.block b h.lt hs)
theorem MapAt.alloc (h : MapAt P k w b n M) (o : Obj) : MapAt P k (w.alloc o) b n M := h.keep (Keep.alloc (Keep.refl _) o)
theorem MapAt.setCell (h : MapAt P k w b n M) {p : Addr} (hp : b ≠ p.block) (u : Value) : MapAt P k (w.setCell p u) b n M := h.of_heap (Below.heap_setCell w p u b hp)
theorem MapAt.made (P : Program) (k : TypeId) (w : World) : MapAt P k (w.alloc (.map #[] 0)) w.heap.size 0 (fun _ => none) :=
  ⟨#[], 0, heap_alloc_new w _, by simp, by simp, rfl, by simp⟩
theorem MapAt.size (h : MapAt P k w b n M) : n = 0 ↔ ∀ key, M key = none := by
  obtain ⟨es, clock, _, _, _, rfl, hM⟩ := h
  constructor
  · intro h0 key
    have : es.toList = [] := List.eq_nil_of_length_eq_zero (by simpa using h0)
    cases hm : M key with
    | none => rfl
    | some v => obtain ⟨e, he, _⟩ := (hM key v).1 hm; rw [this] at he; simp at he
  · intro hn
    rcases Nat.eq_zero_or_pos es.size with h0 | h0
    · exact h0
    · have := (hM es[0].key es[0].val).2 ⟨es[0], by simp, rfl, rfl⟩
      rw [hn] at this; cases this

theorem lookup_run (h : MapAt P k w b n M) (K : Maps.Keyed P k) {t e : TypeId} (ht : P.underlying t = some (.map k e)) {z : Value} (hz : (zeroValue e).run P w = .ok z w)
    {key : Value} {kl : Lit} (hkey : keyOf P k key = some kl) (c : Bool) :
    (Instr.lookup t (.map (some b)) key c).run P w = .ok (if c then .tuple #[(M key).getD z, .bool (M key).isSome] else (M key).getD z) w := by
  obtain ⟨es, clock, hb, hks, hnd, _, hM⟩ := h
  rcases K.find w hkey es.toList hks with ⟨h1, h2⟩ | ⟨j, e0, h1, h2, h3⟩
  · have hn : M key = none := by
      cases hm : M key with
      | none => rfl
      | some v => obtain ⟨e, he, h4, _⟩ := (hM key v).1 hm; exact absurd h4 (h2 e he)
    rw [hn]
    cases c <;> simp [Instr.lookup, run_underlying ht, MapKept.run_getObj_map hb, K.check w _ hkey, h1, hz, Result.andThen]
  · have hs : M key = some e0.val := (hM key _).2 ⟨e0, List.mem_of_getElem? h2, h3, rfl⟩
    rw [hs]
    cases c <;> simp [Instr.lookup, run_underlying ht, MapKept.run_getObj_map hb, K.check w _ hkey, h1, Result.andThen]

theorem update_run (h : MapAt P k w b n M) (K : Maps.Keyed P k) {t e : TypeId} (ht : P.underlying t = some (.map k e)) {key v : Value} {kl : Lit} (hkey : keyOf P k key = some kl) :
    ∃ w', (Instr.mapUpdate t (.map (some b)) key v).run P w = .ok () w' ∧ MapAt P k w' b (if (M key).isSome then n else n + 1) (putM M key v) ∧ w.grownBy w' (some b) := by
  obtain ⟨es, clock, hb, hks, hnd, hsz, hM⟩ := h
  rcases K.find w hkey es.toList hks with ⟨h1, h2⟩ | ⟨j, e0, h1, h2, h3⟩
  · have hn : M key = none := by
      cases hm : M key with
      | none => rfl
      | some v => obtain ⟨e, he, h4, _⟩ := (hM key v).1 hm; exact absurd h4 (h2 e he)
    refine ⟨ChangeMaps.setBlock w b (.map (es.push ⟨key, v, clock⟩) (clock + 1)), ?_, ⟨es.push ⟨key, v, clock⟩, clock + 1, ChangeMaps.heap_setBlock_same hb _, ?_, ?_, ?_, ?_⟩,
      ⟨rfl, rfl, rfl, by simp [ChangeMaps.setBlock], fun i _ hi => ChangeMaps.heap_setBlock_other hb _ (fun e => hi (by rw [e]))⟩⟩
    · simp [Instr.mapUpdate, run_underlying ht, MapKept.run_getObj_map hb, K.check w false hkey, h1, MapKept.run_setObj_map _ hb, Result.andThen, ChangeMaps.setBlock]
    · intro e he
      simp only [Array.toList_push, List.mem_append, List.mem_singleton] at he
      rcases he with he | rfl
      · exact hks e he
      · exact ⟨kl, hkey⟩
    · rw [Array.toList_push, List.map_append, List.map_singleton, List.nodup_append]
      refine ⟨hnd, by simp, ?_⟩
      intro x hx y hy
      obtain ⟨e, he, rfl⟩ := List.mem_map.1 hx
      simp only [List.mem_singleton] at hy
      rw [hy]; exact h2 e he
    · rw [hn]; simpa using hsz
    · intro x u
      simp only [putM, Array.toList_push, List.mem_append, List.mem_singleton]
      by_cases hx : x = key
      · subst hx
        rw [if_pos rfl]
        constructor
        · intro hu; exact ⟨⟨x, v, clock⟩, .inr rfl, rfl, by simpa using hu⟩
        · rintro ⟨e, he | rfl, h4, h5⟩
          · exact absurd h4 (h2 e he)
          · rw [← h5]
      · rw [if_neg hx, hM]
        constructor
        · rintro ⟨e, he, h4⟩; exact ⟨e, .inl he, h4⟩
        · rintro ⟨e, he | rfl, h4, h5⟩
          · exact ⟨e, he, h4, h5⟩
          · exact absurd h4.symm hx
  · have hs : M key = some e0.val := (hM key _).2 ⟨e0, List.mem_of_getElem? h2, h3, rfl⟩
    have hj : es[j]? = some e0 := by simpa using h2
    have hjl : j < es.toList.length := (List.getElem?_eq_some_iff.1 h2).1
    have hlist : (es.modify j (fun e' => { e' with key := key, val := v })).toList = es.toList.set j { e0 with key := key, val := v } := by
      rw [Array.toList_modify, ChangeMaps.modify_eq_set _ _ _ _ h2]
    have hkeys : (es.toList.set j { e0 with key := key, val := v }).map (·.key) = es.toList.map (·.key) := by
      apply List.ext_getElem?
      intro i
      simp only [List.getElem?_map, List.getElem?_set]
      by_cases hij : j = i
      · subst hij; rw [if_pos rfl, if_pos hjl, h2]; simp [h3]
      · rw [if_neg hij]
    have hmem : ∀ e, e ∈ es.toList.set j { e0 with key := key, val := v } ↔ e = { e0 with key := key, val := v } ∨ (e ∈ es.toList ∧ e.key ≠ key) := by
      intro e
      constructor
      · intro he
        obtain ⟨i, hi, ex⟩ := List.getElem_of_mem he
        rw [List.getElem_set] at ex
        split at ex
        · exact .inl ex.symm
        · rename_i hne
          have hi' : i < es.toList.length := by simpa using hi
          refine .inr ⟨ex ▸ List.getElem_mem hi', fun hk => hne ?_⟩
          have hp := List.pairwise_iff_getElem.1 hnd
          have e1 : (es.toList.map (·.key))[i]'(by simpa using hi') = (es.toList.map (·.key))[j]'(by simpa using hjl) := by
            simp only [List.getElem_map]
            rw [ex, hk, ← h3]
            have := List.getElem?_eq_some_iff.1 h2
            rw [this.2]
          rcases Nat.lt_trichotomy i j with h' | h' | h'
          · exact absurd e1 (hp i j (by simpa using hi') (by simpa using hjl) h')
          · exact h'.symm
          · exact absurd e1.symm (hp j i (by simpa using hjl) (by simpa using hi') h')
      · rintro (rfl | ⟨he, hne⟩)
        · exact List.mem_set hjl _
        · obtain ⟨i, hi, rfl⟩ := List.getElem_of_mem he
          have hij : j ≠ i := by
            rintro rfl
            have := List.getElem?_eq_some_iff.1 h2
            rw [this.2] at hne
            exact hne h3
          have : (es.toList.set j { e0 with key := key, val := v })[i]'(by simpa using hi) = es.toList[i] := by
            rw [List.getElem_set]; rw [if_neg hij]
          rw [← this]; exact List.getElem_mem _
    refine ⟨ChangeMaps.setBlock w b (.map (es.modify j (fun e' => { e' with key := key, val := v })) clock), ?_, ⟨es.modify j (fun e' => { e' with key := key, val := v }), clock, ChangeMaps.heap_setBlock_same hb _, ?_, ?_, ?_, ?_⟩,
      ⟨rfl, rfl, rfl, by simp [ChangeMaps.setBlock], fun i _ hi => ChangeMaps.heap_setBlock_other hb _ (fun e => hi (by rw [e]))⟩⟩
    · simp [Instr.mapUpdate, run_underlying ht, MapKept.run_getObj_map hb, K.check w false hkey, h1, hj, h3, K.stays w hkey, MapKept.run_setObj_map _ hb, Result.andThen, ChangeMaps.setBlock]
    · rw [hlist]
      intro e he
      rcases (hmem e).1 he with rfl | ⟨he, _⟩
      · exact ⟨kl, hkey⟩
      · exact hks e he
    · rw [hlist, hkeys]; exact hnd
    · rw [hs]; simpa using hsz
    · intro x u
      rw [hlist]
      simp only [putM]
      by_cases hx : x = key
      · subst hx
        rw [if_pos rfl]
        constructor
        · intro hu; exact ⟨_, (hmem _).2 (.inl rfl), rfl, by simpa using hu⟩
        · rintro ⟨e, he, h4, h5⟩
          rcases (hmem e).1 he with rfl | ⟨_, hne⟩
          · rw [← h5]
          · exact absurd h4 hne
      · rw [if_neg hx, hM]
        constructor
        · rintro ⟨e, he, h4, h5⟩; exact ⟨e, (hmem e).2 (.inr ⟨he, by rw [h4]; exact hx⟩), h4, h5⟩
        · rintro ⟨e, he, h4, h5⟩
          rcases (hmem e).1 he with rfl | ⟨he, _⟩
          · exact absurd h4.symm hx
          · exact ⟨e, he, h4, h5⟩

theorem delete_run (h : MapAt P k w b n M) (K : Maps.Keyed P k) {t e : TypeId} (ht : P.underlying t = some (.map k e)) {ty te : TypeId} {key : Value} {kl : Lit} (hkey : keyOf P k key = some kl) :
    ∃ w', (Builtin.delete_ #[t, te] ty #[.map (some b), key]).run P w = .ok (.tuple #[]) w' ∧ MapAt P k w' b (if (M key).isSome then n - 1 else n) (delM M key) ∧ w.grownBy w' (some b) := by
  obtain ⟨es, clock, hb, hks, hnd, hsz, hM⟩ := h
  rcases K.find w hkey es.toList hks with ⟨h1, h2⟩ | ⟨j, e0, h1, h2, h3⟩
  · have hn : M key = none := by
      cases hm : M key with
      | none => rfl
      | some v => obtain ⟨e, he, h4, _⟩ := (hM key v).1 hm; exact absurd h4 (h2 e he)
    refine ⟨ChangeMaps.setBlock w b (.map es clock), ?_, ⟨es, clock, ChangeMaps.heap_setBlock_same hb _, hks, hnd, by rw [hn]; simpa using hsz, ?_⟩,
      ⟨rfl, rfl, rfl, by simp [ChangeMaps.setBlock], fun i _ hi => ChangeMaps.heap_setBlock_other hb _ (fun e => hi (by rw [e]))⟩⟩
    · simp [Builtin.delete_, run_underlying ht, MapKept.run_getObj_map hb, K.check w _ hkey, h1, MapKept.run_setObj_map _ hb, Result.andThen, ChangeMaps.setBlock]
    · intro x u
      simp only [delM]
      by_cases hx : x = key
      · subst hx; rw [if_pos rfl]
        constructor
        · intro hu; cases hu
        · rintro ⟨e, he, h4, _⟩; exact absurd h4 (h2 e he)
      · rw [if_neg hx, hM]
  · have hs : M key = some e0.val := (hM key _).2 ⟨e0, List.mem_of_getElem? h2, h3, rfl⟩
    have hj : es[j]? = some e0 := by simpa using h2
    have hjl : j < es.toList.length := (List.getElem?_eq_some_iff.1 h2).1
    have hjs : j < es.size := by simpa using hjl
    have hlist : (es.eraseIdxIfInBounds j).toList = es.toList.eraseIdx j := by simp [Array.toList_eraseIdxIfInBounds]
    have hmem : ∀ e, e ∈ es.toList.eraseIdx j ↔ e ∈ es.toList ∧ e.key ≠ key := by
      intro e
      rw [List.mem_eraseIdx_iff_getElem]
      have hp := List.pairwise_iff_getElem.1 hnd
      have hgj : es.toList[j] = e0 := (List.getElem?_eq_some_iff.1 h2).2
      constructor
      · rintro ⟨i, hi, hne, rfl⟩
        refine ⟨List.getElem_mem hi, fun hk => ?_⟩
        have e1 : (es.toList.map (·.key))[i]'(by simpa using hi) = (es.toList.map (·.key))[j]'(by simpa using hjl) := by
          simp only [List.getElem_map]; rw [hk, hgj, h3]
        rcases Nat.lt_or_gt_of_ne hne with h' | h'
        · exact absurd e1 (hp i j (by simpa using hi) (by simpa using hjl) h')
        · exact absurd e1.symm (hp j i (by simpa using hjl) (by simpa using hi) h')
      · rintro ⟨he, hne⟩
        obtain ⟨i, hi, rfl⟩ := List.getElem_of_mem he
        refine ⟨i, hi, ?_, rfl⟩
        rintro rfl
        rw [hgj] at hne; exact hne h3
    refine ⟨ChangeMaps.setBlock w b (.map (es.eraseIdxIfInBounds j) clock), ?_, ⟨es.eraseIdxIfInBounds j, clock, ChangeMaps.heap_setBlock_same hb _, ?_, ?_, ?_, ?_⟩,
      ⟨rfl, rfl, rfl, by simp [ChangeMaps.setBlock], fun i _ hi => ChangeMaps.heap_setBlock_other hb _ (fun e => hi (by rw [e]))⟩⟩
    · simp [Builtin.delete_, run_underlying ht, MapKept.run_getObj_map hb, K.check w _ hkey, h1, MapKept.run_setObj_map _ hb, Result.andThen, ChangeMaps.setBlock]
    · rw [hlist]; intro e he; exact hks e ((hmem e).1 he).1
    · rw [hlist]; exact hnd.sublist ((List.eraseIdx_sublist _ _).map _)
    · rw [hs, ← hsz]
      have : (es.eraseIdxIfInBounds j).size = (es.eraseIdxIfInBounds j).toList.length := (Array.length_toList).symm
      rw [this, hlist, List.length_eraseIdx_of_lt hjl]; simp
    · intro x u
      rw [hlist]
      simp only [delM]
      by_cases hx : x = key
      · subst hx; rw [if_pos rfl]
        constructor
        · intro hu; cases hu
        · rintro ⟨e, he, h4, _⟩; exact absurd h4 ((hmem e).1 he).2
      · rw [if_neg hx, hM]
        constructor
        · rintro ⟨e, he, h4, h5⟩; exact ⟨e, (hmem e).2 ⟨he, by rw [h4]; exact hx⟩, h4, h5⟩
        · rintro ⟨e, he, h4, h5⟩; exact ⟨e, ((hmem e).1 he).1, h4, h5⟩

theorem len_run (h : MapAt P k w b n M) {t ty e : TypeId} (ht : P.underlying t = some (.map k e)) : (Builtin.len_ #[t] ty #[.map (some b)]).run P w = .ok (.int .i64 n) w := by
  obtain ⟨es, clock, hb, _, _, hsz, _⟩ := h
  simp [Builtin.len_, run_underlying ht, MapKept.run_getObj_map hb, Result.andThen, goInt, hsz]

end
end Go.Proofs.YtjpmiejgcnfiiaaGreat
namespace Go.Proofs.YtjpmiejgcnfiiaaGreat
open Go Go.ChangeShapes Go.WideShapes Go.ChangeAt Go.RowKit Go.Deep

/-- Whatever of type t is read in w has the cells f x, for an x that is ok. -/
def Opens (P : Program) (w : World) (t : TypeId) {α : Type} (f : α → List Value) (ok : α → Prop) : Prop :=
  ∀ (H : Type) (enc : TypeId × Value → H) (n : Nat) (cs : List Value) (y : DataW H × List MemPlace), DataW.trod enc P w 0 (fun _ => true) true n t cs = some y → ∃ x, cs = f x ∧ ok x

variable {P : Program} {w : World} {t : TypeId}

theorem opens_int {k : IntKind} (ht : P.underlying t = some (.int k)) : Opens P w t (fun n : Int => [.int k n]) (fun n => (Lit.int k n).wf = true) := fun H enc n cs y h => by
  obtain ⟨m, e, _, hw⟩ := DataW.trod_int ht h
  exact ⟨m, e, hw⟩
theorem opens_bool (ht : P.underlying t = some .bool) : Opens P w t (fun b : Bool => [.bool b]) (fun _ => True) := fun H enc n cs y h => by
  obtain ⟨m, e, _⟩ := DataW.trod_bool ht h
  exact ⟨m, e, trivial⟩
theorem opens_to {α β : Type} {f : α → List Value} {ok : α → Prop} {g : β → List Value} {ok' : β → Prop} (h : Opens P w t f ok) (to : α → β) (he : ∀ x, f x = g (to x)) (ho : ∀ x, ok x → ok' (to x)) : Opens P w t g ok' := fun H enc n cs y hy => by
  obtain ⟨x, e, hx⟩ := h H enc n cs y hy
  exact ⟨to x, e.trans (he x), ho x hx⟩

/-- A struct's cells, field by field, from the offset on. -/
theorem opens_two {α β : Type} {f0 f1 : Field} {g0 : α → List Value} {ok0 : α → Prop} {g1 : β → List Value} {ok1 : β → Prop} (ht : P.underlying t = some (.struct #[f0, f1]))
    (o0 : f0.offset = 0) (o1 : f1.offset = P.cellsOf f0.type) (hc : P.cellsOf t = P.cellsOf f0.type + P.cellsOf f1.type)
    (h0 : Opens P w f0.type g0 ok0) (h1 : Opens P w f1.type g1 ok1) : Opens P w t (fun x : α × β => g0 x.1 ++ g1 x.2) (fun x => ok0 x.1 ∧ ok1 x.2) := fun H enc n cs y h => by
  obtain ⟨xs, m, _, _, hl, hlen, hf⟩ := DataW.trod_struct ht h
  obtain ⟨y0, e0⟩ : ∃ y0, xs[0]? = some y0 := ⟨_, List.getElem?_eq_getElem (by rw [hlen]; simp)⟩
  obtain ⟨y1, e1⟩ : ∃ y1, xs[1]? = some y1 := ⟨_, List.getElem?_eq_getElem (by rw [hlen]; simp)⟩
  obtain ⟨x0, q0, k0⟩ := h0 H enc _ _ _ ((hf 0 f0 rfl).trans e0)
  obtain ⟨x1, q1, k1⟩ := h1 H enc _ _ _ ((hf 1 f1 rfl).trans e1)
  refine ⟨(x0, x1), ?_, k0, k1⟩
  rw [o0, List.drop_zero] at q0
  rw [o1] at q1
  have hlen1 : (cs.drop (P.cellsOf f0.type)).length = P.cellsOf f1.type := by rw [List.length_drop]; omega
  rw [← hlen1, List.take_length] at q1
  show cs = g0 x0 ++ g1 x1
  rw [← q0, ← q1, List.take_append_drop]

/-- One more field at the end: of a struct's list of fields. -/
theorem opens_struct {α : Type} {fs : Array Field} (ht : P.underlying t = some (.struct fs)) {g : α → List Value} {ok : α → Prop}
    (h : ∀ cs : List Value, cs.length = P.cellsOf t → (∀ (i : Nat) (f : Field), fs[i]? = some f → ∃ (H : Type) (enc : TypeId × Value → H) (n : Nat) (y : DataW H × List MemPlace), DataW.trod enc P w 0 (fun _ => true) true n f.type ((cs.drop f.offset).take (P.cellsOf f.type)) = some y) → ∃ x, cs = g x ∧ ok x) : Opens P w t g ok := fun H enc n cs y hy => by
  obtain ⟨xs, m, _, _, hl, hlen, hf⟩ := DataW.trod_struct ht hy
  refine h cs hl fun i f hi => ?_
  obtain ⟨lt, _⟩ := Array.getElem?_eq_some_iff.1 hi
  obtain ⟨y0, e0⟩ : ∃ y0, xs[i]? = some y0 := ⟨_, List.getElem?_eq_getElem (by rw [hlen]; exact lt)⟩
  exact ⟨H, enc, m, y0, (hf i f hi).trans e0⟩

theorem list_of_range {α : Type} {p : Nat → α → Prop} : ∀ (n : Nat), (∀ i, i < n → ∃ x, p i x) → ∃ l : List α, l.length = n ∧ ∀ i (h : i < l.length), p i l[i]
  | 0, _ => ⟨[], rfl, fun i h => by simp at h⟩
  | n + 1, h => by
    obtain ⟨l, hl, hp⟩ := list_of_range n (fun i hi => h i (by omega))
    obtain ⟨x, hx⟩ := h n (by omega)
    refine ⟨l ++ [x], by simp [hl], fun i hi => ?_⟩
    rcases Nat.lt_or_ge i l.length with hlt | hge
    · rw [List.getElem_append_left hlt]; exact hp i hlt
    · have : i = l.length := by simp at hi; omega
      subst this
      simpa [hl] using hx

theorem seg_of_elems {α : Type} {f : α → List Value} {s : Nat} (hf : ∀ x, (f x).length = s) {a : Addr} : ∀ {l : List α}, (∀ i (h : i < l.length) j, j < s → w.cell? (a.add (i * s + j)) = (f l[i])[j]?) → Seg w (some a) (l.flatMap f) := fun {l} h j u hu => by
  have hlt : j < (l.flatMap f).length := (List.getElem?_eq_some_iff.1 hu).1
  have hlen : (l.flatMap f).length = l.length * s := by
    clear h hu hlt
    induction l with
    | nil => simp
    | cons x l ih => simp [ih, hf, Nat.succ_mul, Nat.add_comm]
  rw [hlen] at hlt
  have hs : 0 < s := by rcases Nat.eq_zero_or_pos s with rfl | h0; · simp at hlt
                        · exact h0
  have hi : j / s < l.length := (Nat.div_lt_iff_lt_mul hs).2 hlt
  have hj : j = j / s * s + j % s := by have := Nat.div_add_mod j s; rw [Nat.mul_comm] at this; omega
  have hm := Nat.mod_lt j hs
  refine ⟨a, rfl, ?_⟩
  have := h _ hi _ hm
  rw [← hj] at this
  rw [this, ← flat_get f s hf l _ _ hi hm, ← hj, hu]

/-- A slice that came in. -/
theorem open_list {α : Type} {e : TypeId} {f : α → List Value} {ok : α → Prop} {s : Nat} {b0 : Nat} {r : Reach} {v : Value} {H : Type} {enc : TypeId × Value → H} {d : DataW H} {ps : List MemPlace} (ht : P.underlying t = some (.slice e)) (hs : P.cellsOf e = s) (hf : ∀ x, (f x).length = s)
    (ho : Opens P w e f ok) (hv : Value.okWide P w r b0 t v) (h : DataW.Trod enc P w 0 (fun _ => true) true t v d ps) :
    ∃ (A : Option Addr) (l : List α) (c : Nat), v = .slice A l.length c ∧ Seg w A (l.flatMap f) ∧ (∀ x ∈ l, ok x) ∧ l.length ≤ c ∧ c ≤ maxLen := by
  obtain ⟨A, len, cap, rfl⟩ := okWide_slice ht hv
  obtain ⟨fuel, hf'⟩ := h
  rcases open_slice ht hf' with ⟨hcs, _⟩ | ⟨a, len', cap', m, n, D, Pl, hcs, _, hl, hm, hmm, _, hx⟩
  · simp [Value.cells] at hcs
    obtain ⟨rfl, rfl, rfl⟩ := hcs
    exact ⟨none, [], 0, rfl, Seg.nil _ _, by simp, Nat.le_refl _, by simp [maxLen]⟩
  · simp [Value.cells] at hcs
    obtain ⟨rfl, rfl, rfl⟩ := hcs
    simp only [if_pos] at hmm
    subst hmm
    obtain ⟨l, hlen, hp⟩ := list_of_range (p := fun i x => (∀ j, j < s → w.cell? (a.add (i * s + j)) = (f x)[j]?) ∧ ok x) len (fun i hi => by
      obtain ⟨cs, h1, h2⟩ := hx i (by omega)
      obtain ⟨x, rfl, hk⟩ := ho H enc _ _ _ h2
      obtain ⟨_, _, hc⟩ := World.cells?_some h1
      refine ⟨x, fun j hj => ?_, hk⟩
      rw [← hc j (by omega), add_add', hs])
    subst hlen
    refine ⟨_, l, _, rfl, seg_of_elems hf fun i hi j hj => (hp i hi).1 j hj, fun x hxl => ?_, hl, hm⟩
    obtain ⟨i, hi, rfl⟩ := List.getElem_of_mem hxl
    exact (hp i hi).2

/-- A slice as an element of something else (a slice of slices, a field). -/
theorem opens_slice {α : Type} {e : TypeId} {f : α → List Value} {ok : α → Prop} {s : Nat} (ht : P.underlying t = some (.slice e)) (hs : P.cellsOf e = s) (hf : ∀ x, (f x).length = s) (ho : Opens P w e f ok) :
    Opens P w t (fun x : Option Addr × List α × Nat => [.slice x.1 x.2.1.length x.2.2]) (fun x => Seg w x.1 (x.2.1.flatMap f) ∧ (∀ y ∈ x.2.1, ok y) ∧ x.2.1.length ≤ x.2.2 ∧ x.2.2 ≤ maxLen) := fun H enc n cs y h => by
  rcases open_slice ht h with ⟨rfl, _⟩ | ⟨a, len, cap, m, n, D, Pl, rfl, _, hl, hm, hmm, _, hx⟩
  · exact ⟨(none, [], 0), rfl, Seg.nil _ _, by simp, Nat.le_refl _, by simp [maxLen]⟩
  · simp only [if_pos] at hmm
    subst hmm
    obtain ⟨l, hlen, hp⟩ := list_of_range (p := fun i x => (∀ j, j < s → w.cell? (a.add (i * s + j)) = (f x)[j]?) ∧ ok x) len (fun i hi => by
      obtain ⟨cs, h1, h2⟩ := hx i (by omega)
      obtain ⟨x, rfl, hk⟩ := ho H enc _ _ _ h2
      obtain ⟨_, _, hc⟩ := World.cells?_some h1
      refine ⟨x, fun j hj => ?_, hk⟩
      rw [← hc j (by omega), add_add', hs])
    subst hlen
    refine ⟨(some a, l, _), rfl, seg_of_elems hf fun i hi j hj => (hp i hi).1 j hj, fun x hxl => ?_, hl, hm⟩
    obtain ⟨i, hi, rfl⟩ := List.getElem_of_mem hxl
    exact (hp i hi).2

/-- A struct that came in by value. -/
theorem open_struct {α : Type} {fs : Array Field} {f : α → List Value} {ok : α → Prop} {b0 : Nat} {r : Reach} {v : Value} {H : Type} {enc : TypeId × Value → H} {d : DataW H} {ps : List MemPlace} (ht : P.underlying t = some (.struct fs))
    (ho : Opens P w t f ok) (hv : Value.okWide P w r b0 t v) (h : DataW.Trod enc P w 0 (fun _ => true) true t v d ps) : ∃ x, v = .agg (f x).toArray ∧ ok x := by
  obtain ⟨cs, rfl, _⟩ := okWide_struct ht hv
  obtain ⟨fuel, hf⟩ := h
  obtain ⟨x, e, hx⟩ := ho H enc _ _ _ hf
  exact ⟨x, by simp only [Value.cells] at e; rw [← e], hx⟩

/-- The arguments read as they did. -/
theorem Keep.trodAll {H : Type} {enc : TypeId × Value → H} (hl : laidOutB P = true) {W W' : World} (hb : Keep W W') :
    ∀ {ts : List TypeId} {vs : List Value} {ds : List (DataW H)} {ps : List MemPlace}, (ts.all fun t => P.readableRec t && decide (t < P.types.size)) = true → DataW.TrodAll enc P W 0 (fun _ => true) true ts vs ds ps →
      DataW.TrodAll enc P W' 0 (fun b => decide (b < W.heap.size)) true ts vs ds ps
  | [], _, _, _, _, h => by obtain ⟨rfl, rfl, rfl⟩ := trodAll_nil h; exact trodAll_mk0
  | t :: ts, vs, ds, ps, ha, h => by
    simp only [List.all_cons, Bool.and_eq_true] at ha
    obtain ⟨v0, vs0, d0, ds0, p0, q0, rfl, rfl, rfl, h0, r0⟩ := trodAll_cons h
    have lt0 : ∀ x ∈ p0, x.block < W.heap.size := by obtain ⟨m, hm⟩ := h0; exact DataW.trod_lt m _ _ _ hm
    exact trodAll_cons_mk (Below.trod hl ha.1.1 (of_decide_eq_true ha.1.2) h0 hb lt0) (Keep.trodAll hl hb ha.2 r0)

end Go.Proofs.YtjpmiejgcnfiiaaGreat
namespace Go.Proofs.YtjpmiejgcnfiiaaGreat
open Go Go.ChangeShapes Go.WideShapes Go.ChangeAt Go.RowKit Go.Deep

/-- As Opens; and what is read weighs no less than sz says. -/
def OpensU (P : Program) (w : World) (t : TypeId) {α : Type} (f : α → List Value) (ok : α → Prop) (sz : α → Nat) : Prop :=
 ∀ (H : Type) (enc : TypeId × Value → H) (n : Nat) (cs : List Value) (y : DataW H × List MemPlace), DataW.trod enc P w 0 (fun _ => true) true n t cs = some y → ∃ x, cs = f x ∧ ok x ∧ sz x ≤ Rows.uptoBulk y.1

theorem bulk_one {H : Type} (d : DataW H) : 1 ≤ Rows.uptoBulk d := by
 cases d with
 | lit l => cases l <;> simp [Rows.uptoBulk]
 | nil => simp [Rows.uptoBulk]
 | ptr d => simp [Rows.uptoBulk]
 | slice elems spare => simp [Rows.uptoBulk]
 | agg parts => simp [Rows.uptoBulk]
 | iface t d => simp [Rows.uptoBulk]
 | map entries => simp [Rows.uptoBulk]
 | held h => simp [Rows.uptoBulk]
theorem bulk_part {H : Type} {d : DataW H} {l : List (DataW H)} (h : d ∈ l) : Rows.uptoBulk d ≤ Rows.uptoBulkAll l := by
 induction l with
 | nil => cases h
 | cons x r ih =>
  simp only [Rows.uptoBulkAll]
  rcases List.mem_cons.1 h with e | e
  ·subst e; omega
  ·have := ih e; omega
variable {P : Program} {w : World} {t : TypeId}
theorem opensU_int {k : IntKind} (ht : P.underlying t = some (.int k)) : OpensU P w t (fun n : Int => [.int k n]) (fun n => (Lit.int k n).wf = true) (fun _ => 1) := fun H enc n cs y h => by
 obtain ⟨m, e, _, hw⟩ := DataW.trod_int ht h
 exact ⟨m, e, hw, bulk_one _⟩
theorem opensU_bool (ht : P.underlying t = some .bool) : OpensU P w t (fun b : Bool => [.bool b]) (fun _ => True) (fun _ => 1) := fun H enc n cs y h => by
 obtain ⟨m, e, _⟩ := DataW.trod_bool ht h
 exact ⟨m, e, trivial, bulk_one _⟩
theorem opensU_string (ht : P.underlying t = some .string) : OpensU P w t (fun b : ByteArray => [.string b]) (fun _ => True) (fun _ => 1) := fun H enc n cs y h => by
 obtain ⟨m, e, _⟩ := DataW.trod_string ht h
 exact ⟨m, e, trivial, bulk_one _⟩
theorem opensU_to {α β : Type} {f : α → List Value} {ok : α → Prop} {sz : α → Nat} {g : β → List Value} {ok' : β → Prop} {sz' : β → Nat} (h : OpensU P w t f ok sz) (to : α → β) (he : ∀ x, f x = g (to x)) (ho : ∀ x, ok x → ok' (to x)) (hs : ∀ x, sz' (to x) ≤ sz x) : OpensU P w t g ok' sz' := fun H enc n cs y hy => by
 obtain ⟨x, e, hx, hb⟩ := h H enc n cs y hy
 exact ⟨to x, e.trans (he x), ho x hx, Nat.le_trans (hs x) hb⟩

theorem bulk_range {H : Type} {α : Type} (D : Nat → DataW H) (sz : α → Nat) : ∀ (l : List α) (o : Nat), (∀ i (h : i < l.length), sz l[i] ≤ Rows.uptoBulk (D (o + i))) → (l.map sz).sum ≤ Rows.uptoBulkAll ((List.range' o l.length).map D)
 | [], _, _ => by simp
 | x :: l, o, h => by
  have h0 := h 0 (by simp)
  have := bulk_range D sz l (o + 1) (fun i hi => by have := h (i + 1) (by simpa using hi); simpa [Nat.add_assoc, Nat.add_comm 1 i] using this)
  simp only [List.length_cons, List.range'_succ, List.map_cons, Rows.uptoBulkAll, List.sum_cons]
  simp only [List.getElem_cons_zero, Nat.add_zero] at h0
  omega
/-- A slice: its places, and what they hold. -/
theorem opensU_slice {α : Type} {e : TypeId} {f : α → List Value} {ok : α → Prop} {sz : α → Nat} {s : Nat} (ht : P.underlying t = some (.slice e)) (hs : P.cellsOf e = s) (hf : ∀ x, (f x).length = s) (ho : OpensU P w e f ok sz) :
  OpensU P w t (fun x : Option Addr × List α × Nat => [.slice x.1 x.2.1.length x.2.2]) (fun x => Seg w x.1 (x.2.1.flatMap f) ∧ (∀ y ∈ x.2.1, ok y) ∧ x.2.1.length ≤ x.2.2 ∧ x.2.2 ≤ maxLen) (fun x => (x.2.1.map sz).sum + 1) := fun H enc n cs y h => by
 rcases open_slice ht h with ⟨rfl, _⟩ | ⟨a, len, cap, m, n, D, Pl, rfl, _, hl, hm, hmm, hy, hx⟩
 ·exact ⟨(none, [], 0), rfl, ⟨Seg.nil _ _, by simp, Nat.le_refl _, by simp [maxLen]⟩, bulk_one _⟩
 ·simp only [if_pos] at hmm
  subst hmm
  obtain ⟨l, hlen, hp⟩ := list_of_range (p := fun i x => ((∀ j, j < s → w.cell? (a.add (i * s + j)) = (f x)[j]?) ∧ ok x) ∧ sz x ≤ Rows.uptoBulk (D i)) len (fun i hi => by
   obtain ⟨cs, h1, h2⟩ := hx i (by omega)
   obtain ⟨x, rfl, hk, hb⟩ := ho H enc _ _ _ h2
   obtain ⟨_, _, hc⟩ := World.cells?_some h1
   refine ⟨x, ⟨fun j hj => ?_, hk⟩, hb⟩
   rw [← hc j (by omega), add_add', hs])
  subst hlen
  refine ⟨(some a, l, _), rfl, ⟨seg_of_elems hf fun i hi j hj => (hp i hi).1.1 j hj, fun x hxl => ?_, hl, hm⟩, ?_⟩
  ·obtain ⟨i, hi, rfl⟩ := List.getElem_of_mem hxl
   exact (hp i hi).1.2
  ·rw [hy]
   have := bulk_range D sz l 0 (fun i hi => by rw [Nat.zero_add]; exact (hp i hi).2)
   rw [← List.range_eq_range'] at this
   simp only [Rows.uptoBulk]
   show (l.map sz).sum + 1 ≤ _
   omega

/-- The fields of a struct, from offset o on. -/
def OpensF (P : Program) (w : World) (fs : List Field) (o : Nat) {α : Type} (g : α → List Value) (ok : α → Prop) (sz : α → Nat) : Prop :=
 ∀ (H : Type) (enc : TypeId × Value → H) (n : Nat) (cs : List Value) (xs : List (DataW H × List MemPlace)), cs.length = (fs.map fun f => P.cellsOf f.type).sum → xs.length = fs.length →
  (∀ (i : Nat) (f : Field), fs[i]? = some f → DataW.trod enc P w 0 (fun _ => true) true n f.type ((cs.drop (f.offset - o)).take (P.cellsOf f.type)) = xs[i]?) → ∃ x, cs = g x ∧ ok x ∧ sz x ≤ Rows.uptoBulkAll (xs.map (·.1))
theorem opensF_nil (o : Nat) : OpensF P w [] o (fun _ : Unit => []) (fun _ => True) (fun _ => 0) := fun H enc n cs xs h1 _ _ => by
 refine ⟨(), ?_, trivial, Nat.zero_le _⟩
 simpa using h1
theorem opensF_cons {α β : Type} {f : Field} {fs : List Field} {o c : Nat} {g0 : α → List Value} {ok0 : α → Prop} {sz0 : α → Nat} {g1 : β → List Value} {ok1 : β → Prop} {sz1 : β → Nat} (hc : P.cellsOf f.type = c) (h0 : OpensU P w f.type g0 ok0 sz0) (h1 : OpensF P w fs (o + c) g1 ok1 sz1)
  (ho : f.offset = o) (hall : ∀ f' ∈ fs, o + c ≤ f'.offset) : OpensF P w (f :: fs) o (fun x : α × β => g0 x.1 ++ g1 x.2) (fun x => ok0 x.1 ∧ ok1 x.2) (fun x => sz0 x.1 + sz1 x.2) := fun H enc n cs xs hl hx hf => by
 subst hc
 cases xs with
 | nil => simp at hx
 | cons y xs =>
  have e0 := hf 0 f rfl
  rw [ho, Nat.sub_self, List.drop_zero] at e0
  obtain ⟨x0, q0, k0, b0⟩ := h0 H enc n _ y e0
  have hl' : (cs.drop (P.cellsOf f.type)).length = (fs.map fun f => P.cellsOf f.type).sum := by rw [List.length_drop, hl]; simp
  obtain ⟨x1, q1, k1, b1⟩ := h1 H enc n (cs.drop (P.cellsOf f.type)) xs hl' (by simpa using hx) (fun i f' hi => by
   have e1 := hf (i + 1) f' (by simpa using hi)
   have h2 := hall f' (List.mem_of_getElem? hi)
   rw [List.drop_drop, show P.cellsOf f.type + (f'.offset - (o + P.cellsOf f.type)) = f'.offset - o by omega]
   simpa using e1)
  refine ⟨(x0, x1), ?_, ⟨k0, k1⟩, ?_⟩
  ·show cs = g0 x0 ++ g1 x1
   rw [← q0, ← q1, List.take_append_drop]
  ·simp only [List.map_cons, Rows.uptoBulkAll]
   show sz0 x0 + sz1 x1 ≤ _
   omega
theorem opensU_struct {fs : List Field} {α : Type} {g : α → List Value} {ok : α → Prop} {sz : α → Nat} (ht : P.underlying t = some (.struct fs.toArray)) (hc : P.cellsOf t = (fs.map fun f => P.cellsOf f.type).sum) (h : OpensF P w fs 0 g ok sz) : OpensU P w t g ok (fun x => sz x + 1) := fun H enc n cs y hy => by
 obtain ⟨xs, m, _, e, hl, hlen, hf⟩ := DataW.trod_struct ht hy
 obtain ⟨x, h1, h2, h3⟩ := h H enc m cs xs (by rw [hl, hc]) (by simpa using hlen) (fun i f hi => by rw [Nat.sub_zero]; exact hf i f (by simpa using hi))
 refine ⟨x, h1, h2, ?_⟩
 rw [e]
 simp only [Rows.uptoBulk]
 omega
/-- A struct that came in by value. -/
theorem openU_struct {α : Type} {fs : Array Field} {f : α → List Value} {ok : α → Prop} {sz : α → Nat} {b0 : Nat} {r : Reach} {v : Value} {H : Type} {enc : TypeId × Value → H} {d : DataW H} {ps : List MemPlace} (ht : P.underlying t = some (.struct fs))
  (ho : OpensU P w t f ok sz) (hv : Value.okWide P w r b0 t v) (h : DataW.Trod enc P w 0 (fun _ => true) true t v d ps) : ∃ x, v = .agg (f x).toArray ∧ ok x ∧ sz x ≤ Rows.uptoBulk d := by
 obtain ⟨cs, rfl, _⟩ := okWide_struct ht hv
 obtain ⟨fuel, hf⟩ := h
 obtain ⟨x, e, hx, hb⟩ := ho H enc _ _ _ hf
 exact ⟨x, by simp only [Value.cells] at e; rw [← e], hx, hb⟩
theorem bulk_bound {H : Type} {l : List (DataW H)} (hk : Rows.uptoSmall H l = true) : Rows.uptoBulkAll l ≤ 1048576 := of_decide_eq_true hk
end Go.Proofs.YtjpmiejgcnfiiaaGreat
