/-
  Opening what came in, and shutting it again: what every proof of this seat does around its walk. No program in sight.
-/
import Derived.Test.YtjpmiejgcnfiiaaMem
import Derived.WalkKit
import Derived.ProofKit
import Derived.OpenShut
import Derived.ShutString
import Derived.ChangeOld
import Derived.Below
import Derived.Deep.Slices
set_option linter.unusedVariables false
set_option linter.unusedSimpArgs false
namespace Go.Proofs.Ytjpmiejgcnfiiaa
open Go Go.ChangeShapes Go.WideShapes Go.ChangeAt Go.RowKit Go.Deep

/-- Whatever of type t is read in w has the cells f x, for an x that is ok. -/
def Opens (P : Program) (w : World) (t : TypeId) {α : Type} (f : α → List Value) (ok : α → Prop) : Prop :=
  ∀ (H : Type) (enc : TypeId × Value → H) (n : Nat) (cs : List Value) (y : DataW H × List MemPlace), DataW.trod enc P w 0 (fun _ => true) true n t cs = some y → ∃ x, cs = f x ∧ ok x

variable {P : Program} {w : World} {t : TypeId}

theorem opens_int {k : IntKind} (ht : P.underlying t = some (.int k)) : Opens P w t (fun n : Int => [.int k n]) (fun n => (Lit.int k n).wf = true) := fun H enc n cs y h => by
  obtain ⟨m, e, _, hw⟩ := DataW.trod_int ht h
  exact ⟨m, e, hw⟩
theorem opens_bool (ht : P.underlying t = some .bool) : Opens P w t (fun b : Bool => [.bool b]) (fun _ => True) := fun H enc n cs y h => by
  obtain ⟨m, e, _⟩ := DataW.trod_bool ht h
  exact ⟨m, e, trivial⟩
theorem opens_to {α β : Type} {f : α → List Value} {ok : α → Prop} {g : β → List Value} {ok' : β → Prop} (h : Opens P w t f ok) (to : α → β) (he : ∀ x, f x = g (to x)) (ho : ∀ x, ok x → ok' (to x)) : Opens P w t g ok' := fun H enc n cs y hy => by
  obtain ⟨x, e, hx⟩ := h H enc n cs y hy
  exact ⟨to x, e.trans (he x), ho x hx⟩

/-- A struct's cells, field by field, from the offset on. -/
theorem opens_two {α β : Type} {f0 f1 : Field} {g0 : α → List Value} {ok0 : α → Prop} {g1 : β → List Value} {ok1 : β → Prop} (ht : P.underlying t = some (.struct #[f0, f1]))
    (o0 : f0.offset = 0) (o1 : f1.offset = P.cellsOf f0.type) (hc : P.cellsOf t = P.cellsOf f0.type + P.cellsOf f1.type)
    (h0 : Opens P w f0.type g0 ok0) (h1 : Opens P w f1.type g1 ok1) : Opens P w t (fun x : α × β => g0 x.1 ++ g1 x.2) (fun x => ok0 x.1 ∧ ok1 x.2) := fun H enc n cs y h => by
  obtain ⟨xs, m, _, _, hl, hlen, hf⟩ := DataW.trod_struct ht h
  obtain ⟨y0, e0⟩ : ∃ y0, xs[0]? = some y0 := ⟨_, List.getElem?_eq_getElem (by rw [hlen]; simp)⟩
  obtain ⟨y1, e1⟩ : ∃ y1, xs[1]? = some y1 := ⟨_, List.getElem?_eq_getElem (by rw [hlen]; simp)⟩
  obtain ⟨x0, q0, k0⟩ := h0 H enc _ _ _ ((hf 0 f0 rfl).trans e0)
  obtain ⟨x1, q1, k1⟩ := h1 H enc _ _ _ ((hf 1 f1 rfl).trans e1)
  refine ⟨(x0, x1), ?_, k0, k1⟩
  rw [o0, List.drop_zero] at q0
  rw [o1] at q1
  have hlen1 : (cs.drop (P.cellsOf f0.type)).length = P.cellsOf f1.type := by rw [List.length_drop]; omega
  rw [← hlen1, List.take_length] at q1
  show cs = g0 x0 ++ g1 x1
  rw [← q0, ← q1, List.take_append_drop]

/-- One more field at the end: of a struct's list of fields. -/
theorem opens_struct {α : Type} {fs : Array Field} (ht : P.underlying t = some (.struct fs)) {g : α → List Value} {ok : α → Prop}
    (h : ∀ cs : List Value, cs.length = P.cellsOf t → (∀ (i : Nat) (f : Field), fs[i]? = some f → ∃ (H : Type) (enc : TypeId × Value → H) (n : Nat) (y : DataW H × List MemPlace), DataW.trod enc P w 0 (fun _ => true) true n f.type ((cs.drop f.offset).take (P.cellsOf f.type)) = some y) → ∃ x, cs = g x ∧ ok x) : Opens P w t g ok := fun H enc n cs y hy => by
  obtain ⟨xs, m, _, _, hl, hlen, hf⟩ := DataW.trod_struct ht hy
  refine h cs hl fun i f hi => ?_
  obtain ⟨lt, _⟩ := Array.getElem?_eq_some_iff.1 hi
  obtain ⟨y0, e0⟩ : ∃ y0, xs[i]? = some y0 := ⟨_, List.getElem?_eq_getElem (by rw [hlen]; exact lt)⟩
  exact ⟨H, enc, m, y0, (hf i f hi).trans e0⟩

theorem list_of_range {α : Type} {p : Nat → α → Prop} : ∀ (n : Nat), (∀ i, i < n → ∃ x, p i x) → ∃ l : List α, l.length = n ∧ ∀ i (h : i < l.length), p i l[i]
  | 0, _ => ⟨[], rfl, fun i h => by simp at h⟩
  | n + 1, h => by
    obtain ⟨l, hl, hp⟩ := list_of_range n (fun i hi => h i (by omega))
    obtain ⟨x, hx⟩ := h n (by omega)
    refine ⟨l ++ [x], by simp [hl], fun i hi => ?_⟩
    rcases Nat.lt_or_ge i l.length with hlt | hge
    · rw [List.getElem_append_left hlt]; exact hp i hlt
    · have : i = l.length := by simp at hi; omega
      subst this
      simpa [hl] using hx

theorem seg_of_elems {α : Type} {f : α → List Value} {s : Nat} (hf : ∀ x, (f x).length = s) {a : Addr} : ∀ {l : List α}, (∀ i (h : i < l.length) j, j < s → w.cell? (a.add (i * s + j)) = (f l[i])[j]?) → Seg w (some a) (l.flatMap f) := fun {l} h j u hu => by
  have hlt : j < (l.flatMap f).length := (List.getElem?_eq_some_iff.1 hu).1
  have hlen : (l.flatMap f).length = l.length * s := by
    clear h hu hlt
    induction l with
    | nil => simp
    | cons x l ih => simp [ih, hf, Nat.succ_mul, Nat.add_comm]
  rw [hlen] at hlt
  have hs : 0 < s := by rcases Nat.eq_zero_or_pos s with rfl | h0; · simp at hlt
                        · exact h0
  have hi : j / s < l.length := (Nat.div_lt_iff_lt_mul hs).2 hlt
  have hj : j = j / s * s + j % s := by have := Nat.div_add_mod j s; rw [Nat.mul_comm] at this; omega
  have hm := Nat.mod_lt j hs
  refine ⟨a, rfl, ?_⟩
  have := h _ hi _ hm
  rw [← hj] at this
  rw [this, ← flat_get f s hf l _ _ hi hm, ← hj, hu]

/-- A slice that came in. -/
theorem open_list {α : Type} {e : TypeId} {f : α → List Value} {ok : α → Prop} {s : Nat} {b0 : Nat} {r : Reach} {v : Value} {H : Type} {enc : TypeId × Value → H} {d : DataW H} {ps : List MemPlace} (ht : P.underlying t = some (.slice e)) (hs : P.cellsOf e = s) (hf : ∀ x, (f x).length = s)
    (ho : Opens P w e f ok) (hv : Value.okWide P w r b0 t v) (h : DataW.Trod enc P w 0 (fun _ => true) true t v d ps) :
    ∃ (A : Option Addr) (l : List α) (c : Nat), v = .slice A l.length c ∧ Seg w A (l.flatMap f) ∧ (∀ x ∈ l, ok x) ∧ l.length ≤ c ∧ c ≤ maxLen := by
  obtain ⟨A, len, cap, rfl⟩ := okWide_slice ht hv
  obtain ⟨fuel, hf'⟩ := h
  rcases open_slice ht hf' with ⟨hcs, _⟩ | ⟨a, len', cap', m, n, D, Pl, hcs, _, hl, hm, hmm, _, hx⟩
  · simp [Value.cells] at hcs
    obtain ⟨rfl, rfl, rfl⟩ := hcs
    exact ⟨none, [], 0, rfl, Seg.nil _ _, by simp, Nat.le_refl _, by simp [maxLen]⟩
  · simp [Value.cells] at hcs
    obtain ⟨rfl, rfl, rfl⟩ := hcs
    simp only [if_pos] at hmm
    subst hmm
    obtain ⟨l, hlen, hp⟩ := list_of_range (p := fun i x => (∀ j, j < s → w.cell? (a.add (i * s + j)) = (f x)[j]?) ∧ ok x) len (fun i hi => by
      obtain ⟨cs, h1, h2⟩ := hx i (by omega)
      obtain ⟨x, rfl, hk⟩ := ho H enc _ _ _ h2
      obtain ⟨_, _, hc⟩ := World.cells?_some h1
      refine ⟨x, fun j hj => ?_, hk⟩
      rw [← hc j (by omega), add_add', hs])
    subst hlen
    refine ⟨_, l, _, rfl, seg_of_elems hf fun i hi j hj => (hp i hi).1 j hj, fun x hxl => ?_, hl, hm⟩
    obtain ⟨i, hi, rfl⟩ := List.getElem_of_mem hxl
    exact (hp i hi).2

/-- A slice as an element of something else (a slice of slices, a field). -/
theorem opens_slice {α : Type} {e : TypeId} {f : α → List Value} {ok : α → Prop} {s : Nat} (ht : P.underlying t = some (.slice e)) (hs : P.cellsOf e = s) (hf : ∀ x, (f x).length = s) (ho : Opens P w e f ok) :
    Opens P w t (fun x : Option Addr × List α × Nat => [.slice x.1 x.2.1.length x.2.2]) (fun x => Seg w x.1 (x.2.1.flatMap f) ∧ (∀ y ∈ x.2.1, ok y) ∧ x.2.1.length ≤ x.2.2 ∧ x.2.2 ≤ maxLen) := fun H enc n cs y h => by
  rcases open_slice ht h with ⟨rfl, _⟩ | ⟨a, len, cap, m, n, D, Pl, rfl, _, hl, hm, hmm, _, hx⟩
  · exact ⟨(none, [], 0), rfl, Seg.nil _ _, by simp, Nat.le_refl _, by simp [maxLen]⟩
  · simp only [if_pos] at hmm
    subst hmm
    obtain ⟨l, hlen, hp⟩ := list_of_range (p := fun i x => (∀ j, j < s → w.cell? (a.add (i * s + j)) = (f x)[j]?) ∧ ok x) len (fun i hi => by
      obtain ⟨cs, h1, h2⟩ := hx i (by omega)
      obtain ⟨x, rfl, hk⟩ := ho H enc _ _ _ h2
      obtain ⟨_, _, hc⟩ := World.cells?_some h1
      refine ⟨x, fun j hj => ?_, hk⟩
      rw [← hc j (by omega), add_add', hs])
    subst hlen
    refine ⟨(some a, l, _), rfl, seg_of_elems hf fun i hi j hj => (hp i hi).1 j hj, fun x hxl => ?_, hl, hm⟩
    obtain ⟨i, hi, rfl⟩ := List.getElem_of_mem hxl
    exact (hp i hi).2

/-- A struct that came in by value. -/
theorem open_struct {α : Type} {fs : Array Field} {f : α → List Value} {ok : α → Prop} {b0 : Nat} {r : Reach} {v : Value} {H : Type} {enc : TypeId × Value → H} {d : DataW H} {ps : List MemPlace} (ht : P.underlying t = some (.struct fs))
    (ho : Opens P w t f ok) (hv : Value.okWide P w r b0 t v) (h : DataW.Trod enc P w 0 (fun _ => true) true t v d ps) : ∃ x, v = .agg (f x).toArray ∧ ok x := by
  obtain ⟨cs, rfl, _⟩ := okWide_struct ht hv
  obtain ⟨fuel, hf⟩ := h
  obtain ⟨x, e, hx⟩ := ho H enc _ _ _ hf
  exact ⟨x, by simp only [Value.cells] at e; rw [← e], hx⟩

/-- The arguments read as they did. -/
theorem Keep.trodAll {H : Type} {enc : TypeId × Value → H} (hl : laidOutB P = true) {W W' : World} (hb : Keep W W') :
    ∀ {ts : List TypeId} {vs : List Value} {ds : List (DataW H)} {ps : List MemPlace}, (ts.all fun t => P.readableRec t && decide (t < P.types.size)) = true → DataW.TrodAll enc P W 0 (fun _ => true) true ts vs ds ps →
      DataW.TrodAll enc P W' 0 (fun b => decide (b < W.heap.size)) true ts vs ds ps
  | [], _, _, _, _, h => by obtain ⟨rfl, rfl, rfl⟩ := trodAll_nil h; exact trodAll_mk0
  | t :: ts, vs, ds, ps, ha, h => by
    simp only [List.all_cons, Bool.and_eq_true] at ha
    obtain ⟨v0, vs0, d0, ds0, p0, q0, rfl, rfl, rfl, h0, r0⟩ := trodAll_cons h
    have lt0 : ∀ x ∈ p0, x.block < W.heap.size := by obtain ⟨m, hm⟩ := h0; exact DataW.trod_lt m _ _ _ hm
    exact trodAll_cons_mk (Below.trod hl ha.1.1 (of_decide_eq_true ha.1.2) h0 hb lt0) (Keep.trodAll hl hb ha.2 r0)

end Go.Proofs.Ytjpmiejgcnfiiaa
