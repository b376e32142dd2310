/-
  Opening what came in, with the weight of each slice that is met.
-/
import Derived.Test.YtjpmiejgcnfiiaaOpen
import Derived.SizedLaws
set_option linter.unusedVariables false
set_option linter.unusedSimpArgs false
namespace Go.Proofs.Ytjpmiejgcnfiiaa
open Go Go.ChangeShapes Go.WideShapes Go.ChangeAt Go.RowKit Go.Deep

/-- As Opens; of the data read it is known that no slice in it is too heavy. -/
def OpensW (P : Program) (w : World) (t : TypeId) {α : Type} (f : α → List Value) (ok : α → Prop) : Prop :=
  ∀ (H : Type) (enc : TypeId × Value → H) (n : Nat) (cs : List Value) (y : DataW H × List MemPlace), DataW.trod enc P w 0 (fun _ => true) true n t cs = some y → (∀ m ∈ y.1.weights P t, m ≤ reachBytes) → ∃ x, cs = f x ∧ ok x

variable {P : Program} {w : World} {t : TypeId}
theorem Opens.light {α : Type} {f : α → List Value} {ok : α → Prop} (h : Opens P w t f ok) : OpensW P w t f ok := fun H enc n cs y hy _ => h H enc n cs y hy
theorem opensW_to {α β : Type} {f : α → List Value} {ok : α → Prop} {g : β → List Value} {ok' : β → Prop} (h : OpensW P w t f ok) (to : α → β) (he : ∀ x, f x = g (to x)) (ho : ∀ x, ok x → ok' (to x)) : OpensW P w t g ok' := fun H enc n cs y hy hw => by
  obtain ⟨x, e, hx⟩ := h H enc n cs y hy hw
  exact ⟨to x, e.trans (he x), ho x hx⟩
theorem weights_all {H : Type} {e : TypeId} : ∀ {l : List (DataW H)} {d : DataW H}, d ∈ l → ∀ n ∈ d.weights P e, n ∈ DataW.weightsAll P e l
  | x :: l, d, hd, n, hn => by
    simp only [DataW.weightsAll, List.mem_append]
    rcases List.mem_cons.1 hd with rfl | h
    · exact .inl hn
    · exact .inr (weights_all h n hn)
theorem weight_slice {H : Type} {e : TypeId} {elems spare : List (DataW H)} (ht : P.underlying t = some (.slice e)) (h : ∀ m ∈ (DataW.slice elems spare : DataW H).weights P t, m ≤ reachBytes) :
    (elems.length + spare.length) * P.bytesOf e ≤ reachBytes ∧ ∀ d ∈ elems, ∀ m ∈ d.weights P e, m ≤ reachBytes := by
  simp only [DataW.weights, ht, List.mem_cons, List.mem_append] at h
  exact ⟨h _ (.inl rfl), fun d hd m hm => h m (.inr (.inl (weights_all hd m hm)))⟩

theorem opensW_slice {α : Type} {e : TypeId} {f : α → List Value} {ok : α → Prop} {s : Nat} (ht : P.underlying t = some (.slice e)) (hs : P.cellsOf e = s) (hf : ∀ x, (f x).length = s) (ho : OpensW P w e f ok) :
    OpensW P w t (fun x : Option Addr × List α × Nat => [.slice x.1 x.2.1.length x.2.2]) (fun x => Seg w x.1 (x.2.1.flatMap f) ∧ (∀ y ∈ x.2.1, ok y) ∧ x.2.1.length ≤ x.2.2 ∧ x.2.2 ≤ maxLen ∧ x.2.1.length * P.bytesOf e ≤ reachBytes) := fun H enc n cs y h hw => by
  rcases open_slice ht h with ⟨rfl, _⟩ | ⟨a, len, cap, m, n, D, Pl, rfl, _, hl, hm, hmm, hy, hx⟩
  · exact ⟨(none, [], 0), rfl, Seg.nil _ _, by simp, Nat.le_refl _, by simp [maxLen], by simp⟩
  · simp only [if_pos] at hmm
    subst hmm
    rw [hy] at hw
    obtain ⟨hb, hall⟩ := weight_slice ht hw
    obtain ⟨l, hlen, hp⟩ := list_of_range (p := fun i x => (∀ j, j < s → w.cell? (a.add (i * s + j)) = (f x)[j]?) ∧ ok x) len (fun i hi => by
      obtain ⟨cs, h1, h2⟩ := hx i (by omega)
      obtain ⟨x, rfl, hk⟩ := ho H enc _ _ _ h2 (hall (D i) (List.mem_map_of_mem (List.mem_range.2 hi)))
      obtain ⟨_, _, hc⟩ := World.cells?_some h1
      refine ⟨x, fun j hj => ?_, hk⟩
      rw [← hc j (by omega), add_add', hs])
    subst hlen
    refine ⟨(some a, l, _), rfl, seg_of_elems hf fun i hi j hj => (hp i hi).1 j hj, fun x hxl => ?_, hl, hm, ?_⟩
    · obtain ⟨i, hi, rfl⟩ := List.getElem_of_mem hxl
      exact (hp i hi).2
    · simp only [List.length_map, List.length_range] at hb
      exact Nat.le_trans (Nat.mul_le_mul_right _ (Nat.le_add_right l.length _)) hb

theorem openW_list {α : Type} {e : TypeId} {f : α → List Value} {ok : α → Prop} {s : Nat} {b0 : Nat} {r : Reach} {v : Value} {H : Type} {enc : TypeId × Value → H} {d : DataW H} {ps : List MemPlace} (ht : P.underlying t = some (.slice e)) (hs : P.cellsOf e = s) (hf : ∀ x, (f x).length = s)
    (ho : OpensW P w e f ok) (hv : Value.okWide P w r b0 t v) (h : DataW.Trod enc P w 0 (fun _ => true) true t v d ps) (hw : ∀ m ∈ d.weights P t, m ≤ reachBytes) :
    ∃ (A : Option Addr) (l : List α) (c : Nat), v = .slice A l.length c ∧ Seg w A (l.flatMap f) ∧ (∀ x ∈ l, ok x) ∧ l.length ≤ c ∧ c ≤ maxLen ∧ l.length * P.bytesOf e ≤ reachBytes := by
  obtain ⟨A, len, cap, rfl⟩ := okWide_slice ht hv
  obtain ⟨fuel, hf'⟩ := h
  obtain ⟨x, e1, h1, h2, h3, h4, h5⟩ := opensW_slice ht hs hf ho H enc _ _ _ hf' hw
  simp [Value.cells] at e1
  obtain ⟨rfl, rfl, rfl⟩ := e1
  exact ⟨_, _, _, rfl, h1, h2, h3, h4, h5⟩
/-- The weights of one argument. -/
theorem weights_arg {H : Type} {ts : List TypeId} {ds : List (DataW H)} (h : (DataW.weightsEach P ts ds).all (· ≤ reachBytes) = true) {j : Nat} {d : DataW H} (ht : ts[j]? = some t) (hd : ds[j]? = some d) : ∀ n ∈ d.weights P t, n ≤ reachBytes := fun n hn => by
  have := List.all_eq_true.1 h _ (DataW.weights_mem_each ht hd n hn)
  simpa using this
end Go.Proofs.Ytjpmiejgcnfiiaa
