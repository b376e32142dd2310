/-
  The iteration sweep by sweep, on the row of parents. No program in sight.
-/
import Derived.Test.YthjlfbeabobgmaaDPost
namespace Go.Proofs.Ythjlfbeabobgmaa.Dom

/-- The parents as the row has them; the nodes that have one. -/
def fD (D : List Int) (x : Nat) : Nat := (D.getD x 0).toNat
def SD (D : List Int) (x : Nat) : Prop := 0 ≤ D.getD x (-1)
theorem SD.lt {D : List Int} {x : Nat} (h : SD D x) : x < D.length := by
  rcases Nat.lt_or_ge x D.length with h1 | h1
  · exact h1
  · unfold SD at h; rw [List.getD_eq_getElem?_getD, List.getElem?_eq_none h1] at h; exact absurd h (by decide)
theorem SD_iff {D : List Int} {x : Nat} (hx : x < D.length) : SD D x ↔ 0 ≤ D[x] := by
  unfold SD; rw [List.getD_eq_getElem?_getD, List.getElem?_eq_getElem hx]; rfl
theorem SD.eq {D : List Int} {x : Nat} (h : SD D x) (hx : x < D.length) : D[x] = (fD D x : Int) := by
  have h1 := (SD_iff hx).1 h
  unfold fD; rw [List.getD_eq_getElem?_getD, List.getElem?_eq_getElem hx]
  simp; omega
theorem fD_set {D : List Int} {n b : Nat} (hn : n < D.length) : fD (D.set n (b : Int)) = set (fD D) n b := by
  funext x
  unfold fD set
  by_cases h : x = n
  · subst h; simp [hn]
  · rw [if_neg h, List.getD_eq_getElem?_getD, List.getElem?_set_ne (fun e => h e.symm), ← List.getD_eq_getElem?_getD]
theorem SD_set {D : List Int} {n b : Nat} (hn : n < D.length) : SD (D.set n (b : Int)) = fun x => SD D x ∨ x = n := by
  funext x
  apply propext
  unfold SD
  by_cases h : x = n
  · subst h; simp [hn]
  · rw [List.getD_eq_getElem?_getD, List.getElem?_set_ne (fun e => h e.symm), ← List.getD_eq_getElem?_getD]
    exact ⟨.inl, fun h1 => h1.elim id (fun h2 => absurd h2 h)⟩

/-- In sweep k, the nodes of rank i and more have been looked at. -/
structure Sw (E : Nat → Nat → Prop) (rank : Nat → Nat) (D : List Int) (K k i : Nat) (changed : Bool) : Prop where
  tree : Tree E rank (SD D) (fD D)
  zero : fD D 0 = 0
  done : ∀ a, R E a → i ≤ rank a → SD D a ∧ J E rank (fD D) k a
  prev : ∀ j, k = j + 1 → ∀ a, R E a → SD D a ∧ J E rank (fD D) j a
  same : changed = false → ∀ a, R E a → i ≤ rank a → a ≠ 0 → Best E rank (SD D) (fD D) a (fD D a)
  late : K < k → changed = false ∧ ∀ x, R E x → ∀ d, Anc (fD D) x d → Dm E d x

/-- K retreats serve for all. -/
def Enough (E : Nat → Nat → Prop) (rank : Nat → Nat) (n K : Nat) : Prop := ∀ d x, d < n → x < n → RA E d x → RK E rank d K x

section
variable {E : Nat → Nat → Prop} {rank : Nat → Nat} {D : List Int} {K k i : Nat} {ch : Bool}

theorem J.root {f : Nat → Nat} {k : Nat} : J E rank f k 0 := fun d ha hk => hk.ne ha.zero.symm

/-- A sweep begins. -/
theorem Sw.begin_ (hK : Enough E rank D.length K) (hT : Tree E rank (SD D) (fD D)) (h0 : fD D 0 = 0) (hp : ∀ j, k = j + 1 → ∀ a, R E a → SD D a ∧ J E rank (fD D) j a) (htop : ∀ a, R E a → a ≠ 0 → rank a < rank 0) (hi : i = rank 0) : Sw E rank D K k i false where
  tree := hT
  zero := h0
  done := fun a ha hr => by
    by_cases e : a = 0
    · subst e; exact ⟨hT.zero, J.root⟩
    · have := htop a ha e; omega
  prev := hp
  same := fun _ a ha hr hne => by have := htop a ha hne; omega
  late := fun hlt => ⟨rfl, fun x hx d ha => by
    obtain ⟨j, rfl⟩ : ∃ j, k = j + 1 := ⟨k - 1, by omega⟩
    obtain ⟨hS, hJ⟩ := hp j rfl x hx
    exact ⟨hx, fun hra => hJ d ha ((hK d x (hT.anc hS ha).1.lt hS.lt hra).mono_le (by omega))⟩⟩

/-- The first sweep. -/
theorem Sw.first {n : Nat} (hn : 0 < n) (hK : Enough E rank n K) (htop : ∀ a, R E a → a ≠ 0 → rank a < rank 0) (hi : i = rank 0) : Sw E rank ((List.replicate n (-1)).set 0 0) K 0 i false := by
  have hS : ∀ x, SD ((List.replicate n (-1)).set 0 0) x ↔ x = 0 := fun x => by
    unfold SD
    rw [List.getD_eq_getElem?_getD, List.getElem?_set]
    by_cases e : 0 = x
    · subst e; simp [hn]
    · rw [if_neg e, List.getElem?_replicate]
      by_cases h1 : x < n
      · rw [if_pos h1]; simp; omega
      · rw [if_neg h1]; simp; omega
  refine Sw.begin_ (by simpa using hK) ⟨(hS 0).2 rfl, fun x hx => by rw [(hS x).1 hx]; exact .root, fun x hx h0 => absurd ((hS x).1 hx) h0, fun x hx d hd => ?_⟩ ?_ (fun j hj => by omega) htop hi
  · rw [(hS x).1 hx] at hd ⊢
    by_cases e : d = 0
    · rw [e]; exact .refl _
    · exact absurd (RA.root (fun h => e h.symm)) hd.2
  · simp [fD, hn]

/-- The next sweep. -/
theorem Sw.again (hK : Enough E rank D.length K) (h : Sw E rank D K k 0 ch) (htop : ∀ a, R E a → a ≠ 0 → rank a < rank 0) (hi : i = rank 0) : Sw E rank D K (k + 1) i false :=
  Sw.begin_ hK h.tree h.zero (fun j hj a ha => by obtain rfl : j = k := by omega
                                                  exact h.done a ha (Nat.zero_le _)) htop hi

/-- A node keeps its parent. -/
theorem Sw.keep {n : Nat} (h : Sw E rank D K k (i + 1) ch) (hn : R E n) (hr : rank n = i) (h0 : n ≠ 0) (hinj : ∀ x y, R E x → R E y → rank x = rank y → x = y) (hS : SD D n) (hb : Best E rank (SD D) (fD D) n (fD D n)) : Sw E rank D K k i ch where
  tree := h.tree
  zero := h.zero
  done := fun a ha hi => by
    rcases Nat.lt_or_ge i (rank a) with h1 | h1
    · exact h.done a ha h1
    · obtain rfl : a = n := hinj a n ha hn (by omega)
      exact ⟨hS, J.same h.tree h0 hb (fun a hRa he hlt => h.done a hRa (by omega)) h.prev⟩
  prev := h.prev
  same := fun hc a ha hi hne => by
    rcases Nat.lt_or_ge i (rank a) with h1 | h1
    · exact h.same hc a ha h1 hne
    · obtain rfl : a = n := hinj a n ha hn (by omega)
      exact hb
  late := h.late

/-- A node gets a new one. -/
theorem Sw.put {n b : Nat} (h : Sw E rank D K k (i + 1) ch) (hn : R E n) (hr : rank n = i) (h0 : n ≠ 0) (hinj : ∀ x y, R E x → R E y → rank x = rank y → x = y) (hl : n < D.length) (hb : Best E rank (SD D) (fD D) n b) (hne : ¬ (b : Int) = D[n]) : Sw E rank (D.set n (b : Int)) K k i true := by
  have hJn : J E rank (set (fD D) n b) k n := J.here h.tree h0 hb (fun a hRa he hlt => h.done a hRa (by omega)) h.prev
  refine ⟨?_, ?_, ?_, ?_, (fun e => by cases e), fun hlt => ?_⟩
  · rw [fD_set hl, SD_set hl]; exact h.tree.update h0 hn hb
  · rw [fD_set hl, set_ne (fun e => h0 e.symm)]; exact h.zero
  · intro a ha hi
    rw [fD_set hl, SD_set hl]
    rcases Nat.lt_or_ge i (rank a) with h1 | h1
    · obtain ⟨h2, h3⟩ := h.done a ha h1
      exact ⟨.inl h2, J.other hJn h3⟩
    · obtain rfl : a = n := hinj a n ha hn (by omega)
      exact ⟨.inr rfl, hJn⟩
  · intro j hj a ha
    rw [fD_set hl, SD_set hl]
    obtain ⟨h2, h3⟩ := h.prev j hj a ha
    subst hj
    exact ⟨.inl h2, J.other hJn.less h3⟩
  · exfalso
    obtain ⟨hc, hd⟩ := h.late hlt
    obtain ⟨j, rfl⟩ : ∃ j, k = j + 1 := ⟨k - 1, by omega⟩
    have hall : ∀ x, R E x → SD D x := fun x hx => (h.prev j rfl x hx).1
    have e := best_same h.tree hall hd h0 hn hb
    exact hne (by rw [e]; exact ((hall n hn).eq hl).symm)

/-- The tree is the tree of dominators. -/
structure Fin (E : Nat → Nat → Prop) (rank : Nat → Nat) (D : List Int) : Prop where
  tree : Tree E rank (SD D) (fD D)
  zero : fD D 0 = 0
  all : ∀ x, R E x → SD D x
  dom : ∀ x, R E x → ∀ d, Anc (fD D) x d ↔ Dm E d x
theorem Sw.fin (h : Sw E rank D K k 0 false) : Fin E rank D where
  tree := h.tree
  zero := h.zero
  all := fun x hx => (h.done x hx (Nat.zero_le _)).1
  dom := fix_dom h.tree (fun x hx => (h.done x hx (Nat.zero_le _)).1) (fun x hx h0 => h.same rfl x hx (Nat.zero_le _) h0)

/-! ### The predecessors one by one -/
/-- What the first predecessors of a node say. -/
def BestTo (D : List Int) (ps : List Nat) (best : Int) : Prop :=
  (best = -1 ∧ ∀ p ∈ ps, ¬ SD D p) ∨ ∃ b : Nat, best = (b : Int) ∧ SD D b ∧ (∃ p ∈ ps, SD D p) ∧ ∀ d, Anc (fD D) b d ↔ ∀ p ∈ ps, SD D p → Anc (fD D) p d
theorem BestTo.nil : BestTo D [] (-1) := .inl ⟨rfl, fun p hp => by simp at hp⟩
theorem BestTo.pass {ps : List Nat} {best : Int} {p : Nat} (h : BestTo D ps best) (hp : ¬ SD D p) : BestTo D (ps ++ [p]) best := by
  rcases h with ⟨e, h⟩ | ⟨b, e, h1, ⟨q, h2, h3⟩, h4⟩
  · refine .inl ⟨e, fun q hq => ?_⟩
    rcases List.mem_append.1 hq with h5 | h5
    · exact h q h5
    · rw [List.mem_singleton.1 h5]; exact hp
  · refine .inr ⟨b, e, h1, ⟨q, List.mem_append.2 (.inl h2), h3⟩, fun d => ?_⟩
    rw [h4 d]
    refine ⟨fun h q hq hs => ?_, fun h q hq hs => h q (List.mem_append.2 (.inl hq)) hs⟩
    rcases List.mem_append.1 hq with h5 | h5
    · exact h q h5 hs
    · rw [List.mem_singleton.1 h5] at hs; exact absurd hs hp
theorem BestTo.first {ps : List Nat} {p : Nat} (h : ∀ q ∈ ps, ¬ SD D q) (hp : SD D p) : BestTo D (ps ++ [p]) (p : Int) := by
  refine .inr ⟨p, rfl, hp, ⟨p, by simp, hp⟩, fun d => ⟨fun ha q hq hs => ?_, fun ha => ha p (by simp) hp⟩⟩
  rcases List.mem_append.1 hq with h5 | h5
  · exact absurd hs (h q h5)
  · rw [List.mem_singleton.1 h5]; exact ha
theorem BestTo.meet {ps : List Nat} {b c p : Nat} (h1 : ∃ q ∈ ps, SD D q) (h2 : ∀ d, Anc (fD D) b d ↔ ∀ q ∈ ps, SD D q → Anc (fD D) q d) (hp : SD D p) (hc : SD D c) (h3 : ∀ d, Anc (fD D) c d ↔ Anc (fD D) b d ∧ Anc (fD D) p d) : BestTo D (ps ++ [p]) (c : Int) := by
  obtain ⟨q, hq, hs⟩ := h1
  refine .inr ⟨c, rfl, hc, ⟨q, List.mem_append.2 (.inl hq), hs⟩, fun d => ?_⟩
  rw [h3 d, h2 d]
  refine ⟨fun ⟨h4, h5⟩ q hq hs => ?_, fun h => ⟨fun q hq hs => h q (List.mem_append.2 (.inl hq)) hs, h p (by simp) hp⟩⟩
  rcases List.mem_append.1 hq with h6 | h6
  · exact h4 q h6 hs
  · rw [List.mem_singleton.1 h6]; exact h5
theorem BestTo.end_ {n : Nat} {ps : List Nat} {best : Int} (h : BestTo D ps best) (h1 : ∀ p, SD D p → (p ∈ ps ↔ E p n)) {p : Nat} (hp : SD D p) (he : E p n) (hr : rank n < rank p) : ∃ b : Nat, best = (b : Int) ∧ Best E rank (SD D) (fD D) n b := by
  rcases h with ⟨_, h⟩ | ⟨b, e, h2, _, h4⟩
  · exact absurd hp (h p ((h1 p hp).2 he))
  · refine ⟨b, e, ⟨p, hp, he, hr⟩, h2, fun d => ?_⟩
    rw [h4 d]
    exact ⟨fun h q hs hq => h q ((h1 q hs).2 hq) hs, fun h q hq hs => h q hs ((h1 q hs).1 hq)⟩
end
end Go.Proofs.Ythjlfbeabobgmaa.Dom
