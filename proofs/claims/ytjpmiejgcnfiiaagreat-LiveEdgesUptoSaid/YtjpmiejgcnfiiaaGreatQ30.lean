import Derived.Test.YtjpmiejgcnfiiaaGreatQ14
import Derived.Test.YtjpmiejgcnfiiaaGreatQ15
set_option linter.unusedVariables false
set_option linter.unusedSimpArgs false
namespace Go.Proofs.YtjpmiejgcnfiiaaGreat.Dom

/-- The parents as the row has them; the nodes that have one. -/
def fD (D : List Int) (x : Nat) : Nat := (D.getD x 0).toNat
def SD (D : List Int) (x : Nat) : Prop := 0 ≤ D.getD x (-1)
theorem SD.lt {D : List Int} {x : Nat} (h : SD D x) : x < D.length := by
  rcases Nat.lt_or_ge x D.length with h1 | h1
  · exact h1
  · unfold SD at h; rw [List.getD_eq_getElem?_getD, List.getElem?_eq_none h1] at h; exact absurd h (by decide)
theorem SD_iff {D : List Int} {x : Nat} (hx : x < D.length) : SD D x ↔ 0 ≤ D[x] := by
  unfold SD; rw [List.getD_eq_getElem?_getD, List.getElem?_eq_getElem hx]; rfl
theorem SD.eq {D : List Int} {x : Nat} (h : SD D x) (hx : x < D.length) : D[x] = (fD D x : Int) := by
  have h1 := (SD_iff hx).1 h
  unfold fD; rw [List.getD_eq_getElem?_getD, List.getElem?_eq_getElem hx]
  simp; omega
theorem fD_set {D : List Int} {n b : Nat} (hn : n < D.length) : fD (D.set n (b : Int)) = set (fD D) n b := by
  funext x
  unfold fD set
  by_cases h : x = n
  · subst h; simp [hn]
  · rw [if_neg h, List.getD_eq_getElem?_getD, List.getElem?_set_ne (fun e => h e.symm), ← List.getD_eq_getElem?_getD]
theorem SD_set {D : List Int} {n b : Nat} (hn : n < D.length) : SD (D.set n (b : Int)) = fun x => SD D x ∨ x = n := by
  funext x
  apply propext
  unfold SD
  by_cases h : x = n
  · subst h; simp [hn]
  · rw [List.getD_eq_getElem?_getD, List.getElem?_set_ne (fun e => h e.symm), ← List.getD_eq_getElem?_getD]
    exact ⟨.inl, fun h1 => h1.elim id (fun h2 => absurd h2 h)⟩

/-- In sweep k, the nodes of rank i and more have been looked at. -/
structure Sw (E : Nat → Nat → Prop) (rank : Nat → Nat) (D : List Int) (K k i : Nat) (changed : Bool) : Prop where
  tree : Tree E rank (SD D) (fD D)
  zero : fD D 0 = 0
  done : ∀ a, R E a → i ≤ rank a → SD D a ∧ J E rank (fD D) k a
  prev : ∀ j, k = j + 1 → ∀ a, R E a → SD D a ∧ J E rank (fD D) j a
  same : changed = false → ∀ a, R E a → i ≤ rank a → a ≠ 0 → Best E rank (SD D) (fD D) a (fD D a)
  late : K < k → changed = false ∧ ∀ x, R E x → ∀ d, Anc (fD D) x d → Dm E d x

/-- K retreats serve for all. -/
def Enough (E : Nat → Nat → Prop) (rank : Nat → Nat) (n K : Nat) : Prop := ∀ d x, d < n → x < n → RA E d x → RK E rank d K x

section
variable {E : Nat → Nat → Prop} {rank : Nat → Nat} {D : List Int} {K k i : Nat} {ch : Bool}

theorem J.root {f : Nat → Nat} {k : Nat} : J E rank f k 0 := fun d ha hk => hk.ne ha.zero.symm

/-- A sweep begins. -/
theorem Sw.begin_ (hK : Enough E rank D.length K) (hT : Tree E rank (SD D) (fD D)) (h0 : fD D 0 = 0) (hp : ∀ j, k = j + 1 → ∀ a, R E a → SD D a ∧ J E rank (fD D) j a) (htop : ∀ a, R E a → a ≠ 0 → rank a < rank 0) (hi : i = rank 0) : Sw E rank D K k i false where
  tree := hT
  zero := h0
  done := fun a ha hr => by
    by_cases e : a = 0
    · subst e; exact ⟨hT.zero, J.root⟩
    · have := htop a ha e; omega
  prev := hp
  same := fun _ a ha hr hne => by have := htop a ha hne; omega
  late := fun hlt => ⟨rfl, fun x hx d ha => by
    obtain ⟨j, rfl⟩ : ∃ j, k = j + 1 := ⟨k - 1, by omega⟩
    obtain ⟨hS, hJ⟩ := hp j rfl x hx
    exact ⟨hx, fun hra => hJ d ha ((hK d x (hT.anc hS ha).1.lt hS.lt hra).mono_le (by omega))⟩⟩

/-- The first sweep. -/
theorem Sw.first {n : Nat} (hn : 0 < n) (hK : Enough E rank n K) (htop : ∀ a, R E a → a ≠ 0 → rank a < rank 0) (hi : i = rank 0) : Sw E rank ((List.replicate n (-1)).set 0 0) K 0 i false := by
  have hS : ∀ x, SD ((List.replicate n (-1)).set 0 0) x ↔ x = 0 := fun x => by
    unfold SD
    rw [List.getD_eq_getElem?_getD, List.getElem?_set]
    by_cases e : 0 = x
    · subst e; simp [hn]
    · rw [if_neg e, List.getElem?_replicate]
      by_cases h1 : x < n
      · rw [if_pos h1]; simp; omega
      · rw [if_neg h1]; simp; omega
  refine Sw.begin_ (by simpa using hK) ⟨(hS 0).2 rfl, fun x hx => by rw [(hS x).1 hx]; exact .root, fun x hx h0 => absurd ((hS x).1 hx) h0, fun x hx d hd => ?_⟩ ?_ (fun j hj => by omega) htop hi
  · rw [(hS x).1 hx] at hd ⊢
    by_cases e : d = 0
    · rw [e]; exact .refl _
    · exact absurd (RA.root (fun h => e h.symm)) hd.2
  · simp [fD, hn]

/-- The next sweep. -/
theorem Sw.again (hK : Enough E rank D.length K) (h : Sw E rank D K k 0 ch) (htop : ∀ a, R E a → a ≠ 0 → rank a < rank 0) (hi : i = rank 0) : Sw E rank D K (k + 1) i false :=
  Sw.begin_ hK h.tree h.zero (fun j hj a ha => by obtain rfl : j = k := by omega
                                                  exact h.done a ha (Nat.zero_le _)) htop hi

/-- A node keeps its parent. -/
theorem Sw.keep {n : Nat} (h : Sw E rank D K k (i + 1) ch) (hn : R E n) (hr : rank n = i) (h0 : n ≠ 0) (hinj : ∀ x y, R E x → R E y → rank x = rank y → x = y) (hS : SD D n) (hb : Best E rank (SD D) (fD D) n (fD D n)) : Sw E rank D K k i ch where
  tree := h.tree
  zero := h.zero
  done := fun a ha hi => by
    rcases Nat.lt_or_ge i (rank a) with h1 | h1
    · exact h.done a ha h1
    · obtain rfl : a = n := hinj a n ha hn (by omega)
      exact ⟨hS, J.same h.tree h0 hb (fun a hRa he hlt => h.done a hRa (by omega)) h.prev⟩
  prev := h.prev
  same := fun hc a ha hi hne => by
    rcases Nat.lt_or_ge i (rank a) with h1 | h1
    · exact h.same hc a ha h1 hne
    · obtain rfl : a = n := hinj a n ha hn (by omega)
      exact hb
  late := h.late

/-- A node gets a new one. -/
theorem Sw.put {n b : Nat} (h : Sw E rank D K k (i + 1) ch) (hn : R E n) (hr : rank n = i) (h0 : n ≠ 0) (hinj : ∀ x y, R E x → R E y → rank x = rank y → x = y) (hl : n < D.length) (hb : Best E rank (SD D) (fD D) n b) (hne : ¬ (b : Int) = D[n]) : Sw E rank (D.set n (b : Int)) K k i true := by
  have hJn : J E rank (set (fD D) n b) k n := J.here h.tree h0 hb (fun a hRa he hlt => h.done a hRa (by omega)) h.prev
  refine ⟨?_, ?_, ?_, ?_, (fun e => by cases e), fun hlt => ?_⟩
  · rw [fD_set hl, SD_set hl]; exact h.tree.update h0 hn hb
  · rw [fD_set hl, set_ne (fun e => h0 e.symm)]; exact h.zero
  · intro a ha hi
    rw [fD_set hl, SD_set hl]
    rcases Nat.lt_or_ge i (rank a) with h1 | h1
    · obtain ⟨h2, h3⟩ := h.done a ha h1
      exact ⟨.inl h2, J.other hJn h3⟩
    · obtain rfl : a = n := hinj a n ha hn (by omega)
      exact ⟨.inr rfl, hJn⟩
  · intro j hj a ha
    rw [fD_set hl, SD_set hl]
    obtain ⟨h2, h3⟩ := h.prev j hj a ha
    subst hj
    exact ⟨.inl h2, J.other hJn.less h3⟩
  · exfalso
    obtain ⟨hc, hd⟩ := h.late hlt
    obtain ⟨j, rfl⟩ : ∃ j, k = j + 1 := ⟨k - 1, by omega⟩
    have hall : ∀ x, R E x → SD D x := fun x hx => (h.prev j rfl x hx).1
    have e := best_same h.tree hall hd h0 hn hb
    exact hne (by rw [e]; exact ((hall n hn).eq hl).symm)

/-- The tree is the tree of dominators. -/
structure Fin (E : Nat → Nat → Prop) (rank : Nat → Nat) (D : List Int) : Prop where
  tree : Tree E rank (SD D) (fD D)
  zero : fD D 0 = 0
  all : ∀ x, R E x → SD D x
  dom : ∀ x, R E x → ∀ d, Anc (fD D) x d ↔ Dm E d x
theorem Sw.fin (h : Sw E rank D K k 0 false) : Fin E rank D where
  tree := h.tree
  zero := h.zero
  all := fun x hx => (h.done x hx (Nat.zero_le _)).1
  dom := fix_dom h.tree (fun x hx => (h.done x hx (Nat.zero_le _)).1) (fun x hx h0 => h.same rfl x hx (Nat.zero_le _) h0)

/-! ### The predecessors one by one -/
/-- What the first predecessors of a node say. -/
def BestTo (D : List Int) (ps : List Nat) (best : Int) : Prop :=
  (best = -1 ∧ ∀ p ∈ ps, ¬ SD D p) ∨ ∃ b : Nat, best = (b : Int) ∧ SD D b ∧ (∃ p ∈ ps, SD D p) ∧ ∀ d, Anc (fD D) b d ↔ ∀ p ∈ ps, SD D p → Anc (fD D) p d
theorem BestTo.nil : BestTo D [] (-1) := .inl ⟨rfl, fun p hp => by simp at hp⟩
theorem BestTo.pass {ps : List Nat} {best : Int} {p : Nat} (h : BestTo D ps best) (hp : ¬ SD D p) : BestTo D (ps ++ [p]) best := by
  rcases h with ⟨e, h⟩ | ⟨b, e, h1, ⟨q, h2, h3⟩, h4⟩
  · refine .inl ⟨e, fun q hq => ?_⟩
    rcases List.mem_append.1 hq with h5 | h5
    · exact h q h5
    · rw [List.mem_singleton.1 h5]; exact hp
  · refine .inr ⟨b, e, h1, ⟨q, List.mem_append.2 (.inl h2), h3⟩, fun d => ?_⟩
    rw [h4 d]
    refine ⟨fun h q hq hs => ?_, fun h q hq hs => h q (List.mem_append.2 (.inl hq)) hs⟩
    rcases List.mem_append.1 hq with h5 | h5
    · exact h q h5 hs
    · rw [List.mem_singleton.1 h5] at hs; exact absurd hs hp
theorem BestTo.first {ps : List Nat} {p : Nat} (h : ∀ q ∈ ps, ¬ SD D q) (hp : SD D p) : BestTo D (ps ++ [p]) (p : Int) := by
  refine .inr ⟨p, rfl, hp, ⟨p, by simp, hp⟩, fun d => ⟨fun ha q hq hs => ?_, fun ha => ha p (by simp) hp⟩⟩
  rcases List.mem_append.1 hq with h5 | h5
  · exact absurd hs (h q h5)
  · rw [List.mem_singleton.1 h5]; exact ha
theorem BestTo.meet {ps : List Nat} {b c p : Nat} (h1 : ∃ q ∈ ps, SD D q) (h2 : ∀ d, Anc (fD D) b d ↔ ∀ q ∈ ps, SD D q → Anc (fD D) q d) (hp : SD D p) (hc : SD D c) (h3 : ∀ d, Anc (fD D) c d ↔ Anc (fD D) b d ∧ Anc (fD D) p d) : BestTo D (ps ++ [p]) (c : Int) := by
  obtain ⟨q, hq, hs⟩ := h1
  refine .inr ⟨c, rfl, hc, ⟨q, List.mem_append.2 (.inl hq), hs⟩, fun d => ?_⟩
  rw [h3 d, h2 d]
  refine ⟨fun ⟨h4, h5⟩ q hq hs => ?_, fun h => ⟨fun q hq hs => h q (List.mem_append.2 (.inl hq)) hs, h p (by simp) hp⟩⟩
  rcases List.mem_append.1 hq with h6 | h6
  · exact h4 q h6 hs
  · rw [List.mem_singleton.1 h6]; exact h5
theorem BestTo.end_ {n : Nat} {ps : List Nat} {best : Int} (h : BestTo D ps best) (h1 : ∀ p, SD D p → (p ∈ ps ↔ E p n)) {p : Nat} (hp : SD D p) (he : E p n) (hr : rank n < rank p) : ∃ b : Nat, best = (b : Int) ∧ Best E rank (SD D) (fD D) n b := by
  rcases h with ⟨_, h⟩ | ⟨b, e, h2, _, h4⟩
  · exact absurd hp (h p ((h1 p hp).2 he))
  · refine ⟨b, e, ⟨p, hp, he, hr⟩, h2, fun d => ?_⟩
    rw [h4 d]
    exact ⟨fun h q hs hq => h q ((h1 q hs).2 hq) hs, fun h q hq hs => h q hs ((h1 q hs).1 hq)⟩
end
end Go.Proofs.YtjpmiejgcnfiiaaGreat.Dom
namespace Go.Proofs.YtjpmiejgcnfiiaaGreat.Dom

/-- The row of immediate dominators. -/
structure Idom (N : Gr) (I : List Int) : Prop where
 len : I.length = N.length
 root : N ≠ [] → I.getD 0 0 = -1
 out : ∀ x, x < N.length → ¬ R (Ed N) x → I.getD x 0 = -1
 tree : N ≠ [] → ∃ f rank : Nat → Nat, (∀ x, R (Ed N) x → x ≠ 0 → I.getD x 0 = (f x : Int) ∧ R (Ed N) (f x) ∧ rank x < rank (f x)) ∧ (∀ x, R (Ed N) x → x < N.length ∧ rank x < N.length) ∧ ∀ x, R (Ed N) x → ∀ d, Anc f x d ↔ Dm (Ed N) d x

theorem R.lt {N : Gr} (hN : N ≠ []) {x : Nat} (h : R (Ed N) x) : x < N.length := by
 cases h with
 | root => exact List.length_pos_iff.2 hN
 | step _ he => exact he.2.1

theorem Idom.nil : Idom [] [] := ⟨rfl, fun h => absurd rfl h, fun x hx => absurd hx (Nat.not_lt_zero _), fun h => absurd rfl h⟩
theorem Idom.of_fin {N : Gr} {post : List Nat} (hp : Post N post) (hN : N ≠ []) {D : List Int} (hl : D.length = N.length) (hf : Fin (Ed N) (rk post) D) (hneg : ∀ x (h : x < D.length), ¬ SD D x → D[x] = -1) : Idom N (D.set 0 (-1)) where
 len := by simpa using hl
 root := fun _ => by
  have := List.length_pos_iff.2 hN
  rw [List.getD_eq_getElem?_getD, List.getElem?_set_self (by omega)]; rfl
 out := fun x hx hr => by
  have h0 : x ≠ 0 := fun e => hr (e ▸ .root)
  rw [List.getD_eq_getElem?_getD, List.getElem?_set_ne (fun e => h0 e.symm), List.getElem?_eq_getElem (by omega)]
  exact hneg x (by omega) (fun hS => hr (hf.tree.reach x hS))
 tree := fun _ => by
  refine ⟨fD D, rk post, fun x hx h0 => ?_, fun x hx => ⟨hx.lt hN, ?_⟩, hf.dom⟩
  ·have hS := hf.all x hx
   have hlt := hS.lt
   obtain ⟨h1, h2, _⟩ := hf.tree.up x hS h0
   rw [List.getD_eq_getElem?_getD, List.getElem?_set_ne (fun e => h0 e.symm), List.getElem?_eq_getElem hlt]
   exact ⟨hS.eq hlt, hf.tree.reach _ h1, h2⟩
  ·have := rk_lt ((hp.mem x).2 ⟨hN, hx⟩)
   have := hp.len
   omega
end Go.Proofs.YtjpmiejgcnfiiaaGreat.Dom
namespace Go.Proofs.YtjpmiejgcnfiiaaGreat.Dom

theorem Anc.lt_rank {f rank : Nat → Nat} {P : Nat → Prop} (hup : ∀ x, P x → x ≠ 0 → P (f x) ∧ rank x < rank (f x)) {x d : Nat} (hx : P x) (ha : Anc f x d) : P d ∧ (d = x ∨ rank x < rank d) := by
 induction ha with
 | refl => exact ⟨hx, .inl rfl⟩
 | @up x d h0 _ ih =>
  obtain ⟨h1, h2⟩ := hup x hx h0
  obtain ⟨h3, h4⟩ := ih h1
  refine ⟨h3, .inr ?_⟩
  rcases h4 with e | h4
  ·rw [e]; exact h2
  ·omega

section
variable {N : Gr} {I : List Int}

theorem upF_root (h : Idom N I) (hN : N ≠ []) : upF I (0 : Nat) = -1 := by
 have hl : 0 < N.length := List.length_pos_iff.2 hN
 have h0 := h.root hN
 unfold upF
 rw [if_neg (by have := h.len; omega), if_pos (.inl (by show I.getD 0 0 < 0; rw [h0]; decide))]
theorem upF_tree (h : Idom N I) {x p : Nat} (hx : x < N.length) (hp : p < N.length) (he : I.getD x 0 = (p : Int)) : upF I (x : Nat) = (p : Int) := by
 unfold upF
 have := h.len
 rw [if_neg (by omega)]
 simp only [Int.toNat_natCast, he]
 rw [if_neg (by omega)]

/-- Over on the row of dominators. -/
theorem over_dm (h : Idom N I) (hN : N ≠ []) {x : Nat} (hx : R (Ed N) x) (d : Int) : overF I d x = true ↔ ∃ dn : Nat, d = (dn : Int) ∧ Dm (Ed N) dn x := by
 obtain ⟨f, rank, hup, hlt, hdom⟩ := h.tree hN
 have key : ∀ (k x : Nat), R (Ed N) x → N.length - rank x ≤ k → (overK I d k x = true ↔ ∃ dn : Nat, d = (dn : Int) ∧ Anc f x dn) := by
  intro k
  induction k with
  | zero =>
   intro x hx hk
   have := (hlt x hx).2
   omega
  | succ k ih =>
   intro x hx hk
   unfold overK
   by_cases e : d = (x : Int)
   ·rw [if_pos e]
    exact ⟨fun _ => ⟨x, e, .refl _⟩, fun _ => rfl⟩
   ·rw [if_neg e]
    by_cases h0 : x = 0
    ·subst h0
     rw [upF_root h hN, if_pos (by decide)]
     refine ⟨(fun h => by cases h), fun ⟨dn, e1, ha⟩ => ?_⟩
     have := ha.zero
     subst this
     exact absurd e1 e
    ·obtain ⟨h1, h2, h3⟩ := hup x hx h0
     rw [upF_tree h (hlt x hx).1 (hlt _ h2).1 h1, if_neg (by omega), ih (f x) h2 (by have := (hlt x hx).2; omega)]
     constructor
     ·rintro ⟨dn, e1, ha⟩; exact ⟨dn, e1, .up h0 ha⟩
     ·rintro ⟨dn, e1, ha⟩
      rcases ha.cases' with e2 | ⟨_, ha⟩
      ·subst e2; exact absurd e1 e
      ·exact ⟨dn, e1, ha⟩
 have hl := h.len
 have hxn := (hlt x hx).1
 unfold overF
 by_cases hr : d < 0 ∨ (I.length : Int) ≤ d
 ·rw [if_pos (by omega)]
  refine ⟨(fun h => by cases h), fun ⟨dn, e1, hd⟩ => ?_⟩
  have h1 := (Anc.lt_rank (P := R (Ed N)) (rank := rank) (fun x hx h0 => (hup x hx h0).2) hx ((hdom x hx dn).2 hd)).1
  have h2 := (hlt dn h1).1
  omega
 ·rw [if_neg (by omega), key _ x hx (by omega)]
  exact ⟨fun ⟨dn, e, ha⟩ => ⟨dn, e, (hdom x hx dn).1 ha⟩, fun ⟨dn, e, ha⟩ => ⟨dn, e, (hdom x hx dn).2 ha⟩⟩

/-- Depth on the row of dominators. -/
theorem depth_step (h : Idom N I) (hN : N ≠ []) {x : Nat} (hx : R (Ed N) x) (h0 : x ≠ 0) : depthF I x = depthF I (I.getD x 0) + 1 := by
 obtain ⟨f, rank, hup, hlt, hdom⟩ := h.tree hN
 have key : ∀ (k x : Nat), R (Ed N) x → N.length - rank x ≤ k → ∃ c : Int, ∀ k' m : Nat, N.length - rank x ≤ k' → depthK I k' m x = (m : Int) + c := by
  intro k
  induction k with
  | zero =>
   intro x hx hk
   have := (hlt x hx).2
   omega
  | succ k ih =>
   intro x hx hk
   have hxr := (hlt x hx).2
   by_cases h0 : x = 0
   ·subst h0
    refine ⟨0, fun k' m hk' => ?_⟩
    obtain ⟨j, rfl⟩ : ∃ j, k' = j + 1 := ⟨k' - 1, by omega⟩
    unfold depthK
    rw [upF_root h hN, if_pos (by decide)]; omega
   ·obtain ⟨h1, h2, h3⟩ := hup x hx h0
    obtain ⟨c, hc⟩ := ih (f x) h2 (by omega)
    refine ⟨c + 1, fun k' m hk' => ?_⟩
    obtain ⟨j, rfl⟩ : ∃ j, k' = j + 1 := ⟨k' - 1, by omega⟩
    unfold depthK
    rw [upF_tree h (hlt x hx).1 (hlt _ h2).1 h1, if_neg (by omega), hc j (m + 1) (by omega)]
    omega
 have hl := h.len
 obtain ⟨h1, h2, h3⟩ := hup x hx h0
 have hxr := (hlt x hx).2
 obtain ⟨c, hc⟩ := key N.length x hx (by omega)
 obtain ⟨c', hc'⟩ := key N.length (f x) h2 (by omega)
 have e1 : depthF I x = 0 + c := by
  unfold depthF
  rw [if_neg (by have := (hlt x hx).1; omega), hl]
  exact hc _ 0 (by omega)
 have e2 : depthF I (I.getD x 0) = 0 + c' := by
  rw [h1]
  unfold depthF
  rw [if_neg (by have := (hlt _ h2).1; omega), hl]
  exact hc' _ 0 (by omega)
 have e3 : (0 : Int) + c = 1 + c' := by
  rw [show (0 : Int) + c = ((0 : Nat) : Int) + c by rfl, ← hc N.length 0 (by omega)]
  obtain ⟨j, hj⟩ : ∃ j, N.length = j + 1 := ⟨N.length - 1, by omega⟩
  rw [hj]
  unfold depthK
  rw [upF_tree h (hlt x hx).1 (hlt _ h2).1 h1, if_neg (by omega), hc' j 1 (by omega)]
  rfl
 rw [e1, e2]; omega

/-- The nearest strict dominator among the first k nodes. -/
def Scan (N : Gr) (b k : Nat) (best : Int) : Prop :=
 (best = -1 ∧ ∀ a, a < k → a ≠ b → ¬ Dm (Ed N) a b) ∨ ∃ m : Nat, best = (m : Int) ∧ m < N.length ∧ m ≠ b ∧ Dm (Ed N) m b ∧ ∀ a, a < k → a ≠ b → Dm (Ed N) a b → Dm (Ed N) a m
theorem Scan.zero (N : Gr) (b : Nat) : Scan N b 0 (-1) := .inl ⟨rfl, fun a ha => absurd ha (Nat.not_lt_zero _)⟩
theorem Scan.no {b k : Nat} {best : Int} (h : Scan N b k best) (hk : k = b ∨ ¬ Dm (Ed N) k b) : Scan N b (k + 1) best := by
 rcases h with ⟨e, h⟩ | ⟨m, e, h1, h2, h3, h4⟩
 ·refine .inl ⟨e, fun a ha hne => ?_⟩
  rcases Nat.lt_or_ge a k with h5 | h5
  ·exact h a h5 hne
  ·obtain rfl : a = k := by omega
   exact hk.resolve_left hne
 ·refine .inr ⟨m, e, h1, h2, h3, fun a ha hne hd => ?_⟩
  rcases Nat.lt_or_ge a k with h5 | h5
  ·exact h4 a h5 hne hd
  ·obtain rfl : a = k := by omega
   exact absurd hd (hk.resolve_left hne)
theorem Scan.first {b k : Nat} (h : ∀ a, a < k → a ≠ b → ¬ Dm (Ed N) a b) (hk : k < N.length) (hne : k ≠ b) (hd : Dm (Ed N) k b) (hself : ∀ x, R (Ed N) x → Dm (Ed N) x x) (hR : R (Ed N) k) : Scan N b (k + 1) (k : Int) := by
 refine .inr ⟨k, rfl, hk, hne, hd, fun a ha hab hda => ?_⟩
 rcases Nat.lt_or_ge a k with h5 | h5
 ·exact absurd hda (h a h5 hab)
 ·obtain rfl : a = k := by omega
  exact hself _ hR
theorem dm_self {x : Nat} (h : R (Ed N) x) : Dm (Ed N) x x := ⟨h, fun hr => hr.ne rfl⟩
theorem Idom.total (h : Idom N I) (hN : N ≠ []) {x a b : Nat} (ha : Dm (Ed N) a x) (hb : Dm (Ed N) b x) : R (Ed N) a ∧ R (Ed N) b ∧ (Dm (Ed N) a b ∨ Dm (Ed N) b a) := by
 obtain ⟨f, rank, hup, hlt, hdom⟩ := h.tree hN
 have h1 := (hdom x ha.1 a).2 ha
 have h2 := (hdom x ha.1 b).2 hb
 have hRa := (Anc.lt_rank (P := R (Ed N)) (rank := rank) (fun x hx h0 => (hup x hx h0).2) ha.1 h1).1
 have hRb := (Anc.lt_rank (P := R (Ed N)) (rank := rank) (fun x hx h0 => (hup x hx h0).2) ha.1 h2).1
 refine ⟨hRa, hRb, ?_⟩
 rcases h1.total h2 with h3 | h3
 ·exact .inr ((hdom a hRa b).1 h3)
 ·exact .inl ((hdom b hRb a).1 h3)
theorem Idom.trans (h : Idom N I) (hN : N ≠ []) {a b c : Nat} (h1 : Dm (Ed N) a b) (h2 : Dm (Ed N) b c) : Dm (Ed N) a c := by
 obtain ⟨f, rank, hup, hlt, hdom⟩ := h.tree hN
 exact (hdom c h2.1 a).1 (((hdom c h2.1 b).2 h2).trans ((hdom b h1.1 a).2 h1))
theorem Scan.put (h : Idom N I) (hN : N ≠ []) {b k m : Nat} (hm : ∀ a, a < k → a ≠ b → Dm (Ed N) a b → Dm (Ed N) a m) (hk : k < N.length) (hne : k ≠ b) (hd : Dm (Ed N) k b) (hmk : Dm (Ed N) m k) : Scan N b (k + 1) (k : Int) := by
 refine .inr ⟨k, rfl, hk, hne, hd, fun a ha hab hda => ?_⟩
 rcases Nat.lt_or_ge a k with h5 | h5
 ·exact h.trans hN (hm a h5 hab hda) hmk
 ·obtain rfl : a = k := by omega
  exact dm_self hmk.1
theorem Scan.stay (h : Idom N I) (hN : N ≠ []) {b k m : Nat} (h1 : m < N.length) (h2 : m ≠ b) (h3 : Dm (Ed N) m b) (hm : ∀ a, a < k → a ≠ b → Dm (Ed N) a b → Dm (Ed N) a m) (hmk : ¬ Dm (Ed N) m k) : Scan N b (k + 1) (m : Int) := by
 refine .inr ⟨m, rfl, h1, h2, h3, fun a ha hab hda => ?_⟩
 rcases Nat.lt_or_ge a k with h5 | h5
 ·exact hm a h5 hab hda
 ·obtain rfl : a = k := by omega
  exact (h.total hN hda h3).2.2.resolve_right hmk
/-- The scan ends at the row's own value. -/
theorem Scan.full (h : Idom N I) (hN : N ≠ []) {b : Nat} (hb : b < N.length) {best : Int} (hs : Scan N b N.length best) : best = I.getD b 0 := by
 obtain ⟨f, rank, hup, hlt, hdom⟩ := h.tree hN
 have hP := fun {x d} (hx : R (Ed N) x) (ha : Anc f x d) => Anc.lt_rank (P := R (Ed N)) (rank := rank) (fun x hx h0 => (hup x hx h0).2) hx ha
 by_cases hR : R (Ed N) b
 ·by_cases h0 : b = 0
  ·subst h0
   rcases hs with ⟨e, _⟩ | ⟨m, _, _, h2, h3, _⟩
   ·rw [e, h.root hN]
   ·exact absurd ((hdom 0 hR m).2 h3).zero h2
  ·obtain ⟨h1, h2, h3⟩ := hup b hR h0
   have hfd : Dm (Ed N) (f b) b := (hdom b hR _).1 (.up h0 (.refl _))
   have hne : f b ≠ b := fun e => by rw [e] at h3; omega
   rcases hs with ⟨_, h4⟩ | ⟨m, e, h4, h5, h6, h7⟩
   ·exact absurd hfd (h4 _ (hlt _ h2).1 hne)
   ·have h8 := h7 (f b) (hlt _ h2).1 hne hfd
    have hRm := h8.1
    have h9 : Anc f m (f b) := (hdom m hRm _).2 h8
    have h10 : Anc f (f b) m := by
     rcases ((hdom b hR m).2 h6).cases' with e | ⟨_, h11⟩
     ·exact absurd e h5
     ·exact h11
    have h12 : m = f b := by
     rcases (hP hRm h9).2 with e | h13
     ·exact e.symm
     ·rcases (hP h2 h10).2 with e | h14
      ·exact e
      ·omega
    rw [e, h12, h1]
 ·rw [h.out b hb hR]
  rcases hs with ⟨e, _⟩ | ⟨m, _, _, _, h3, _⟩
  ·exact e
  ·exact absurd h3.1 hR
end
end Go.Proofs.YtjpmiejgcnfiiaaGreat.Dom
