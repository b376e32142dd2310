/-
  What the functions on the tree say of a graph, in the plain. No program in sight.
-/
import Derived.Test.YthjlfbeabobgmaaDSpec
namespace Go.Proofs.Ythjlfbeabobgmaa.Dom

theorem Anc.lt_rank {f rank : Nat → Nat} {P : Nat → Prop} (hup : ∀ x, P x → x ≠ 0 → P (f x) ∧ rank x < rank (f x)) {x d : Nat} (hx : P x) (ha : Anc f x d) : P d ∧ (d = x ∨ rank x < rank d) := by
  induction ha with
  | refl => exact ⟨hx, .inl rfl⟩
  | @up x d h0 _ ih =>
    obtain ⟨h1, h2⟩ := hup x hx h0
    obtain ⟨h3, h4⟩ := ih h1
    refine ⟨h3, .inr ?_⟩
    rcases h4 with e | h4
    · rw [e]; exact h2
    · omega

section
variable {N : Gr} {I : List Int}

theorem upF_root (h : Idom N I) (hN : N ≠ []) : upF I (0 : Nat) = -1 := by
  have hl : 0 < N.length := List.length_pos_iff.2 hN
  have h0 := h.root hN
  unfold upF
  rw [if_neg (by have := h.len; omega), if_pos (.inl (by show I.getD 0 0 < 0; rw [h0]; decide))]
theorem upF_tree (h : Idom N I) {x p : Nat} (hx : x < N.length) (hp : p < N.length) (he : I.getD x 0 = (p : Int)) : upF I (x : Nat) = (p : Int) := by
  unfold upF
  have := h.len
  rw [if_neg (by omega)]
  simp only [Int.toNat_natCast, he]
  rw [if_neg (by omega)]

/-- Over on the row of dominators. -/
theorem over_dm (h : Idom N I) (hN : N ≠ []) {x : Nat} (hx : R (Ed N) x) (d : Int) : overF I d x = true ↔ ∃ dn : Nat, d = (dn : Int) ∧ Dm (Ed N) dn x := by
  obtain ⟨f, rank, hup, hlt, hdom⟩ := h.tree hN
  have key : ∀ (k x : Nat), R (Ed N) x → N.length - rank x ≤ k → (overK I d k x = true ↔ ∃ dn : Nat, d = (dn : Int) ∧ Anc f x dn) := by
    intro k
    induction k with
    | zero =>
      intro x hx hk
      have := (hlt x hx).2
      omega
    | succ k ih =>
      intro x hx hk
      unfold overK
      by_cases e : d = (x : Int)
      · rw [if_pos e]
        exact ⟨fun _ => ⟨x, e, .refl _⟩, fun _ => rfl⟩
      · rw [if_neg e]
        by_cases h0 : x = 0
        · subst h0
          rw [upF_root h hN, if_pos (by decide)]
          refine ⟨(fun h => by cases h), fun ⟨dn, e1, ha⟩ => ?_⟩
          have := ha.zero
          subst this
          exact absurd e1 e
        · obtain ⟨h1, h2, h3⟩ := hup x hx h0
          rw [upF_tree h (hlt x hx).1 (hlt _ h2).1 h1, if_neg (by omega), ih (f x) h2 (by have := (hlt x hx).2; omega)]
          constructor
          · rintro ⟨dn, e1, ha⟩; exact ⟨dn, e1, .up h0 ha⟩
          · rintro ⟨dn, e1, ha⟩
            rcases ha.cases' with e2 | ⟨_, ha⟩
            · subst e2; exact absurd e1 e
            · exact ⟨dn, e1, ha⟩
  have hl := h.len
  have hxn := (hlt x hx).1
  unfold overF
  by_cases hr : d < 0 ∨ (I.length : Int) ≤ d
  · rw [if_pos (by omega)]
    refine ⟨(fun h => by cases h), fun ⟨dn, e1, hd⟩ => ?_⟩
    have h1 := (Anc.lt_rank (P := R (Ed N)) (rank := rank) (fun x hx h0 => (hup x hx h0).2) hx ((hdom x hx dn).2 hd)).1
    have h2 := (hlt dn h1).1
    omega
  · rw [if_neg (by omega), key _ x hx (by omega)]
    exact ⟨fun ⟨dn, e, ha⟩ => ⟨dn, e, (hdom x hx dn).1 ha⟩, fun ⟨dn, e, ha⟩ => ⟨dn, e, (hdom x hx dn).2 ha⟩⟩

/-- Depth on the row of dominators. -/
theorem depth_step (h : Idom N I) (hN : N ≠ []) {x : Nat} (hx : R (Ed N) x) (h0 : x ≠ 0) : depthF I x = depthF I (I.getD x 0) + 1 := by
  obtain ⟨f, rank, hup, hlt, hdom⟩ := h.tree hN
  have key : ∀ (k x : Nat), R (Ed N) x → N.length - rank x ≤ k → ∃ c : Int, ∀ k' m : Nat, N.length - rank x ≤ k' → depthK I k' m x = (m : Int) + c := by
    intro k
    induction k with
    | zero =>
      intro x hx hk
      have := (hlt x hx).2
      omega
    | succ k ih =>
      intro x hx hk
      have hxr := (hlt x hx).2
      by_cases h0 : x = 0
      · subst h0
        refine ⟨0, fun k' m hk' => ?_⟩
        obtain ⟨j, rfl⟩ : ∃ j, k' = j + 1 := ⟨k' - 1, by omega⟩
        unfold depthK
        rw [upF_root h hN, if_pos (by decide)]; omega
      · obtain ⟨h1, h2, h3⟩ := hup x hx h0
        obtain ⟨c, hc⟩ := ih (f x) h2 (by omega)
        refine ⟨c + 1, fun k' m hk' => ?_⟩
        obtain ⟨j, rfl⟩ : ∃ j, k' = j + 1 := ⟨k' - 1, by omega⟩
        unfold depthK
        rw [upF_tree h (hlt x hx).1 (hlt _ h2).1 h1, if_neg (by omega), hc j (m + 1) (by omega)]
        omega
  have hl := h.len
  obtain ⟨h1, h2, h3⟩ := hup x hx h0
  have hxr := (hlt x hx).2
  obtain ⟨c, hc⟩ := key N.length x hx (by omega)
  obtain ⟨c', hc'⟩ := key N.length (f x) h2 (by omega)
  have e1 : depthF I x = 0 + c := by
    unfold depthF
    rw [if_neg (by have := (hlt x hx).1; omega), hl]
    exact hc _ 0 (by omega)
  have e2 : depthF I (I.getD x 0) = 0 + c' := by
    rw [h1]
    unfold depthF
    rw [if_neg (by have := (hlt _ h2).1; omega), hl]
    exact hc' _ 0 (by omega)
  have e3 : (0 : Int) + c = 1 + c' := by
    rw [show (0 : Int) + c = ((0 : Nat) : Int) + c by rfl, ← hc N.length 0 (by omega)]
    obtain ⟨j, hj⟩ : ∃ j, N.length = j + 1 := ⟨N.length - 1, by omega⟩
    rw [hj]
    unfold depthK
    rw [upF_tree h (hlt x hx).1 (hlt _ h2).1 h1, if_neg (by omega), hc' j 1 (by omega)]
    rfl
  rw [e1, e2]; omega

/-- The nearest strict dominator among the first k nodes. -/
def Scan (N : Gr) (b k : Nat) (best : Int) : Prop :=
  (best = -1 ∧ ∀ a, a < k → a ≠ b → ¬ Dm (Ed N) a b) ∨ ∃ m : Nat, best = (m : Int) ∧ m < N.length ∧ m ≠ b ∧ Dm (Ed N) m b ∧ ∀ a, a < k → a ≠ b → Dm (Ed N) a b → Dm (Ed N) a m
theorem Scan.zero (N : Gr) (b : Nat) : Scan N b 0 (-1) := .inl ⟨rfl, fun a ha => absurd ha (Nat.not_lt_zero _)⟩
theorem Scan.no {b k : Nat} {best : Int} (h : Scan N b k best) (hk : k = b ∨ ¬ Dm (Ed N) k b) : Scan N b (k + 1) best := by
  rcases h with ⟨e, h⟩ | ⟨m, e, h1, h2, h3, h4⟩
  · refine .inl ⟨e, fun a ha hne => ?_⟩
    rcases Nat.lt_or_ge a k with h5 | h5
    · exact h a h5 hne
    · obtain rfl : a = k := by omega
      exact hk.resolve_left hne
  · refine .inr ⟨m, e, h1, h2, h3, fun a ha hne hd => ?_⟩
    rcases Nat.lt_or_ge a k with h5 | h5
    · exact h4 a h5 hne hd
    · obtain rfl : a = k := by omega
      exact absurd hd (hk.resolve_left hne)
theorem Scan.first {b k : Nat} (h : ∀ a, a < k → a ≠ b → ¬ Dm (Ed N) a b) (hk : k < N.length) (hne : k ≠ b) (hd : Dm (Ed N) k b) (hself : ∀ x, R (Ed N) x → Dm (Ed N) x x) (hR : R (Ed N) k) : Scan N b (k + 1) (k : Int) := by
  refine .inr ⟨k, rfl, hk, hne, hd, fun a ha hab hda => ?_⟩
  rcases Nat.lt_or_ge a k with h5 | h5
  · exact absurd hda (h a h5 hab)
  · obtain rfl : a = k := by omega
    exact hself _ hR
theorem dm_self {x : Nat} (h : R (Ed N) x) : Dm (Ed N) x x := ⟨h, fun hr => hr.ne rfl⟩
theorem Idom.total (h : Idom N I) (hN : N ≠ []) {x a b : Nat} (ha : Dm (Ed N) a x) (hb : Dm (Ed N) b x) : R (Ed N) a ∧ R (Ed N) b ∧ (Dm (Ed N) a b ∨ Dm (Ed N) b a) := by
  obtain ⟨f, rank, hup, hlt, hdom⟩ := h.tree hN
  have h1 := (hdom x ha.1 a).2 ha
  have h2 := (hdom x ha.1 b).2 hb
  have hRa := (Anc.lt_rank (P := R (Ed N)) (rank := rank) (fun x hx h0 => (hup x hx h0).2) ha.1 h1).1
  have hRb := (Anc.lt_rank (P := R (Ed N)) (rank := rank) (fun x hx h0 => (hup x hx h0).2) ha.1 h2).1
  refine ⟨hRa, hRb, ?_⟩
  rcases h1.total h2 with h3 | h3
  · exact .inr ((hdom a hRa b).1 h3)
  · exact .inl ((hdom b hRb a).1 h3)
theorem Idom.trans (h : Idom N I) (hN : N ≠ []) {a b c : Nat} (h1 : Dm (Ed N) a b) (h2 : Dm (Ed N) b c) : Dm (Ed N) a c := by
  obtain ⟨f, rank, hup, hlt, hdom⟩ := h.tree hN
  exact (hdom c h2.1 a).1 (((hdom c h2.1 b).2 h2).trans ((hdom b h1.1 a).2 h1))
theorem Scan.put (h : Idom N I) (hN : N ≠ []) {b k m : Nat} (hm : ∀ a, a < k → a ≠ b → Dm (Ed N) a b → Dm (Ed N) a m) (hk : k < N.length) (hne : k ≠ b) (hd : Dm (Ed N) k b) (hmk : Dm (Ed N) m k) : Scan N b (k + 1) (k : Int) := by
  refine .inr ⟨k, rfl, hk, hne, hd, fun a ha hab hda => ?_⟩
  rcases Nat.lt_or_ge a k with h5 | h5
  · exact h.trans hN (hm a h5 hab hda) hmk
  · obtain rfl : a = k := by omega
    exact dm_self hmk.1
theorem Scan.stay (h : Idom N I) (hN : N ≠ []) {b k m : Nat} (h1 : m < N.length) (h2 : m ≠ b) (h3 : Dm (Ed N) m b) (hm : ∀ a, a < k → a ≠ b → Dm (Ed N) a b → Dm (Ed N) a m) (hmk : ¬ Dm (Ed N) m k) : Scan N b (k + 1) (m : Int) := by
  refine .inr ⟨m, rfl, h1, h2, h3, fun a ha hab hda => ?_⟩
  rcases Nat.lt_or_ge a k with h5 | h5
  · exact hm a h5 hab hda
  · obtain rfl : a = k := by omega
    exact (h.total hN hda h3).2.2.resolve_right hmk
/-- The scan ends at the row's own value. -/
theorem Scan.full (h : Idom N I) (hN : N ≠ []) {b : Nat} (hb : b < N.length) {best : Int} (hs : Scan N b N.length best) : best = I.getD b 0 := by
  obtain ⟨f, rank, hup, hlt, hdom⟩ := h.tree hN
  have hP := fun {x d} (hx : R (Ed N) x) (ha : Anc f x d) => Anc.lt_rank (P := R (Ed N)) (rank := rank) (fun x hx h0 => (hup x hx h0).2) hx ha
  by_cases hR : R (Ed N) b
  · by_cases h0 : b = 0
    · subst h0
      rcases hs with ⟨e, _⟩ | ⟨m, _, _, h2, h3, _⟩
      · rw [e, h.root hN]
      · exact absurd ((hdom 0 hR m).2 h3).zero h2
    · obtain ⟨h1, h2, h3⟩ := hup b hR h0
      have hfd : Dm (Ed N) (f b) b := (hdom b hR _).1 (.up h0 (.refl _))
      have hne : f b ≠ b := fun e => by rw [e] at h3; omega
      rcases hs with ⟨_, h4⟩ | ⟨m, e, h4, h5, h6, h7⟩
      · exact absurd hfd (h4 _ (hlt _ h2).1 hne)
      · have h8 := h7 (f b) (hlt _ h2).1 hne hfd
        have hRm := h8.1
        have h9 : Anc f m (f b) := (hdom m hRm _).2 h8
        have h10 : Anc f (f b) m := by
          rcases ((hdom b hR m).2 h6).cases' with e | ⟨_, h11⟩
          · exact absurd e h5
          · exact h11
        have h12 : m = f b := by
          rcases (hP hRm h9).2 with e | h13
          · exact e.symm
          · rcases (hP h2 h10).2 with e | h14
            · exact e
            · omega
        rw [e, h12, h1]
  · rw [h.out b hb hR]
    rcases hs with ⟨e, _⟩ | ⟨m, _, _, _, h3, _⟩
    · exact e
    · exact absurd h3.1 hR
end
end Go.Proofs.Ythjlfbeabobgmaa.Dom
