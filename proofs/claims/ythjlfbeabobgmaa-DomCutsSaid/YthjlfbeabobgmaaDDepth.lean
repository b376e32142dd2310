/-
  One step more makes no difference to the depth. No program in sight.
-/
import Derived.Test.YthjlfbeabobgmaaDPlain
namespace Go.Proofs.Ythjlfbeabobgmaa.Dom

/-- More pigeons than holes. -/
theorem pigeon : ∀ (n : Nat) (f : Nat → Nat), (∀ i, i ≤ n → f i < n) → ∃ i j, i < j ∧ j ≤ n ∧ f i = f j
  | 0, f, h => absurd (h 0 (Nat.le_refl _)) (Nat.not_lt_zero _)
  | n + 1, f, h => by
    by_cases hv : ∃ i, i ≤ n ∧ f i = f (n + 1)
    · obtain ⟨i, h1, h2⟩ := hv
      exact ⟨i, n + 1, by omega, Nat.le_refl _, h2⟩
    · obtain ⟨i, j, h1, h2, h3⟩ := pigeon n (fun i => if f i = n then f (n + 1) else f i) (fun i hi => by
        have h4 := h i (by omega)
        have h5 : f i ≠ f (n + 1) := fun e => hv ⟨i, hi, e⟩
        show (if f i = n then f (n + 1) else f i) < n
        split
        · have := h (n + 1) (Nat.le_refl _); omega
        · omega)
      refine ⟨i, j, h1, by omega, ?_⟩
      have h5 : f i ≠ f (n + 1) := fun e => hv ⟨i, by omega, e⟩
      have h6 : f j ≠ f (n + 1) := fun e => hv ⟨j, h2, e⟩
      split at h3 <;> split at h3 <;> first | omega | exact absurd h3.symm h6 | exact absurd h3 h5 | exact h3

/-- k steps up. -/
def ups (r : List Int) : Nat → Int → Int
  | 0, a => a
  | k + 1, a => ups r k (upF r a)
theorem ups_succ (r : List Int) : ∀ (k : Nat) (a : Int), ups r (k + 1) a = upF r (ups r k a)
  | 0, a => rfl
  | k + 1, a => ups_succ r k (upF r a)
theorem ups_add (r : List Int) (a : Int) : ∀ (j k : Nat), ups r (j + k) a = ups r j (ups r k a)
  | j, 0 => rfl
  | j, k + 1 => by rw [← Nat.add_assoc, ups_succ, ups_add r a j k, ← ups_succ]; exact (show ups r (j + 1) (ups r k a) = ups r j (ups r (k + 1) a) by rw [ups_succ r k a]; rfl)
theorem depthK_alive (r : List Int) : ∀ (k m : Nat) (a : Int), (∀ j, j < k → 0 ≤ ups r (j + 1) a) → depthK r k m a = -1 ∧ ∀ k', depthK r (k + k') m a = depthK r k' (m + k) (ups r k a)
  | 0, m, a, _ => ⟨rfl, fun k' => by rw [Nat.zero_add]; rfl⟩
  | k + 1, m, a, h => by
    have h0 : 0 ≤ upF r a := h 0 (by omega)
    obtain ⟨h1, h2⟩ := depthK_alive r k (m + 1) (upF r a) (fun j hj => h (j + 1) (by omega))
    refine ⟨?_, fun k' => ?_⟩
    · show (if upF r a < 0 then (m : Int) else depthK r k (m + 1) (upF r a)) = -1
      rw [if_neg (by omega), h1]
    · rw [show k + 1 + k' = (k + k') + 1 by omega]
      show (if upF r a < 0 then (m : Int) else depthK r (k + k') (m + 1) (upF r a)) = _
      rw [if_neg (by omega), h2 k', show m + 1 + k = m + (k + 1) by omega]
      rfl
theorem depthK_stop (r : List Int) : ∀ (k m : Nat) (a : Int), (∃ j, j < k ∧ ups r (j + 1) a < 0) → ∀ k', depthK r (k + k') m a = depthK r k m a
  | 0, m, a, h, k' => by obtain ⟨j, hj, _⟩ := h; exact absurd hj (Nat.not_lt_zero _)
  | k + 1, m, a, h, k' => by
    rw [show k + 1 + k' = (k + k') + 1 by omega]
    show (if upF r a < 0 then (m : Int) else depthK r (k + k') (m + 1) (upF r a)) = (if upF r a < 0 then (m : Int) else depthK r k (m + 1) (upF r a))
    by_cases h0 : upF r a < 0
    · rw [if_pos h0, if_pos h0]
    · rw [if_neg h0, if_neg h0]
      refine depthK_stop r k (m + 1) (upF r a) ?_ k'
      obtain ⟨j, hj, h1⟩ := h
      cases j with
      | zero => exact absurd h1 h0
      | succ j => exact ⟨j, by omega, h1⟩
theorem depth_same (r : List Int) (a : Int) : depthF r a = depthR r a := by
  unfold depthF depthR
  by_cases h0 : a < 0 ∨ (r.length : Int) ≤ a
  · rw [if_pos h0, if_pos h0]
  · rw [if_neg h0, if_neg h0]
    by_cases h : ∃ j, j < r.length ∧ ups r (j + 1) a < 0
    · exact (depthK_stop r r.length 0 a h 1).symm
    · have hal : ∀ j, j < r.length → 0 ≤ ups r (j + 1) a := fun j hj => by
        rcases Int.lt_or_le (ups r (j + 1) a) 0 with h1 | h1
        · exact absurd ⟨j, hj, h1⟩ h
        · exact h1
      have hb : ∀ j, j ≤ r.length → 0 ≤ ups r j a ∧ ups r j a < r.length := fun j hj => by
        cases j with
        | zero => show 0 ≤ a ∧ a < r.length; omega
        | succ j =>
          have h1 := hal j (by omega)
          rw [ups_succ] at h1 ⊢
          rcases upF_cases r (ups r j a) with h2 | h2
          · rw [h2] at h1; omega
          · exact h2
      obtain ⟨i, j, h1, h2, h3⟩ := pigeon r.length (fun i => (ups r i a).toNat) (fun i hi => by have := hb i hi; show (ups r i a).toNat < _; omega)
      have hij : ups r i a = ups r j a := by
        have h4 := hb i (by omega); have h5 := hb j h2
        omega
      have hlast : 0 ≤ ups r (r.length + 1) a := by
        have e : r.length + 1 = (r.length + 1 - j) + j := by omega
        rw [e, ups_add, ← hij, ← ups_add]
        exact (hb _ (by omega)).1
      obtain ⟨h4, h5⟩ := depthK_alive r r.length 0 a hal
      rw [h4, h5 1]
      show (-1 : Int) = if upF r (ups r r.length a) < 0 then _ else _
      rw [← ups_succ, if_neg (by omega)]
      rfl
end Go.Proofs.Ythjlfbeabobgmaa.Dom
