/-
  Lists that lie outside of a stack; how long a stack gets.
-/
import Derived.Test.YtkeefajfndmpeaaBase
namespace Go.Proofs.Ytkeefajfndmpeaa
open Go Go.RowKit

theorem Seg.ext' {S : Nat → Prop} {w w' : World} {A : Option Addr} {xs : List Value} (h : Seg w A xs) (hk : Ext S w w') (hs : 0 < xs.length → ∀ ad, A = some ad → ¬ S ad.block) : Seg w' A xs := by
  rcases Nat.eq_zero_or_pos xs.length with h0 | h0
  · have : xs = [] := List.eq_nil_of_length_eq_zero h0
    subst this; exact Seg.nil _ _
  · exact h.ext hk fun ad ha _ => hs h0 ad ha
theorem val_len (l : List Int) : (l.flatMap valC).length = l.length := by rw [flat_length valC 1 (fun _ => rfl)]; omega
/-- A list that lies in no block of F. -/
def Out (F : Nat → Prop) (A : Option Addr) (n : Nat) : Prop := 0 < n → ∀ ad, A = some ad → ¬ F ad.block
theorem Seg.out {F : Nat → Prop} {w w' : World} {A : Option Addr} {l : List Int} (h : Seg w A (l.flatMap valC)) (hk : Ext F w w') (ho : Out F A l.length) : Seg w' A (l.flatMap valC) :=
  h.ext' hk fun h0 => ho (by rwa [val_len] at h0)

/-! ### Plain -/
namespace Stk
theorem push_len (s : Stk) (l : List Int) : (s.push l).T.length = s.T.length + l.length := by simp [push]
theorem pop_le (s : Stk) : s.pop.1.T.length ≤ s.T.length ∧ s.pop.1.P = s.P := by
  unfold pop
  split
  · exact ⟨by simp [cut], rfl⟩
  · split <;> exact ⟨Nat.le_refl _, rfl⟩
theorem want_le (s : Stk) (l : List Int) : (s.want l).1.T.length ≤ s.T.length ∧ (s.want l).1.P = s.P := by
  unfold want
  split
  · exact ⟨by simp [cut]; omega, rfl⟩
  · exact ⟨Nat.le_refl _, rfl⟩
theorem opened_len (s : Stk) : s.opened.T.length = s.T.length ∧ s.opened.P.length = s.P.length + 1 := ⟨rfl, by simp [opened, P]⟩
theorem outer_len (s : Stk) : s.outer.T.length = s.T.length ∧ s.outer.P.length ≤ s.P.length := by
  rcases List.eq_nil_or_concat s.B with hB | ⟨r, p, hB⟩
  · rw [outer_none hB]; exact ⟨rfl, by simp [P]⟩
  · have hB : s.B = r ++ [p] := by simpa using hB
    rw [outer_some hB]; exact ⟨rfl, by simp [P, hB]⟩
theorem shut_le (s : Stk) (l : List Int) : (s.shut l).1.T.length ≤ s.T.length ∧ (s.shut l).1.P.length ≤ s.P.length := by
  unfold shut
  split
  · split
    · exact ⟨Nat.le_refl _, Nat.le_refl _⟩
    · have := outer_len (s.cut (s.left l).1)
      refine ⟨?_, by rw [cut_P] at this; exact this.2⟩
      show ((s.cut (s.left l).1).outer).T.length ≤ _
      rw [this.1]; simp [cut]; omega
  · exact ⟨Nat.le_refl _, Nat.le_refl _⟩
theorem loosen_le (s : Stk) : s.loosen.T.length ≤ s.T.length ∧ s.loosen.P.length = s.P.length := ⟨by simp [loosen, cut]; omega, by simp [loosen, cut, P]⟩
end Stk
end Go.Proofs.Ytkeefajfndmpeaa
