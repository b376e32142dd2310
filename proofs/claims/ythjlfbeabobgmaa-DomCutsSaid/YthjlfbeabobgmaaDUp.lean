/-
  The parent in a tree.
-/
import Derived.Test.YthjlfbeabobgmaaDBase
namespace Go.Proofs.Ythjlfbeabobgmaa
open Go Go.RowKit

theorem up_calls (l : List Int) (A : Option Addr) (c : Nat) (w : World) (hs : Seg w A (l.flatMap intC)) (hm : l.length ≤ maxLen) (a : Int) :
    Calls Try.prog 24 #[.slice A l.length c, .int .i64 a] w fun e w' => e = .returned (.int .i64 (Dom.upF l a)) ∧ w = w' := by
  unfold maxLen at hm
  by_cases h0 : a < 0
  · have e : Hid (Dom.upF l a = -1) := Lib.hid (by unfold Dom.upF; rw [if_pos (.inl h0)])
    have d0 : decide (a < 0) = true := decide_eq_true h0
    clear h0
    go_enter Try.func24, Try.ntmps24
    go_wp2
    go_ret
    exact ⟨by rw [e.out]; rfl, rfl⟩
  · have d0 : decide (a < 0) = false := decide_eq_false h0
    by_cases h1 : (l.length : Int) ≤ a
    · have e : Hid (Dom.upF l a = -1) := Lib.hid (by unfold Dom.upF; rw [if_pos (.inr h1)])
      have d1 : decide ((l.length : Int) ≤ a) = true := decide_eq_true h1
      go_enter Try.func24, Try.ntmps24
      go_wp2
      go_ret
      exact ⟨by rw [e.out]; rfl, rfl⟩
    · have d1 : decide ((l.length : Int) ≤ a) = false := decide_eq_false h1
      obtain ⟨k, rfl⟩ : ∃ k : Nat, a = k := ⟨a.toNat, by omega⟩
      have hk : k < l.length := by omega
      obtain ⟨b, off, rfl, hb, hc⟩ := int_at hs (Keep.refl _) hk
      have e0 : Hid (Dom.upF l (k : Int) = if l[k] < 0 ∨ (l.length : Int) ≤ l[k] then -1 else l[k]) := Lib.hid (by
        unfold Dom.upF
        rw [if_neg (by omega)]
        simp [hk])
      obtain ⟨x, hx⟩ : ∃ x, x = l[k] := ⟨_, rfl⟩
      rw [← hx] at hc e0
      clear hx
      by_cases h2 : x < 0
      · have e : Hid (Dom.upF l (k : Int) = -1) := Lib.hid (by rw [e0.out, if_pos (.inl h2)])
        have d2 : decide (x < 0) = true := decide_eq_true h2
        clear e0
        go_enter Try.func24, Try.ntmps24
        go_wp2
        go_ret
        exact ⟨by rw [e.out]; rfl, rfl⟩
      · have d2 : decide (x < 0) = false := decide_eq_false h2
        by_cases h3 : (l.length : Int) ≤ x
        · have e : Hid (Dom.upF l (k : Int) = -1) := Lib.hid (by rw [e0.out, if_pos (.inr h3)])
          have d3 : decide ((l.length : Int) ≤ x) = true := decide_eq_true h3
          clear e0
          go_enter Try.func24, Try.ntmps24
          go_wp2
          go_ret
          exact ⟨by rw [e.out]; rfl, rfl⟩
        · have e : Hid (Dom.upF l (k : Int) = x) := Lib.hid (by rw [e0.out, if_neg (by omega)])
          have d3 : decide ((l.length : Int) ≤ x) = false := decide_eq_false h3
          clear e0
          go_enter Try.func24, Try.ntmps24
          go_wp2
          go_ret
          exact ⟨by rw [e.out]; rfl, rfl⟩

/-! ### The reference's -/

theorem refUp_calls (l : List Int) (A : Option Addr) (c : Nat) (w : World) (hs : Seg w A (l.flatMap intC)) (hm : l.length ≤ maxLen) (a : Int) :
    Calls Try.prog 25 #[.slice A l.length c, .int .i64 a] w fun e w' => e = .returned (.int .i64 (Dom.upF l a)) ∧ w = w' := by
  unfold maxLen at hm
  by_cases h0 : a < 0
  · have e : Hid (Dom.upF l a = -1) := Lib.hid (by unfold Dom.upF; rw [if_pos (.inl h0)])
    have d0 : decide (a < 0) = true := decide_eq_true h0
    clear h0
    go_enter Try.func25, Try.ntmps25
    go_wp2
    go_ret
    exact ⟨by rw [e.out]; rfl, rfl⟩
  · have d0 : decide (a < 0) = false := decide_eq_false h0
    by_cases h1 : (l.length : Int) ≤ a
    · have e : Hid (Dom.upF l a = -1) := Lib.hid (by unfold Dom.upF; rw [if_pos (.inr h1)])
      have d1 : decide ((l.length : Int) ≤ a) = true := decide_eq_true h1
      go_enter Try.func25, Try.ntmps25
      go_wp2
      go_ret
      exact ⟨by rw [e.out]; rfl, rfl⟩
    · have d1 : decide ((l.length : Int) ≤ a) = false := decide_eq_false h1
      obtain ⟨k, rfl⟩ : ∃ k : Nat, a = k := ⟨a.toNat, by omega⟩
      have hk : k < l.length := by omega
      obtain ⟨b, off, rfl, hb, hc⟩ := int_at hs (Keep.refl _) hk
      have e0 : Hid (Dom.upF l (k : Int) = if l[k] < 0 ∨ (l.length : Int) ≤ l[k] then -1 else l[k]) := Lib.hid (by
        unfold Dom.upF
        rw [if_neg (by omega)]
        simp [hk])
      obtain ⟨x, hx⟩ : ∃ x, x = l[k] := ⟨_, rfl⟩
      rw [← hx] at hc e0
      clear hx
      by_cases h2 : x < 0
      · have e : Hid (Dom.upF l (k : Int) = -1) := Lib.hid (by rw [e0.out, if_pos (.inl h2)])
        have d2 : decide (x < 0) = true := decide_eq_true h2
        clear e0
        go_enter Try.func25, Try.ntmps25
        go_wp2
        go_ret
        exact ⟨by rw [e.out]; rfl, rfl⟩
      · have d2 : decide (x < 0) = false := decide_eq_false h2
        by_cases h3 : (l.length : Int) ≤ x
        · have e : Hid (Dom.upF l (k : Int) = -1) := Lib.hid (by rw [e0.out, if_pos (.inr h3)])
          have d3 : decide ((l.length : Int) ≤ x) = true := decide_eq_true h3
          clear e0
          go_enter Try.func25, Try.ntmps25
          go_wp2
          go_ret
          exact ⟨by rw [e.out]; rfl, rfl⟩
        · have e : Hid (Dom.upF l (k : Int) = x) := Lib.hid (by rw [e0.out, if_neg (by omega)])
          have d3 : decide ((l.length : Int) ≤ x) = false := decide_eq_false h3
          clear e0
          go_enter Try.func25, Try.ntmps25
          go_wp2
          go_ret
          exact ⟨by rw [e.out]; rfl, rfl⟩
end Go.Proofs.Ythjlfbeabobgmaa
