/-
  SameVals, the program's and the reference's.
-/
import Derived.Test.YtkeefajfndmpeaaPush
namespace Go.Proofs.Ytkeefajfndmpeaa
open Go Go.RowKit

theorem ne_of_take {l m : List Int} {k : Nat} (h1 : k < l.length) (h2 : k < m.length) (h : (l[k] != m[k]) = true) : decide (l = m) = false := by
  refine decide_eq_false fun e => ?_
  subst e
  simp at h
theorem eq_of_all {l m : List Int} (hl : l.length = m.length) (h : ∀ j (h1 : j < l.length) (h2 : j < m.length), l[j] = m[j]) : decide (l = m) = true := decide_eq_true (List.ext_getElem hl h)
theorem ne_of_len {l m : List Int} (h : l.length ≠ m.length) : decide (l = m) = false := decide_eq_false fun e => h (by rw [e])

theorem same_calls (l m : List Int) (A B : Option Addr) (c d : Nat) (w : World) (hs : Seg w A (l.flatMap valC)) (ht : Seg w B (m.flatMap valC)) (hl : l.length ≤ 1000000) (hm : m.length ≤ 1000000) :
    Calls Try.prog 75 #[.slice A l.length c, .slice B m.length d] w fun e w' => e = .returned (.bool (decide (l = m))) ∧ w = w' := by
  by_cases hll : l.length = m.length
  rotate_left
  · have Hf := Lib.hid (ne_of_len hll)
    have hne : ((l.length : Int) != (m.length : Int)) = true := by simp; omega
    clear hll
    go_enter Try.func75, Try.ntmps75
    go_wp2
    go_ret
    exact ⟨by rw [Hf.out]; rfl, rfl⟩
  · have hne : ((l.length : Int) != (m.length : Int)) = false := by simp; omega
    have Hll := Lib.hid hll
    have hle1 : l.length ≤ m.length := by omega
    clear hll
    go_enter Try.func75, Try.ntmps75
    go_wp2
    go_loopw [14] (fun i wr => ∃ k : Nat, k ≤ l.length ∧ i = .int .i64 k ∧ (∀ j (h1 : j < l.length) (h2 : j < m.length), j < k → l[j] = m[j]) ∧ wr = w) (fun i _ => l.length - (intOf i).toNat)
    case atStart => exact ⟨0, Nat.zero_le _, rfl, fun j h1 h2 h3 => absurd h3 (Nat.not_lt_zero _), rfl⟩
    case round =>
      obtain ⟨k, hk, rfl, hall, rfl⟩ := hrel
      have Hall := Lib.hid hall
      clear hall
      by_cases hlt : k < l.length
      · have hlt2 : k < m.length := by omega
        have hkk : (k : Int) < (l.length : Int) := by omega
        have hkm : (k : Int) < (m.length : Int) := by omega
        have hk0 : (0 : Int) ≤ (k : Int) := by omega
        obtain ⟨b, off, rfl, hb, c0⟩ := val_at hs (Keep.refl _) hlt
        obtain ⟨b', off', rfl, hb', d0⟩ := val_at ht (Keep.refl _) hlt2
        cases hv : (l[k] != m[k])
        · have Hv := Lib.hid (show l[k] = m[k] by simpa using hv)
          go_wp2
          go_roundw
          case rel => exact ⟨k + 1, hlt, by go_num, fun j h1 h2 h3 => by
            rcases Nat.lt_or_ge j k with h4 | h4
            · exact Hall.out j h1 h2 h4
            · obtain rfl : j = k := by omega
              exact Hv.out, trivial⟩
          case measure => simp [intOf]; omega
        · have Hf := Lib.hid (ne_of_take hlt hlt2 hv)
          go_wp2
          go_ret
          exact ⟨by rw [Hf.out]; rfl, rfl⟩
      · have Ht := Lib.hid (eq_of_all Hll.out (fun j h1 h2 => Hall.out j h1 h2 (by omega)))
        go_wp2
        go_ret
        exact ⟨by rw [Ht.out]; rfl, rfl⟩

theorem sameVals_calls (l m : List Int) (A B : Option Addr) (c d : Nat) (w : World) (hs : Seg w A (l.flatMap valC)) (ht : Seg w B (m.flatMap valC)) (hl : l.length ≤ 1000000) (hm : m.length ≤ 1000000) :
    Calls Try.prog 63 #[.slice A l.length c, .slice B m.length d] w fun e w' => e = .returned (.bool (decide (l = m))) ∧ w = w' := by
  have H := Lib.hid (same_calls l m A B c d w hs ht hl hm)
  go_enter Try.func63, Try.ntmps63
  go_wp2_with fail
  refine H.out.mono ?_
  rintro e w1 ⟨rfl, rfl⟩
  go_wp2
  go_ret
  exact ⟨rfl, rfl⟩

theorem refSameVals_calls (l m : List Int) (A B : Option Addr) (c d : Nat) (w : World) (hs : Seg w A (l.flatMap valC)) (ht : Seg w B (m.flatMap valC)) (hl : l.length ≤ 1000000) (hm : m.length ≤ 1000000) :
    Calls Try.prog 39 #[.slice A l.length c, .slice B m.length d] w fun e w' => e = .returned (.bool (decide (l = m))) ∧ Keep w w' := by
  by_cases hll : l.length = m.length
  rotate_left
  · have Hf := Lib.hid (ne_of_len hll)
    have hne : ((l.length : Int) != (m.length : Int)) = true := by simp; omega
    clear hll
    go_enter Try.func39, Try.ntmps39
    go_wp2
    go_ret
    exact ⟨by rw [Hf.out]; rfl, Keep.refl _⟩
  · have hne : ((l.length : Int) != (m.length : Int)) = false := by simp; omega
    have Hll := Lib.hid hll
    have hle1 : l.length ≤ m.length := by omega
    clear hll
    go_enter Try.func39, Try.ntmps39
    go_wp2
    go_loopw [5] (fun i wr => ∃ k : Nat, k ≤ l.length ∧ i = .int .i64 k ∧ (∀ j (h1 : j < l.length) (h2 : j < m.length), j < k → l[j] = m[j]) ∧ Keep w wr) (fun i _ => l.length - (intOf i).toNat)
    case atStart => exact ⟨0, Nat.zero_le _, rfl, fun j h1 h2 h3 => absurd h3 (Nat.not_lt_zero _), Keep.refl _⟩
    case round =>
      obtain ⟨k, hk, rfl, hall, hkeep⟩ := hrel
      have Hall := Lib.hid hall
      clear hall
      by_cases hlt : k < l.length
      · have hlt2 : k < m.length := by omega
        have hkk : (k : Int) < (l.length : Int) := by omega
        have hkm : (k : Int) < (m.length : Int) := by omega
        have hk0 : (0 : Int) ≤ (k : Int) := by omega
        obtain ⟨b, off, rfl, hb, c0⟩ := val_at hs hkeep hlt
        obtain ⟨b', off', rfl, hb', d0⟩ := val_at ht hkeep hlt2
        cases hv : (l[k] != m[k])
        · have Hv := Lib.hid (show l[k] = m[k] by simpa using hv)
          go_wp2_with fail
          go_quiet (fail)
          go_wp2
          go_roundw
          case rel => exact ⟨k + 1, hlt, by go_num, fun j h1 h2 h3 => by
            rcases Nat.lt_or_ge j k with h4 | h4
            · exact Hall.out j h1 h2 h4
            · obtain rfl : j = k := by omega
              exact Hv.out, hkeep.drewN _⟩
          case measure => simp [intOf]; omega
        · have Hf := Lib.hid (ne_of_take hlt hlt2 hv)
          go_wp2_with fail
          go_quiet (fail)
          go_wp2
          go_ret
          exact ⟨by rw [Hf.out]; rfl, hkeep.drewN _⟩
      · have Ht := Lib.hid (eq_of_all Hll.out (fun j h1 h2 => Hall.out j h1 h2 (by omega)))
        go_wp2
        go_ret
        exact ⟨by rw [Ht.out]; rfl, hkeep⟩
end Go.Proofs.Ytkeefajfndmpeaa
