/-
  same: two lists of numbers that are equal are found equal.
-/
import Derived.Test.YtpjckgmhcbhphaaBase
import Derived.Deep.QuietTactic
import Derived.BigQuiet
namespace Go.Proofs.Ytpjckgmhcbhphaa
open Go Go.RowKit

theorem same_calls (l : List Int) (A B : Option Addr) (c d : Nat) (w : World) (hs : Seg w A (l.flatMap u64C)) (ht : Seg w B (l.flatMap u64C)) (hn : l.length ≤ 1000000) :
    Calls Try.prog 15 #[.slice A l.length c, .slice B l.length d] w fun e w' => e = .returned (.bool true) ∧ Keep w w' := by
  have hll : ((l.length : Int) != (l.length : Int)) = false := by simp
  go_enter Try.func15, Try.ntmps15
  go_wp2
  go_loopw [5] (fun i wr => ∃ k : Nat, k ≤ l.length ∧ i = .int .i64 k ∧ Keep w wr) (fun i _ => l.length - (intOf i).toNat)
  case atStart => exact ⟨0, Nat.zero_le _, rfl, Keep.refl _⟩
  case round =>
    obtain ⟨k, hk, rfl, hkeep⟩ := hrel
    by_cases hlt : k < l.length
    · have hkk : (k : Int) < (l.length : Int) := by omega
      have hk0 : (0 : Int) ≤ (k : Int) := by omega
      obtain ⟨b, off, rfl, hb, c0⟩ := val_at hs hkeep hlt
      obtain ⟨b', off', rfl, hb', d0⟩ := val_at ht hkeep hlt
      have hne : (l[k] != l[k]) = false := by simp
      go_wp2_with fail
      go_quiet (fail)
      go_wp2
      go_roundw
      case rel => exact ⟨k + 1, hlt, by go_num, hkeep.drewN _⟩
      case measure => simp [intOf]; omega
    · go_wp2
      go_ret
      exact ⟨rfl, hkeep⟩
end Go.Proofs.Ytpjckgmhcbhphaa
