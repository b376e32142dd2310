/-
  Two rows of numbers that are equal.
-/
import Derived.Test.YtjpmiejgcnfiiaaLNext
set_option linter.unusedVariables false
set_option linter.unusedSimpArgs false
namespace Go.Proofs.Ytjpmiejgcnfiiaa
open Go Go.RowKit

theorem refInts_drew (l : List Int) (A B : Option Addr) (c d : Nat) (w : World) (hs : Seg w A (l.flatMap intC)) (ht : Seg w B (l.flatMap intC)) (hn : l.length ≤ 1000000) :
    Calls Try.prog 11 #[.slice A l.length c, .slice B l.length d] w fun e w' => e = .returned (.bool true) ∧ ∃ nq, w' = w.drewN nq := by
  have hll : ((l.length : Int) != (l.length : Int)) = false := by simp
  go_enter Try.func11, Try.ntmps11
  go_wp2
  go_loopw [5] (fun i wr => ∃ k : Nat, k ≤ l.length ∧ i = .int .i64 k ∧ ∃ nq, wr = w.drewN nq) (fun i _ => l.length - (intOf i).toNat)
  case atStart => exact ⟨0, Nat.zero_le _, rfl, 0, rfl⟩
  case round =>
    obtain ⟨k, hk, rfl, nw, hnw⟩ := hrel
    have hkeep : Keep w wr := by rw [hnw]; exact (Keep.refl _).drewN _
    have Hnw := Lib.hid hnw
    clear hnw
    by_cases hlt : k < l.length
    · have hkk : (k : Int) < (l.length : Int) := by omega
      have hk0 : (0 : Int) ≤ (k : Int) := by omega
      obtain ⟨b, off, rfl, hb, c0⟩ := int_at hs hkeep hlt
      obtain ⟨b', off', rfl, hb', d0⟩ := int_at ht hkeep hlt
      have hne : (l[k] != l[k]) = false := by simp
      go_wp2_with fail
      go_quiet (fail)
      go_wp2
      go_roundw
      case rel => exact ⟨k + 1, hlt, by go_num, _, by rw [Hnw.out, World.drewN_drewN]⟩
      case measure => simp [intOf]; omega
    · go_wp2
      go_ret
      exact ⟨rfl, nw, Hnw.out⟩

theorem refInts_calls (l : List Int) (A B : Option Addr) (c d : Nat) (w : World) (hs : Seg w A (l.flatMap intC)) (ht : Seg w B (l.flatMap intC)) (hn : l.length ≤ 1000000) :
    Calls Try.prog 11 #[.slice A l.length c, .slice B l.length d] w fun e w' => e = .returned (.bool true) ∧ Keep w w' :=
  (refInts_drew l A B c d w hs ht hn).mono fun e w' ⟨h1, nq, h2⟩ => ⟨h1, by rw [h2]; exact (Keep.refl _).drewN _⟩
end Go.Proofs.Ytjpmiejgcnfiiaa
