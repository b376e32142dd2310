/-
  few: whether the calls are few and short.
-/
import Derived.Test.YtkeefajfndmpeaaFrame
import Derived.Test.YtkeefajfndmpeaaPush
namespace Go.Proofs.Ytkeefajfndmpeaa
open Go Go.RowKit

def shortB (a : ActD) : Bool := decide (a.2.2.1.length ≤ 60)
def fewB (L : List ActD) : Bool := (L.take 100).all shortB && decide (L.length ≤ 80)

theorem act_at {w wr : World} {A : Option Addr} {L : List ActD} (h : Seg w A (L.flatMap actC)) (hkeep : Keep w wr) {k : Nat} (hk : k < L.length) :
    ∃ b off, A = some ⟨b, off, none⟩ ∧ b < w.heap.size ∧ wr.cell? ⟨b, off + k * 2, none⟩ = some (.int .i64 L[k].1) ∧ wr.cell? ⟨b, off + k * 2 + 1, none⟩ = some (.slice L[k].2.1 L[k].2.2.1.length L[k].2.2.2) := by
  obtain ⟨b, off, e, hb, hc⟩ := h.elem 2 (fun _ => rfl) (by omega) hk
  exact ⟨b, off, e, hb, hkeep.cell (hc 0 _ rfl), hkeep.cell (hc 1 _ rfl)⟩

theorem few_calls (L : List ActD) (A : Option Addr) (c : Nat) (w : World) (hs : Seg w A (L.flatMap actC)) (hL : ∀ a ∈ L, ActOk w a) (hm : L.length ≤ maxLen) :
    Calls Try.prog 13 #[.slice A L.length c] w fun e w' => e = .returned (.bool (fewB L)) ∧ w = w' := by
  unfold maxLen at hm
  go_enter Try.func13, Try.ntmps13
  go_wp2
  go_loopw [3] (fun i wr => ∃ k : Nat, k ≤ L.length ∧ k ≤ 100 ∧ i = .int .i64 k ∧ (L.take k).all shortB = true ∧ wr = w) (fun i _ => 100 - (intOf i).toNat)
  case atStart => exact ⟨0, Nat.zero_le _, Nat.zero_le _, rfl, by simp, rfl⟩
  case round =>
    obtain ⟨k, hk, hk100, rfl, hall, rfl⟩ := hrel
    by_cases hlt : k < L.length ∧ k < 100
    · obtain ⟨h1, h2⟩ := hlt
      obtain ⟨b, off, rfl, hb, c0, c1⟩ := act_at hs (Keep.refl _) h1
      have hkk : (k : Int) < (L.length : Int) := by omega
      have hk1 : (k : Int) < 100 := by omega
      have hk0 : (0 : Int) ≤ (k : Int) := by omega
      have hmx := (hL L[k] (List.getElem_mem h1)).2.2
      have hmx2 : L[k].2.2.1.length ≤ 9223372036854775807 := by have := hmx.1; have := hmx.2; unfold maxLen at this; omega
      have hnx : (L.take (k + 1)).all shortB = shortB L[k] := by
        rw [take_snoc L h1, List.all_append, hall]; simp
      by_cases hsh : L[k].2.2.1.length ≤ 60
      · have hgt : ¬ (60 : Int) < (L[k].2.2.1.length : Int) := by omega
        have Hf := Lib.hid (show (L.take (k + 1)).all shortB = true by rw [hnx]; exact decide_eq_true hsh)
        clear hnx hall hmx hL
        go_wp2
        go_roundw
        case rel => exact ⟨k + 1, h1, h2, by go_num, Hf.out, trivial⟩
        case measure => simp [intOf]; omega
      · have hgt : (60 : Int) < (L[k].2.2.1.length : Int) := by omega
        have Hf := Lib.hid (show fewB L = false by
          have hmem : L[k] ∈ L.take 100 := List.mem_take_iff_getElem.2 ⟨k, by omega, rfl⟩
          unfold fewB
          rw [Bool.and_eq_false_iff]
          left
          rw [List.all_eq_false]
          exact ⟨_, hmem, by simp [shortB]; omega⟩)
        clear hnx hall hmx hL
        go_wp2
        go_ret
        exact ⟨by rw [Hf.out]; rfl, rfl⟩
    · have Hf := Lib.hid (show fewB L = decide (L.length ≤ 80) by
        unfold fewB
        by_cases h100 : L.length ≤ 100
        · have hkl : k = L.length ∨ k = 100 := by omega
          have : L.take 100 = L.take k := by
            rcases hkl with rfl | rfl
            · rw [List.take_of_length_le h100, List.take_length]
            · rfl
          rw [this, hall, Bool.true_and]
        · have hkl : k = 100 := by omega
          subst hkl
          rw [hall, Bool.true_and])
      have hd : decide ((L.length : Int) ≤ 80) = decide (L.length ≤ 80) := decide_eq_decide.2 ⟨fun h => by omega, fun h => by omega⟩
      by_cases h1 : k < L.length
      · have hkk : (k : Int) < (L.length : Int) := by omega
        have hk1 : ¬ (k : Int) < 100 := by omega
        clear hall hL hlt
        go_wp2
        go_ret
        exact ⟨by rw [Hf.out, ← hd]; rfl, rfl⟩
      · have hkk : ¬ (k : Int) < (L.length : Int) := by omega
        clear hall hL hlt
        go_wp2
        go_ret
        exact ⟨by rw [Hf.out, ← hd]; rfl, rfl⟩
end Go.Proofs.Ytkeefajfndmpeaa
