/-
  The law StackNone returns true.
-/
import Derived.Test.YtkeefajfndmpeaaNone
namespace Go.Proofs.Ytkeefajfndmpeaa
open Go Go.RowKit

set_option maxHeartbeats 1000000 in
theorem stackNone_walk (l : List Int) (A : Option Addr) (c : Nat) (w : World) (hm : l.length ≤ maxLen) :
    Calls Try.prog 6 #[.slice A l.length c] w fun e w' => e = .returned (.bool true) ∧ Keep w w' := by
  unfold maxLen at hm
  by_cases hn : l.length ≤ 60
  rotate_left
  · have hgt : (60 : Int) < (l.length : Int) := by omega
    have Ha := Lib.hid (alive_calls w)
    go_enter Try.func6, Try.ntmps6
    go_wp2_with fail
    refine Ha.out.mono ?_
    rintro e w2 ⟨rfl, hk⟩
    go_wp2
    go_ret
    exact ⟨rfl, hk⟩
  · have hgt : ¬ (60 : Int) < (l.length : Int) := by omega
    obtain ⟨wa, hwa⟩ : ∃ wa : World, wa = w.alloc (.cells #[.slice none 0 0, .slice none 0 0, .bool false] 53) := ⟨_, rfl⟩
    have hka : Keep w wa := by rw [hwa]; exact (Keep.refl _).alloc _
    have hb : Blk wa w.heap.size 53 [.slice none 0 0, .slice none 0 0, .bool false] := by rw [hwa]; exact Blk.new _ _ _
    have Hn := Lib.hid (made_nil wa)
    have Hz := Lib.hid (made_zero hb)
    clear hb hn
    go_enter Try.func6, Try.ntmps6
    go_wp2
    go_loopw [5] (fun i wr => ∃ k : Nat, k ≤ 2 ∧ i = .int .i64 k ∧ wr = wa) (fun i _ => 2 - (intOf i).toNat)
    case atStart => exact ⟨0, Nat.zero_le _, rfl, hwa.symm⟩
    case round =>
      obtain ⟨k, hk, rfl, rfl⟩ := hrel
      clear hwa
      rcases (show k = 0 ∨ k = 1 ∨ k = 2 by omega) with rfl | rfl | rfl
      · have Hu := Lib.hid (show Unmade (.pointer none) wr from Hn.out)
        clear Hn Hz
        go_wp2_with fail
        refine (push_none Hu.out A l.length c).mono ?_
        rintro e wx ⟨⟨vx, rfl⟩, rfl⟩
        go_wp2_with fail
        refine (open_none Hu.out).mono ?_
        rintro e wx ⟨⟨vx, rfl⟩, rfl⟩
        go_wp2_with fail
        refine (loose_none Hu.out).mono ?_
        rintro e wx ⟨⟨vx, rfl⟩, rfl⟩
        go_wp2_with fail
        refine (pop_none Hu.out).mono ?_
        rintro e wx ⟨rfl, rfl⟩
        go_wp2_with fail
        refine (want_none Hu.out A l.length c).mono ?_
        rintro e wx ⟨rfl, rfl⟩
        go_wp2_with fail
        refine (shut_none Hu.out A l.length c).mono ?_
        rintro e wx ⟨rfl, rfl⟩
        go_wp2_with fail
        refine (len_none Hu.out).mono ?_
        rintro e wx ⟨rfl, rfl⟩
        go_wp2_with fail
        refine (mark_none Hu.out).mono ?_
        rintro e wx ⟨rfl, rfl⟩
        go_wp2_with fail
        refine (all_none Hu.out).mono ?_
        rintro e wx ⟨rfl, rfl⟩
        go_wp2_with fail
        refine (over_none Hu.out).mono ?_
        rintro e wx ⟨rfl, rfl⟩
        go_wp2
        go_roundw
        case rel => exact ⟨1, by omega, by go_num, trivial⟩
        case measure => simp [intOf]
      · have Hu := Lib.hid (show Unmade (.pointer (some ⟨w.heap.size, 0, none⟩)) wr from Hz.out)
        clear Hn Hz
        go_wp2_with fail
        refine (push_none Hu.out A l.length c).mono ?_
        rintro e wx ⟨⟨vx, rfl⟩, rfl⟩
        go_wp2_with fail
        refine (open_none Hu.out).mono ?_
        rintro e wx ⟨⟨vx, rfl⟩, rfl⟩
        go_wp2_with fail
        refine (loose_none Hu.out).mono ?_
        rintro e wx ⟨⟨vx, rfl⟩, rfl⟩
        go_wp2_with fail
        refine (pop_none Hu.out).mono ?_
        rintro e wx ⟨rfl, rfl⟩
        go_wp2_with fail
        refine (want_none Hu.out A l.length c).mono ?_
        rintro e wx ⟨rfl, rfl⟩
        go_wp2_with fail
        refine (shut_none Hu.out A l.length c).mono ?_
        rintro e wx ⟨rfl, rfl⟩
        go_wp2_with fail
        refine (len_none Hu.out).mono ?_
        rintro e wx ⟨rfl, rfl⟩
        go_wp2_with fail
        refine (mark_none Hu.out).mono ?_
        rintro e wx ⟨rfl, rfl⟩
        go_wp2_with fail
        refine (all_none Hu.out).mono ?_
        rintro e wx ⟨rfl, rfl⟩
        go_wp2_with fail
        refine (over_none Hu.out).mono ?_
        rintro e wx ⟨rfl, rfl⟩
        go_wp2
        go_roundw
        case rel => exact ⟨2, by omega, by go_num, trivial⟩
        case measure => simp [intOf]
      · have Ha := Lib.hid (alive_calls wr)
        clear Hn Hz
        go_wp2_with fail
        refine Ha.out.mono ?_
        rintro e w2 ⟨rfl, hk2⟩
        go_wp2
        go_ret
        exact ⟨rfl, hka.trans hk2⟩
end Go.Proofs.Ytkeefajfndmpeaa
