/-
  Over and Depth, the program's and the reference's.
-/
import Derived.Test.YthjlfbeabobgmaaDUp
namespace Go.Proofs.Ythjlfbeabobgmaa
open Go Go.RowKit

set_option maxHeartbeats 1000000 in
theorem over_calls (l : List Int) (A : Option Addr) (c : Nat) (w : World) (hs : Seg w A (l.flatMap intC)) (hm : l.length ≤ 1000000) (a b : Int) :
    Calls Try.prog 14 #[.slice A l.length c, .int .i64 a, .int .i64 b] w fun e w' => e = .returned (.bool (Dom.overF l a b)) ∧ w = w' := by
  by_cases h0 : a < 0
  · have e : Hid (Dom.overF l a b = false) := Lib.hid (by unfold Dom.overF; rw [if_pos (by omega)])
    have d0 : decide (a < 0) = true := decide_eq_true h0
    clear h0
    go_enter Try.func14, Try.ntmps14
    go_wp2
    go_ret
    exact ⟨by rw [e.out]; rfl, rfl⟩
  have d0 : decide (a < 0) = false := decide_eq_false h0
  by_cases h1 : (l.length : Int) ≤ a
  · have e : Hid (Dom.overF l a b = false) := Lib.hid (by unfold Dom.overF; rw [if_pos (by omega)])
    have d1 : decide ((l.length : Int) ≤ a) = true := decide_eq_true h1
    clear h1
    go_enter Try.func14, Try.ntmps14
    go_wp2
    go_ret
    exact ⟨by rw [e.out]; rfl, rfl⟩
  have d1 : decide ((l.length : Int) ≤ a) = false := decide_eq_false h1
  by_cases h2 : b < 0
  · have e : Hid (Dom.overF l a b = false) := Lib.hid (by unfold Dom.overF; rw [if_pos (by omega)])
    have d2 : decide (b < 0) = true := decide_eq_true h2
    clear h2
    go_enter Try.func14, Try.ntmps14
    go_wp2
    go_ret
    exact ⟨by rw [e.out]; rfl, rfl⟩
  have d2 : decide (b < 0) = false := decide_eq_false h2
  by_cases h3 : (l.length : Int) ≤ b
  · have e : Hid (Dom.overF l a b = false) := Lib.hid (by unfold Dom.overF; rw [if_pos (by omega)])
    have d3 : decide ((l.length : Int) ≤ b) = true := decide_eq_true h3
    clear h3
    go_enter Try.func14, Try.ntmps14
    go_wp2
    go_ret
    exact ⟨by rw [e.out]; rfl, rfl⟩
  have d3 : decide ((l.length : Int) ≤ b) = false := decide_eq_false h3
  have Hr := Lib.hid (show Dom.overF l a b = Dom.overK l a (l.length + 1) b by unfold Dom.overF; rw [if_neg (by omega)])
  have Hu := Lib.hid (fun x => up_calls l A c w hs (by unfold maxLen; omega) x)
  clear hs
  go_enter Try.func14, Try.ntmps14
  go_wp2_with fail
  clear d0 d1 d2 d3 h0 h1 h2 h3
  go_loop [2, 28] (fun vb vn => ∃ (k : Nat) (y : Int), k ≤ l.length + 1 ∧ vb = .int .i64 y ∧ vn = .int .i64 k ∧ Dom.overF l a b = Dom.overK l a (l.length + 1 - k) y) (fun _ vn => l.length + 1 - (intOf vn).toNat)
  case atStart => exact ⟨0, b, by omega, rfl, rfl, Hr.out⟩
  case round =>
    obtain ⟨k, y, hk, rfl, rfl, he⟩ := hrel
    have He := Lib.hid he
    clear he Hr
    by_cases hlt : k < l.length + 1
    · have hkk : (k : Int) < (l.length : Int) + 1 := by omega
      have Hstep := Lib.hid (show Dom.overK l a (l.length + 1 - k) y = if a = y then true else if Dom.upF l y < 0 then false else Dom.overK l a (l.length + 1 - (k + 1)) (Dom.upF l y) by
        rw [show l.length + 1 - k = (l.length + 1 - (k + 1)) + 1 by omega]; rfl)
      by_cases hay : a = y
      · have Hf := Lib.hid (show Dom.overF l a b = true by rw [He.out, Hstep.out, if_pos hay])
        clear He Hstep
        subst hay
        go_wp2
        go_ret
        exact ⟨by rw [Hf.out]; rfl, rfl⟩
      · have dne : (a == y) = false := by simpa using hay
        by_cases hu : Dom.upF l y < 0
        · have Hf := Lib.hid (show Dom.overF l a b = false by rw [He.out, Hstep.out, if_neg hay, if_pos hu])
          have du : decide (Dom.upF l y < 0) = true := decide_eq_true hu
          clear He Hstep hay
          go_wp2_with (go_at_call 24; refine (Hu.out _).mono ?_; rintro e w' ⟨rfl, rfl⟩)
          go_ret
          exact ⟨by rw [Hf.out]; rfl, rfl⟩
        · have Hf := Lib.hid (show Dom.overF l a b = Dom.overK l a (l.length + 1 - (k + 1)) (Dom.upF l y) by rw [He.out, Hstep.out, if_neg hay, if_neg hu])
          have du : decide (Dom.upF l y < 0) = false := decide_eq_false hu
          clear He Hstep hay
          go_wp2_with (go_at_call 24; refine (Hu.out _).mono ?_; rintro e w' ⟨rfl, rfl⟩)
          go_round
          case rel => exact ⟨k + 1, Dom.upF l y, by omega, rfl, by go_num, Hf.out⟩
          case measure => simp [intOf]; omega
    · have hkk : ¬ (k : Int) < (l.length : Int) + 1 := by omega
      have Hf := Lib.hid (show Dom.overF l a b = false by rw [He.out, show l.length + 1 - k = 0 by omega]; rfl)
      clear He
      go_wp2
      go_ret
      exact ⟨by rw [Hf.out]; rfl, rfl⟩

set_option maxHeartbeats 1000000 in
theorem refOver_calls (l : List Int) (A : Option Addr) (c : Nat) (w : World) (hs : Seg w A (l.flatMap intC)) (hm : l.length ≤ 1000000) (a b : Int) :
    Calls Try.prog 18 #[.slice A l.length c, .int .i64 a, .int .i64 b] w fun e w' => e = .returned (.bool (Dom.overF l a b)) ∧ w = w' := by
  by_cases h0 : a < 0
  · have e : Hid (Dom.overF l a b = false) := Lib.hid (by unfold Dom.overF; rw [if_pos (by omega)])
    have d0 : decide (a < 0) = true := decide_eq_true h0
    clear h0
    go_enter Try.func18, Try.ntmps18
    go_wp2
    go_ret
    exact ⟨by rw [e.out]; rfl, rfl⟩
  have d0 : decide (a < 0) = false := decide_eq_false h0
  by_cases h1 : (l.length : Int) ≤ a
  · have e : Hid (Dom.overF l a b = false) := Lib.hid (by unfold Dom.overF; rw [if_pos (by omega)])
    have d1 : decide ((l.length : Int) ≤ a) = true := decide_eq_true h1
    clear h1
    go_enter Try.func18, Try.ntmps18
    go_wp2
    go_ret
    exact ⟨by rw [e.out]; rfl, rfl⟩
  have d1 : decide ((l.length : Int) ≤ a) = false := decide_eq_false h1
  by_cases h2 : b < 0
  · have e : Hid (Dom.overF l a b = false) := Lib.hid (by unfold Dom.overF; rw [if_pos (by omega)])
    have d2 : decide (b < 0) = true := decide_eq_true h2
    clear h2
    go_enter Try.func18, Try.ntmps18
    go_wp2
    go_ret
    exact ⟨by rw [e.out]; rfl, rfl⟩
  have d2 : decide (b < 0) = false := decide_eq_false h2
  by_cases h3 : (l.length : Int) ≤ b
  · have e : Hid (Dom.overF l a b = false) := Lib.hid (by unfold Dom.overF; rw [if_pos (by omega)])
    have d3 : decide ((l.length : Int) ≤ b) = true := decide_eq_true h3
    clear h3
    go_enter Try.func18, Try.ntmps18
    go_wp2
    go_ret
    exact ⟨by rw [e.out]; rfl, rfl⟩
  have d3 : decide ((l.length : Int) ≤ b) = false := decide_eq_false h3
  have Hr := Lib.hid (show Dom.overF l a b = if b < 0 then false else Dom.overK l a (l.length + 1) b by unfold Dom.overF; rw [if_neg (by omega), if_neg h2])
  have Hu := Lib.hid (fun x => refUp_calls l A c w hs (by unfold maxLen; omega) x)
  clear hs
  go_enter Try.func18, Try.ntmps18
  go_wp2_with fail
  clear d0 d1 d2 d3 h0 h1 h2 h3
  go_loop [2, 7] (fun vb vn => ∃ (k : Nat) (y : Int), k ≤ l.length + 1 ∧ vb = .int .i64 y ∧ vn = .int .i64 k ∧ Dom.overF l a b = if y < 0 then false else Dom.overK l a (l.length + 1 - k) y) (fun _ vn => l.length + 1 - (intOf vn).toNat)
  case atStart => exact ⟨0, b, by omega, rfl, rfl, Hr.out⟩
  case round =>
    obtain ⟨k, y, hk, rfl, rfl, he⟩ := hrel
    have He := Lib.hid he
    clear he Hr
    by_cases hlt : k < l.length + 1
    · have dk : decide ((k : Int) ≤ (l.length : Int)) = true := decide_eq_true (by omega)
      have dk' : decide (k ≤ l.length) = true := decide_eq_true (by omega)
      by_cases hy : y < 0
      · have Hf := Lib.hid (show Dom.overF l a b = false by rw [He.out, if_pos hy])
        have dy : decide (0 ≤ y) = false := decide_eq_false (by omega)
        clear He
        go_wp2
        go_ret
        exact ⟨by rw [Hf.out]; rfl, rfl⟩
      · have dy : decide (0 ≤ y) = true := decide_eq_true (by omega)
        have Hstep := Lib.hid (show Dom.overF l a b = if a = y then true else if Dom.upF l y < 0 then false else Dom.overK l a (l.length + 1 - (k + 1)) (Dom.upF l y) by
          rw [He.out, if_neg hy, show l.length + 1 - k = (l.length + 1 - (k + 1)) + 1 by omega]; rfl)
        clear He
        by_cases hay : a = y
        · have Hf := Lib.hid (show Dom.overF l a b = true by rw [Hstep.out, if_pos hay])
          clear Hstep
          subst hay
          go_wp2
          go_ret
          exact ⟨by rw [Hf.out]; rfl, rfl⟩
        · have dne : (a == y) = false := by simpa using hay
          have Hf := Lib.hid (show Dom.overF l a b = if Dom.upF l y < 0 then false else Dom.overK l a (l.length + 1 - (k + 1)) (Dom.upF l y) by rw [Hstep.out, if_neg hay])
          clear Hstep hay
          go_wp2_with (go_at_call 25; refine (Hu.out _).mono ?_; rintro e w' ⟨rfl, rfl⟩)
          go_round
          case rel => exact ⟨k + 1, Dom.upF l y, by omega, rfl, by go_num, Hf.out⟩
          case measure => simp [intOf]; omega
    · have dk : decide ((k : Int) ≤ (l.length : Int)) = false := decide_eq_false (by omega)
      have dk' : decide (k ≤ l.length) = false := decide_eq_false (by omega)
      have Hf := Lib.hid (show Dom.overF l a b = false by rw [He.out, show l.length + 1 - k = 0 by omega]; split <;> rfl)
      clear He
      go_wp2
      go_ret
      exact ⟨by rw [Hf.out]; rfl, rfl⟩

set_option maxHeartbeats 1000000 in
theorem depth_calls (l : List Int) (A : Option Addr) (c : Nat) (w : World) (hs : Seg w A (l.flatMap intC)) (hm : l.length ≤ 1000000) (a : Int) :
    Calls Try.prog 15 #[.slice A l.length c, .int .i64 a] w fun e w' => e = .returned (.int .i64 (Dom.depthF l a)) ∧ w = w' := by
  by_cases h0 : a < 0
  · have e : Hid (Dom.depthF l a = -1) := Lib.hid (by unfold Dom.depthF; rw [if_pos (by omega)])
    have d0 : decide (a < 0) = true := decide_eq_true h0
    clear h0
    go_enter Try.func15, Try.ntmps15
    go_wp2
    go_ret
    exact ⟨by rw [e.out]; rfl, rfl⟩
  have d0 : decide (a < 0) = false := decide_eq_false h0
  by_cases h1 : (l.length : Int) ≤ a
  · have e : Hid (Dom.depthF l a = -1) := Lib.hid (by unfold Dom.depthF; rw [if_pos (by omega)])
    have d1 : decide ((l.length : Int) ≤ a) = true := decide_eq_true h1
    clear h1
    go_enter Try.func15, Try.ntmps15
    go_wp2
    go_ret
    exact ⟨by rw [e.out]; rfl, rfl⟩
  have d1 : decide ((l.length : Int) ≤ a) = false := decide_eq_false h1
  have Hr := Lib.hid (show Dom.depthF l a = Dom.depthK l l.length 0 a by unfold Dom.depthF; rw [if_neg (by omega)])
  have Hu := Lib.hid (fun x => up_calls l A c w hs (by unfold maxLen; omega) x)
  clear hs
  go_enter Try.func15, Try.ntmps15
  go_wp2_with fail
  clear d0 d1 h0 h1
  go_loop [1, 5, 16] (fun va _ vn => ∃ (k : Nat) (y : Int), k ≤ l.length ∧ va = .int .i64 y ∧ vn = .int .i64 k ∧ Dom.depthF l a = Dom.depthK l (l.length - k) k y) (fun _ _ vn => l.length - (intOf vn).toNat)
  case atStart => exact ⟨0, a, by omega, rfl, rfl, Hr.out⟩
  case round =>
    obtain ⟨k, y, hk, rfl, rfl, he⟩ := hrel
    have He := Lib.hid he
    clear he Hr
    by_cases hlt : k < l.length
    · have hkk : (k : Int) < (l.length : Int) := by omega
      have Hstep := Lib.hid (show Dom.depthF l a = if Dom.upF l y < 0 then (k : Int) else Dom.depthK l (l.length - (k + 1)) (k + 1) (Dom.upF l y) by
        rw [He.out, show l.length - k = (l.length - (k + 1)) + 1 by omega]; rfl)
      clear He
      by_cases hu : Dom.upF l y < 0
      · have Hf := Lib.hid (show Dom.depthF l a = (k : Int) by rw [Hstep.out, if_pos hu])
        have du : decide (Dom.upF l y < 0) = true := decide_eq_true hu
        clear Hstep
        go_wp2_with (go_at_call 24; refine (Hu.out _).mono ?_; rintro e w' ⟨rfl, rfl⟩)
        go_ret
        exact ⟨by rw [Hf.out]; rfl, rfl⟩
      · have Hf := Lib.hid (show Dom.depthF l a = Dom.depthK l (l.length - (k + 1)) (k + 1) (Dom.upF l y) by rw [Hstep.out, if_neg hu])
        have du : decide (Dom.upF l y < 0) = false := decide_eq_false hu
        clear Hstep
        go_wp2_with (go_at_call 24; refine (Hu.out _).mono ?_; rintro e w' ⟨rfl, rfl⟩)
        go_round
        case rel => exact ⟨k + 1, Dom.upF l y, by omega, rfl, by go_num, Hf.out⟩
        case measure => simp [intOf]; omega
    · have hkk : ¬ (k : Int) < (l.length : Int) := by omega
      have Hf := Lib.hid (show Dom.depthF l a = -1 by rw [He.out, show l.length - k = 0 by omega]; rfl)
      clear He
      go_wp2
      go_ret
      exact ⟨by rw [Hf.out]; rfl, rfl⟩

set_option maxHeartbeats 1000000 in
theorem refDepth_calls (l : List Int) (A : Option Addr) (c : Nat) (w : World) (hs : Seg w A (l.flatMap intC)) (hm : l.length ≤ 1000000) (a : Int) :
    Calls Try.prog 19 #[.slice A l.length c, .int .i64 a] w fun e w' => e = .returned (.int .i64 (Dom.depthR l a)) ∧ w = w' := by
  by_cases h0 : a < 0
  · have e : Hid (Dom.depthR l a = -1) := Lib.hid (by unfold Dom.depthR; rw [if_pos (by omega)])
    have d0 : decide (a < 0) = true := decide_eq_true h0
    clear h0
    go_enter Try.func19, Try.ntmps19
    go_wp2
    go_ret
    exact ⟨by rw [e.out]; rfl, rfl⟩
  have d0 : decide (a < 0) = false := decide_eq_false h0
  by_cases h1 : (l.length : Int) ≤ a
  · have e : Hid (Dom.depthR l a = -1) := Lib.hid (by unfold Dom.depthR; rw [if_pos (by omega)])
    have d1 : decide ((l.length : Int) ≤ a) = true := decide_eq_true h1
    clear h1
    go_enter Try.func19, Try.ntmps19
    go_wp2
    go_ret
    exact ⟨by rw [e.out]; rfl, rfl⟩
  have d1 : decide ((l.length : Int) ≤ a) = false := decide_eq_false h1
  have Hr := Lib.hid (show Dom.depthR l a = Dom.depthK l (l.length + 1) 0 a by unfold Dom.depthR; rw [if_neg (by omega)])
  have Hu := Lib.hid (fun x => refUp_calls l A c w hs (by unfold maxLen; omega) x)
  clear hs
  go_enter Try.func19, Try.ntmps19
  go_wp2_with fail
  clear d0 d1 h0 h1
  go_loop [1, 5] (fun va vn => ∃ (k : Nat) (y : Int), k ≤ l.length + 1 ∧ va = .int .i64 y ∧ vn = .int .i64 k ∧ Dom.depthR l a = Dom.depthK l (l.length + 1 - k) k y) (fun _ vn => l.length + 1 - (intOf vn).toNat)
  case atStart => exact ⟨0, a, by omega, rfl, rfl, Hr.out⟩
  case round =>
    obtain ⟨k, y, hk, rfl, rfl, he⟩ := hrel
    have He := Lib.hid he
    clear he Hr
    by_cases hlt : k < l.length + 1
    · have dk : decide ((k : Int) ≤ (l.length : Int)) = true := decide_eq_true (by omega)
      have dk' : decide (k ≤ l.length) = true := decide_eq_true (by omega)
      have Hstep := Lib.hid (show Dom.depthR l a = if Dom.upF l y < 0 then (k : Int) else Dom.depthK l (l.length + 1 - (k + 1)) (k + 1) (Dom.upF l y) by
        rw [He.out, show l.length + 1 - k = (l.length + 1 - (k + 1)) + 1 by omega]; rfl)
      clear He
      by_cases hu : Dom.upF l y < 0
      · have Hf := Lib.hid (show Dom.depthR l a = (k : Int) by rw [Hstep.out, if_pos hu])
        have du : decide (Dom.upF l y < 0) = true := decide_eq_true hu
        clear Hstep
        go_wp2_with (go_at_call 25; refine (Hu.out _).mono ?_; rintro e w' ⟨rfl, rfl⟩)
        go_ret
        exact ⟨by rw [Hf.out]; rfl, rfl⟩
      · have Hf := Lib.hid (show Dom.depthR l a = Dom.depthK l (l.length + 1 - (k + 1)) (k + 1) (Dom.upF l y) by rw [Hstep.out, if_neg hu])
        have du : decide (Dom.upF l y < 0) = false := decide_eq_false hu
        clear Hstep
        go_wp2_with (go_at_call 25; refine (Hu.out _).mono ?_; rintro e w' ⟨rfl, rfl⟩)
        go_round
        case rel => exact ⟨k + 1, Dom.upF l y, by omega, rfl, by go_num, Hf.out⟩
        case measure => simp [intOf]; omega
    · have dk : decide ((k : Int) ≤ (l.length : Int)) = false := decide_eq_false (by omega)
      have dk' : decide (k ≤ l.length) = false := decide_eq_false (by omega)
      have Hf := Lib.hid (show Dom.depthR l a = -1 by rw [He.out, show l.length + 1 - k = 0 by omega]; rfl)
      clear He
      go_wp2
      go_ret
      exact ⟨by rw [Hf.out]; rfl, rfl⟩
end Go.Proofs.Ythjlfbeabobgmaa
