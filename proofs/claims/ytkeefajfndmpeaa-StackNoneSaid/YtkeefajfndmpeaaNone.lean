/-
  A stack that New has not made.
-/
import Derived.Test.YtkeefajfndmpeaaAlive
namespace Go.Proofs.Ytkeefajfndmpeaa
open Go Go.RowKit

/-- p is no stack that New has made. -/
def Unmade (p : Value) (w : World) : Prop := Calls Try.prog 54 #[p] w fun e w' => e = .returned (.bool false) ∧ w = w'

theorem push_none {q : Option Addr} {w : World} (h : Unmade (.pointer q) w) (A : Option Addr) (n c : Nat) : Calls Try.prog 20 #[.pointer q, .slice A n c] w fun e w' => (∃ v, e = .returned v) ∧ w = w' := by
  have H := Lib.hid h
  clear h
  go_enter Try.func20, Try.ntmps20
  go_wp2_with fail
  refine H.out.mono ?_
  rintro e w1 ⟨rfl, rfl⟩
  go_wp2
  refine bodyPost_ret (results_none rfl _ _ _) rfl ⟨⟨_, rfl⟩, rfl⟩

theorem open_none {q : Option Addr} {w : World} (h : Unmade (.pointer q) w) : Calls Try.prog 24 #[.pointer q] w fun e w' => (∃ v, e = .returned v) ∧ w = w' := by
  have H := Lib.hid h
  clear h
  go_enter Try.func24, Try.ntmps24
  go_wp2_with fail
  refine H.out.mono ?_
  rintro e w1 ⟨rfl, rfl⟩
  go_wp2
  go_end0
  exact ⟨⟨_, rfl⟩, rfl⟩

theorem loose_none {q : Option Addr} {w : World} (h : Unmade (.pointer q) w) : Calls Try.prog 27 #[.pointer q] w fun e w' => (∃ v, e = .returned v) ∧ w = w' := by
  have H := Lib.hid h
  clear h
  go_enter Try.func27, Try.ntmps27
  go_wp2_with fail
  refine H.out.mono ?_
  rintro e w1 ⟨rfl, rfl⟩
  go_wp2
  refine bodyPost_ret (results_none rfl _ _ _) rfl ⟨⟨_, rfl⟩, rfl⟩

theorem pop_none {q : Option Addr} {w : World} (h : Unmade (.pointer q) w) : Calls Try.prog 26 #[.pointer q] w fun e w' => e = .returned (.tuple #[.int .i64 0, .int .i64 2]) ∧ w = w' := by
  have H := Lib.hid h
  clear h
  go_enter Try.func26, Try.ntmps26
  go_wp2_with fail
  refine H.out.mono ?_
  rintro e w1 ⟨rfl, rfl⟩
  go_wp2
  refine bodyPost_ret (v := .tuple #[.int .i64 0, .int .i64 2]) (by simp [results, Try.results26, go_sem]) rfl ⟨rfl, rfl⟩

theorem want_none {q : Option Addr} {w : World} (h : Unmade (.pointer q) w) (A : Option Addr) (n c : Nat) : Calls Try.prog 22 #[.pointer q, .slice A n c] w fun e w' => e = .returned (.int .i64 2) ∧ w = w' := by
  have H := Lib.hid h
  clear h
  go_enter Try.func22, Try.ntmps22
  go_wp2_with fail
  refine H.out.mono ?_
  rintro e w1 ⟨rfl, rfl⟩
  go_wp2
  go_ret
  exact ⟨rfl, rfl⟩

theorem shut_none {q : Option Addr} {w : World} (h : Unmade (.pointer q) w) (A : Option Addr) (n c : Nat) : Calls Try.prog 25 #[.pointer q, .slice A n c] w fun e w' => e = .returned (.int .i64 2) ∧ w = w' := by
  have H := Lib.hid h
  clear h
  go_enter Try.func25, Try.ntmps25
  go_wp2_with fail
  refine H.out.mono ?_
  rintro e w1 ⟨rfl, rfl⟩
  go_wp2
  go_ret
  exact ⟨rfl, rfl⟩

theorem len_none {q : Option Addr} {w : World} (h : Unmade (.pointer q) w) : Calls Try.prog 21 #[.pointer q] w fun e w' => e = .returned (.int .i64 0) ∧ w = w' := by
  have H := Lib.hid h
  clear h
  go_enter Try.func21, Try.ntmps21
  go_wp2_with fail
  refine H.out.mono ?_
  rintro e w1 ⟨rfl, rfl⟩
  go_wp2
  go_ret
  exact ⟨rfl, rfl⟩

theorem mark_none {q : Option Addr} {w : World} (h : Unmade (.pointer q) w) : Calls Try.prog 19 #[.pointer q] w fun e w' => e = .returned (.int .i64 0) ∧ w = w' := by
  have H := Lib.hid h
  clear h
  go_enter Try.func19, Try.ntmps19
  go_wp2_with fail
  refine H.out.mono ?_
  rintro e w1 ⟨rfl, rfl⟩
  go_wp2
  go_ret
  exact ⟨rfl, rfl⟩

theorem all_none {q : Option Addr} {w : World} (h : Unmade (.pointer q) w) : Calls Try.prog 18 #[.pointer q] w fun e w' => e = .returned (.slice none 0 0) ∧ w = w' := by
  have H := Lib.hid h
  clear h
  go_enter Try.func18, Try.ntmps18
  go_wp2_with fail
  refine H.out.mono ?_
  rintro e w1 ⟨rfl, rfl⟩
  go_wp2
  go_ret
  exact ⟨rfl, rfl⟩

theorem over_none {q : Option Addr} {w : World} (h : Unmade (.pointer q) w) : Calls Try.prog 30 #[.pointer q] w fun e w' => e = .returned (.bool false) ∧ w = w' := by
  have H := Lib.hid h
  clear h
  go_enter Try.func30, Try.ntmps30
  go_wp2_with fail
  refine H.out.mono ?_
  rintro e w1 ⟨rfl, rfl⟩
  go_wp2
  go_ret
  exact ⟨rfl, rfl⟩

end Go.Proofs.Ytkeefajfndmpeaa
