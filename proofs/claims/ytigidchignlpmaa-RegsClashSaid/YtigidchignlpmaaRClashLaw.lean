/-
  The law on Clash and Spilled.
-/
import Derived.Test.YtigidchignlpmaaRAlive
import Derived.Test.YtigidchignlpmaaRRClash
namespace Go.Proofs.Ytigidchignlpmaa
open Go Go.RowKit Rg

theorem clashRes_form {C : Nat → Nat → Bool} {n : Nat} {e : Ending} (h : ClashRes C n e) : ∃ (a b : Int) (d : Bool), e = .returned (.tuple #[.int .i64 a, .int .i64 b, .bool d]) := by
  rcases h with ⟨i, k, _, _, _, _, rfl⟩ | ⟨_, rfl⟩
  · exact ⟨_, _, _, rfl⟩
  · exact ⟨_, _, _, rfl⟩

set_option maxHeartbeats 2000000 in
theorem regsClash_walk (A : Option Addr) (ls : List LvD) (c : Nat) (P : Option Addr) (pl : List (Bool × Int)) (cp : Nat) (w : World) (hl : Lives w A ls) (hp : Seg w P (pl.flatMap plI)) :
    Calls Try.prog 4 #[.slice A ls.length c, .slice P pl.length cp] w fun e w' => e = .returned (.bool true) ∧ Keep w w' := by
  have Hf := Lib.hid (few_calls A ls c w hl)
  have HA := Lib.hid (fun wz => alive_calls wz)
  cases hfb : fewB ls with
  | false =>
    rw [hfb] at Hf
    clear hl hp
    go_enter Try.func4, Try.ntmps4
    go_wp2_with fail
    refine Hf.out.mono ?_
    rintro e w1 ⟨rfl, k1⟩
    go_wp2_with fail
    refine (HA.out w1).mono ?_
    rintro e w2 ⟨rfl, k2⟩
    go_wp2_with fail
    go_ret
    exact ⟨rfl, k1.trans k2⟩
  | true =>
    rw [hfb] at Hf
    have h60 : ls.length ≤ 60 := by unfold fewB at hfb; rw [Bool.and_eq_true] at hfb; exact of_decide_eq_true hfb.1
    by_cases h100 : (100 : Int) < (pl.length : Int)
    · clear hl hp
      go_enter Try.func4, Try.ntmps4
      go_wp2_with fail
      refine Hf.out.mono ?_
      rintro e w1 ⟨rfl, k1⟩
      go_wp2_with fail
      refine (HA.out w1).mono ?_
      rintro e w2 ⟨rfl, k2⟩
      go_wp2_with fail
      go_ret
      exact ⟨rfl, k1.trans k2⟩
    · have hpn : pl.length ≤ maxLen := by unfold maxLen; omega
      have h100' : decide ((100 : Int) < (pl.length : Int)) = false := decide_eq_false h100
      have HC := Lib.hid (fun (wz : World) (hk : Keep w wz) => clash_calls A ls c P pl cp 0 wz (hl.keep hk) (hp.keep hk) (by omega) hpn)
      have HRC := Lib.hid (fun (wz : World) (hk : Keep w wz) => rClash_calls A ls c P pl cp 0 wz (hl.keep hk) (hp.keep hk) (by omega) hpn)
      have HS := Lib.hid (fun (wz : World) (hk : Keep w wz) => spilled_calls P pl cp 0 wz (hp.keep hk) hpn)
      have HRS := Lib.hid (fun (wz : World) (hk : Keep w wz) => rSpilled_calls P pl cp 0 wz (hp.keep hk) hpn)
      clear hl hp
      go_enter Try.func4, Try.ntmps4
      go_wp2_with fail
      refine Hf.out.mono ?_
      rintro e w1 ⟨rfl, k1⟩
      go_wp2_with fail
      refine (HC.out w1 k1).mono ?_
      rintro e w2 ⟨h2, k2'⟩
      have k2 := k1.trans k2'
      obtain ⟨a, b, d, rfl⟩ := clashRes_form h2
      have H2 := Lib.hid h2
      clear h2 k2'
      go_wp2_with fail
      refine (HRC.out w2 k2).mono ?_
      rintro e w3 ⟨h3, k3'⟩
      have k3 := k2.trans k3'
      obtain rfl := h3.unique H2.out
      clear h3 k3'
      have dd : (d == d) = true := beq_self_eq_true d
      go_wp2_with fail
      refine (HS.out w3 k3).mono ?_
      rintro e w4 ⟨rfl, k4'⟩
      have k4 := k3.trans k4'
      go_wp2_with fail
      refine (HRS.out w4 k4).mono ?_
      rintro e w5 ⟨rfl, k5'⟩
      have k5 := k4.trans k5'
      go_wp2_with fail
      refine (HA.out w5).mono ?_
      rintro e w6 ⟨rfl, k6⟩
      go_wp2_with fail
      go_ret
      exact ⟨rfl, k5.trans k6⟩
end Go.Proofs.Ytigidchignlpmaa
