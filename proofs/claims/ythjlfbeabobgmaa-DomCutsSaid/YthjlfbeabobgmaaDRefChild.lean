/-
  The reference's Children.
-/
import Derived.Test.YthjlfbeabobgmaaDChild
namespace Go.Proofs.Ythjlfbeabobgmaa
open Go Go.RowKit

set_option maxHeartbeats 1000000 in
theorem refChildren_calls (l : List Int) (A : Option Addr) (c : Nat) (w : World) (hs : Seg w A (l.flatMap intC)) (hm : l.length < 1000000) :
    Calls Try.prog 17 #[.slice A l.length c] w fun e w' => ∃ v, e = .returned v ∧ OutRows intC 1 3 29 w' w.heap.size v (childTo l l.length) ∧ Keep w w' := by
  have Hu := Lib.hid (fun (wr : World) (hk : Keep w wr) x => refUp_calls l A c wr (hs.keep hk) (by unfold maxLen; omega) x)
  have hcl := childTo_len l l.length
  have Hcl := Lib.hid hcl
  clear hs hcl
  go_enter Try.func17, Try.ntmps17
  go_wp2_with fail
  go_loopw [3, 4] (fun v i wr => ∃ k : Nat, k ≤ l.length ∧ i = .int .i64 k ∧ OutRows intC 1 3 29 wr w.heap.size v ((childTo l l.length).take k) ∧ Keep w wr) (fun _ i _ => l.length - (intOf i).toNat)
  case atStart => exact ⟨0, Nat.zero_le _, rfl, OutRows.nil _ _ _ _ _ _, Keep.refl _⟩
  case round =>
    rename_i v3 _
    obtain ⟨k, hk, rfl, hout, hkeep⟩ := hrel
    obtain ⟨wo, rfl⟩ : ∃ wo : World, wo = wr := ⟨_, rfl⟩
    have Hout := Lib.hid hout
    have Hkeep := Lib.hid hkeep
    clear hout hkeep
    by_cases hlt : k < l.length
    · have hkk : (k : Int) < (l.length : Int) := by omega
      go_wp2_with fail
      go_loopw [5, 6] (fun vl j wi => ∃ m : Nat, m ≤ l.length ∧ j = .int .i64 m ∧ Own intC 1 3 wi wo.heap.size vl (Dom.childF l m k) ∧ Keep wo wi) (fun _ j _ => l.length - (intOf j).toNat)
      case atStart => exact ⟨0, Nat.zero_le _, rfl, Own.nil _ _ _ _ _, Keep.refl _⟩
      case round =>
        obtain ⟨m, hmm, rfl, hown, hki⟩ := hrel
        by_cases hml : m < l.length
        · have hmk : (m : Int) < (l.length : Int) := by omega
          have Hc := Lib.hid (Hu.out wr (Hkeep.out.trans hki) (m : Int))
          have hle := childF_le l m k
          have Hs := Lib.hid (childF_succ l m k)
          by_cases hu : Dom.upF l (m : Int) = (k : Int)
          · rw [hu] at Hc
            have Hn := Lib.hid (show Dom.childF l (m + 1) k = Dom.childF l m k ++ [(m : Int)] by rw [Hs.out, if_pos hu])
            obtain ⟨B, d, rfl, B', d', w2, hrun, hown2, hE, _, _⟩ := hown.push1 elI (m : Int) (by omega) (by omega) hki.size 29
            have Hown := Lib.hid hown2
            have Hki := Lib.hid (Keep.of_ext hki hE (fun i hi h => by omega))
            have dkk : ((k : Int) == (k : Int)) = true := by simp
            clear hown hown2 hki hE Hs hu
            go_wp2_with (first | (go_at_call 25; refine Hc.out.mono ?_; rintro e w' ⟨rfl, rfl⟩) | (at_builtin; refine wpList_append_eq rfl _ _ _ rfl _ _ rfl rfl _ _ hrun ?_; clear hrun))
            go_roundw
            case rel => exact ⟨m + 1, hml, by go_num, by rw [Hn.out]; exact Hown.out, Hki.out⟩
            case measure => simp [intOf]; omega
          · have Hn := Lib.hid (show Dom.childF l (m + 1) k = Dom.childF l m k by rw [Hs.out, if_neg hu])
            have du : (Dom.upF l (m : Int) == (k : Int)) = false := by simpa using hu
            have Hown := Lib.hid hown
            have Hki := Lib.hid hki
            clear hown hki Hs hu
            go_wp2_with (go_at_call 25; refine Hc.out.mono ?_; rintro e w' ⟨rfl, rfl⟩)
            go_roundw
            case rel => exact ⟨m + 1, hml, by go_num, by rw [Hn.out]; exact Hown.out, Hki.out⟩
            case measure => simp [intOf]; omega
        · have hge : ¬ (m : Int) < (l.length : Int) := by omega
          have hml' : m = l.length := by omega
          have hx : ∃ x : RowG Int, x.l = Dom.childF l l.length k ∧ x.v = _ := rowG_of (by rw [hml'] at hown; exact hown)
          obtain ⟨⟨xa, xl, xc⟩, hxl, rfl⟩ := hx
          have hxl' : xl = Dom.childF l l.length k := hxl
          subst hxl'
          obtain ⟨x, hxd⟩ : ∃ x : RowG Int, x = ⟨xa, Dom.childF l l.length k, xc⟩ := ⟨_, rfl⟩
          rw [← hxd] at hown hxl
          have hown' : Own intC 1 3 wr w.heap.size x.v x.l := by
            rw [hml', ← hxl] at hown
            exact hown.mono Hkeep.out.size
          have hout' := Hout.out.keep hki
          obtain ⟨v', w2, hrun, hout2, hE⟩ := OutRows.push elR (by decide) hout' x hown' (by simp; omega) (by omega) (Hkeep.out.trans hki).size 22
          have Hn := Lib.hid (show (childTo l l.length).take (k + 1) = (childTo l l.length).take k ++ [x.l] by rw [take_snoc _ (by rw [Hcl.out]; exact hlt), childTo_get, hxl])
          have hlk : ((childTo l l.length).take k).length = k := by rw [List.length_take, Hcl.out]; omega
          have Hout2 := Lib.hid hout2
          have Hk2 := Lib.hid (Keep.of_ext (Hkeep.out.trans hki) hE (fun i hi h => by omega))
          obtain ⟨B, d, hvf, _⟩ := hout'.form
          obtain ⟨B', d', rfl, _⟩ := hout2.form
          subst hvf
          rw [List.length_append, hlk] at hrun
          rw [List.length_append, hlk] at Hout2
          rw [hlk]
          subst hxd
          unfold RowG.v at hrun ⊢
          clear hown hown' hout' hout2 hki hE hml' hlk hxl
          go_wp2_with (at_builtin; refine wpList_append_eq rfl _ _ _ rfl _ _ rfl rfl _ _ hrun ?_; clear hrun)
          go_roundw
          case rel => exact ⟨k + 1, hlt, by go_num, by rw [Hn.out]; exact Hout2.out, Hk2.out⟩
          case measure => simp [intOf]; omega
    · have hge : ¬ (k : Int) < (l.length : Int) := by omega
      have Hr := Lib.hid (show OutRows intC 1 3 29 wo w.heap.size _ (childTo l l.length) by
        have := Hout.out
        rwa [List.take_of_length_le (by rw [Hcl.out]; omega)] at this)
      go_wp2
      go_ret
      exact ⟨_, rfl, Hr.out, Hkeep.out⟩
end Go.Proofs.Ythjlfbeabobgmaa
