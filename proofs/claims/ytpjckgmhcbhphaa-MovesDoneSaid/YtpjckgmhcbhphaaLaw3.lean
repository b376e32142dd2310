/-
  The law MovesDone returns true, whatever the moves.
-/
import Derived.Test.YtpjckgmhcbhphaaAlive
import Derived.Test.YtpjckgmhcbhphaaDo
import Derived.Test.YtpjckgmhcbhphaaSame
import Derived.Test.YtpjckgmhcbhphaaRef5
namespace Go.Proofs.Ytpjckgmhcbhphaa
open Go Go.RowKit

theorem movesDone_walk (l : List Mv) (at_ : List Plc) (vals : List Int) (A A1 A2 : Option Addr) (c c1 c2 : Nat) (w : World) (hs : Seg w A (l.flatMap mvC)) (ha : Seg w A1 (at_.flatMap plcC)) (hv : Seg w A2 (vals.flatMap u64C))
    (hwf : ∀ m ∈ l, MvOk m) (hok : ∀ p ∈ at_, PlOk p) (hm : l.length ≤ maxLen) (hm1 : at_.length ≤ maxLen) (hm2 : vals.length ≤ maxLen) (hc : l.length ≤ c) (hcm : c ≤ maxLen) :
    Calls Try.prog 5 #[.slice A l.length c, .slice A1 at_.length c1, .slice A2 vals.length c2] w fun e w' => e = .returned (.bool true) ∧ Keep w w' := by
  by_cases hn : l.length ≤ 25 ∧ at_.length ≤ 40 ∧ vals.length ≤ 60
  rotate_left
  · have Hf := Lib.hid (few_no A A1 A2 l.length at_.length vals.length c c1 c2 w hm hm1 hm2 hn)
    have Ha := Lib.hid (alive_calls w)
    clear hn
    go_enter Try.func5, Try.ntmps5
    go_wp2_with fail
    refine Hf.out.mono ?_
    rintro e w1 ⟨rfl, rfl⟩
    go_wp2_with fail
    refine Ha.out.mono ?_
    rintro e w2 ⟨rfl, hk⟩
    go_wp2
    go_ret
    exact ⟨rfl, hk⟩
  · obtain ⟨hn0, hn1, hn2⟩ := hn
    have Hf := Lib.hid (few_yes A A1 A2 l.length at_.length vals.length c c1 c2 w hn0 hn1 hn2)
    have hlo : (oneByOneSpec l at_ vals).length ≤ 1000000 := by simp [oneByOneSpec]; omega
    have hla : (atOnceSpec l at_ vals).length ≤ 1000000 := by simp [atOnceSpec]; omega
    obtain ⟨O, hO⟩ : ∃ O, O = oneByOneSpec l at_ vals := ⟨_, rfl⟩
    obtain ⟨T, hT⟩ : ∃ T, T = atOnceSpec l at_ vals := ⟨_, rfl⟩
    have HO := Lib.hid hO
    have HT := Lib.hid hT
    rw [← hO] at hlo
    rw [← hT] at hla
    clear hO hT
    go_enter Try.func5, Try.ntmps5
    go_wp2_with fail
    refine Hf.out.mono ?_
    rintro e w1 ⟨rfl, rfl⟩
    clear Hf
    go_wp2_with fail
    refine (oneByOne_calls l at_ vals A A1 A2 c c1 c2 w hs ha hv hwf hok (by omega) (by omega) (by omega)).mono ?_
    rintro e w1 ⟨v1, rfl, hown1, hk1⟩
    rw [← HO.out] at hown1
    obtain ⟨B1, d1, rfl, _⟩ := hown1.form
    go_wp2_with fail
    refine (refOneByOne_calls l at_ vals A A1 A2 c c1 c2 w1 (hs.keep hk1) (ha.keep hk1) (hv.keep hk1) (by omega) (by omega) (by omega) hc hcm).mono ?_
    rintro e w2 ⟨v2, rfl, hown2, hk2⟩
    rw [← HO.out] at hown2
    obtain ⟨B2, d2, rfl, _⟩ := hown2.form
    have hk02 := hk1.trans hk2
    have Hsame := Lib.hid (same_calls O B1 B2 d1 d2 w2 (hown1.seg.keep hk2) hown2.seg hlo)
    clear hown1 hown2
    go_wp2_with fail
    refine Hsame.out.mono ?_
    rintro e w3 ⟨rfl, hk3⟩
    clear Hsame
    have hk03 := hk02.trans hk3
    go_wp2_with fail
    refine (atOnce_calls l at_ vals A A1 A2 c c1 c2 w3 (hs.keep hk03) (ha.keep hk03) (hv.keep hk03) hwf hok (by omega) (by omega) (by omega)).mono ?_
    rintro e w4 ⟨v4, rfl, hown4, hk4⟩
    rw [← HT.out] at hown4
    obtain ⟨B4, d4, rfl, _⟩ := hown4.form
    have hk04 := hk03.trans hk4
    go_wp2_with fail
    refine (refAtOnce_calls l at_ vals A A1 A2 c c1 c2 w4 (hs.keep hk04) (ha.keep hk04) (hv.keep hk04) (by omega) (by omega) (by omega)).mono ?_
    rintro e w5 ⟨v5, rfl, hown5, hk5⟩
    rw [← HT.out] at hown5
    obtain ⟨B5, d5, rfl, _⟩ := hown5.form
    have hk05 := hk04.trans hk5
    have Hsame := Lib.hid (same_calls T B4 B5 d4 d5 w5 (hown4.seg.keep hk5) hown5.seg hla)
    clear hown4 hown5
    go_wp2_with fail
    refine Hsame.out.mono ?_
    rintro e w6 ⟨rfl, hk6⟩
    clear Hsame
    go_wp2_with fail
    refine (alive_calls w6).mono ?_
    rintro e w7 ⟨rfl, hk7⟩
    go_wp2
    go_ret
    exact ⟨rfl, (hk05.trans hk6).trans hk7⟩
end Go.Proofs.Ytpjckgmhcbhphaa
