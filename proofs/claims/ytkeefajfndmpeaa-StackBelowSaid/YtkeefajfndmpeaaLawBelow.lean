/-
  The law StackBelow returns true.
-/
import Derived.Test.YtkeefajfndmpeaaLawPlays
import Derived.Deep.CutBlock
namespace Go.Proofs.Ytkeefajfndmpeaa
open Go Go.RowKit

/-- One call of the law: the stack behind it, the error. -/
def Stk.below (s : Stk) (n : Int) (l : List Int) : Stk × Int :=
  if n = 1 then (s.push l, 0) else if n = 2 then (s.pop.1, s.pop.2.2) else if n = 3 then s.want l else if n = 6 then (s.loosen, 0) else (s, 0)

/-- The types that lie below the innermost part. -/
structure Over (below : List Int) (s : Stk) : Prop where
  ok : s.Ok
  at_ : s.at_ = below.length
  same : s.T.take below.length = below
theorem Over.ge {below : List Int} {s : Stk} (h : Over below s) : below.length ≤ s.T.length := by have := h.ok.le; rw [h.at_] at this; exact this
theorem Over.cut {below : List Int} {s : Stk} (h : Over below s) {n : Nat} (hn : s.at_ ≤ n) : Over below (s.cut n) :=
  ⟨h.ok.cut hn, h.at_, by
    show (s.T.take n).take below.length = below
    rw [List.take_take, Nat.min_eq_left (by have := h.at_; omega)]; exact h.same⟩
theorem Over.step {below : List Int} {s : Stk} (h : Over below s) (n : Int) (l : List Int) : Over below (s.below n l).1 := by
  unfold Stk.below
  split
  · exact ⟨h.ok.push l, h.at_, by show (s.T ++ l).take _ = _; rw [List.take_append_of_le_length h.ge]; exact h.same⟩
  split
  · show Over below s.pop.1
    unfold Stk.pop
    split
    · exact h.cut (by omega)
    · split <;> exact h
  split
  · unfold Stk.want
    split
    · rename_i h0
      rcases Stk.left_cases s l h.ok with ⟨m, h1, h2, _⟩ | ⟨e, h1, h2, _⟩
      · rw [h1]; exact h.cut h2
      · rw [h1] at h0; simp at h0; omega
    · exact h
  split
  · have h1 := h.cut (Nat.le_refl _)
    exact ⟨h.ok.loosen, h.at_, h1.same⟩
  · exact h
theorem Stk.below_err (s : Stk) (n : Int) (l : List Int) (h : (s.below n l).2 ≠ 0) : (s.below n l).1 = s := by
  unfold Stk.below at h ⊢
  split at h
  · exact absurd rfl h
  rename_i h1; rw [if_neg h1]
  split at h
  · rename_i h2; rw [if_pos h2]
    show s.pop.1 = s
    have h : s.pop.2.2 ≠ 0 := h
    unfold Stk.pop at h ⊢
    split at h
    · exact absurd rfl h
    · rename_i h3; rw [if_neg h3]; split <;> rfl
  rename_i h2; rw [if_neg h2]
  split at h
  · rename_i h3; rw [if_pos h3]
    unfold Stk.want at h ⊢
    split at h
    · exact absurd rfl h
    · rename_i h4; rw [if_neg h4]
  rename_i h3; rw [if_neg h3]
  split at h
  · exact absurd rfl h
  · rename_i h4; rw [if_neg h4]
theorem Stk.below_len (s : Stk) (n : Int) (l : List Int) : (s.below n l).1.T.length ≤ s.T.length + l.length ∧ (s.below n l).1.P.length = s.P.length := by
  unfold Stk.below
  split
  · exact ⟨by rw [Stk.push_len]; omega, rfl⟩
  split
  · have := s.pop_le; exact ⟨by show s.pop.1.T.length ≤ _; omega, by show s.pop.1.P.length = _; rw [this.2]⟩
  split
  · have := s.want_le l; exact ⟨by omega, by rw [this.2]⟩
  split
  · have := s.loosen_le; exact ⟨by show s.loosen.T.length ≤ _; omega, this.2⟩
  · exact ⟨by show s.T.length ≤ _; omega, rfl⟩
theorem Over.start (below : List Int) : Over below (Stk.fresh.push below).opened :=
  ⟨(Stk.Ok.fresh.push below).opened, by simp [Stk.opened, Stk.push, Stk.fresh], by simp [Stk.opened, Stk.push, Stk.fresh]⟩

/-- What holds at the head of each round. -/
def BInv (w : World) (b : Nat) (below : List Int) (k : Nat) (wr : World) : Prop := ∃ F s, Live w F b s wr ∧ Over below s ∧ s.T.length ≤ 60 + 60 * k ∧ s.P.length = 2
/-- Behind the call of a round. -/
def BCut (w : World) (b : Nat) (s : Stk) (va : Value) (base : Nat) (n : Int) (l : List Int) (e : Value) (wx : World) : Prop :=
  e = .int .i64 (s.below n l).2 ∧ (∃ F, Live w F b (s.below n l).1 wx) ∧ Own valC 1 45 wx base va s.T
theorem bcut_of {w w1 w2 : World} {F : Nat → Prop} {b : Nat} {s s' : Stk} {va : Value} {base : Nat} (h : Live w F b s w1) (hF : ∀ k, F k → k < base) (ho : Own valC 1 45 w1 base va s.T) (hl : Left F w1 b s' w2) :
    (∃ F', Live w F' b s' w2) ∧ Own valC 1 45 w2 base va s.T := by
  obtain ⟨F', h1, _⟩ := h.left hl
  exact ⟨⟨F', h1⟩, ho.ext hl.1 (fun k hk hf => by have := hF k hf; have := (ho.lt k hk).1; omega)⟩

set_option maxHeartbeats 4000000 in
set_option maxRecDepth 100000 in
theorem stackBelow_walk (below : List Int) (Ab : Option Addr) (cb : Nat) (L : List ActD) (A : Option Addr) (c : Nat) (w : World) (hsb : Seg w Ab (below.flatMap valC)) (hmb : below.length ≤ maxLen) (hs : Seg w A (L.flatMap actC)) (hL : ∀ a ∈ L, ActOk w a) (hm : L.length ≤ maxLen) :
    Calls Try.prog 4 #[.slice Ab below.length cb, .slice A L.length c] w fun e w' => e = .returned (.bool true) ∧ Keep w w' := by
  have hfew := few_calls L A c w hs hL hm
  unfold maxLen at hm hmb
  have Ha := Lib.hid (alive_calls w)
  by_cases hb60 : below.length ≤ 60
  rotate_left
  · have hgt : (60 : Int) < (below.length : Int) := by omega
    clear hfew hL
    go_enter Try.func4, Try.ntmps4
    go_wp2_with fail
    refine Ha.out.mono ?_
    rintro e w2 ⟨rfl, hk⟩
    go_wp2
    go_ret
    exact ⟨rfl, hk⟩
  have hngt : ¬ (60 : Int) < (below.length : Int) := by omega
  by_cases hl60 : L.length ≤ 60
  rotate_left
  · have hgt : (60 : Int) < (L.length : Int) := by omega
    clear hfew hL
    go_enter Try.func4, Try.ntmps4
    go_wp2_with fail
    refine Ha.out.mono ?_
    rintro e w2 ⟨rfl, hk⟩
    go_wp2
    go_ret
    exact ⟨rfl, hk⟩
  have hngt2 : ¬ (60 : Int) < (L.length : Int) := by omega
  cases hfb : fewB L
  · rw [hfb] at hfew
    have Hf := Lib.hid hfew
    clear hfew hfb hL
    go_enter Try.func4, Try.ntmps4
    go_wp2_with fail
    refine Hf.out.mono ?_
    rintro e w2 ⟨rfl, rfl⟩
    go_wp2_with fail
    refine Ha.out.mono ?_
    rintro e w2 ⟨rfl, hk⟩
    go_wp2
    go_ret
    exact ⟨rfl, hk⟩
  · rw [hfb] at hfew
    obtain ⟨h80, h60⟩ := few_all hfb
    have Hf := Lib.hid hfew
    clear hfew hfb Ha
    go_enter Try.func4, Try.ntmps4
    go_wp2_with fail
    refine Hf.out.mono ?_
    rintro e w2 ⟨rfl, rfl⟩
    go_wp2_with fail
    refine (new_live w w (Keep.refl _)).mono ?_
    rintro e w1 ⟨F1, rfl, h1, _, _⟩
    go_wp2_with fail
    refine (push_calls h1.2.1 below Ab cb (hsb.keep h1.1) (by show 0 + below.length ≤ 1000000; omega)).mono ?_
    rintro e w2 ⟨⟨u2, rfl⟩, hl2⟩
    obtain ⟨F2, h2, _⟩ := h1.left hl2
    clear hl2 h1
    go_wp2_with fail
    refine (open_calls h2.2.1 (by rw [Stk.push_len]; show 0 + below.length ≤ 1000000; omega) (by rw [Stk.push_P]; decide)).mono ?_
    rintro e w3 ⟨⟨u3, rfl⟩, hl3⟩
    obtain ⟨F3, h3, _⟩ := h2.left hl3
    clear hl3 h2
    have Hst := Lib.hid (show BInv w (w.heap.size + 1) below 0 w3 from ⟨F3, _, h3, Over.start below, by rw [(Stk.opened_len _).1, Stk.push_len]; show 0 + below.length ≤ _; omega, rfl⟩)
    clear h3
    go_wp2_with fail
    go_loopw [6] (fun i wr => ∃ k : Nat, k ≤ L.length ∧ i = .int .i64 k ∧ BInv w (w.heap.size + 1) below k wr) (fun i _ => L.length - (intOf i).toNat)
    case atStart => exact ⟨0, Nat.zero_le _, rfl, Hst.out⟩
    case round =>
      obtain ⟨k, hk, rfl, F, s, hlv, hov, hT, hP⟩ := hrel
      clear Hst
      by_cases hlt : k < L.length
      · obtain ⟨ab, off, rfl, hab, q0, q1⟩ := act_at hs (Keep.refl _) hlt
        have hkk : (k : Int) < (L.length : Int) := by omega
        have hk0 : (0 : Int) ≤ (k : Int) := by omega
        have hx60 := h60 L[k] (List.getElem_mem hlt)
        have hsx := (hL L[k] (List.getElem_mem hlt)).2.1
        have hTn : s.T.length ≤ 1000000 := by omega
        have hPn : s.P.length ≤ 1000000 := by omega
        have hF : ∀ j, F j → j < wr.heap.size := hlv.2.1.lt
        have HP := Lib.hid hP
        clear hP
        go_wp2_with fail
        refine (all_calls hlv.2.1 hTn).mono ?_
        rintro e w4 ⟨va, rfl, hown, hk4⟩
        obtain ⟨Aa, ca, rfl, _⟩ := hown.form
        have hl4 := hlv.keep hk4
        clear hlv
        have r0 := hl4.1.cell q0
        have r1 := hl4.1.cell q1
        have hab4 : ab < w4.heap.size := Nat.lt_of_lt_of_le hab hl4.1.size
        have Hov := Lib.hid (hov.step L[k].1 L[k].2.2.1)
        have Herr := Lib.hid (s.below_err L[k].1 L[k].2.2.1)
        have hlen := s.below_len L[k].1 L[k].2.2.1
        have hok := hov.ok
        clear hov
        go_upto_block 2 with fail
        go_cut [8] from 30 to 104 (fun s8 wx => BCut w (w.heap.size + 1) s (.slice Aa s.T.length ca) wr.heap.size L[k].1 L[k].2.2.1 s8 wx)
        case first =>
          have hsx4 := hsx.keep hl4.1
          by_cases n1 : L[k].1 = 1
          · have b1 : (L[k].1 == 1) = true := by simp [n1]
            have Hn := Lib.hid n1
            clear n1
            go_wp2_with fail
            refine (push_calls hl4.2.1 L[k].2.2.1 L[k].2.1 L[k].2.2.2 hsx4 (by omega)).mono ?_
            rintro e w5 ⟨⟨u5, rfl⟩, hl5⟩
            have Hb := Lib.hid (bcut_of hl4 hF hown hl5)
            clear hl5
            go_wp2_with fail
            go_meet
            have e1 : s.below L[k].1 L[k].2.2.1 = (s.push L[k].2.2.1, 0) := by unfold Stk.below; rw [if_pos Hn.out]
            exact ⟨by rw [e1], by rw [e1]; exact Hb.out.1, Hb.out.2⟩
          have b1 : (L[k].1 == 1) = false := by simpa using n1
          by_cases n2 : L[k].1 = 2
          · have b2 : (L[k].1 == 2) = true := by simp [n2]
            have Hn := Lib.hid n2
            clear n2
            go_wp2_with fail
            refine (pop_calls hl4.2.1 hok hTn hPn).mono ?_
            rintro e w5 ⟨rfl, hl5⟩
            have Hb := Lib.hid (bcut_of hl4 hF hown hl5)
            clear hl5
            go_wp2_with fail
            go_meet
            have e1 : s.below L[k].1 L[k].2.2.1 = (s.pop.1, s.pop.2.2) := by unfold Stk.below; rw [Hn.out]; rfl
            exact ⟨by rw [e1], by rw [e1]; exact Hb.out.1, Hb.out.2⟩
          have b2 : (L[k].1 == 2) = false := by simpa using n2
          by_cases n3 : L[k].1 = 3
          · have b3 : (L[k].1 == 3) = true := by simp [n3]
            have Hn := Lib.hid n3
            clear n3
            go_wp2_with fail
            refine (want_calls hl4.2.1 hok L[k].2.2.1 L[k].2.1 L[k].2.2.2 hsx4 hTn hPn (by omega)).mono ?_
            rintro e w5 ⟨rfl, hl5⟩
            have Hb := Lib.hid (bcut_of hl4 hF hown hl5)
            clear hl5
            go_wp2_with fail
            go_meet
            have e1 : s.below L[k].1 L[k].2.2.1 = s.want L[k].2.2.1 := by unfold Stk.below; rw [Hn.out]; rfl
            exact ⟨by rw [e1], by rw [e1]; exact Hb.out.1, Hb.out.2⟩
          have b3 : (L[k].1 == 3) = false := by simpa using n3
          by_cases n6 : L[k].1 = 6
          · have b6 : (L[k].1 == 6) = true := by simp [n6]
            have Hn := Lib.hid n6
            clear n6
            go_wp2_with fail
            refine (loose_calls hl4.2.1 hok hTn hPn).mono ?_
            rintro e w5 ⟨⟨u5, rfl⟩, hl5⟩
            have Hb := Lib.hid (bcut_of hl4 hF hown hl5)
            clear hl5
            go_wp2_with fail
            go_meet
            have e1 : s.below L[k].1 L[k].2.2.1 = (s.loosen, 0) := by unfold Stk.below; rw [Hn.out]; rfl
            exact ⟨by rw [e1], by rw [e1]; exact Hb.out.1, Hb.out.2⟩
          have b6 : (L[k].1 == 6) = false := by simpa using n6
          have Hb := Lib.hid (bcut_of hl4 hF hown (Left.of_keep hl4.2.1 (Keep.refl _)))
          go_wp2_with fail
          go_meet
          have e1 : s.below L[k].1 L[k].2.2.1 = (s, 0) := by unfold Stk.below; rw [if_neg n1, if_neg n2, if_neg n3, if_neg n6]
          exact ⟨by rw [e1], by rw [e1]; exact Hb.out.1, Hb.out.2⟩
        case rest =>
          obtain ⟨rfl, ⟨F5, hl5⟩, hown5⟩ := hcut
          obtain ⟨s', hs'⟩ : ∃ s', s' = (s.below L[k].1 L[k].2.2.1).1 := ⟨_, rfl⟩
          obtain ⟨er, her⟩ : ∃ er, er = (s.below L[k].1 L[k].2.2.1).2 := ⟨_, rfl⟩
          rw [← hs'] at hl5 Hov hlen
          rw [← her]
          have Herr' : Hid (er ≠ 0 → s' = s) := Lib.hid (by rw [hs', her]; exact Herr.out)
          clear hs' her Herr hl4 r0 r1 hown
          have hTn' : s'.T.length ≤ 1000000 := by omega
          have hPn' : s'.P.length ≤ 1000000 := by omega
          have HP' := Lib.hid (show s'.P.length = 2 by rw [hlen.2]; exact HP.out)
          have hT' : s'.T.length ≤ 60 + 60 * (k + 1) := by omega
          have hge := Hov.out.ge
          have hle1 : ¬ (s'.T.length : Int) < (below.length : Int) := by omega
          clear hlen
          go_wp2_with fail
          refine (all_calls hl5.2.1 hTn').mono ?_
          rintro e w6 ⟨vb, rfl, hownb, hk6⟩
          obtain ⟨An, cn, rfl, hcn, _⟩ := hownb.form
          have hl6 := hl5.keep hk6
          have hown6 := hown5.keep hk6
          have hcn1 : (below.length : Int) ≤ (cn : Int) := by omega
          have hb0 : (0 : Int) ≤ (below.length : Int) := by omega
          have hsn : Seg w6 An (below.flatMap valC) := by
            have h1 := hownb.seg.take below.length
            have h2 := flat_take valC 1 (fun _ => rfl) s'.T below.length
            rw [Nat.mul_one] at h2
            rw [h2, Hov.out.same] at h1
            exact h1
          clear hl5 hown5
          go_wp2_with fail
          refine (refSame_calls below An Ab cn cb w6 hsn (hsb.keep hl6.1) (by omega)).mono ?_
          rintro e w7 ⟨rfl, hk7⟩
          have hl7 := hl6.keep hk7
          have hown7 := hown6.keep hk7
          have hownb7 := hownb.keep hk7
          clear hl6 hown6 hownb hsn
          go_wp2_with fail
          refine (mark_calls hl7.2.1 hPn').mono ?_
          rintro e w8 ⟨rfl, hk8⟩
          have hl8 := hl7.keep hk8
          have hown8 := hown7.keep hk8
          have hownb8 := hownb7.keep hk8
          clear hl7 hown7 hownb7
          rw [Hov.out.at_]
          have hbb : ((below.length : Int) != (below.length : Int)) = false := by simp
          by_cases hez : er = 0
          · subst hez
            have Hfin := Lib.hid (show BInv w (w.heap.size + 1) below (k + 1) w8 from ⟨F5, s', hl8, Hov.out, hT', HP'.out⟩)
            clear hl8 hown8 hownb8
            go_wp2
            go_roundw
            case rel => exact ⟨k + 1, hlt, by go_num, Hfin.out⟩
            case measure => simp [intOf]; omega
          · have hne : (er != 0) = true := by simpa using hez
            obtain rfl := Herr'.out hez
            clear hez
            go_wp2_with fail
            refine (refSame_calls s'.T An Aa cn ca w8 hownb8.seg hown8.seg hTn').mono ?_
            rintro e w9 ⟨rfl, hk9⟩
            have hl9 := hl8.keep hk9
            have Hfin := Lib.hid (show BInv w (w.heap.size + 1) below (k + 1) w9 from ⟨F5, s', hl9, Hov.out, hT', HP'.out⟩)
            clear hl8 hown8 hownb8 hl9
            go_wp2
            go_roundw
            case rel => exact ⟨k + 1, hlt, by go_num, Hfin.out⟩
            case measure => simp [intOf]; omega
      · have Ha := Lib.hid (alive_calls wr)
        have Hk := Lib.hid hlv.1
        have hge : ¬ (k : Int) < (L.length : Int) := by omega
        clear hlv hov
        go_wp2_with fail
        refine Ha.out.mono ?_
        rintro e w3 ⟨rfl, hk3⟩
        go_wp2
        go_ret
        exact ⟨rfl, Hk.out.trans hk3⟩
end Go.Proofs.Ytkeefajfndmpeaa

