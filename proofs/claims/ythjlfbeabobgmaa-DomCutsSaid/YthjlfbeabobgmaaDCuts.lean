/-
  The law DomCuts returns true.
-/
import Derived.Test.YthjlfbeabobgmaaDWays
namespace Go.Proofs.Ythjlfbeabobgmaa
open Go Go.RowKit

/-- A row without what leads from or to a. -/
def cutRow (N : Dom.Gr) (a i k : Nat) : List Int := if i = a then [] else ((N.getD i []).take k).filter (fun t => t != (a : Int))
def cutFull (N : Dom.Gr) (a i : Nat) : List Int := if i = a then [] else (N.getD i []).filter (fun t => t != (a : Int))
def cutGr (N : Dom.Gr) (a : Nat) : Dom.Gr := (List.range N.length).map (cutFull N a)
theorem cutRow_zero (N : Dom.Gr) (a i : Nat) : cutRow N a i 0 = [] := by unfold cutRow; split <;> simp
theorem cutRow_self (N : Dom.Gr) (a k : Nat) : cutRow N a a k = [] := by unfold cutRow; rw [if_pos rfl]
theorem cutFull_self (N : Dom.Gr) (a : Nat) : cutFull N a a = [] := by unfold cutFull; rw [if_pos rfl]
theorem cutRow_succ {N : Dom.Gr} {a i k : Nat} {l : List Int} (hl : N.getD i [] = l) (hk : k < l.length) (hi : i ≠ a) : cutRow N a i (k + 1) = if l[k] = (a : Int) then cutRow N a i k else cutRow N a i k ++ [l[k]] := by
  unfold cutRow
  rw [if_neg hi, if_neg hi, hl, take_snoc l hk, List.filter_append]
  by_cases h : l[k] = (a : Int)
  · rw [if_pos h]; simp [h]
  · rw [if_neg h]; simp [h]
theorem cutRow_full {N : Dom.Gr} {a i k : Nat} (hk : (N.getD i []).length ≤ k) : cutRow N a i k = cutFull N a i := by
  unfold cutRow cutFull; rw [List.take_of_length_le hk]
theorem cutRow_le (N : Dom.Gr) (a i k : Nat) : (cutRow N a i k).length ≤ k := by
  unfold cutRow
  split
  · simp
  · have := List.length_filter_le (fun t => t != (a : Int)) ((N.getD i []).take k)
    rw [List.length_take] at this
    omega
theorem cutGr_len (N : Dom.Gr) (a : Nat) : (cutGr N a).length = N.length := by simp [cutGr]
theorem cutGr_get {N : Dom.Gr} {a i : Nat} (h : i < N.length) : (cutGr N a).getD i [] = cutFull N a i := by simp [cutGr, h]
theorem cutFull_le (N : Dom.Gr) (a i : Nat) : (cutFull N a i).length ≤ (N.getD i []).length := by
  unfold cutFull
  split
  · simp
  · exact List.length_filter_le _ _
theorem cut_ed {N : Dom.Gr} {a x y : Nat} : Dom.Ed (cutGr N a) x y ↔ Dom.Ed N x y ∧ x ≠ a ∧ y ≠ a := by
  constructor
  · rintro ⟨h1, h2, h3⟩
    rw [cutGr_len] at h1 h2
    rw [cutGr_get h1] at h3
    unfold cutFull at h3
    split at h3
    · simp at h3
    · rename_i hne
      rw [List.mem_filter] at h3
      exact ⟨⟨h1, h2, h3.1⟩, hne, fun e => by rw [e] at h3; simp at h3⟩
  · rintro ⟨⟨h1, h2, h3⟩, h4, h5⟩
    refine ⟨by rw [cutGr_len]; exact h1, by rw [cutGr_len]; exact h2, ?_⟩
    rw [cutGr_get h1]
    unfold cutFull
    rw [if_neg h4, List.mem_filter]
    exact ⟨h3, by simp; omega⟩
theorem cut_reach {N : Dom.Gr} {a x : Nat} (ha : a ≠ 0) : Dom.R (Dom.Ed (cutGr N a)) x ↔ Dom.RA (Dom.Ed N) a x := by
  constructor
  · intro h
    induction h with
    | root => exact .root (fun e => ha e.symm)
    | step _ he ih => exact .step ih (cut_ed.1 he).1 (cut_ed.1 he).2.2
  · intro h
    induction h with
    | root _ => exact .root
    | step h1 he hne ih => exact .step ih (cut_ed.2 ⟨he, h1.ne, hne⟩)
theorem byte_of (n : Int) (h : (Lit.int .u8 n).wf = true) : ∃ m : Nat, n = (m : Int) ∧ m < 256 := by
  simp [Lit.wf, IntKind.min, IntKind.max, IntKind.signed, IntKind.bits] at h
  exact ⟨n.toNat, by omega, by omega⟩
theorem Dom.Idom.sign {N : Dom.Gr} {I : List Int} (h : Dom.Idom N I) (hN : N ≠ []) {x : Nat} (hx : x < N.length) (h0 : x ≠ 0) : 0 ≤ I.getD x 0 ↔ Dom.R (Dom.Ed N) x := by
  by_cases hR : Dom.R (Dom.Ed N) x
  · obtain ⟨p, hp, _⟩ := h.parent hN hR h0
    exact ⟨fun _ => hR, fun _ => by rw [hp]; omega⟩
  · rw [h.out x hx hR]
    exact ⟨fun h => absurd h (by decide), fun h => absurd h hR⟩

set_option maxHeartbeats 4000000 in
set_option maxRecDepth 100000 in
theorem domCuts_walk (rs : List Row) (A : Option Addr) (c : Nat) (n1 : Int) (w : World) (hg : Graph w A rs) (hb : ∀ x ∈ rs, x.l.length ≤ 17592186044416) (hn1 : (Lit.int .u8 n1).wf = true) :
    Calls Try.prog 4 #[.slice A rs.length c, .int .u8 n1] w fun e w' => e = .returned (.bool true) ∧ Keep w w' := by
  have hlm := hg.len
  unfold maxLen at hlm
  have hfew := few_calls rs A c w hg hb 40 (by omega)
  cases hfb : fewB rs 40 with
  | false =>
    rw [hfb] at hfew
    have Hf := Lib.hid hfew
    have Ha := Lib.hid (alive_calls w)
    clear hfew hfb hg hb hn1
    go_enter Try.func4, Try.ntmps4
    go_wp2_with fail
    refine Hf.out.mono ?_
    rintro e w2 ⟨rfl, rfl⟩
    go_wp2_with fail
    refine Ha.out.mono ?_
    rintro e w2 ⟨rfl, hk⟩
    go_wp2_with fail
    go_ret
    exact ⟨rfl, hk⟩
  | true =>
    rw [hfb] at hfew
    obtain ⟨h40, hrow⟩ := fewB_lens hfb (by omega)
    have Hf := Lib.hid hfew
    by_cases h2 : rs.length < 2
    · have d2 : decide ((rs.length : Int) < 2) = true := decide_eq_true (by omega)
      have d2' : decide (rs.length < 2) = true := decide_eq_true h2
      have Ha := Lib.hid (alive_calls w)
      clear hfew hfb hg hb hn1 hrow
      go_enter Try.func4, Try.ntmps4
      go_wp2_with fail
      refine Hf.out.mono ?_
      rintro e w2 ⟨rfl, rfl⟩
      go_wp2_with fail
      refine Ha.out.mono ?_
      rintro e w2 ⟨rfl, hk⟩
      go_wp2_with fail
      go_ret
      exact ⟨rfl, hk⟩
    · have d2 : decide ((rs.length : Int) < 2) = false := decide_eq_false (by omega)
      have d2' : decide (rs.length < 2) = false := decide_eq_false h2
      have Hof := Lib.hid (of_calls rs A c w hg (by omega) hrow)
      have Hgl := Lib.hid (gr_len rs)
      have Hg := Lib.hid hg
      have Hrl := Lib.hid hrow
      obtain ⟨m1, rfl, hm2⟩ := byte_of n1 hn1
      clear hfew hfb hg hb hn1 hrow
      have n0 : (0 : Int) ≤ (rs.length : Int) - 1 := by omega
      go_enter Try.func4, Try.ntmps4
      go_wp2_with fail
      refine Hf.out.mono ?_
      rintro e w0 ⟨rfl, rfl⟩
      go_wp2_with fail
      refine Hof.out.mono ?_
      rintro e w1 ⟨bi, I, rfl, hbi, hI, hid, hk1⟩
      go_wp2_with fail
      obtain ⟨aN, haN, ha1, ha2⟩ : ∃ aN : Nat, 1 + (m1 : Int) % ((rs.length : Int) - 1) = (aN : Int) ∧ 1 ≤ aN ∧ aN < rs.length := by
        have h1 := Int.emod_nonneg (m1 : Int) (show (rs.length : Int) - 1 ≠ 0 by omega)
        have h2 := Int.emod_lt_of_pos (m1 : Int) (show (0 : Int) < (rs.length : Int) - 1 by omega)
        exact ⟨(1 + (m1 : Int) % ((rs.length : Int) - 1)).toNat, by omega, by omega, by omega⟩
      have hwr : wrap64 (1 + (m1 : Int) % ((rs.length : Int) - 1)) = (aN : Int) := by
        rw [haN]; exact IntWalk.wrap64_in (aN : Int) (by omega)
      rw [hwr]
      have Hid := Lib.hid hid
      have hIl : I.length = rs.length := by rw [hid.len, Hgl.out]
      have HIl := Lib.hid hIl
      have HI := Lib.hid hI
      have Hk1 := Lib.hid hk1
      have HN := Lib.hid (show gr rs ≠ [] from fun e => by have := Hgl.out; rw [e] at this; simp at this; omega)
      have Ha1 := Lib.hid ha1
      have Hcl := Lib.hid (cutGr_len (gr rs) aN)
      have Hov := Lib.hid (fun (wx : World) (hk : Keep w1 wx) (a b : Int) => show Calls Try.prog 14 #[.slice (some ⟨bi, 0, none⟩) rs.length rs.length, .int .i64 a, .int .i64 b] wx fun e w' => e = .returned (.bool (Dom.overF I a b)) ∧ wx = w' by
        have := over_calls I (some ⟨bi, 0, none⟩) rs.length wx (IBlk.seg (Blk.keep hI hk)) (by rw [hIl]; omega) a b
        rw [hIl] at this; exact this)
      clear hbi hI hid hk1 hIl Hof Hf hwr haN
      obtain ⟨u26, hu26⟩ : ∃ u, u = Value.int .i64 ((rs.length : Int) - 1) := ⟨_, rfl⟩
      obtain ⟨u27, hu27⟩ : ∃ u, u = Value.int .i64 ((m1 : Int) % ((rs.length : Int) - 1)) := ⟨_, rfl⟩
      rw [← hu26, ← hu27]
      clear hu26 hu27 n0
      go_loopw [7, 8] (fun v i wr => ∃ k : Nat, k ≤ rs.length ∧ i = .int .i64 (k : Int) ∧ OutRows intC 1 3 29 wr w1.heap.size v ((cutGr (gr rs) aN).take k) ∧ Keep w1 wr) (fun _ i _ => rs.length - (intOf i).toNat)
      case atStart => exact ⟨0, Nat.zero_le _, rfl, OutRows.nil _ _ _ _ _ _, Keep.refl _⟩
      case round =>
        obtain ⟨k, hk, rfl, hout, hkeep⟩ := hrel
        obtain ⟨v7, rfl⟩ : ∃ v, v = u7 := ⟨_, rfl⟩
        have Hout := Lib.hid hout
        have Hkeep := Lib.hid hkeep
        clear hout hkeep
        by_cases hlk : k < rs.length
        · have hkk : (k : Int) < (rs.length : Int) := by omega
          have k0 : (0 : Int) ≤ (k : Int) := by omega
          obtain ⟨b, off, rfl, _, qr0⟩ := row_at Hg.out.seg (Hk1.out.trans Hkeep.out) hlk
          have Hrow := Lib.hid (fun (wx : World) (hk : Keep w wx) => show wx.cell? ⟨b, off + k, none⟩ = some (.slice rs[k].a rs[k].l.length rs[k].c) by
            obtain ⟨_, _, e, _, h⟩ := row_at Hg.out.seg hk hlk
            cases e; exact h)
          have Hgrow := Lib.hid (show (gr rs).getD k [] = rs[k].l from gr_get hlk)
          have Hint := Lib.hid (fun (wx : World) (hk : Keep w wx) (j : Nat) (hj : j < rs[k].l.length) => int_at (Hg.out.rows rs[k] (List.getElem_mem hlk)).seg hk hj)
          have hlm' := Hrl.out rs[k] (List.getElem_mem hlk)
          obtain ⟨l, hl⟩ : ∃ l, l = rs[k].l := ⟨_, rfl⟩
          obtain ⟨Ax, hAx⟩ : ∃ A, A = rs[k].a := ⟨_, rfl⟩
          obtain ⟨cr, hcr⟩ : ∃ c, c = rs[k].c := ⟨_, rfl⟩
          rw [← hl, ← hAx, ← hcr] at Hrow
          rw [← hl] at Hint Hgrow hlm'
          rw [← hAx] at Hint
          clear hl hAx hcr qr0
          obtain ⟨wo, rfl⟩ : ∃ wo : World, wo = wr := ⟨_, rfl⟩
          go_wp2_with fail
          go_loopw [9, 10] (fun vl j wx => ∃ m : Nat, m ≤ l.length ∧ j = .int .i64 (m : Int) ∧ Own intC 1 3 wx wo.heap.size vl (cutRow (gr rs) aN k m) ∧ Keep wo wx) (fun _ j _ => l.length - (intOf j).toNat)
          case atStart => exact ⟨0, Nat.zero_le _, rfl, by rw [cutRow_zero]; exact Own.nil _ _ _ _ _, Keep.refl _⟩
          case round =>
            obtain ⟨m, hm, rfl, hown, hkx⟩ := hrel
            have q1 := Hrow.out wr ((Hk1.out.trans Hkeep.out).trans hkx)
            by_cases hgo : m < l.length ∧ k ≠ aN
            · obtain ⟨hlm2, hka⟩ := hgo
              have dm : decide ((m : Int) < (l.length : Int)) = true := decide_eq_true (by omega)
              have dm' : decide (m < l.length) = true := decide_eq_true hlm2
              have dk : ((k : Int) != (aN : Int)) = true := by simp; omega
              have m0 : (0 : Int) ≤ (m : Int) := by omega
              have m1' : (m : Int) < (l.length : Int) := by omega
              obtain ⟨b5, off5, rfl, _, qt⟩ := Hint.out wr ((Hk1.out.trans Hkeep.out).trans hkx) m hlm2
              have Hs := Lib.hid (cutRow_succ (a := aN) Hgrow.out hlm2 hka)
              obtain ⟨tv, htv⟩ : ∃ tv, tv = l[m] := ⟨_, rfl⟩
              rw [← htv] at qt Hs
              clear htv hka
              by_cases hta : tv = (aN : Int)
              · have dt : (tv != (aN : Int)) = false := by simpa using hta
                have Ho := Lib.hid (show Own intC 1 3 wr wo.heap.size u9 (cutRow (gr rs) aN k (m + 1)) by rw [Hs.out, if_pos hta]; exact hown)
                have Hkx := Lib.hid hkx
                clear hta hown hkx Hs
                go_wp2_with fail
                go_roundw
                case rel => exact ⟨m + 1, hlm2, by go_num, Ho.out, Hkx.out⟩
                case measure => simp [intOf] <;> omega
              · have dt : (tv != (aN : Int)) = true := by simpa using hta
                have hle := cutRow_le (gr rs) aN k m
                obtain ⟨B, d, hv, B', d', w6, hrun, hown2, hE, _, _⟩ := hown.push1 elI tv (by omega) (by omega) hkx.size 29
                have Hn := Lib.hid (show cutRow (gr rs) aN k (m + 1) = cutRow (gr rs) aN k m ++ [tv] by rw [Hs.out, if_neg hta])
                obtain ⟨ln, hln⟩ : ∃ ln, ln = (cutRow (gr rs) aN k m).length := ⟨_, rfl⟩
                rw [← hln] at hv hrun hown2
                subst hv
                have Ho := Lib.hid hown2
                have Hk6 := Lib.hid (Keep.of_ext hkx hE (fun i hi h => by omega))
                clear hta hown hkx hown2 hE hln hle Hs
                go_wp2_with (at_builtin; refine wpList_append_eq rfl _ _ _ rfl _ _ rfl rfl _ _ hrun ?_; clear hrun)
                go_roundw
                case rel => exact ⟨m + 1, hlm2, by go_num, by rw [Hn.out]; exact Ho.out, Hk6.out⟩
                case measure => simp [intOf] <;> omega
            · have hfull : cutRow (gr rs) aN k m = cutFull (gr rs) aN k := by
                by_cases hka : k = aN
                · rw [hka, cutRow_self, cutFull_self]
                · exact cutRow_full (by rw [Hgrow.out]; have : ¬ m < l.length := fun h => hgo ⟨h, hka⟩; omega)
              rw [hfull] at hown
              obtain ⟨⟨xa, xl, xc⟩, hxl, rfl⟩ := rowG_of hown
              have hxl' : xl = cutFull (gr rs) aN k := hxl
              subst hxl'
              obtain ⟨x, hxd⟩ : ∃ x : RowG Int, x = ⟨xa, cutFull (gr rs) aN k, xc⟩ := ⟨_, rfl⟩
              rw [← hxd] at hown hxl
              have hown' : Own intC 1 3 wr w1.heap.size x.v x.l := by rw [hxl]; exact hown.mono Hkeep.out.size
              have hout' := Hout.out.keep hkx
              have hlk' : ((cutGr (gr rs) aN).take k).length = k := by rw [List.length_take, Hcl.out, Hgl.out]; omega
              obtain ⟨v', w6, hrun, hout2, hE⟩ := OutRows.push elR (by decide) hout' x hown' (by rw [hlk']; omega) (by omega) (Hkeep.out.trans hkx).size 22
              have Hn := Lib.hid (show (cutGr (gr rs) aN).take (k + 1) = (cutGr (gr rs) aN).take k ++ [x.l] by
                rw [take_snoc _ (by rw [Hcl.out, Hgl.out]; exact hlk), hxl]; simp [cutGr])
              have Hk6 := Lib.hid (Keep.of_ext (Hkeep.out.trans hkx) hE (fun i hi h => by omega))
              have Hout2 := Lib.hid hout2
              obtain ⟨B, d, hvf, _⟩ := hout'.form
              rw [hlk'] at hvf
              subst hvf
              subst hxd
              unfold RowG.v at hrun ⊢
              have hdec : (m < l.length ∧ k = aN) ∨ ¬ m < l.length := by
                by_cases h : m < l.length
                · by_cases h2 : k = aN
                  · exact .inl ⟨h, h2⟩
                  · exact absurd ⟨h, h2⟩ hgo
                · exact .inr h
              clear hown hown' hout' hout2 hkx hE hlk' hxl hfull hgo
              rcases hdec with ⟨hlm2, hka⟩ | hlm2
              · have dm : decide ((m : Int) < (l.length : Int)) = true := decide_eq_true (by omega)
                have dm' : decide (m < l.length) = true := decide_eq_true hlm2
                have dk : ((k : Int) != (aN : Int)) = false := by simp; omega
                clear hka
                go_wp2_with (at_builtin; refine wpList_append_eq rfl _ _ _ rfl _ _ rfl rfl _ _ hrun ?_; clear hrun)
                go_roundw
                case rel => exact ⟨k + 1, hlk, by go_num, by rw [Hn.out]; exact Hout2.out, Hk6.out⟩
                case measure => simp [intOf] <;> omega
              · have dm : decide ((m : Int) < (l.length : Int)) = false := decide_eq_false (by omega)
                have dm' : decide (m < l.length) = false := decide_eq_false hlm2
                go_wp2_with (at_builtin; refine wpList_append_eq rfl _ _ _ rfl _ _ rfl rfl _ _ hrun ?_; clear hrun)
                go_roundw
                case rel => exact ⟨k + 1, hlk, by go_num, by rw [Hn.out]; exact Hout2.out, Hk6.out⟩
                case measure => simp [intOf] <;> omega
        · have hge : ¬ (k : Int) < (rs.length : Int) := by omega
          have hout : OutRows intC 1 3 29 wr w1.heap.size v7 (cutGr (gr rs) aN) := by
            have := Hout.out
            rwa [List.take_of_length_le (by rw [Hcl.out, Hgl.out]; omega)] at this
          obtain ⟨rt, B, d, e1, hv, h1, h2, h3, h4⟩ := hout.read
          have hgt : gr rt = cutGr (gr rs) aN := e1
          have hltt : rt.length = rs.length := by rw [← gr_len rt, hgt, Hcl.out, Hgl.out]
          have hgraph : Graph wr B rt := ⟨h1, fun x hx => ⟨h2 x hx, h4 x hx⟩, h3⟩
          have hrow2 : ∀ x ∈ rt, x.l.length ≤ 1000 := fun x hx => by
            obtain ⟨i, hi, rfl⟩ := List.getElem_of_mem hx
            have e : rt[i].l = cutFull (gr rs) aN i := by
              have h5 : (gr rt).getD i [] = rt[i].l := gr_get hi
              rw [hgt, cutGr_get (by rw [Hgl.out]; omega)] at h5
              exact h5.symm
            rw [e]
            exact Nat.le_trans (cutFull_le _ _ _) (gr_row_le Hrl.out i)
          have Hof := Lib.hid (show Calls Try.prog 12 #[.slice B rs.length d] wr (OfPost (cutGr (gr rs) aN) rs.length wr) by
            have := of_calls rt B d wr hgraph (by omega) hrow2
            rw [hgt, hltt] at this; exact this)
          rw [hltt] at hv
          subst hv
          clear hout e1 h1 h2 h3 h4 hgt hltt hgraph hrow2 Hout
          go_wp2_with fail
          refine Hof.out.mono ?_
          rintro e w2 ⟨bj, J, rfl, hbj, hJ, hjd, hk2⟩
          have Hjd := Lib.hid hjd
          have HJl := Lib.hid (show J.length = rs.length by rw [hjd.len, Hcl.out, Hgl.out])
          have HJ := Lib.hid hJ
          have Hk2 := Lib.hid (Hkeep.out.trans hk2)
          have HN2 := Lib.hid (show cutGr (gr rs) aN ≠ [] from fun e => by have := Hcl.out; rw [e, Hgl.out] at this; simp at this; omega)
          have dll : ((rs.length : Int) != (rs.length : Int)) = false := by simp
          have hzj := hJ.lt
          clear hbj hJ hjd hk2 Hof
          go_wp2_with fail
          go_loopw [12] (fun i wr => ∃ k : Nat, 1 ≤ k ∧ k ≤ rs.length ∧ i = .int .i64 (k : Int) ∧ Keep w2 wr) (fun i _ => rs.length - (intOf i).toNat)
          case atStart => exact ⟨1, Nat.le_refl _, by omega, rfl, Keep.refl _⟩
          case round =>
            obtain ⟨k, hk1, hk2, rfl, hkw⟩ := hrel
            by_cases hlk : k < rs.length
            · have hkk : (k : Int) < (rs.length : Int) := by omega
              have k0 : (0 : Int) ≤ (k : Int) := by omega
              have q1 : wr.cell? ⟨bj, k, none⟩ = some (.int .i64 (J.getD k 0)) := by
                have h1 := (Blk.keep HJ.out hkw).cell k
                have hl2 : k < J.length := by rw [HJl.out]; exact hlk
                rw [h1, List.getD_eq_getElem?_getD, List.getElem?_eq_getElem hl2]; simp [hl2]
              have q2 : wr.cell? ⟨bi, k, none⟩ = some (.int .i64 (I.getD k 0)) := by
                have h1 := (Blk.keep HI.out (Hk2.out.trans hkw)).cell k
                have hl2 : k < I.length := by rw [HIl.out]; exact hlk
                rw [h1, List.getD_eq_getElem?_getD, List.getElem?_eq_getElem hl2]; simp [hl2]
              have s1 := Hjd.out.sign HN2.out (x := k) (by rw [Hcl.out, Hgl.out]; exact hlk) (by omega)
              rw [cut_reach (by have := Ha1.out; omega)] at s1
              have s2 := Hid.out.sign HN.out (x := k) (by rw [Hgl.out]; exact hlk) (by omega)
              have Hkw := Lib.hid hkw
              have Ho := Lib.hid (fun n => Hov.out (wr.drewN n) ((Hk2.out.trans Hkw.out).drewN _) (aN : Int) (k : Int))
              obtain ⟨jv, hjv⟩ : ∃ v, v = J.getD k 0 := ⟨_, rfl⟩
              obtain ⟨iv, hiv⟩ : ∃ v, v = I.getD k 0 := ⟨_, rfl⟩
              rw [← hjv] at q1 s1
              rw [← hiv] at q2 s2
              clear hjv hiv hkw
              by_cases hR : Dom.R (Dom.Ed (gr rs)) k
              · have hov := Dom.over_dm Hid.out HN.out hR (aN : Int)
                have d2 : decide (0 ≤ iv) = true := decide_eq_true (s2.2 hR)
                by_cases hA : Dom.RA (Dom.Ed (gr rs)) aN k
                · have d1 : decide (0 ≤ jv) = true := decide_eq_true (s1.2 hA)
                  have hf : Dom.overF I (aN : Int) (k : Int) = false := by
                    rw [← Bool.not_eq_true, hov]
                    rintro ⟨dn, e, hd⟩
                    obtain rfl : aN = dn := by omega
                    exact hd.2 hA
                  rw [hf] at Ho
                  clear hov hf hA hR s1 s2
                  go_wp2_with fail
                  go_quiet ((go_at_call 14; exact quiet_same (Ho.out _)))
                  go_wp2_with fail
                  go_roundw
                  case rel => exact ⟨k + 1, by omega, hlk, by go_num, Hkw.out.drewN _⟩
                  case measure => simp [intOf] <;> omega
                · have d1 : decide (0 ≤ jv) = false := decide_eq_false (fun h => hA (s1.1 h))
                  have hf : Dom.overF I (aN : Int) (k : Int) = true := hov.2 ⟨aN, rfl, hR, hA⟩
                  rw [hf] at Ho
                  clear hov hf hA hR s1 s2
                  go_wp2_with fail
                  go_quiet ((go_at_call 14; exact quiet_same (Ho.out _)))
                  go_wp2_with fail
                  go_roundw
                  case rel => exact ⟨k + 1, by omega, hlk, by go_num, Hkw.out.drewN _⟩
                  case measure => simp [intOf] <;> omega
              · have d1 : decide (0 ≤ jv) = false := decide_eq_false (fun h => hR (s1.1 h).reach)
                have d2 : decide (0 ≤ iv) = false := decide_eq_false (fun h => hR (s2.1 h))
                clear hR s1 s2
                go_wp2_with fail
                go_quiet (fail)
                go_wp2_with fail
                go_roundw
                case rel => exact ⟨k + 1, by omega, hlk, by go_num, Hkw.out.drewN _⟩
                case measure => simp [intOf] <;> omega
            · have hge2 : ¬ (k : Int) < (rs.length : Int) := by omega
              have Hfin := Lib.hid ((Hk1.out.trans Hk2.out).trans hkw)
              clear hkw
              go_wp2_with fail
              refine (alive_calls wr).mono ?_
              rintro e w6 ⟨rfl, hk6⟩
              go_wp2_with fail
              go_ret
              exact ⟨rfl, Hfin.out.trans hk6⟩
end Go.Proofs.Ythjlfbeabobgmaa
