/-
  The law DomWays returns true.
-/
import Derived.Test.YthjlfbeabobgmaaDTells
import Derived.Test.YthjlfbeabobgmaaDTrees
namespace Go.Proofs.Ythjlfbeabobgmaa
open Go Go.RowKit

namespace Dom
theorem depthK_bd (r : List Int) : ∀ (k m : Nat) (a : Int), -1 ≤ depthK r k m a ∧ depthK r k m a ≤ (m + k : Nat)
  | 0, m, a => by show -1 ≤ (-1 : Int) ∧ (-1 : Int) ≤ _; omega
  | k + 1, m, a => by
    show -1 ≤ (if upF r a < 0 then (m : Int) else depthK r k (m + 1) (upF r a)) ∧ (if upF r a < 0 then (m : Int) else depthK r k (m + 1) (upF r a)) ≤ _
    have := depthK_bd r k (m + 1) (upF r a)
    split <;> omega
theorem depthF_bd (r : List Int) (a : Int) : -1 ≤ depthF r a ∧ depthF r a ≤ (r.length : Int) := by
  unfold depthF
  have := depthK_bd r r.length 0 a
  split <;> omega
section
variable {N : Gr} {I : List Int}
/-- A reachable node but 0 has a parent that is reachable and dominates what leads to the node. -/
theorem Idom.parent (h : Idom N I) (hN : N ≠ []) {x : Nat} (hx : R (Ed N) x) (h0 : x ≠ 0) : ∃ p : Nat, I.getD x 0 = (p : Int) ∧ p < N.length ∧ ∀ a, R (Ed N) a → Ed N a x → Dm (Ed N) p a := by
  obtain ⟨f, rank, hup, hlt, hdom⟩ := h.tree hN
  obtain ⟨h1, h2, h3⟩ := hup x hx h0
  refine ⟨f x, h1, (hlt _ h2).1, fun a ha he => ⟨ha, fun hra => ?_⟩⟩
  have hd : Dm (Ed N) (f x) x := (hdom x hx _).1 (.up h0 (.refl _))
  exact hd.2 (.step hra he (fun e => by rw [← e] at h3; omega))
theorem dm_root {x : Nat} (hx : R (Ed N) x) : Dm (Ed N) 0 x := ⟨hx, fun h => by
  have key : ∀ y, ¬ RA (Ed N) 0 y := fun y hy => by
    induction hy with
    | root h => exact h rfl
    | step _ _ _ ih => exact ih
  exact key x h⟩
end
end Dom

set_option maxHeartbeats 4000000 in
set_option maxRecDepth 100000 in
theorem domWays_walk (rs : List Row) (A : Option Addr) (c : Nat) (w : World) (hg : Graph w A rs) (hb : ∀ x ∈ rs, x.l.length ≤ 17592186044416) :
    Calls Try.prog 5 #[.slice A rs.length c] w fun e w' => e = .returned (.bool true) ∧ Keep w w' := by
  have hfew := few_calls rs A c w hg hb 100 (by omega)
  cases hfb : fewB rs 100 with
  | false =>
    rw [hfb] at hfew
    have Hf := Lib.hid hfew
    have Ha := Lib.hid (alive_calls w)
    clear hfew hfb hg hb
    go_enter Try.func5, Try.ntmps5
    go_wp2_with fail
    refine Hf.out.mono ?_
    rintro e w2 ⟨rfl, rfl⟩
    go_wp2_with fail
    refine Ha.out.mono ?_
    rintro e w2 ⟨rfl, hk⟩
    go_wp2_with fail
    go_ret
    exact ⟨rfl, hk⟩
  | true =>
    rw [hfb] at hfew
    obtain ⟨h100, hrow⟩ := fewB_lens hfb (by omega)
    have Hf := Lib.hid hfew
    have Hof := Lib.hid (of_calls rs A c w hg (by omega) hrow)
    have Hgl := Lib.hid (gr_len rs)
    have Hg := Lib.hid hg
    clear hfew hfb hg hb hrow
    go_enter Try.func5, Try.ntmps5
    go_wp2_with fail
    refine Hf.out.mono ?_
    rintro e w0 ⟨rfl, rfl⟩
    go_wp2_with fail
    refine Hof.out.mono ?_
    rintro e w1 ⟨bi, I, rfl, hbi, hI, hid, hk1⟩
    have Hid := Lib.hid hid
    have hIl : I.length = rs.length := by rw [hid.len, Hgl.out]
    have HIl := Lib.hid hIl
    have HI := Lib.hid hI
    have Hk1 := Lib.hid hk1
    have Hov := Lib.hid (fun (wx : World) (hk : Keep w1 wx) (a b : Int) => show Calls Try.prog 14 #[.slice (some ⟨bi, 0, none⟩) rs.length rs.length, .int .i64 a, .int .i64 b] wx fun e w' => e = .returned (.bool (Dom.overF I a b)) ∧ wx = w' by
      have := over_calls I (some ⟨bi, 0, none⟩) rs.length wx (IBlk.seg (Blk.keep hI hk)) (by rw [hIl]; omega) a b
      rw [hIl] at this; exact this)
    have Hde := Lib.hid (fun (wx : World) (hk : Keep w1 wx) (a : Int) => show Calls Try.prog 15 #[.slice (some ⟨bi, 0, none⟩) rs.length rs.length, .int .i64 a] wx fun e w' => e = .returned (.int .i64 (Dom.depthF I a)) ∧ wx = w' by
      have := depth_calls I (some ⟨bi, 0, none⟩) rs.length wx (IBlk.seg (Blk.keep hI hk)) (by rw [hIl]; omega) a
      rw [hIl] at this; exact this)
    have hzi := hI.lt
    have dll : ((rs.length : Int) != (rs.length : Int)) = false := by simp
    clear hbi hI hid hk1 Hof hIl Hf
    by_cases h0 : 0 < rs.length
    · have HN := Lib.hid (show gr rs ≠ [] from fun e => by have := Hgl.out; rw [e] at this; simp at this; omega)
      have h0d : decide (0 < rs.length) = true := decide_eq_true h0
      have h0i : (0 : Int) < (rs.length : Int) := by omega
      have q0 : w1.cell? ⟨bi, 0, none⟩ = some (.int .i64 (-1)) := by
        have h1 := HI.out.get (k := 0) (by rw [HIl.out]; exact h0)
        have h2 := Hid.out.root HN.out
        rw [List.getD_eq_getElem?_getD, List.getElem?_eq_getElem (by rw [HIl.out]; exact h0)] at h2
        rw [h1]
        have h3 : I[0]'(by rw [HIl.out]; exact h0) = -1 := h2
        rw [h3]
      go_wp2_with fail
      go_loopw [4] (fun i wr => ∃ k : Nat, k ≤ rs.length ∧ i = .int .i64 (k : Int) ∧ Keep w1 wr) (fun i _ => rs.length - (intOf i).toNat)
      case atStart => exact ⟨0, Nat.zero_le _, rfl, Keep.refl _⟩
      case round =>
        clear q0
        obtain ⟨k, hk, rfl, hkw⟩ := hrel
        by_cases hlk : k < rs.length
        · have hkk : (k : Int) < (rs.length : Int) := by omega
          have k0 : (0 : Int) ≤ (k : Int) := by omega
          have hkI : k < I.length := by rw [HIl.out]; exact hlk
          have qk := (Blk.keep HI.out hkw).cell k
          have hIk : I.getD k 0 = I[k] := by rw [List.getD_eq_getElem?_getD, List.getElem?_eq_getElem hkI]; rfl
          have qk' : wr.cell? ⟨bi, k, none⟩ = some (.int .i64 (I.getD k 0)) := by rw [qk, hIk]; simp [hkI]
          clear qk hIk
          have Hkw := Lib.hid hkw
          clear hkw
          by_cases hR : Dom.R (Dom.Ed (gr rs)) k
          · have HR := Lib.hid hR
            obtain ⟨b, off, rfl, _, qr0⟩ := row_at Hg.out.seg (Hk1.out.trans Hkw.out) hlk
            have Hrow := Lib.hid (fun (wx : World) (hk : Keep w wx) => show wx.cell? ⟨b, off + k, none⟩ = some (.slice rs[k].a rs[k].l.length rs[k].c) by
              obtain ⟨_, _, e, _, h⟩ := row_at Hg.out.seg hk hlk
              cases e; exact h)
            have Hgrow := Lib.hid (show (gr rs).getD k [] = rs[k].l from gr_get hlk)
            have Hint := Lib.hid (fun (wx : World) (hk : Keep w wx) (j : Nat) (hj : j < rs[k].l.length) => int_at (Hg.out.rows rs[k] (List.getElem_mem hlk)).seg hk hj)
            have hlm := (Hg.out.rows rs[k] (List.getElem_mem hlk)).len
            obtain ⟨l, hl⟩ : ∃ l, l = rs[k].l := ⟨_, rfl⟩
            obtain ⟨Ax, hAx⟩ : ∃ A, A = rs[k].a := ⟨_, rfl⟩
            obtain ⟨cr, hcr⟩ : ∃ c, c = rs[k].c := ⟨_, rfl⟩
            rw [← hl, ← hAx, ← hcr] at Hrow
            rw [← hl] at Hint Hgrow hlm
            rw [← hAx] at Hint
            unfold maxLen at hlm
            clear hl hAx hcr qr0 hR
            go_upto_region 9 with fail
            go_cut [71] from 35 to 71 (fun v wx => v = .bool false ∧ Keep w1 wx)
            case first =>
              by_cases hk0 : k = 0
              · have d0 : decide ((0 : Int) < (k : Int)) = false := decide_eq_false (by omega)
                have d0' : decide (0 < k) = false := decide_eq_false (by omega)
                clear hk0
                go_quiet (fail)
                go_wp2_with fail
                go_meet
                case rel => exact ⟨rfl, Hkw.out.drewN _⟩
              · have d0 : decide ((0 : Int) < (k : Int)) = true := decide_eq_true (by omega)
                have d0' : decide (0 < k) = true := decide_eq_true (by omega)
                obtain ⟨p, hp, hpl, _⟩ := Hid.out.parent HN.out HR.out hk0
                have hpn : p < rs.length := by rw [Hgl.out] at hpl; exact hpl
                have hds := Dom.depth_step Hid.out HN.out HR.out hk0
                rw [hp] at qk' hds
                have Ho := Lib.hid (fun n => show Calls Try.prog 14 #[.slice (some ⟨bi, 0, none⟩) rs.length rs.length, .int .i64 0, .int .i64 (k : Int)] (wr.drewN n) fun e w' => e = .returned (.bool true) ∧ wr.drewN n = w' by
                  have h1 := Hov.out (wr.drewN n) (Hkw.out.drewN _) 0 k
                  rw [show Dom.overF I 0 k = true from (Dom.over_dm Hid.out HN.out HR.out 0).2 ⟨0, rfl, Dom.dm_root HR.out⟩] at h1
                  exact h1)
                obtain ⟨dp, hdp⟩ : ∃ dp, dp = Dom.depthF I (p : Int) := ⟨_, rfl⟩
                have hbd := Dom.depthF_bd I (p : Int)
                rw [HIl.out, ← hdp] at hbd
                rw [← hdp] at hds
                have Hd1 := Lib.hid (fun n => show Calls Try.prog 15 #[.slice (some ⟨bi, 0, none⟩) rs.length rs.length, .int .i64 (k : Int)] (wr.drewN n) fun e w' => e = .returned (.int .i64 (dp + 1)) ∧ wr.drewN n = w' by
                  have h1 := Hde.out (wr.drewN n) (Hkw.out.drewN _) k
                  rw [hds] at h1; exact h1)
                have Hd2 := Lib.hid (fun n => show Calls Try.prog 15 #[.slice (some ⟨bi, 0, none⟩) rs.length rs.length, .int .i64 (p : Int)] (wr.drewN n) fun e w' => e = .returned (.int .i64 dp) ∧ wr.drewN n = w' by
                  have h1 := Hde.out (wr.drewN n) (Hkw.out.drewN _) p
                  rw [← hdp] at h1; exact h1)
                have d1 : decide ((0 : Int) ≤ (p : Int)) = true := decide_eq_true (by omega)
                have d2 : decide ((rs.length : Int) ≤ (p : Int)) = false := decide_eq_false (by omega)
                have d2' : decide (rs.length ≤ p) = false := decide_eq_false (by omega)
                have hw : IntKind.i64.wrap (dp + 1) = dp + 1 := IntWalk.i64_in _ (by omega)
                have dd : ((dp + 1) != (dp + 1)) = false := by simp
                clear hdp hds hbd hpl hp hk0
                go_quiet ((first | (go_at_call 14; exact quiet_same (Ho.out _)) | (go_at_call 15; first | (with_reducible exact quiet_same (Hd1.out _)) | (with_reducible exact quiet_same (Hd2.out _)))))
                go_wp2_with fail
                go_meet
                case rel => exact ⟨rfl, Hkw.out.drewN _⟩
            case rest =>
              obtain ⟨rfl, hkc⟩ := hcut
              have Hkc := Lib.hid hkc
              have qk2 : wc.cell? ⟨bi, k, none⟩ = some (.int .i64 (I.getD k 0)) := by
                have h1 := (Blk.keep HI.out hkc).cell k
                rw [h1, List.getD_eq_getElem?_getD, List.getElem?_eq_getElem hkI]; simp [hkI]
              clear hkc qk'
              go_upto_region 11 with fail
              go_cut [80] from 72 to 80 (fun v wx => v = .bool false ∧ wx = wc)
              case first =>
                by_cases hk0 : k = 0
                · have d0 : decide ((0 : Int) < (k : Int)) = false := decide_eq_false (by omega)
                  have d0' : decide (0 < k) = false := decide_eq_false (by omega)
                  clear hk0
                  go_wp2_with fail
                  go_meet
                  case rel => exact ⟨rfl, rfl⟩
                · have d0 : decide ((0 : Int) < (k : Int)) = true := decide_eq_true (by omega)
                  have d0' : decide (0 < k) = true := decide_eq_true (by omega)
                  obtain ⟨p, hp, hpl, _⟩ := Hid.out.parent HN.out HR.out hk0
                  rw [hp] at qk2
                  have d1 : decide ((p : Int) < 0) = false := decide_eq_false (by omega)
                  clear hp hpl hk0
                  go_wp2_with fail
                  go_meet
                  case rel => exact ⟨rfl, rfl⟩
              case rest =>
                obtain ⟨rfl, rfl⟩ := hcut
                clear qk2
                go_wp2_with fail
                go_loopw [5] (fun j wx => ∃ m : Nat, m ≤ l.length ∧ j = .int .i64 (m : Int) ∧ Keep w1 wx) (fun j _ => l.length - (intOf j).toNat)
                case atStart => exact ⟨0, Nat.zero_le _, rfl, Hkc.out⟩
                case round =>
                  obtain ⟨m, hm, rfl, hkx⟩ := hrel
                  have q1 := Hrow.out wr (Hk1.out.trans hkx)
                  have Hkx := Lib.hid hkx
                  clear hkx
                  by_cases hlm2 : m < l.length
                  · have dm : decide ((m : Int) < (l.length : Int)) = true := decide_eq_true (by omega)
                    have dm' : decide (m < l.length) = true := decide_eq_true hlm2
                    have m0 : (0 : Int) ≤ (m : Int) := by omega
                    have m1 : (m : Int) < (l.length : Int) := by omega
                    obtain ⟨b5, off5, rfl, _, qt⟩ := Hint.out wr (Hk1.out.trans Hkx.out) m hlm2
                    obtain ⟨tv, htv⟩ : ∃ tv, tv = l[m] := ⟨_, rfl⟩
                    have Htm := Lib.hid (show ((gr rs).getD k [])[m]? = some tv by rw [Hgrow.out, List.getElem?_eq_getElem hlm2, htv])
                    rw [← htv] at qt
                    clear htv
                    by_cases t0 : tv ≤ 0
                    · have dt : decide (0 < tv) = false := decide_eq_false (by omega)
                      go_wp2_with fail
                      go_roundw
                      case rel => exact ⟨m + 1, hlm2, by go_num, Hkx.out⟩
                      case measure => simp [intOf] <;> omega
                    · have dt : decide (0 < tv) = true := decide_eq_true (by omega)
                      obtain ⟨tb, rfl⟩ : ∃ tb : Nat, tv = (tb : Int) := ⟨tv.toNat, by omega⟩
                      have dt2 : decide (0 < tb) = true := decide_eq_true (by omega)
                      by_cases t1 : tb < rs.length
                      · have dt1 : decide ((tb : Int) < (rs.length : Int)) = true := decide_eq_true (by omega)
                        have dt1' : decide (tb < rs.length) = true := decide_eq_true t1
                        have hed : Dom.Ed (gr rs) k tb := Dom.Ed.of_get (by rw [Hgl.out]; exact hlk) (by rw [Hgl.out]; exact t1) Htm.out
                        obtain ⟨p, hp, hpl, hpd⟩ := Hid.out.parent HN.out (.step HR.out hed) (by omega)
                        have qt2 : wr.cell? ⟨bi, tb, none⟩ = some (.int .i64 (p : Int)) := by
                          rw [← hp]
                          have h1 := (Blk.keep HI.out Hkx.out).cell tb
                          have hl2 : tb < I.length := by rw [HIl.out]; exact t1
                          rw [h1, List.getD_eq_getElem?_getD, List.getElem?_eq_getElem hl2]; simp [hl2]
                        have Ho := Lib.hid (show Calls Try.prog 14 #[.slice (some ⟨bi, 0, none⟩) rs.length rs.length, .int .i64 (p : Int), .int .i64 (k : Int)] wr fun e w' => e = .returned (.bool true) ∧ wr = w' by
                          have h1 := Hov.out wr Hkx.out p k
                          rw [show Dom.overF I p k = true from (Dom.over_dm Hid.out HN.out HR.out p).2 ⟨p, rfl, hpd k HR.out hed⟩] at h1
                          exact h1)
                        have b0 : (0 : Int) ≤ (tb : Int) := by omega
                        have b1 : (tb : Int) < (rs.length : Int) := by omega
                        have dp : decide ((p : Int) < 0) = false := decide_eq_false (by omega)
                        clear hed hp hpl hpd
                        go_wp2_with (go_at_call 14; refine Ho.out.mono ?_; rintro e w' ⟨rfl, rfl⟩)
                        go_roundw
                        case rel => exact ⟨m + 1, hlm2, by go_num, Hkx.out⟩
                        case measure => simp [intOf] <;> omega
                      · have dt1 : decide ((tb : Int) < (rs.length : Int)) = false := decide_eq_false (by omega)
                        have dt1' : decide (tb < rs.length) = false := decide_eq_false t1
                        go_wp2_with fail
                        go_roundw
                        case rel => exact ⟨m + 1, hlm2, by go_num, Hkx.out⟩
                        case measure => simp [intOf] <;> omega
                  · have dm : decide ((m : Int) < (l.length : Int)) = false := decide_eq_false (by omega)
                    have dm' : decide (m < l.length) = false := decide_eq_false hlm2
                    go_wp2_with fail
                    go_roundw
                    case rel => exact ⟨k + 1, hlk, by go_num, Hkx.out⟩
                    case measure => simp [intOf] <;> omega
          · have hk0 : k ≠ 0 := fun e => hR (e ▸ .root)
            rw [Hid.out.out k (by rw [Hgl.out]; exact hlk) hR] at qk'
            have d0 : decide ((0 : Int) < (k : Int)) = true := decide_eq_true (by omega)
            have d0' : decide (0 < k) = true := decide_eq_true (by omega)
            clear hR hk0
            go_wp2_with fail
            go_quiet (fail)
            go_wp2_with fail
            go_roundw
            case rel => exact ⟨k + 1, hlk, by go_num, Hkw.out.drewN _⟩
            case measure => simp [intOf] <;> omega
        · have hge : ¬ (k : Int) < (rs.length : Int) := by omega
          have Hfin := Lib.hid (Hk1.out.trans hkw)
          clear hkw
          go_wp2_with fail
          refine (alive_calls wr).mono ?_
          rintro e w6 ⟨rfl, hk6⟩
          go_wp2_with fail
          go_ret
          exact ⟨rfl, Hfin.out.trans hk6⟩
    · have h0d : decide (0 < rs.length) = false := decide_eq_false h0
      have hz : rs.length = 0 := by omega
      have Hz := Lib.hid hz
      have h0i : ¬ (0 : Int) < (rs.length : Int) := by omega
      clear hz
      go_wp2_with fail
      go_loopw [4] (fun i wr => ∃ k : Nat, k ≤ rs.length ∧ i = .int .i64 (k : Int) ∧ Keep w1 wr) (fun i _ => rs.length - (intOf i).toNat)
      case atStart => exact ⟨0, Nat.zero_le _, rfl, Keep.refl _⟩
      case round =>
        obtain ⟨k, hk, rfl, hkw⟩ := hrel
        have hlk : ¬ k < rs.length := by have := Hz.out; omega
        have hge : ¬ (k : Int) < (rs.length : Int) := by omega
        have Hfin := Lib.hid (Hk1.out.trans hkw)
        clear hkw
        go_wp2_with fail
        refine (alive_calls wr).mono ?_
        rintro e w6 ⟨rfl, hk6⟩
        go_wp2_with fail
        go_ret
        exact ⟨rfl, Hfin.out.trans hk6⟩
end Go.Proofs.Ythjlfbeabobgmaa
