/-
  The reference's Loops.
-/
import Derived.Test.YthjlfbeabobgmaaDLoops
namespace Go.Proofs.Ythjlfbeabobgmaa
open Go Go.RowKit

set_option maxHeartbeats 4000000 in
set_option maxRecDepth 100000 in
theorem refLoops_calls (rs : List Row) (A : Option Addr) (c : Nat) (w : World) (hg : Graph w A rs) (hn : rs.length ≤ 900) (hl : ∀ x ∈ rs, x.l.length ≤ 1000) :
    Calls Try.prog 10 #[.slice A rs.length c] w (LoopsPost (gr rs) w) := by
  have Hst := Lib.hid (stands_calls rs A c w hg (by omega))
  have Hall := Lib.hid (fun (wr : World) (hk : Keep w wr) => reached_calls rs A c wr (hg.keep hk) (by omega) (-1) rs.length (.inr ⟨rfl, rfl⟩))
  have Hlen := Lib.hid (gr_len rs)
  have Hg := Lib.hid hg
  have Hl := Lib.hid hl
  clear hg hl
  go_enter Try.func10, Try.ntmps10
  go_wp2_with fail
  refine Hst.out.mono ?_
  rintro e w1 ⟨v, rfl, htab, hk1⟩
  obtain ⟨At, ct, rfl, htb⟩ := tab_of htab
  rw [gr_len] at htb ⊢
  have Htb := Lib.hid htb
  have Hk1 := Lib.hid hk1
  clear htab htb hk1 Hst
  go_wp2_with fail
  refine (Hall.out w1 Hk1.out).mono ?_
  rintro e w2 ⟨al, rfl, hal, hall, hals, hk2⟩
  obtain ⟨ba, hba⟩ : ∃ b, b = w1.heap.size := ⟨_, rfl⟩
  rw [← hba] at hal ⊢
  have Hal := Lib.hid hal
  have Hall' := Lib.hid hall
  have Hals := Lib.hid (show gr rs ≠ [] → ∀ x, al.getD x false = true ↔ Dom.R (Dom.Ed (gr rs)) x from fun hN x => by
    have := hals hN x
    rw [← Hlen.out, ra_all hN] at this
    exact this)
  have Htb2 := Lib.hid (Htb.out.keep hk2)
  have Hk2 := Lib.hid (Hk1.out.trans hk2)
  have hza := hal.lt
  clear hal hall hals hk2 hba Hall Htb Hk1
  go_wp2_with fail
  go_loopw [5, 6] (fun v i wr => ∃ k : Nat, k ≤ rs.length ∧ i = .int .i64 (k : Int) ∧ Own pairC 2 27 wr w2.heap.size v (loopsTo (gr rs) k) ∧ Keep w2 wr) (fun _ i _ => rs.length - (intOf i).toNat)
  case atStart => exact ⟨0, Nat.zero_le _, rfl, Own.nil _ _ _ _ _, Keep.refl _⟩
  case round =>
    obtain ⟨k, hk, rfl, hout, hkeep⟩ := hrel
    obtain ⟨v5, rfl⟩ : ∃ v, v = u5 := ⟨_, rfl⟩
    have Hout := Lib.hid hout
    have Hk := Lib.hid hkeep
    clear hout hkeep
    by_cases hlk : k < rs.length
    · have hkk : (k : Int) < (rs.length : Int) := by omega
      have k0 : (0 : Int) ≤ (k : Int) := by omega
      have HN := Lib.hid (show gr rs ≠ [] from fun e => by have := Hlen.out; rw [e] at this; simp at this; omega)
      obtain ⟨b, off, rfl, _, qr0⟩ := row_at Hg.out.seg (Hk2.out.trans Hk.out) hlk
      have Hrow := Lib.hid (fun (wx : World) (hk : Keep w wx) => show wx.cell? ⟨b, off + k, none⟩ = some (.slice rs[k].a rs[k].l.length rs[k].c) by
        obtain ⟨_, _, e, _, h⟩ := row_at Hg.out.seg hk hlk
        cases e; exact h)
      have Hgrow := Lib.hid (show (gr rs).getD k [] = rs[k].l from gr_get hlk)
      have Hint := Lib.hid (fun (wx : World) (hk : Keep w wx) (j : Nat) (hj : j < rs[k].l.length) => int_at (Hg.out.rows rs[k] (List.getElem_mem hlk)).seg hk hj)
      have hlm := Hl.out rs[k] (List.getElem_mem hlk)
      obtain ⟨l, hl⟩ : ∃ l, l = rs[k].l := ⟨_, rfl⟩
      obtain ⟨Ax, hAx⟩ : ∃ A, A = rs[k].a := ⟨_, rfl⟩
      obtain ⟨cr, hcr⟩ : ∃ c, c = rs[k].c := ⟨_, rfl⟩
      rw [← hl, ← hAx, ← hcr] at Hrow
      rw [← hl] at Hint Hgrow hlm
      rw [← hAx] at Hint
      have Hak := Lib.hid (fun (wx : World) (hk : Keep w2 wx) => show wx.cell? ⟨ba, k, none⟩ = some (.bool (al.getD k false)) by
        rw [List.getD_eq_getElem?_getD, List.getElem?_eq_getElem (by rw [Hall'.out]; exact hlk)]
        exact BBlk.get (Blk.keep Hal.out hk) (by rw [Hall'.out]; exact hlk))
      obtain ⟨bo, oo, _, _, _, rfl, _⟩ := Htb2.out k k hlk hlk
      have Hcell := Lib.hid (fun (wx : World) (hk : Keep w2 wx) (a b : Nat) (ha : a < rs.length) (hb : b < rs.length) => show ∃ b2 o2 c2, wx.cell? ⟨bo, oo + a, none⟩ = some (.slice (some ⟨b2, o2, none⟩) rs.length c2) ∧ wx.cell? ⟨b2, o2 + b, none⟩ = some (.bool (dmB (gr rs) a b)) by
        obtain ⟨_, _, b2, o2, c2, e, h1, h2⟩ := (Htb2.out.keep hk) a b ha hb
        cases e
        exact ⟨b2, o2, c2, h1, h2⟩)
      have Hals2 := Lib.hid (Hals.out HN.out k)
      obtain ⟨sk, hsk⟩ : ∃ x, x = al.getD k false := ⟨_, rfl⟩
      rw [← hsk] at Hak Hals2
      clear hl hAx hcr qr0 hsk
      obtain ⟨wo, rfl⟩ : ∃ wo : World, wo = wr := ⟨_, rfl⟩
      go_wp2_with fail
      go_loopw [5, 7] (fun v j wx => ∃ m : Nat, m ≤ l.length ∧ j = .int .i64 (m : Int) ∧ Own pairC 2 27 wx w2.heap.size v (loopsTo (gr rs) k ++ backs (gr rs) k (l.take m)) ∧ Keep w2 wx) (fun _ j _ => l.length - (intOf j).toNat)
      case atStart => exact ⟨0, Nat.zero_le _, rfl, by rw [List.take_zero, backs_nil, List.append_nil]; exact Hout.out, Hk.out⟩
      case round =>
        obtain ⟨m, hm, rfl, hown, hkx⟩ := hrel
        have q1 := Hrow.out wr (Hk2.out.trans hkx)
        have q2 := Hak.out wr hkx
        by_cases hlm2 : m < l.length
        · have dm : decide ((m : Int) < (l.length : Int)) = true := decide_eq_true (by omega)
          have dm' : decide (m < l.length) = true := decide_eq_true hlm2
          have m0 : (0 : Int) ≤ (m : Int) := by omega
          have m1 : (m : Int) < (l.length : Int) := by omega
          cases sk with
          | false =>
            have hdead : ¬ Dom.R (Dom.Ed (gr rs)) k := fun h => by have := Hals2.out.2 h; cases this
            have Hn := Lib.hid (show loopsTo (gr rs) (k + 1) = loopsTo (gr rs) k ++ backs (gr rs) k (l.take m) by rw [loopsTo_succ, backs_dead hdead, backs_dead hdead])
            have Ho := Lib.hid hown
            have Hkx := Lib.hid hkx
            clear hown hkx hdead
            go_wp2_with fail
            go_roundw
            case rel => exact ⟨k + 1, hlk, by go_num, by rw [Hn.out]; exact Ho.out, Hkx.out⟩
            case measure => simp [intOf] <;> omega
          | true =>
            have HR := Lib.hid (Hals2.out.1 rfl)
            obtain ⟨b5, off5, rfl, _, qt⟩ := Hint.out wr (Hk2.out.trans hkx) m hlm2
            obtain ⟨tv, htv⟩ : ∃ tv, tv = l[m] := ⟨_, rfl⟩
            rw [← htv] at qt
            have Hs := Lib.hid (show backs (gr rs) k (l.take (m + 1)) = if backB (gr rs) k tv = true then backs (gr rs) k (l.take m) ++ [(k, tv.toNat)] else backs (gr rs) k (l.take m) by rw [take_snoc l hlm2, ← htv, backs_snoc])
            have Hno := Lib.hid (show ¬ backB (gr rs) k tv = true → Own pairC 2 27 wr w2.heap.size u5 (loopsTo (gr rs) k ++ backs (gr rs) k (l.take (m + 1))) from fun h => by rw [Hs.out, if_neg h]; exact hown)
            have Hkx := Lib.hid hkx
            clear htv
            by_cases t0 : tv < 0
            · have dt : decide (0 ≤ tv) = false := decide_eq_false (by omega)
              have Ho := Lib.hid (Hno.out (fun h => by have := (backB_iff.1 h).1; omega))
              clear hown hkx Hno
              go_wp2_with fail
              go_roundw
              case rel => exact ⟨m + 1, hlm2, by go_num, Ho.out, Hkx.out⟩
              case measure => simp [intOf] <;> omega
            · have dt : decide (0 ≤ tv) = true := decide_eq_true (by omega)
              obtain ⟨tb, rfl⟩ : ∃ tb : Nat, tv = (tb : Int) := ⟨tv.toNat, by omega⟩
              by_cases t1 : tb < rs.length
              · have dt1 : decide ((tb : Int) < (rs.length : Int)) = true := decide_eq_true (by omega)
                have dt1' : decide (tb < rs.length) = true := decide_eq_true t1
                have b0 : (0 : Int) ≤ (tb : Int) := by omega
                have b1 : (tb : Int) < (rs.length : Int) := by omega
                obtain ⟨b2, o2, c2, q3, q4⟩ := Hcell.out wr hkx tb k t1 hlk
                cases hb : dmB (gr rs) tb k with
                | false =>
                  rw [hb] at q4
                  have Ho := Lib.hid (Hno.out (fun h => by have := (backB_iff.1 h).2.2; rw [Int.toNat_natCast] at this; rw [dmB_iff.2 this] at hb; cases hb))
                  clear hown hkx Hno hb
                  go_wp2_with fail
                  go_roundw
                  case rel => exact ⟨m + 1, hlm2, by go_num, Ho.out, Hkx.out⟩
                  case measure => simp [intOf] <;> omega
                | true =>
                  rw [hb] at q4
                  have hbk : backB (gr rs) k (tb : Int) = true := backB_iff.2 ⟨by omega, by rw [Hlen.out]; omega, by rw [Int.toNat_natCast]; exact dmB_iff.1 hb⟩
                  have Hn := Lib.hid (show loopsTo (gr rs) k ++ backs (gr rs) k (l.take (m + 1)) = (loopsTo (gr rs) k ++ backs (gr rs) k (l.take m)) ++ [(k, tb)] by rw [Hs.out, if_pos hbk, ← List.append_assoc]; rfl)
                  have hlen : (loopsTo (gr rs) k ++ backs (gr rs) k (l.take m)).length < 1000000 := by
                    rw [List.length_append]
                    have h1 := loopsTo_le (gr_row_le Hl.out) k
                    have h2 := backs_le (gr rs) k (l.take m)
                    have h3 : k * 1000 ≤ 900 * 1000 := Nat.mul_le_mul_right _ (by omega)
                    rw [List.length_take] at h2
                    omega
                  obtain ⟨B, d, hv, B', d', w6, hrun, hown2, hE, _, _⟩ := hown.push1 elP (k, tb) hlen (by omega) hkx.size 25
                  obtain ⟨ln, hln⟩ : ∃ ln, ln = (loopsTo (gr rs) k ++ backs (gr rs) k (l.take m)).length := ⟨_, rfl⟩
                  rw [← hln] at hv hrun hown2
                  subst hv
                  have Ho := Lib.hid hown2
                  have Hk6 := Lib.hid (Keep.of_ext hkx hE (fun i hi h => by omega))
                  clear hown hkx hb hbk Hs Hno hown2 hE hlen hln
                  go_wp2_with (at_builtin; refine wpList_append_eq rfl _ _ _ rfl _ _ rfl rfl _ _ hrun ?_; clear hrun)
                  go_roundw
                  case rel => exact ⟨m + 1, hlm2, by go_num, by rw [Hn.out]; exact Ho.out, Hk6.out⟩
                  case measure => simp [intOf] <;> omega
              · have dt1 : decide ((tb : Int) < (rs.length : Int)) = false := decide_eq_false (by omega)
                have dt1' : decide (tb < rs.length) = false := decide_eq_false t1
                have Ho := Lib.hid (Hno.out (fun h => by have := (backB_iff.1 h).2.1; rw [Hlen.out] at this; omega))
                clear hown hkx Hno
                go_wp2_with fail
                go_roundw
                case rel => exact ⟨m + 1, hlm2, by go_num, Ho.out, Hkx.out⟩
                case measure => simp [intOf] <;> omega
        · have dm : decide ((m : Int) < (l.length : Int)) = false := decide_eq_false (by omega)
          have dm' : decide (m < l.length) = false := decide_eq_false hlm2
          have Hn := Lib.hid (show loopsTo (gr rs) (k + 1) = loopsTo (gr rs) k ++ backs (gr rs) k (l.take m) by rw [loopsTo_succ, Hgrow.out, List.take_of_length_le (by omega)])
          have Ho := Lib.hid hown
          have Hkx := Lib.hid hkx
          clear hown hkx
          go_wp2_with fail
          go_roundw
          case rel => exact ⟨k + 1, hlk, by go_num, by rw [Hn.out]; exact Ho.out, Hkx.out⟩
          case measure => simp [intOf] <;> omega
    · have hge : ¬ (k : Int) < (rs.length : Int) := by omega
      have hkl : k = rs.length := by omega
      have Hr := Lib.hid (show LoopsPost (gr rs) w (.returned v5) wr from ⟨v5, rfl, by
        rw [Hlen.out, ← hkl]; exact Hout.out.mono Hk2.out.size, Hk2.out.trans Hk.out⟩)
      clear hkl
      go_wp2_with fail
      go_ret
      exact Hr.out
end Go.Proofs.Ythjlfbeabobgmaa
