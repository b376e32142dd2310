/-
  The reference's Of and Loops.
-/
import Derived.Test.YthjlfbeabobgmaaDStands
namespace Go.Proofs.Ythjlfbeabobgmaa
open Go Go.RowKit

/-- The table of dominators can be read. -/
def TabAt (N : Dom.Gr) (w : World) (A : Option Addr) (n : Nat) : Prop :=
  ∀ a b, a < n → b < n → ∃ bo oo b2 o2 c2, A = some ⟨bo, oo, none⟩ ∧ w.cell? ⟨bo, oo + a, none⟩ = some (.slice (some ⟨b2, o2, none⟩) n c2) ∧ w.cell? ⟨b2, o2 + b, none⟩ = some (.bool (dmB N a b))
theorem TabAt.keep {N : Dom.Gr} {w w' : World} {A : Option Addr} {n : Nat} (h : TabAt N w A n) (hk : Keep w w') : TabAt N w' A n := fun a b ha hb => by
  obtain ⟨bo, oo, b2, o2, c2, e, h1, h2⟩ := h a b ha hb
  exact ⟨bo, oo, b2, o2, c2, e, hk.cell h1, hk.cell h2⟩
theorem tab_of {N : Dom.Gr} {w : World} {base : Nat} {v : Value} (h : BRows w base v (domTab N)) : ∃ A c, v = .slice A N.length c ∧ TabAt N w A N.length := by
  obtain ⟨rt, A, c, e1, e2, e3, e4, _, _⟩ := h.read
  have hl : rt.length = N.length := by rw [← domTab_len N, ← e1]; simp
  refine ⟨A, c, by rw [e2, hl], fun a b ha hb => ?_⟩
  have hra : a < rt.length := by omega
  obtain ⟨bo, oo, eA, _, hc⟩ := e3.elem 1 (fun _ => rfl) (by omega) hra
  have hrow : rt[a].l = domRow N a := by
    have e := congrArg (fun l => l[a]?) e1
    simp [hra, domTab, ha] at e
    exact e
  have hlen : rt[a].l.length = N.length := by rw [hrow, domRow_len]
  obtain ⟨b2, o2, eR, _, hb2⟩ := bool_at (e4 rt[a] (List.getElem_mem hra)) (Keep.refl _) (k := b) (by omega)
  have h0 := hc 0 _ rfl
  refine ⟨bo, oo, b2, o2, rt[a].c, eA, ?_, ?_⟩
  · have h1 : w.cell? ⟨bo, oo + (a * 1 + 0), none⟩ = some rt[a].v := h0
    unfold RowG.v at h1
    rw [eR, hlen] at h1
    simpa using h1
  · rw [hb2]
    have : rt[a].l[b]'(by omega) = dmB N a b := by
      have e := congrArg (fun l => l[b]?) hrow
      rw [List.getElem?_eq_getElem (by omega), List.getElem?_eq_getElem (by rw [domRow_len]; exact hb), domRow_get] at e
      exact Option.some.inj e
    rw [this]

/-- What the reference's Of leaves. -/
def RefOfPost (I : List Int) (w : World) (e : Ending) (w' : World) : Prop := ∃ v, e = .returned v ∧ Own intC 1 3 w' w.heap.size v I ∧ Keep w w'

set_option maxHeartbeats 2000000 in
set_option maxRecDepth 100000 in
theorem refOf_calls (rs : List Row) (A : Option Addr) (c : Nat) (w : World) (hg : Graph w A rs) (hn : rs.length ≤ 100000) {I : List Int} (hI : Dom.Idom (gr rs) I) :
    Calls Try.prog 13 #[.slice A rs.length c] w (RefOfPost I w) := by
  have Hst := Lib.hid (stands_calls rs A c w hg hn)
  have Hlen := Lib.hid (gr_len rs)
  have HI := Lib.hid hI
  have HIl := Lib.hid (show I.length = rs.length by rw [hI.len, gr_len])
  clear hg hI
  go_enter Try.func13, Try.ntmps13
  go_wp2_with fail
  refine Hst.out.mono ?_
  rintro e w1 ⟨v, rfl, htab, hk1⟩
  obtain ⟨At, ct, rfl, htb⟩ := tab_of htab
  have Htb := Lib.hid (show TabAt (gr rs) w1 At rs.length by have := htb; rw [gr_len] at this; exact this)
  rw [gr_len]
  have Hk1 := Lib.hid hk1
  clear htab htb hk1 Hst
  go_wp2_with fail
  go_loopw [4, 5] (fun v i wr => ∃ k : Nat, k ≤ rs.length ∧ i = .int .i64 (k : Int) ∧ Own intC 1 3 wr w1.heap.size v (I.take k) ∧ Keep w1 wr) (fun _ i _ => rs.length - (intOf i).toNat)
  case atStart => exact ⟨0, Nat.zero_le _, rfl, Own.nil _ _ _ _ _, Keep.refl _⟩
  case round =>
    obtain ⟨k, hk, rfl, hout, hkeep⟩ := hrel
    obtain ⟨v4, rfl⟩ : ∃ v, v = u4 := ⟨_, rfl⟩
    have Hout := Lib.hid hout
    have Hkeep := Lib.hid hkeep
    clear hout hkeep
    by_cases hlk : k < rs.length
    · have hkk : (k : Int) < (rs.length : Int) := by omega
      have k0 : (0 : Int) ≤ (k : Int) := by omega
      have hN : gr rs ≠ [] := fun e => by have := Hlen.out; rw [e] at this; simp at this; omega
      have HN := Lib.hid hN
      obtain ⟨bo, oo, _, _, _, rfl, _⟩ := Htb.out k k hlk hlk
      have Hcell := Lib.hid (fun (a b : Nat) (ha : a < rs.length) (hb : b < rs.length) => show ∃ b2 o2 c2, wr.cell? ⟨bo, oo + a, none⟩ = some (.slice (some ⟨b2, o2, none⟩) rs.length c2) ∧ wr.cell? ⟨b2, o2 + b, none⟩ = some (.bool (dmB (gr rs) a b)) by
        obtain ⟨_, _, b2, o2, c2, e, h1, h2⟩ := (Htb.out.keep Hkeep.out) a b ha hb
        cases e
        exact ⟨b2, o2, c2, h1, h2⟩)
      clear hN
      obtain ⟨wo, rfl⟩ : ∃ wo : World, wo = wr := ⟨_, rfl⟩
      go_wp2_with fail
      go_loop [6, 7] (fun vb va => ∃ (a : Nat) (best : Int), a ≤ rs.length ∧ va = .int .i64 (a : Int) ∧ vb = .int .i64 best ∧ Dom.Scan (gr rs) k a best) (fun _ va => rs.length - (intOf va).toNat)
      case atStart => exact ⟨0, -1, Nat.zero_le _, rfl, rfl, Dom.Scan.zero _ _⟩
      case round =>
        obtain ⟨a, best, ha, rfl, rfl, hs⟩ := hrel
        by_cases hla : a < rs.length
        · have haa : (a : Int) < (rs.length : Int) := by omega
          have a0 : (0 : Int) ≤ (a : Int) := by omega
          obtain ⟨b2, o2, c2, q1, q2⟩ := Hcell.out a k hla hlk
          by_cases hak : a = k
          · have Hs := Lib.hid (hs.no (.inl hak))
            subst hak
            have dd : ((a : Int) != (a : Int)) = false := by simp
            clear hs
            go_wp2_with fail
            go_round
            case rel => exact ⟨a + 1, best, hla, by go_num, rfl, Hs.out⟩
            case measure => simp [intOf] <;> omega
          · have dd : ((a : Int) != (k : Int)) = true := by simp; omega
            cases hd : dmB (gr rs) a k with
            | false =>
              rw [hd] at q2
              have Hs := Lib.hid (hs.no (.inr (fun h => by rw [dmB_iff.2 h] at hd; cases hd)))
              clear hs hd hak
              go_wp2_with fail
              go_round
              case rel => exact ⟨a + 1, best, hla, by go_num, rfl, Hs.out⟩
              case measure => simp [intOf] <;> omega
            | true =>
              rw [hd] at q2
              have hD := dmB_iff.1 hd
              rcases hs with ⟨rfl, hno⟩ | ⟨m, rfl, hm1, hm2, hm3, hm4⟩
              · have Hs := Lib.hid (Dom.Scan.first hno (by rw [Hlen.out]; exact hla) hak hD (fun x hx => Dom.dm_self hx) (HI.out.total HN.out hD hD).1)
                clear hno hd hak hD
                go_wp2_with fail
                go_round
                case rel => exact ⟨a + 1, (a : Int), hla, by go_num, rfl, Hs.out⟩
                case measure => simp [intOf] <;> omega
              · have hml : m < rs.length := by rw [Hlen.out] at hm1; exact hm1
                obtain ⟨b3, o3, c3, q3, q4⟩ := Hcell.out m a hml hla
                have m0 : (0 : Int) ≤ (m : Int) := by omega
                have m1 : (m : Int) < (rs.length : Int) := by omega
                have dm : decide ((m : Int) < 0) = false := decide_eq_false (by omega)
                cases hd2 : dmB (gr rs) m a with
                | true =>
                  rw [hd2] at q4
                  have Hs := Lib.hid (Dom.Scan.put HI.out HN.out hm4 (by rw [Hlen.out]; exact hla) hak hD (dmB_iff.1 hd2))
                  clear hd hd2 hak hD hm1 hm2 hm3 hm4
                  go_wp2_with fail
                  go_round
                  case rel => exact ⟨a + 1, (a : Int), hla, by go_num, rfl, Hs.out⟩
                  case measure => simp [intOf] <;> omega
                | false =>
                  rw [hd2] at q4
                  have Hs := Lib.hid (Dom.Scan.stay HI.out HN.out hm1 hm2 hm3 hm4 (fun h => by rw [dmB_iff.2 h] at hd2; cases hd2))
                  clear hd hd2 hak hD hm1 hm2 hm3 hm4
                  go_wp2_with fail
                  go_round
                  case rel => exact ⟨a + 1, (m : Int), hla, by go_num, rfl, Hs.out⟩
                  case measure => simp [intOf] <;> omega
        · have hge : ¬ (a : Int) < (rs.length : Int) := by omega
          have hal : a = rs.length := by omega
          have hfull : best = I.getD k 0 := Dom.Scan.full HI.out HN.out (by rw [Hlen.out]; exact hlk) (by rw [Hlen.out, ← hal]; exact hs)
          have hkI : k < I.length := by rw [HIl.out]; exact hlk
          have hbI : best = I[k] := by rw [hfull, List.getD_eq_getElem?_getD, List.getElem?_eq_getElem hkI]; rfl
          have hlt : (I.take k).length = k := by rw [List.length_take]; omega
          obtain ⟨B, d, hv, B', d', w3, hrun, hown, hE, _, _⟩ := Hout.out.push1 elI best (by rw [hlt]; omega) (by omega) Hkeep.out.size 29
          rw [hlt] at hv hrun hown
          subst hv
          have Hown := Lib.hid (show Own intC 1 3 w3 w1.heap.size (.slice B' (k + 1) d') (I.take (k + 1)) by rw [take_snoc I hkI, ← hbI]; exact hown)
          have Hk3 := Lib.hid (Keep.of_ext Hkeep.out hE (fun i hi h => by omega))
          clear hs hfull hbI hown hE hlt hal
          go_wp2_with (at_builtin; refine wpList_append_eq rfl _ _ _ rfl _ _ rfl rfl _ _ hrun ?_; clear hrun)
          go_roundw
          case rel => exact ⟨k + 1, hlk, by go_num, Hown.out, Hk3.out⟩
          case measure => simp [intOf] <;> omega
    · have hge : ¬ (k : Int) < (rs.length : Int) := by omega
      have Hr := Lib.hid (show RefOfPost I w (.returned v4) wr from ⟨v4, rfl, by
        have := Hout.out
        rw [List.take_of_length_le (by rw [HIl.out]; omega)] at this
        exact this.mono Hk1.out.size, Hk1.out.trans Hkeep.out⟩)
      go_wp2_with fail
      go_ret
      exact Hr.out
end Go.Proofs.Ythjlfbeabobgmaa
