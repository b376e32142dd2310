/-
  settle: the iteration to a fixed point.
-/
import Derived.Test.YthjlfbeabobgmaaDMeet
import Derived.Test.YthjlfbeabobgmaaDSweep
import Derived.WalkMore
namespace Go.Proofs.Ythjlfbeabobgmaa
open Go Go.RowKit

def nats (l : List Nat) : List Int := l.map (fun x : Nat => (x : Int))
theorem nats_len (l : List Nat) : (nats l).length = l.length := by simp [nats]
theorem nats_get {l : List Nat} {k : Nat} (h : k < (nats l).length) : (nats l)[k] = ((l[k]'(by rw [nats_len] at h; exact h) : Nat) : Int) := by simp [nats]
theorem nats_take (l : List Nat) (k : Nat) : (nats l).take k = nats (l.take k) := by simp [nats, List.map_take]

/-- What settle is given, but for the row of parents. -/
structure SetIn (N : Dom.Gr) (post : List Nat) (n : Nat) (RL : List Int) (prs : List Row) : Prop where
  pst : Dom.Post N post
  len : N.length = n
  pos : 0 < n
  lenR : RL.length = n
  rk : ∀ x (h : x < RL.length), x ∈ post → RL[x] = (Dom.rk post x : Int)
  lenP : prs.length = n
  preds : ∀ x (h : x < prs.length), x ∈ post → ∃ ps : List Nat, prs[x].l = nats ps ∧ ∀ p, p ∈ ps ↔ p ∈ post ∧ Dom.Ed N p x
  plen : ∀ x ∈ prs, x.l.length ≤ 1000000

/-- An address that does not lead into block b. -/
def Off (b : Nat) (A : Option Addr) : Prop := ∀ ad, A = some ad → ad.block ≠ b
theorem Seg.off {w w' : World} {A : Option Addr} {xs : List Value} {b : Nat} (h : Seg w A xs) (hE : Ext (fun k => k = b) w w') (ho : Off b A) : Seg w' A xs := h.ext hE (fun ad e _ => ho ad e)

/-- The row of parents in its block. -/
structure SM (n bi : Nat) (D : List Int) (w0 wr : World) : Prop where
  blk : IBlk wr bi 3 D
  len : D.length = n
  neg : ∀ x (h : x < D.length), ¬ Dom.SD D x → D[x] = -1
  ext : Ext (fun k => k = bi) w0 wr
theorem SM.keep {n bi : Nat} {D : List Int} {w0 wr wx : World} (h : SM n bi D w0 wr) (hk : Keep wr wx) : SM n bi D w0 wx := ⟨h.blk.keep hk, h.len, h.neg, h.ext.keepTrans hk⟩
theorem SM.put {n bi x : Nat} {D : List Int} {w0 wr : World} (h : SM n bi D w0 wr) (hx : x < n) (b : Nat) : SM n bi (D.set x (b : Int)) w0 (wr.setCell ⟨bi, x, none⟩ (.int .i64 (b : Int))) where
  blk := h.blk.put x _
  len := by simpa using h.len
  neg := fun y hy hn => by
    have hxl : x < D.length := by rw [h.len]; exact hx
    rw [Dom.SD_set hxl] at hn
    rw [List.getElem_set, if_neg (fun e => hn (.inr e.symm))]
    exact h.neg y (by simpa using hy) (fun h1 => hn (.inl h1))
  ext := h.ext.setCell (p := ⟨bi, x, none⟩) (fun _ => rfl) _

/-- Where the outer loop stands. -/
def OutSt (E : Nat → Nat → Prop) (rank : Nat → Nat) (D : List Int) (K g : Nat) (ch : Bool) : Prop :=
  (ch = true ∧ ∃ k, k ≤ K + 1 ∧ K + 2 - k ≤ g ∧ Dom.Sw E rank D K k (rank 0) false) ∨ (ch = false ∧ Dom.Fin E rank D)

theorem SetIn.lay {N : Dom.Gr} {post : List Nat} {n : Nat} {RL : List Int} {prs : List Row} (h : SetIn N post n RL prs) {D : List Int} (hl : D.length = n) (hT : Dom.Tree (Dom.Ed N) (Dom.rk post) (Dom.SD D) (Dom.fD D)) : Lay n RL D (Dom.rk post) (Dom.fD D) (Dom.SD D) := by
  have hN : N ≠ [] := fun e => by have := h.pos; rw [← h.len, e] at this; exact Nat.lt_irrefl _ this
  have hm : ∀ x, Dom.SD D x → x ∈ post := fun x hx => (h.pst.mem x).2 ⟨hN, hT.reach x hx⟩
  exact ⟨h.lenR, hl, fun x hx => hl ▸ hx.lt, fun x hx hS => h.rk x hx (hm x hS), fun x hx hS => hS.eq hx, fun x y hx hy e => Dom.rk_inj (hm x hx) (hm y hy) e, fun x hx h0 => h.pst.rk_le (hm x hx) h0⟩

set_option maxHeartbeats 2000000 in
theorem settle_calls {N : Dom.Gr} {post : List Nat} {n : Nat} {RL : List Int} {prs : List Row} (hin : SetIn N post n RL prs) (A1 A2 A3 : Option Addr) (c1 c2 c3 bi : Nat) (w : World)
    (hs1 : Seg w A1 ((nats post).flatMap intC)) (hs2 : Seg w A2 (RL.flatMap intC)) (hs3 : Seg w A3 (prs.flatMap rowC)) (hs4 : ∀ x ∈ prs, Seg w x.a (x.l.flatMap intC)) (o1 : Off bi A1) (o2 : Off bi A2) (o3 : Off bi A3) (o4 : ∀ x ∈ prs, Off bi x.a)
    (hn : n ≤ 1000000) (hm : post.length ≤ 1000000) (hb : IBlk w bi 3 ((List.replicate n (-1)).set 0 0)) :
    Calls Try.prog 23 #[.slice A1 post.length c1, .slice A2 n c2, .slice (some ⟨bi, 0, none⟩) n n, .slice A3 n c3] w fun e w' => (∃ v, e = .returned v) ∧ ∃ D, SM n bi D w w' ∧ Dom.Fin (Dom.Ed N) (Dom.rk post) D := by
  have hN : N ≠ [] := fun e => by have := hin.pos; rw [← hin.len, e] at this; exact Nat.lt_irrefl _ this
  obtain ⟨K, hK0⟩ := Dom.bound_exists (Dom.Ed N) (Dom.rk post) n
  obtain ⟨hroot, hrk0⟩ := hin.pst.root_rk hN
  have htop : ∀ a, Dom.R (Dom.Ed N) a → a ≠ 0 → Dom.rk post a < Dom.rk post 0 := fun a ha h0 => hin.pst.rk_le ((hin.pst.mem a).2 ⟨hN, ha⟩) h0
  have hinj : ∀ x y, Dom.R (Dom.Ed N) x → Dom.R (Dom.Ed N) y → Dom.rk post x = Dom.rk post y → x = y := fun x y hx hy e => Dom.rk_inj ((hin.pst.mem x).2 ⟨hN, hx⟩) ((hin.pst.mem y).2 ⟨hN, hy⟩) e
  have Hfirst := Lib.hid (show SM n bi ((List.replicate n (-1)).set 0 0) w w ∧ OutSt (Dom.Ed N) (Dom.rk post) ((List.replicate n (-1)).set 0 0) K (K + 2) true from
    ⟨⟨hb, by simp, fun x hx hS => by
        rw [List.getElem_set]
        by_cases e : 0 = x
        · subst e
          exact absurd (show Dom.SD ((List.replicate n (-1)).set 0 0) 0 by unfold Dom.SD; simp [hin.pos]) hS
        · rw [if_neg e]; simp, Ext.refl _ _⟩,
     .inl ⟨rfl, 0, by omega, by omega, Dom.Sw.first hin.pos hK0 htop rfl⟩⟩)
  have Hin := Lib.hid hin
  have HK := Lib.hid hK0
  have Htop := Lib.hid htop
  have Hinj := Lib.hid hinj
  have HN := Lib.hid hN
  have hml : post.length = Dom.rk post 0 + 1 := hrk0.symm
  have Hs1 := Lib.hid (fun (wr : World) (hE : Ext (fun k => k = bi) w wr) => hs1.off hE o1)
  have Hs2 := Lib.hid (fun (wr : World) (hE : Ext (fun k => k = bi) w wr) => hs2.off hE o2)
  have Hs3 := Lib.hid (fun (wr : World) (hE : Ext (fun k => k = bi) w wr) => hs3.off hE o3)
  have Hs4 := Lib.hid (fun (wr : World) (hE : Ext (fun k => k = bi) w wr) x (hx : x ∈ prs) => (hs4 x hx).off hE (o4 x hx))
  obtain ⟨m, hmm⟩ : ∃ m, m = post.length := ⟨_, rfl⟩
  have Hmm := Lib.hid hmm
  rw [← hmm] at hm hml ⊢
  have Hml := Lib.hid hml
  have hm1 : 1 ≤ m := by omega
  clear hin hK0 htop hinj hN hrk0 hroot hs1 hs2 hs3 hs4 o1 o2 o3 o4 hb hmm hml
  go_enter Try.func23, Try.ntmps23
  go_wp2_with fail
  go_loopg [8] (K + 2) (fun g v wr => ∃ D ch, v = .bool ch ∧ SM n bi D w wr ∧ OutSt (Dom.Ed N) (Dom.rk post) D K g ch)
  case atStart => exact ⟨_, true, rfl, Hfirst.out.1, Hfirst.out.2⟩
  case round =>
    clear Hfirst
    obtain ⟨D, ch, rfl, hSM, hst⟩ := hrel
    obtain ⟨go, rfl⟩ : ∃ go : Nat, go = gk := ⟨_, rfl⟩
    rcases hst with ⟨rfl, k, hkK, hkg, hsw⟩ | ⟨rfl, hfin⟩
    · have Hst0 := Lib.hid (show SM n bi D w wr ∧ Dom.Sw (Dom.Ed N) (Dom.rk post) D K k (m - 1) false from ⟨hSM, by rw [show m - 1 = Dom.rk post 0 by have := Hml.out; omega]; exact hsw⟩)
      clear hSM hsw
      obtain ⟨wo, rfl⟩ : ∃ wo : World, wo = wr := ⟨_, rfl⟩
      go_wp2_with fail
      go_step3
      go_wp2_with fail
      go_step3
      go_wp2_with fail
      go_loopw [8, 9] (fun v8 v9 wi => ∃ D ch j z, v8 = .bool ch ∧ v9 = .int .i64 z ∧ z + 1 = ((j : Nat) : Int) ∧ j + 1 ≤ m ∧ SM n bi D w wi ∧ Dom.Sw (Dom.Ed N) (Dom.rk post) D K k j ch) (fun _ v9 _ => (intOf v9 + 1).toNat)
      case atStart => exact ⟨D, false, m - 1, _, rfl, rfl, by omega, by omega, Hst0.out.1, Hst0.out.2⟩
      case round =>
        clear Hst0
        obtain ⟨D, ch, j, z, rfl, rfl, hz, hj, hSM, hsw⟩ := hrel
        rcases Nat.eq_zero_or_pos j with hj0 | hj0
        · subst hj0
          obtain rfl : z = -1 := by omega
          have hnext : OutSt (Dom.Ed N) (Dom.rk post) D K (go - 1) ch ∧ go - 1 < go := by
            have hg0 : 0 < go := by omega
            refine ⟨?_, by omega⟩
            cases ch with
            | false => exact .inr ⟨rfl, hsw.fin⟩
            | true =>
              have hk2 : ¬ K < k := fun h => by have := (hsw.late h).1; cases this
              exact .inl ⟨rfl, k + 1, by omega, by omega, hsw.again (by rw [hSM.len]; exact HK.out) Htop.out rfl⟩
          have Hnext := Lib.hid hnext
          have HSM := Lib.hid hSM
          clear hnext hSM hsw
          go_wp2_with fail
          rw [Exit.noGoto_normal]
          go_wp2_with fail
          go_roundg (go - 1)
          case measure => exact Hnext.out.2
          case rel => exact ⟨D, ch, rfl, HSM.out, Hnext.out.1⟩
        · obtain ⟨t, rfl⟩ : ∃ t, j = t + 1 := ⟨j - 1, by omega⟩
          obtain rfl : z = (t : Int) := by omega
          have hin := Hin.out
          have htp : t < post.length := by have := Hmm.out; omega
          obtain ⟨x, hxd⟩ : ∃ x, x = post[t] := ⟨_, rfl⟩
          have hxp : x ∈ post := by rw [hxd]; exact List.getElem_mem htp
          have hxr : Dom.rk post x = t := Dom.rk_of hin.pst.nodup (by rw [List.getElem?_eq_getElem htp, hxd])
          have hx0 : x ≠ 0 := fun e => by rw [e] at hxr; have := Hml.out; omega
          have hxn : x < n := by have := hin.pst.lt x hxp; rw [hin.len] at this; exact this
          have hxR := ((hin.pst.mem x).1 hxp).2
          have hxl : x < prs.length := by rw [hin.lenP]; exact hxn
          obtain ⟨ps, hps, hpm⟩ := hin.preds x hxl hxp
          have hpl : ps.length ≤ 1000000 := by have := hin.plen prs[x] (List.getElem_mem hxl); rw [hps, nats_len] at this; exact this
          obtain ⟨ba, oa, rfl, _, qa⟩ := int_at (Hs1.out wr hSM.ext) (Keep.refl _) (k := t) (by rw [nats_len]; exact htp)
          rw [nats_get, ← hxd] at qa
          obtain ⟨b3, off3, rfl, _, qr⟩ := row_at (Hs3.out wr hSM.ext) (Keep.refl _) hxl
          have Hrow := Lib.hid (fun (wx : World) (hE : Ext (fun k => k = bi) w wx) => (show Seg wx prs[x].a ((nats ps).flatMap intC) by have := Hs4.out wx hE prs[x] (List.getElem_mem hxl); rw [hps] at this; exact this))
          rw [hps, nats_len] at qr
          obtain ⟨Ax, hAx⟩ : ∃ A, A = prs[x].a := ⟨_, rfl⟩
          obtain ⟨cx, hcx⟩ : ∃ c, c = prs[x].c := ⟨_, rfl⟩
          rw [← hAx, ← hcx] at qr
          rw [← hAx] at Hrow
          have hmem : ∀ p, Dom.SD D p → p ∈ post := fun p hp => (hin.pst.mem p).2 ⟨HN.out, hsw.tree.reach p hp⟩
          have hlay := hin.lay hSM.len hsw.tree
          have Hbest := Lib.hid (fun best (hB : Dom.BestTo D ps best) => (show ∃ b : Nat, best = (b : Int) ∧ Dom.Best (Dom.Ed N) (Dom.rk post) (Dom.SD D) (Dom.fD D) x b by
            obtain ⟨p, h1, h2, h3⟩ := hin.pst.pred hxp hx0
            have hpS := (hsw.done p ((hin.pst.mem p).1 h1).2 (by omega)).1
            exact hB.end_ (fun q hq => ⟨fun h => ((hpm q).1 h).2, fun h => (hpm q).2 ⟨hmem q hq, h⟩⟩) hpS h2 h3))
          have Hplt := Lib.hid (fun p (hp : p ∈ ps) => (show p < n by have := hin.pst.lt p ((hpm p).1 hp).1; rw [hin.len] at this; exact this))
          have Hlay := Lib.hid hlay
          have HSM := Lib.hid hSM
          have Hsw := Lib.hid hsw
          have Hx0 := Lib.hid hx0
          have HxR := Lib.hid hxR
          have Hxr := Lib.hid hxr
          have t0 : (0 : Int) ≤ (t : Int) := by omega
          have t1 : (t : Int) < (m : Int) := by omega
          have x0 : (0 : Int) ≤ (x : Int) := by omega
          have x1 : (x : Int) < (n : Int) := by omega
          clear hin htp hxd hxp hxr hx0 hxR hxl hps hpm hmem hlay hSM hsw hAx hcx hz
          obtain ⟨wi, rfl⟩ : ∃ wi : World, wi = wr := ⟨_, rfl⟩
          go_wp2_with fail
          go_loopw [11, 31] (fun vb vt wx => ∃ (t2 : Nat) (best : Int), vt = .int .i64 (t2 : Int) ∧ t2 ≤ ps.length ∧ vb = .int .i64 best ∧ Dom.BestTo D (ps.take t2) best ∧ Keep wi wx) (fun _ vt _ => ps.length - (intOf vt).toNat)
          case atStart => exact ⟨0, -1, rfl, Nat.zero_le _, rfl, by rw [List.take_zero]; exact Dom.BestTo.nil, Keep.refl _⟩
          case round =>
            obtain ⟨t2, best, rfl, ht2, rfl, hB, hkx⟩ := hrel
            clear qa qr
            have HSMx := Lib.hid (HSM.out.keep hkx)
            by_cases hlt : t2 < ps.length
            · have hkk : (t2 : Int) < (ps.length : Int) := by omega
              have hk0 : (0 : Int) ≤ (t2 : Int) := by omega
              obtain ⟨p, hpd⟩ : ∃ p, p = ps[t2] := ⟨_, rfl⟩
              have hpn : p < n := Hplt.out p (by rw [hpd]; exact List.getElem_mem hlt)
              obtain ⟨b4, off4, rfl, _, qp⟩ := int_at (Hrow.out wr HSMx.out.ext) (Keep.refl _) (k := t2) (by rw [nats_len]; exact hlt)
              rw [nats_get, ← hpd] at qp
              have hpl2 : p < D.length := by rw [HSMx.out.len]; exact hpn
              have qd := HSMx.out.blk.get hpl2
              have Htake := Lib.hid (show ps.take (t2 + 1) = ps.take t2 ++ [p] by rw [take_snoc ps hlt, hpd])
              have p0 : (0 : Int) ≤ (p : Int) := by omega
              have p1 : (p : Int) < (n : Int) := by omega
              have Hkx := Lib.hid hkx
              clear hpd hkx
              by_cases hS : Dom.SD D p
              · rw [hS.eq hpl2] at qd
                have HS := Lib.hid hS
                rcases hB with ⟨rfl, hno⟩ | ⟨b, rfl, hSb, hex, hall⟩
                · have Hn := Lib.hid (Dom.BestTo.first hno hS)
                  clear hno hS
                  go_wp2_with fail
                  go_roundw
                  case rel => exact ⟨t2 + 1, (p : Int), by go_num, hlt, rfl, by rw [Htake.out]; exact Hn.out, Hkx.out⟩
                  case measure => simp [intOf] <;> omega
                · have Hmeet := Lib.hid (meet_calls Hsw.out.tree Hlay.out A2 (some ⟨bi, 0, none⟩) c2 n wr (Hs2.out wr HSMx.out.ext) HSMx.out.blk.seg hn hSb hS)
                  have Hex := Lib.hid hex
                  have Hall := Lib.hid hall
                  have hb0 : decide ((b : Int) < 0) = false := decide_eq_false (by omega)
                  clear hS hSb hex hall
                  go_wp2_with fail
                  refine Hmeet.out.mono ?_
                  rintro e w' ⟨c, rfl, hSc, hcall, hk⟩
                  have Hn := Lib.hid (Dom.BestTo.meet Hex.out Hall.out HS.out hSc hcall)
                  have Hk2 := Lib.hid (Hkx.out.trans hk)
                  clear hSc hcall hk
                  go_wp2_with fail
                  go_roundw
                  case rel => exact ⟨t2 + 1, (c : Int), by go_num, hlt, rfl, by rw [Htake.out]; exact Hn.out, Hk2.out⟩
                  case measure => simp [intOf] <;> omega
              · have hD : D[p] < 0 := by
                  rcases Int.lt_or_le D[p] 0 with h | h
                  · exact h
                  · exact absurd ((Dom.SD_iff hpl2).2 h) hS
                have Hn := Lib.hid (hB.pass hS)
                obtain ⟨dp, hdp⟩ : ∃ dp, dp = D[p] := ⟨_, rfl⟩
                rw [← hdp] at qd hD
                have dd : decide (dp < 0) = true := decide_eq_true hD
                clear hdp hB hS
                go_wp2_with fail
                go_roundw
                case rel => exact ⟨t2 + 1, best, by go_num, hlt, rfl, by rw [Htake.out]; exact Hn.out, Hkx.out⟩
                case measure => simp [intOf] <;> omega
            · have hge : ¬ (t2 : Int) < (ps.length : Int) := by omega
              rw [List.take_of_length_le (by omega)] at hB
              obtain ⟨b, rfl, hbest⟩ := Hbest.out _ hB
              have hxl2 : x < D.length := by rw [HSMx.out.len]; exact hxn
              have qx := HSMx.out.blk.get hxl2
              have fx := HSMx.out.blk.frozen x
              have lx := HSMx.out.blk.lt
              by_cases he : (b : Int) = D[x]
              · have hSx : Dom.SD D x := (Dom.SD_iff hxl2).2 (by omega)
                have hfx : Dom.fD D x = b := by have := hSx.eq hxl2; omega
                have Hn := Lib.hid (Hsw.out.keep HxR.out Hxr.out Hx0.out Hinj.out hSx (by rw [hfx]; exact hbest))
                rw [← he] at qx
                have dbb : ((b : Int) == (b : Int)) = true := by simp
                clear hB hbest he hSx hfx hkx
                go_wp2_with fail
                go_roundw
                case rel => exact ⟨D, ch, t, _, rfl, rfl, by omega, by omega, HSMx.out, Hn.out⟩
                case measure => simp [intOf] <;> omega
              · have Hn := Lib.hid (Hsw.out.put HxR.out Hxr.out Hx0.out Hinj.out hxl2 hbest he)
                have HSM2 := Lib.hid (HSMx.out.put hxn b)
                obtain ⟨dx, hdx⟩ : ∃ dx, dx = D[x] := ⟨_, rfl⟩
                rw [← hdx] at qx he
                have dbb : ((b : Int) == dx) = false := by simpa using he
                clear hB hbest he hdx hkx
                go_wp2_with fail
                go_roundw
                case rel => exact ⟨_, true, t, _, rfl, rfl, by omega, by omega, HSM2.out, Hn.out⟩
                case measure => simp [intOf] <;> omega
    · have Hfin := Lib.hid hfin
      have HSM := Lib.hid hSM
      clear hfin hSM
      go_wp2_with fail
      go_end0
      exact ⟨⟨_, rfl⟩, D, HSM.out, Hfin.out⟩
end Go.Proofs.Ythjlfbeabobgmaa
