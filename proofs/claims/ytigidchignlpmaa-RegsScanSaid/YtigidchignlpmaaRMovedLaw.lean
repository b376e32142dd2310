/-
  The law on shifted live ranges.
-/
import Derived.Test.YtigidchignlpmaaRSoundLaw
import Derived.Test.YtigidchignlpmaaRMoved1
namespace Go.Proofs.Ytigidchignlpmaa
open Go Go.RowKit Rg

theorem u16_nat {n : Int} (h : (Lit.int .u16 n).wf = true) : ∃ a : Nat, n = (a : Int) ∧ a < 65536 := by
  simp [Lit.wf] at h
  have h1 : IntKind.u16.min = 0 := by decide
  have h2 : IntKind.u16.max = 65535 := by decide
  exact ⟨n.toNat, by omega, by omega⟩
theorem placeNe (p r : Bool × Int) (h : p = r) (w : World) : (binOp .neq 47 (.agg #[.bool p.1, .int .i64 p.2]) (.agg #[.bool r.1, .int .i64 r.2])).run Try.prog w = .ok (.bool false) w := by
  have h1 := placeEq p r w
  rw [decide_eq_true h] at h1
  exact neq_of_eql h1
theorem rng_w64 {x : LvD} {d : Nat} (hd : d < 65536) (hm : may x.l = true) (hf : fin x.l ≤ 1099511627776) {r : Rng} (hr : r ∈ x.l) : (0 ≤ r.1 ∧ r.1 ≤ 1099511627776 ∧ 0 ≤ r.2 ∧ r.2 ≤ 1099511627776) ∧ W64 (r.1 + (d : Int)) ∧ W64 (r.2 + (d : Int)) := by
  obtain ⟨h0, _, h1⟩ := may_bounds hm
  have h2 := h1 r hr
  refine ⟨⟨by omega, by omega, by omega, by omega⟩, w64_of ⟨by omega, by omega⟩, w64_of ⟨by omega, by omega⟩⟩

set_option maxHeartbeats 8000000 in
set_option maxRecDepth 100000 in
theorem regsMoved_good (A : Option Addr) (ls : List LvD) (c : Nat) (a d sl : Nat) (ha : a < 256) (hdd : d < 65536) (hsl : sl < 256) (w : World) (hl : Lives w A ls) (hfb : fewB ls = true) :
    Calls Try.prog 7 #[.slice A ls.length c, .int .u8 (a : Int), .int .u16 (d : Int), .int .u8 (sl : Int)] w fun e w' => e = .returned (.bool true) ∧ Keep w w' := by
  have Hf := Lib.hid (few_calls A ls c w hl)
  rw [hfb] at Hf
  have HA := Lib.hid (fun wz => alive_calls wz)
  have h60 := (few_true hfb).1
  have H20 := Lib.hid (few_true hfb).2
  obtain ⟨k, hak, hk⟩ := mod17 a
  have Hl := Lib.hid hl
  clear hl hfb
  go_enter Try.func7, Try.ntmps7
  go_wp2_with fail
  refine Hf.out.mono ?_
  rintro e w1 ⟨rfl, k1⟩
  go_wp2_with fail
  go_loopw [9, 10] (fun vm vi wr => ∃ (i : Nat) (out : List LvD), i ≤ ls.length ∧ vi = .int .i64 i ∧ Hid (MvAt w wr vm ls d i out) ∧ Hid (∀ x ∈ ls.take i, Rg.may x.l = true ∧ fin x.l ≤ 1099511627776)) (fun _ i _ => ls.length - (intOf i).toNat)
  case atStart => exact ⟨0, [], Nat.zero_le _, rfl, Lib.hid ⟨Own.nil _ _ _ _ _, fun x hx => by simp at hx, rfl, k1⟩, Lib.hid (fun x hx => by simp at hx)⟩
  case round =>
    clear k1
    obtain ⟨i, out, hi, rfl, hmv, hall⟩ := hrel
    by_cases hin : i < ls.length
    · obtain ⟨x, hx⟩ := get_some hin
      obtain ⟨bA, offA, hA, hbA, x0, x1, xok⟩ := Hl.out.get hmv.out.keep hx
      have xok0 := Hl.out.ok x (List.mem_of_getElem? hx)
      subst hA
      have hbl := Nat.lt_of_lt_of_le hbA hmv.out.keep.size
      have hii : (i : Int) < (ls.length : Int) := by omega
      have hi0 : (0 : Int) ≤ (i : Int) := by omega
      have HM := Lib.hid (rMay_calls x.val x.a x.l x.c wr xok.seg xok.len)
      have Hx := Lib.hid hx
      have Hxok := Lib.hid xok
      have Hxok0 := Lib.hid xok0
      clear hx xok xok0
      cases hm : Rg.may x.l with
      | false =>
        rw [hm] at HM
        go_wp2_with fail
        refine HM.out.mono ?_
        rintro e w4 ⟨rfl, k4⟩
        go_wp2_with fail
        refine (HA.out w4).mono ?_
        rintro e w5 ⟨rfl, k5⟩
        go_wp2_with fail
        go_ret
        exact ⟨rfl, (hmv.out.keep.trans k4).trans k5⟩
      | true =>
        rw [hm] at HM
        go_wp2_with fail
        refine HM.out.mono ?_
        rintro e w4 ⟨rfl, k4⟩
        have x04 := k4.cell x0
        have x14 := k4.cell x1
        have hbl4 := Nat.lt_of_lt_of_le hbl k4.size
        have HE := Lib.hid (rEnd_calls x.val x.a x.l x.c w4 (Hxok.out.keep k4).seg (may_len hm) Hxok.out.len)
        go_wp2_with fail
        refine HE.out.mono ?_
        rintro e w5 ⟨rfl, k5⟩
        have k45 := k4.trans k5
        have x05 := k5.cell x04
        have x15 := k5.cell x14
        have hbl5 := Nat.lt_of_lt_of_le hbl4 k5.size
        clear x0 x1 x04 x14 hbl hbl4 HM HE
        by_cases hle : (1099511627776 : Int) < fin x.l
        · go_wp2_with fail
          refine (HA.out w5).mono ?_
          rintro e w6 ⟨rfl, k6⟩
          go_wp2_with fail
          go_ret
          exact ⟨rfl, (hmv.out.keep.trans k45).trans k6⟩
        · have hled : decide ((1099511627776 : Int) < fin x.l) = false := decide_eq_false hle
          have Hmv5 := Lib.hid (hmv.out.keepy k45)
          have Hm := Lib.hid hm
          clear hmv k4 k5 k45
          obtain ⟨V, hV⟩ : ∃ V, bits BinOp.xor IntKind.i64 x.val 1 = V := ⟨_, rfl⟩
          obtain ⟨w6, hw6, k6, bx⟩ := box2 w5 45 (.int .i64 V) (.slice none 0 0)
          have hx20 := H20.out x (List.mem_of_getElem? Hx.out)
          have hdt : ((d : Int)) = ((d : Nat) : Int) := rfl
          go_wp2_with fail
          rw [← hw6]
          clear hw6 hdt
          have Hbx := Lib.hid bx
          have Hk6 := Lib.hid k6
          clear bx k6 x05 x15
          go_loopw [12] (fun vj wz => ∃ (j : Nat) (R : Option Addr) (rc : Nat), j ≤ x.l.length ∧ vj = .int .i64 j ∧ Hid (Blk wz w5.heap.size 45 [.int .i64 V, .slice R j rc]) ∧ Hid (Own rngC 2 54 wz (w5.heap.size + 1) (.slice R j rc) ((x.l.take j).map (shR (d : Int)))) ∧ Hid (Keep w5 wz)) (fun vj _ => x.l.length - (intOf vj).toNat)
          case atStart => exact ⟨0, none, 0, Nat.zero_le _, rfl, Hbx, Lib.hid (Own.nil _ _ _ _ _), Hk6⟩
          case round =>
            clear Hbx Hk6
            obtain ⟨j, R, rc, hj, rfl, Hb, Hown, Hk⟩ := hrel
            obtain ⟨bA2, offA2, e3, _, x0, x1, xok⟩ := Hl.out.get (Hmv5.out.keep.trans Hk.out) Hx.out
            cases e3
            have hblz := Nat.lt_of_lt_of_le hbl5 Hk.out.size
            have q1 : wr.cell? ⟨w5.heap.size, 1, none⟩ = some (.slice R j rc) := Hb.out.cell 1
            have q0 : wr.cell? ⟨w5.heap.size, 0, none⟩ = some (.int .i64 V) := Hb.out.cell 0
            have lq := Hb.out.lt
            by_cases hjn : j < x.l.length
            · obtain ⟨r, hr⟩ := get_some hjn
              obtain ⟨b2, off2, e4, hb2, r0, r1⟩ := rng_get Hxok0.out.seg (Hmv5.out.keep.trans Hk.out) hr
              have hb2l := Nat.lt_of_lt_of_le hb2 (Hmv5.out.keep.trans Hk.out).size
              rw [e4] at x1
              clear e4
              obtain ⟨⟨p1, p2, p3, p4⟩, _, _⟩ := rng_w64 hdd Hm.out (by omega) (List.mem_of_getElem? hr)
              have hjj : (j : Int) < (x.l.length : Int) := by omega
              have hj0 : (0 : Int) ≤ (j : Int) := by omega
              have hlen : ((x.l.take j).map (shR (d : Int))).length = j := by simp; omega
              have Ht := Lib.hid (show (x.l.take (j + 1)).map (shR (d : Int)) = (x.l.take j).map (shR (d : Int)) ++ [shR (d : Int) r] by rw [List.take_add_one, hr, List.map_append]; rfl)
              obtain ⟨wd, hwd⟩ : ∃ wd, wr.drew = wd := ⟨_, rfl⟩
              have hkd : Keep wr wd := by rw [← hwd]; exact (Keep.refl _).drew
              have nF : ∀ k, (Value.slice R j rc).ownBlock = some k → w5.heap.size + 1 ≤ k := fun k hk => (Hown.out.lt k hk).1
              have hbase : w5.heap.size + 1 ≤ wd.heap.size := Nat.le_trans (Nat.succ_le_of_lt lq) hkd.size
              obtain ⟨R0, rc0, hv, R', rc', w7, hrun, hown7, hE7, hbl7, hB7⟩ := (Hown.out.keep hkd).push1 elRng (shR (d : Int) r) (by rw [hlen]; omega) (by omega) hbase 43
              rw [hlen] at hrun hown7
              clear hv
              replace hrun : (Builtin.append_ #[43, 43] 43 #[.slice R j rc, .slice (some ⟨wd.heap.size, 0, none⟩) 1 1]).run Try.prog (wd.alloc (.cells #[.int .i64 (r.1 + (d : Int)), .int .i64 (r.2 + (d : Int))] 54)) = .ok (.slice R' (j + 1) rc') w7 := hrun
              have hEd : Ext (fun k => (Value.slice R j rc).ownBlock = some k) wd w7 := ⟨hE7.os, hE7.tape, hE7.output, hE7.size, fun k hk hn => hbl7 k hk hn⟩
              have hE : Ext (fun k => (Value.slice R j rc).ownBlock = some k) wr w7 := (hkd.ext _).trans hEd (fun _ _ h => h)
              have nq : ¬ (Value.slice R j rc).ownBlock = some w5.heap.size := fun e => by have := nF _ e; omega
              have nlow : ∀ k, k < w5.heap.size → ¬ (Value.slice R j rc).ownBlock = some k := fun k hk e => by have := nF _ e; omega
              have hb2w5 : b2 < w5.heap.size := Nat.lt_of_lt_of_le hb2 Hmv5.out.keep.size
              have hbw5 := hbl5
              have kq1 := fun y : KE (fun k => (Value.slice R j rc).ownBlock = some k) wr => y.cell (v := .slice R j rc) q1 nq
              have kx1 := fun y : KE (fun k => (Value.slice R j rc).ownBlock = some k) wr => y.cell x1 (nlow _ hbw5)
              have kr0 := fun y : KE (fun k => (Value.slice R j rc).ownBlock = some k) wr => y.cell r0 (nlow _ hb2w5)
              have kr1 := fun y : KE (fun k => (Value.slice R j rc).ownBlock = some k) wr => y.cell r1 (nlow _ hb2w5)
              have Hbb := Lib.hid (show ∀ W : World, Ext (fun k => (Value.slice R j rc).ownBlock = some k) wr W → ∃ y : KE (fun k => (Value.slice R j rc).ownBlock = some k) wr, W = y.val from fun W hW => KE.mk' hW)
              have b7 := Hb.out.ext hE nq
              have c7 : w7.cell? ⟨w5.heap.size, 1, none⟩ = some (.slice R j rc) := b7.cell 1
              have f7 := b7.frozen 1
              have l7 := b7.lt
              have nF2 : ∀ k, (Value.slice R' (j + 1) rc').ownBlock = some k → ¬ k = w5.heap.size := fun k hk => by have := (hown7.lt k hk).1; omega
              obtain ⟨W, hW⟩ : ∃ W : World, W = w7.setCell ⟨w5.heap.size, 1, none⟩ (.slice R' (j + 1) rc') := ⟨_, rfl⟩
              have Hfin := Lib.hid (show Blk W w5.heap.size 45 [.int .i64 V, .slice R' (j + 1) rc'] ∧ Own rngC 2 54 W (w5.heap.size + 1) (.slice R' (j + 1) rc') ((x.l.take (j + 1)).map (shR (d : Int))) ∧ Keep w5 W from by
                rw [hW, Ht.out]
                exact ⟨b7.set_ 1 _, hown7.put_far (p := ⟨w5.heap.size, 1, none⟩) nF2 _, (Keep.of_ext Hk.out hE nlow).setCell (p := ⟨w5.heap.size, 1, none⟩) (Nat.le_refl _) _⟩)
              have HEd := Lib.hid hE
              have HE1 := Lib.hid (show Ext (fun k => (Value.slice R j rc).ownBlock = some k) wr wd from hkd.ext _)
              have s1 : IntKind.i64.wrap (r.1 + (d : Int)) = r.1 + (d : Int) := IntWalk.i64_in _ (by omega)
              have s2 : IntKind.i64.wrap (r.2 + (d : Int)) = r.2 + (d : Int) := IntWalk.i64_in _ (by omega)
              clear b7 hown7 hE hEd hE7 hbl7 hB7 hkd Hb Hown xok nF nF2 nq nlow hr hbase
              go_wp2_with fail
              refine tail_begin (S := fun w' => ∃ y : KE (fun k => (Value.slice R j rc).ownBlock = some k) wr, w' = y.val) [30] (by kernel_rfl) ?_
              rw [hwd]
              clear q0 q1 x0 x1 r0 r1
              refine tail_take [0, 1, 2, 3, 4, 5, 6, 7, 8, 9, 10, 11, 12, 13, 14, 15, 16, 17, 18, 19, 20, 21, 22, 23, 24, 25, 26] [] 4 (by kernel_rfl) (by kernel_rfl) (Hbb.out _ HE1.out) ?_
              show wpQuiet _ _ _ _ [_, _, _, _, _, _, _, _, _, _, _, _, _, _, _, _, _, _, _, _, _, _, _, _, _, _, _] _
              repeat (go_big_quiet_step (fail))
              refine wpQuiet_nil ?_
              clear kq1 kx1 kr0 kr1
              refine tail_fix (i := 27) (fuel := 3) rfl (by kernel_rfl) (fun K hK => ?_)
              go_simp
              refine hK _ _ (fun _ => Hbb.out _ (HE1.out.alloc _)) ?_
              clear hK K
              refine tail_fixU (i := 28) (fuel := 2) rfl rfl (by kernel_rfl) (fun K hK => ?_)
              refine wp_append_eq _ _ _ rfl _ _ rfl rfl _ _ hrun ?_
              refine hK _ _ (fun _ => Hbb.out _ HEd.out) ?_
              clear hK K
              simp only [Act.put, List.setIfInBounds_toArray, List.set_cons_succ, List.set_cons_zero]
              refine tail_fix (i := 29) (fuel := 1) rfl (by kernel_rfl) (fun K hK => ?_)
              go_simp
              refine hK _ _ (fun _ => Hbb.out _ HEd.out) ?_
              clear hK K
              refine tail_fix (i := 30) (fuel := 0) rfl (by kernel_rfl) (fun K hK => ?_)
              go_simp
              refine hK _ _ (fun h => absurd h (by decide)) ?_
              clear hK K
              refine tail_done (by kernel_rfl) ?_
              rw [← hW]
              clear hW hrun c7 f7 l7 Hbb HEd HE1 lq hblz hb2l s1 s2
              go_wp2
              go_roundw
              case rel => exact ⟨j + 1, R', rc', hjn, by go_num, Lib.hid Hfin.out.1, Lib.hid Hfin.out.2.1, Lib.hid Hfin.out.2.2⟩
              case measure => simp [intOf]; omega
            · have hjl : j = x.l.length := by omega
              have Hall2 := Lib.hid (show ∀ z ∈ ls.take (i + 1), Rg.may z.l = true ∧ fin z.l ≤ 1099511627776 from fun z hz => by
                rw [List.take_add_one, Hx.out] at hz
                rcases List.mem_append.1 hz with h1 | h1
                · exact hall.out z h1
                · have : z = x := by simpa using h1
                  rw [this]; exact ⟨Hm.out, by omega⟩)
              subst hjl
              have hown0 := Hown.out
              rw [List.take_length] at hown0
              have hlx : (x.l.map (shR (d : Int))).length = x.l.length := by simp
              obtain ⟨Am, cm, rfl, A', c', w8, hrun, hmv8⟩ := (Hmv5.out.keepy Hk.out).push (x := x) (y := ⟨V, R, x.l.map (shR (d : Int)), rc⟩) Hx.out rfl (by
                show Own rngC 2 54 wr w.heap.size (.slice R (x.l.map (shR (d : Int))).length rc) (x.l.map (shR (d : Int)))
                rw [hlx]
                exact hown0.mono (by have := Hmv5.out.keep.size; omega)) (by omega)
              replace hrun : (Builtin.append_ #[22, 22] 22 #[.slice Am i cm, .slice (some ⟨wr.heap.size, 0, none⟩) 1 1]).run Try.prog (wr.alloc (.cells #[.int .i64 V, .slice R x.l.length rc] 45)) = .ok (.slice A' (i + 1) c') w8 := by rw [← hlx]; exact hrun
              have Hmv8 := Lib.hid hmv8
              clear hmv8 hown0 hlx Hown Hb Hk xok x0 hall Hmv5
              go_wp2_with (at_builtin; refine wpList_append_eq rfl _ _ _ rfl _ _ rfl rfl _ _ hrun ?_; clear hrun)
              go_roundw
              case rel => exact ⟨i + 1, _, hin, by go_num, Hmv8, Hall2⟩
              case measure => simp [intOf]; omega
    · have hil : i = ls.length := by omega
      have hmv0 := hmv.out
      have hall0 := hall.out
      rw [hil] at hmv0 hall0
      rw [List.take_length] at hall0
      have hm : ∀ x ∈ ls, Rg.may x.l = true := fun x hx => (hall0 x hx).1
      have hgood : ls.any (fun x => !Rg.may x.l) = false := by
        rw [List.any_eq_false]
        intro x hx
        simp [hm x hx]
      have hne : ∀ x ∈ ls, 0 < x.l.length := fun x hx => may_len (hm x hx)
      obtain ⟨Am, cm, rfl, hlv⟩ := hmv0.lives (fun x hx r hr => (rng_w64 hdd (hm x hx) (hall0 x hx).2 hr).2)
      have hol : out.length = ls.length := hmv0.len (Nat.le_refl _)
      have hgood2 := hmv0.may (by omega) hm
      obtain ⟨eB, eE⟩ := hmv0.ends hne
      have hSh := moved_to (by_ := (d : Int)) (s0 := 0) (k := k) (d := sl) eB eE (may_lt hgood)
      rw [Nat.zero_add] at hSh
      have HSc1 := Lib.hid (fun (wz : World) (hz : Keep w wz) => scan_good A ls c k 0 wz (Hl.out.keep hz) h60 hk (by omega) hgood)
      have HSc2 := Lib.hid (fun (wz : World) (hz : Keep wr wz) => scan_good Am out cm k sl wz (hlv.keep hz) (by rw [hol]; exact h60) hk (by omega) hgood2)
      obtain ⟨S1, hS1, hpl1, _, _, _, hsn1, hp1⟩ := scan_bounds hm k 0
      obtain ⟨S2, hS2⟩ : ∃ S, Rg.scan (BL out) (EL out) sl k ls.length (ord (BL out) ls.length) = S := ⟨_, rfl⟩
      unfold ScanPost at HSc1 HSc2
      rw [hS1] at HSc1 hSh
      rw [hol, hS2] at HSc2
      rw [hS2] at hSh
      obtain ⟨z1, hz1⟩ : ∃ z : Int, (S1.slots : Int) = z := ⟨_, rfl⟩
      have hz2 : (S2.slots : Int) = z1 + (sl : Int) := by rw [← hz1, hSh.slots]; omega
      rw [hz1] at HSc1
      rw [hz2] at HSc2
      have hzb : 0 ≤ z1 ∧ z1 ≤ 60 := by omega
      have s1 : IntKind.i64.wrap (z1 + (sl : Int)) = z1 + (sl : Int) := IntWalk.i64_in _ (by omega)
      have HP := Lib.hid (show ∀ j p, S1.pl[j]? = some p → S2.pl[j]? = some (shift sl p) ∧ p.2 ≤ 1000 from fun j p hj => by
        refine ⟨by rw [hSh.pl, List.getElem?_map, hj]; rfl, ?_⟩
        have := hp1 j p hj
        cases hp0 : p.1 with
        | false => have := this.1 hp0; omega
        | true => have := this.2 hp0; omega)
      have Hkeep := Lib.hid hmv0.keep
      have Hpl1 := Lib.hid hpl1
      have hmg : Try.prog.eqGuardType Try.prog.depth 47 = false := by kernel_rfl
      clear hmv hmv0 hall hall0 hm hgood hne hlv hgood2 eB eE hSh hS1 hS2 hz1 hz2 hp1 hpl1 hol hil
      go_wp2_with fail
      refine (HSc1.out wr Hkeep.out).mono ?_
      rintro e w8 ⟨k8, gb1, _, bg1, rfl⟩
      obtain ⟨w9, hw9, k9, bx1⟩ := box2 w8 27 (.slice (some ⟨gb1, 0, none⟩) ls.length ls.length) (.int .i64 z1)
      go_wp2_with fail
      rw [← hw9]
      clear hw9
      refine (HSc2.out w9 (k8.trans k9)).mono ?_
      rintro e w10 ⟨k10, gb2, _, bg2, rfl⟩
      obtain ⟨w11, hw11, k11, bx2⟩ := box2 w10 27 (.slice (some ⟨gb2, 0, none⟩) ls.length ls.length) (.int .i64 (z1 + (sl : Int)))
      have k1011 := k10.trans k11
      have seg1 : Seg w11 (some ⟨gb1, 0, none⟩) ((toI S1.pl).flatMap plI) := by rw [toI_flat]; exact Seg.of_blk (bg1.keep (k9.trans k1011))
      have seg2 : Seg w11 (some ⟨gb2, 0, none⟩) ((toI S2.pl).flatMap plI) := by rw [toI_flat]; exact Seg.of_blk (bg2.keep k11)
      have g0 : w11.cell? ⟨w8.heap.size, 0, none⟩ = some (.slice (some ⟨gb1, 0, none⟩) ls.length ls.length) := (bx1.keep k1011).cell 0
      have g1 : w11.cell? ⟨w8.heap.size, 1, none⟩ = some (.int .i64 z1) := (bx1.keep k1011).cell 1
      have gl := (bx1.keep k1011).lt
      have h0 : w11.cell? ⟨w10.heap.size, 0, none⟩ = some (.slice (some ⟨gb2, 0, none⟩) ls.length ls.length) := bx2.cell 0
      have h1 : w11.cell? ⟨w10.heap.size, 1, none⟩ = some (.int .i64 (z1 + (sl : Int))) := bx2.cell 1
      have hl := bx2.lt
      have Hk11 := Lib.hid (((Hkeep.out.trans k8).trans k9).trans k1011)
      have Hseg := Lib.hid (And.intro seg1 seg2)
      clear bg1 bg2 bx1 bx2 seg1 seg2 k8 k9 k10 k11 k1011 HSc1 HSc2
      rw [hw11] at g0 g1 gl h0 h1 hl
      go_wp2_with fail
      rw [← hw11] at g0 g1 gl h0 h1 hl
      rw [← hw11]
      clear hw11
      go_loopw [17] (fun vi wr => ∃ i : Nat, i ≤ ls.length ∧ vi = .int .i64 i ∧ Hid (Keep w11 wr)) (fun i _ => ls.length - (intOf i).toNat)
      case atStart => exact ⟨0, Nat.zero_le _, rfl, Lib.hid (Keep.refl _)⟩
      case round =>
        obtain ⟨j, hj, rfl, hkj⟩ := hrel
        have g0r := hkj.out.cell g0
        have glr := Nat.lt_of_lt_of_le gl hkj.out.size
        by_cases hjn : j < ls.length
        · obtain ⟨p, hpj⟩ := get_some (l := S1.pl) (k := j) (by rw [Hpl1.out]; exact hjn)
          obtain ⟨hqj, hpb⟩ := HP.out j p hpj
          obtain ⟨_, _, e2, hb1, p0, p1⟩ := pl_get Hseg.out.1 hkj.out (toI_get hpj)
          cases e2
          obtain ⟨_, _, e2, hb2, q0, q1⟩ := pl_get Hseg.out.2 hkj.out (toI_get hqj)
          cases e2
          simp only [Nat.zero_add] at p0 p1 q0 q1
          have hb1l := Nat.lt_of_lt_of_le hb1 hkj.out.size
          have hb2l := Nat.lt_of_lt_of_le hb2 hkj.out.size
          have hjj : (j : Int) < (ls.length : Int) := by omega
          have hj0 : (0 : Int) ≤ (j : Int) := by omega
          obtain ⟨pz, hpz⟩ : ∃ z : Int, (p.2 : Int) = z := ⟨_, rfl⟩
          rw [hpz] at p1
          obtain ⟨wb, hwb, kb, bb⟩ := box2 wr 47 (.bool p.1) (.int .i64 pz)
          cases hp0 : p.1 with
          | false =>
            rw [hp0] at p0 hwb bb
            have hsh : shift sl p = p := by unfold shift; rw [hp0]; rfl
            rw [hsh, hp0] at q0
            rw [hsh, hpz] at q1
            have y0 : wb.cell? ⟨wr.heap.size, 0, none⟩ = some (.bool false) := bb.cell 0
            have y1 : wb.cell? ⟨wr.heap.size, 1, none⟩ = some (.int .i64 pz) := bb.cell 1
            have yl := bb.lt
            have ky0 := fun z : KW wb => z.cell y0
            have ky1 := fun z : KW wb => z.cell y1
            have kh0 := fun z : KW wb => z.cell (kb.cell (hkj.out.cell h0))
            have kq0 := fun z : KW wb => z.cell (kb.cell q0)
            have kq1 := fun z : KW wb => z.cell (kb.cell q1)
            have hlb := Nat.lt_of_lt_of_le hl (hkj.out.trans kb).size
            have hb2b := Nat.lt_of_lt_of_le hb2l kb.size
            have hd : Keep wb wb.drew := (Keep.refl _).drew
            have eqv : ∀ z : KW wb, (binOp .neq 47 (.agg #[.bool false, .int .i64 pz]) (.agg #[.bool false, .int .i64 pz])).run Try.prog z.val = .ok (.bool false) z.val := fun z => placeNe (false, pz) (false, pz) rfl z.val
            have Hrel := Lib.hid (hkj.out.trans (kb.trans hd))
            rw [hwb] at y0 y1 yl
            clear hpj hqj bb hsh
            go_wp2_with fail
            rw [← hwb]
            rw [← hwb] at y0 y1 yl
            clear hwb
            refine region_begin (S := fun w' => ∃ z : KW wb, w' = z.val) (by kernel_rfl) ?_
            refine region_take [0, 1, 2, 3, 4, 5, 6] [] 0 (by kernel_rfl) (by kernel_rfl) (InK.mk' hd) ?_
            show wpQuiet _ _ _ _ [_, _, _, _, _, _, _] _
            repeat (go_big_quiet_step (fail))
            refine wpQuiet_nil ?_
            refine region_done (by kernel_rfl) ?_
            clear ky0 ky1 kh0 kq0 kq1 eqv y0 y1 yl
            go_wp2
            go_roundw
            case rel => exact ⟨j + 1, hjn, by go_num, Hrel⟩
            case measure => simp [intOf]; omega
          | true =>
            rw [hp0] at p0 hwb bb
            have hsh : shift sl p = (true, p.2 + sl) := by unfold shift; rw [hp0]; rfl
            rw [hsh] at q0 q1
            replace q1 : wr.cell? ⟨gb2, j * 2 + 1, none⟩ = some (.int .i64 (pz + (sl : Int))) := by rw [← hpz]; exact q1
            have s2 : IntKind.i64.wrap (pz + (sl : Int)) = pz + (sl : Int) := IntWalk.i64_in _ (by omega)
            have y0 : wb.cell? ⟨wr.heap.size, 0, none⟩ = some (.bool true) := bb.cell 0
            have y1 : wb.cell? ⟨wr.heap.size, 1, none⟩ = some (.int .i64 pz) := bb.cell 1
            have yl := bb.lt
            have yf := bb.frozen 1
            have bc := bb.set_ 1 (.int .i64 (pz + (sl : Int)))
            obtain ⟨wc, hwc⟩ : ∃ wc, wb.setCell ⟨wr.heap.size, 1, none⟩ (.int .i64 (pz + (sl : Int))) = wc := ⟨_, rfl⟩
            have kc : Keep wr wc := by rw [← hwc]; exact kb.setCell (p := ⟨wr.heap.size, 1, none⟩) (Nat.le_refl _) _
            rw [hwc] at bc
            have v0 : wc.cell? ⟨wr.heap.size, 0, none⟩ = some (.bool true) := bc.cell 0
            have v1 : wc.cell? ⟨wr.heap.size, 1, none⟩ = some (.int .i64 (pz + (sl : Int))) := bc.cell 1
            have vl := bc.lt
            have ky0 := fun z : KW wc => z.cell v0
            have ky1 := fun z : KW wc => z.cell v1
            have kh0 := fun z : KW wc => z.cell (kc.cell (hkj.out.cell h0))
            have kq0 := fun z : KW wc => z.cell (kc.cell q0)
            have kq1 := fun z : KW wc => z.cell (kc.cell q1)
            have hlb := Nat.lt_of_lt_of_le hl (hkj.out.trans kc).size
            have hb2b := Nat.lt_of_lt_of_le hb2l kc.size
            have hd : Keep wc wc.drew := (Keep.refl _).drew
            have eqv : ∀ z : KW wc, (binOp .neq 47 (.agg #[.bool true, .int .i64 (pz + (sl : Int))]) (.agg #[.bool true, .int .i64 (pz + (sl : Int))])).run Try.prog z.val = .ok (.bool false) z.val := fun z => placeNe (true, pz + (sl : Int)) (true, pz + (sl : Int)) rfl z.val
            have Hrel := Lib.hid (hkj.out.trans (kc.trans hd))
            rw [hwb] at y0 y1 yl yf hwc
            clear hpj hqj bb bc hsh kb
            go_wp2_with fail
            clear hwb y0 y1 yl yf
            refine region_begin (S := fun w' => ∃ z : KW wc, w' = z.val) (by kernel_rfl) ?_
            refine region_take [0, 1, 2, 3, 4, 5, 6] [] 0 (by kernel_rfl) (by kernel_rfl) (InK.mk' hd) ?_
            show wpQuiet _ _ _ _ [_, _, _, _, _, _, _] _
            repeat (go_big_quiet_step (fail))
            refine wpQuiet_nil ?_
            refine region_done (by kernel_rfl) ?_
            clear ky0 ky1 kh0 kq0 kq1 eqv v0 v1 vl hwc
            go_wp2
            go_roundw
            case rel => exact ⟨j + 1, hjn, by go_num, Hrel⟩
            case measure => simp [intOf]; omega
        · go_wp2_with fail
          refine (HA.out wr).mono ?_
          rintro e w12 ⟨rfl, k12⟩
          go_wp2_with fail
          go_ret
          exact ⟨rfl, (Hk11.out.trans hkj.out).trans k12⟩
set_option maxRecDepth 100000 in
theorem regsMoved_walk (A : Option Addr) (ls : List LvD) (c : Nat) (n1 n2 n3 : Int) (w : World) (hl : Lives w A ls) (h1 : (Lit.int .u8 n1).wf = true) (h2 : (Lit.int .u16 n2).wf = true) (h3 : (Lit.int .u8 n3).wf = true) :
    Calls Try.prog 7 #[.slice A ls.length c, .int .u8 n1, .int .u16 n2, .int .u8 n3] w fun e w' => e = .returned (.bool true) ∧ Keep w w' := by
  obtain ⟨a, rfl, ha⟩ := u8_nat h1
  obtain ⟨d, rfl, hd⟩ := u16_nat h2
  obtain ⟨b, rfl, hb⟩ := u8_nat h3
  cases hfb : fewB ls with
  | false =>
    have Hf := Lib.hid (few_calls A ls c w hl)
    have HA := Lib.hid (fun wz => alive_calls wz)
    rw [hfb] at Hf
    clear hl h1 h2 h3 hfb
    go_enter Try.func7, Try.ntmps7
    go_wp2_with fail
    refine Hf.out.mono ?_
    rintro e w1 ⟨rfl, k1⟩
    go_wp2_with fail
    refine (HA.out w1).mono ?_
    rintro e w2 ⟨rfl, k2⟩
    go_wp2_with fail
    go_ret
    exact ⟨rfl, k1.trans k2⟩
  | true => exact regsMoved_good A ls c a d b ha hd hb w hl hfb
end Go.Proofs.Ytigidchignlpmaa
