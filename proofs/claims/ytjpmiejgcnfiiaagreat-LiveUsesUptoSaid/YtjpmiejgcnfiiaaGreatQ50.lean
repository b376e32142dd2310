/-
  LiveUses, proved where what it reads is of bulk at most 1048576.
-/
import Derived.Test.YtjpmiejgcnfiiaaGreatQ36
import Derived.Test.YtjpmiejgcnfiiaaGreatQ13
import Derived.Test.YtjpmiejgcnfiiaaGreatQ37
import Derived.Test.YtjpmiejgcnfiiaaGreatQ31
import Derived.Test.YtjpmiejgcnfiiaaGreatQ40
import Derived.Test.YtjpmiejgcnfiiaaGreatQ41
import Derived.Laws.Tables
import Derived.Test.YtjpmiejgcnfiiaaGreatQ8
import Derived.JoinedCond
import Derived.ProofKit
set_option linter.unusedVariables false
set_option linter.unusedSimpArgs false
namespace Go.Proofs.YtjpmiejgcnfiiaaGreat
open Go Go.RowKit

set_option maxHeartbeats 16000000 in
set_option maxRecDepth 100000 in
theorem uses_law (m : MdD) (x : SsD) (w : World) (hm : MdOk w m) (h : SsOk w x) (hp : NumOk w x.params) (hr : NumOk w x.results) (hb : Bulky x) (hwf : ∀ y ∈ x.blocks.l, ∀ i ∈ y.ins.l, InWf i) :
  Calls Tryz.prog 5 #[.agg (mdC m).toArray, .agg (ssC x).toArray] w fun e w' => e = .returned (.bool true) ∧ Keep w w' := by
 obtain ⟨W, hW, kW, bW, sW⟩ := boxN w 33 (mdC m)
 obtain ⟨V, hV, kV, bV, sV⟩ := boxN W 39 (ssC x)
 have Hc := Lib.hid (fun (w' : World) (hk : Keep V w') => (⟨(bV.keep hk).cell 0, (bV.keep hk).cell 1, (bV.keep hk).cell 2, (bV.keep hk).cell 3, (bV.keep hk).lt⟩ : w'.cell? ⟨W.heap.size, 0, none⟩ = some (.slice x.params.a x.params.l.length x.params.c) ∧ w'.cell? ⟨W.heap.size, 1, none⟩ = some (.slice x.results.a x.results.l.length x.results.c) ∧ w'.cell? ⟨W.heap.size, 2, none⟩ = some (.slice x.vals.a x.vals.l.length x.vals.c) ∧ w'.cell? ⟨W.heap.size, 3, none⟩ = some (.slice x.blocks.a x.blocks.l.length x.blocks.c) ∧ W.heap.size < w'.heap.size))
 have Hmc := Lib.hid (fun (w' : World) (hk : Keep V w') => ((bW.keep kV).keep hk).md)
 have kk0 := kW.trans kV
 have HkV := Lib.hid kk0
 have HX := Lib.hid (fun (w' : World) (hk : Keep V w') => h.keep (kk0.trans hk))
 have HB := Lib.hid hb
 have Hri := Lib.hid (lawright_calls m x V (hm.keep kk0) (h.keep kk0) (hp.keep kk0) (hr.keep kk0) hb hwf)
 obtain ⟨c0, c1, c2, c3, lt⟩ := Hc.out V (Keep.refl _)
 obtain ⟨d0, d1, d2, d3, d4, d5, d6, d7, d8, d9, da, db, ltm⟩ := Hmc.out V (Keep.refl _)
 clear bW sW bV sV hm h hp hr hb hwf kW kV kk0
 go_enter Tryz.func5, Tryz.ntmps5
 go_wp2_with fail
 refine Hri.out.mono ?_
 clear Hri c0 c1 c2 c3 lt d0 d1 d2 d3 d4 d5 d6 d7 d8 d9 da db ltm
 rintro e wA ⟨r, rfl, hv, hkA⟩
 have HkA := Lib.hid hkA
 clear hkA
 cases r with
 | false =>
  have Hal := Lib.hid (alive_calls wA)
  clear hv
  go_wp2_with fail
  refine Hal.out.mono ?_
  clear Hal
  rintro e w2 ⟨rfl, hk2⟩
  have Hk2 := Lib.hid (HkV.out.trans (HkA.out.trans hk2))
  clear hk2
  go_wp2_with fail
  go_ret
  exact ⟨rfl, Hk2.out⟩
 | true =>
  obtain ⟨hsm, K, I, hvd⟩ := hv rfl
  have Hs := Lib.hid hsm
  have Hf := Lib.hid hvd.v.fits
  have hn := hsm.blocks
  have hnv := hsm.vals
  have hol := x.ord_len
  have Hv := Lib.hid hvd
  clear hv hsm hvd
  obtain ⟨c0, c1, c2, c3, lt⟩ := Hc.out wA HkA.out
  obtain ⟨wd, hwd⟩ : ∃ wd, wA.drew = wd := ⟨_, rfl⟩
  have hd : Keep wA wd := by rw [← hwd]; exact (Keep.refl _).drew
  go_wp2_with fail
  have ec0 := fun z : KW wA => z.cell c0
  have ec1 := fun z : KW wA => z.cell c1
  have ec2 := fun z : KW wA => z.cell c2
  have ec3 := fun z : KW wA => z.cell c3
  refine region_begin (S := fun w' => ∃ z : KW wA, w' = z.val) (by kernel_rfl) ?_
  rw [hwd]
  refine region_take [0, 2] [] 4 (by kernel_rfl) (by kernel_rfl) (InK.mk' hd) ?_
  show wpQuiet _ _ _ _ [_, _] _
  repeat (go_big_quiet_step (fail))
  refine wpQuiet_nil ?_
  clear hwd ec0 ec1 ec2 ec3
  refine region_fix (i := 1) (fuel := 3) rfl (by kernel_rfl) (fun K hK => ?_)
  go_simp
  refine (of_calls x wd (HX.out _ (HkA.out.trans hd)) Hs.out (fun b y _ hy => Hf.out.inn b y hy)).mono ?_
  rintro e wB ⟨A1, ls, k1, S, rfl, hl1, he1, hfi, hsh, hkB⟩
  have hK1 : Keep wA wB := hd.trans hkB
  refine hK _ _ (InK.mk' hK1) ?_
  clear hK K
  refine region_fix (i := 3) (fuel := 2) rfl (by kernel_rfl) (fun K hK => ?_)
  go_simp
  refine (order_gives x wB (HX.out _ (HkA.out.trans hK1)) Hs.out.edges (by omega)).mono ?_
  rintro e wC ⟨A2, k2, rfl, ho2, hkC⟩
  have hK3 : Keep wA wC := hK1.trans hkC
  refine hK _ _ (InK.mk' hK3) ?_
  clear hK K
  refine region_take [4, 5] [0, 2, 1, 3] 0 (by kernel_rfl) (by kernel_rfl) (InK.mk' hK3) ?_
  show wpQuiet _ _ _ _ [_, _] _
  repeat (go_big_quiet_step (fail))
  refine wpQuiet_nil ?_
  refine region_done (by kernel_rfl) ?_
  have HL := Lib.hid (hl1.keep hkC)
  have HE := Lib.hid (show lvP ls = liveR x x.vals.l.length from he1.trans (ofR_eq Hf.out hfi hsh))
  have hlsl : ls.length ≤ 1000 := by
   have h1 := congrArg List.length he1
   have h2 := ofR_len x S x.vals.l.length
   rw [List.length_map] at h1
   omega
  have Ho := Lib.hid ho2.segN.2
  have HkC := Lib.hid (HkA.out.trans hK3)
  have HU := Lib.hid (fun (wx : World) (hkx : Keep wC wx) (B : Option Addr) (d : Nat) (l : List Int) (p : Int) (hsg : Seg wx B (l.flatMap intC)) (hll : l.length ≤ 2000000) (hal : ∀ v ∈ l, livesP (liveR x x.vals.l.length) v p = true) => uses_calls ls A1 B k1 d l p wx ((hl1.keep hkC).keep hkx) (by omega) hsg hll (fun v hv => by rw [HE.out]; exact hal v hv))
  clear hl1 he1 hfi hsh ho2 hkB hkC hK1 hK3 hd c0 c1 c2 c3 lt
  go_wp2_with fail
  go_loopw [7, 8, 9, 10, 11] (fun va vi _ _ _ wr => ∃ i : Nat, i ≤ x.ord.length ∧ vi = .int .i64 i ∧ va = .int .i64 (x.atk i) ∧ Hid (Keep wC wr)) (fun _ vi _ _ _ _ => x.ord.length - (intOf vi).toNat)
  case atStart => exact ⟨0, Nat.zero_le _, rfl, (by unfold SsD.atk; simp [Lv.endAt]), Lib.hid (Keep.refl _)⟩
  case round =>
   obtain ⟨i, hi, rfl, rfl, hkeep⟩ := hrel
   obtain ⟨wO, rfl⟩ : ∃ z : World, z = wr := ⟨_, rfl⟩
   by_cases hil : i < x.ord.length
   ·obtain ⟨b, hbk⟩ := get_some hil
    obtain ⟨y, hy⟩ := SsD.ord_get hbk
    have hbn : b < x.blocks.l.length := (List.getElem?_eq_some_iff.1 hy).1
    obtain ⟨bo, oo, hAO, hbo, q⟩ := int_at Ho.out hkeep.out (k := i) (by rw [ints_len]; exact hil)
    have hbe : (ints x.ord)[i]'(by rw [ints_len]; exact hil) = (b : Int) := by
     have := ints_get hbk
     rw [List.getElem?_eq_getElem (by rw [ints_len]; exact hil)] at this
     exact Option.some.inj this
    rw [hbe] at q
    have hbol := Nat.lt_of_lt_of_le hbo hkeep.out.size
    have HkO := Lib.hid (HkC.out.trans hkeep.out)
    obtain ⟨c0, c1, c2, c3, lt⟩ := Hc.out wO HkO.out
    obtain ⟨BB, ob, hBA, hBl, q0, q1, q2, q3, q4, q5, q6⟩ := bk_cells (HX.out wO HkO.out).seg (Keep.refl _) hy
    rw [hBA] at c3
    subst hAO
    have i0 : (0 : Int) ≤ (i : Int) := by omega
    have i1 : (i : Int) < (x.ord.length : Int) := by omega
    have b0 : (0 : Int) ≤ (b : Int) := by omega
    have b1 : (b : Int) < (x.blocks.l.length : Int) := by omega
    have bd0 : decide ((b : Int) < 0) = false := decide_eq_false (by omega)
    have bd1 : decide ((x.blocks.l.length : Int) ≤ (b : Int)) = false := decide_eq_false (by omega)
    have bd1c : decide (x.blocks.l.length ≤ b) = false := decide_eq_false (by omega)
    have Hby := Lib.hid (show x.ord[i]? = some b ∧ x.blocks.l[b]? = some y from ⟨hbk, hy⟩)
    have HY := Lib.hid (show BkOk wO y ∧ y.In x.vals.l.length ∧ BulkyB y ∧ y.ins.l.length ≤ 1000 from ⟨(HX.out wO HkO.out).blocks y (List.mem_of_getElem? hy), Hf.out.inn b y hy, HB.out.block (List.mem_of_getElem? hy), Hs.out.ins y (List.mem_of_getElem? hy)⟩)
    clear hbk hy hbe hBA
    obtain ⟨wd, hwd⟩ : ∃ wd, wO.drew = wd := ⟨_, rfl⟩
    have hd : Keep wO wd := by rw [← hwd]; exact (Keep.refl _).drew
    go_wp2_with fail
    have eq := fun z : KW wO => z.cell q
    have ec3 := fun z : KW wO => z.cell c3
    refine region_begin (S := fun w' => ∃ z : KW wO, w' = z.val) (by kernel_rfl) ?_
    rw [hwd]
    refine region_take [0, 1, 2, 3, 4, 5, 6, 7, 8, 9, 10, 11, 12, 13, 14] [] 0 (by kernel_rfl) (by kernel_rfl) (InK.mk' hd) ?_
    show wpQuiet _ _ _ _ [_, _, _, _, _, _, _, _, _, _, _, _, _, _, _] _
    repeat (go_big_quiet_step (fail))
    refine wpQuiet_nil ?_
    refine region_done (by kernel_rfl) ?_
    have qd := hd.cell q
    have c3d := hd.cell c3
    have ltd := Nat.lt_of_lt_of_le lt hd.size
    have hbold := Nat.lt_of_lt_of_le hbol hd.size
    have hBld := Nat.lt_of_lt_of_le hBl hd.size
    have q0d := hd.cell q0
    have q1d := hd.cell q1
    have q2d := hd.cell q2
    have q3d := hd.cell q3
    have q4d := hd.cell q4
    have q5d := hd.cell q5
    have q6d := hd.cell q6
    have Hd := Lib.hid hd
    clear hwd hd eq ec3 q c0 c1 c2 c3 q0 q1 q2 q3 q4 q5 q6 lt hbol hBl bd0 bd1 bd1c
    obtain ⟨we, hwd⟩ : ∃ we, wd.drew = we := ⟨_, rfl⟩
    have hd : Keep wd we := by rw [← hwd]; exact (Keep.refl _).drew
    go_wp2_with fail
    have eqd := fun z : KW wd => z.cell qd
    have ec3d := fun z : KW wd => z.cell c3d
    have eq0d := fun z : KW wd => z.cell q0d
    have eq1d := fun z : KW wd => z.cell q1d
    have eq2d := fun z : KW wd => z.cell q2d
    have eq3d := fun z : KW wd => z.cell q3d
    have eq4d := fun z : KW wd => z.cell q4d
    have eq5d := fun z : KW wd => z.cell q5d
    have eq6d := fun z : KW wd => z.cell q6d
    refine region_begin (S := fun w' => ∃ z : KW wd, w' = z.val) (by kernel_rfl) ?_
    rw [hwd]
    refine region_take [0, 1, 2, 3, 4, 5, 6, 7] [] 2 (by kernel_rfl) (by kernel_rfl) (InK.mk' hd) ?_
    show wpQuiet _ _ _ _ [_, _, _, _, _, _, _, _] _
    repeat (go_big_quiet_step (fail))
    refine wpQuiet_nil ?_
    clear eqd ec3d eq0d eq1d eq2d eq3d eq4d eq5d eq6d
    refine region_fix (i := 8) (fuel := 1) rfl (by kernel_rfl) (fun K hK => ?_)
    go_simp
    have bz : Blk (we.alloc (.cells #[.slice none 0 0, .slice none 0 0, .int .i64 0, .int .i64 0, .slice none 0 0, .slice none 0 0, .int .i64 0] 57)) we.heap.size 57 [.slice none 0 0, .slice none 0 0, .int .i64 0, .int .i64 0, .slice none 0 0, .slice none 0 0, .int .i64 0] := Blk.new _ _ _
    obtain ⟨wZ, hwZ⟩ : ∃ W, we.alloc (.cells #[.slice none 0 0, .slice none 0 0, .int .i64 0, .int .i64 0, .slice none 0 0, .slice none 0 0, .int .i64 0] 57) = W := ⟨_, rfl⟩
    have hkZ : Keep wd wZ := by rw [← hwZ]; exact hd.alloc _
    obtain ⟨bl, hbl⟩ : ∃ bl, we.heap.size = bl := ⟨_, rfl⟩
    rw [hwZ] at bz ⊢
    rw [hbl] at bz ⊢
    have hge : wd.heap.size ≤ bl := by rw [← hbl]; exact hd.size
    clear hwZ hbl hwd
    refine hK _ _ (InK.mk' hkZ) ?_
    clear hK K
    have hblF : Blk (wZ.setRow bl (bkC y).toArray) bl 57 (bkC y) := setRow_heap _ _ _ _ _ _ bz
    have hEF : Ext (fun q => q = bl) wZ (wZ.setRow bl (bkC y).toArray) := ⟨rfl, rfl, rfl, by rw [setRow_size]; exact Nat.le_refl _, fun q _ hq => setRow_other _ _ _ _ hq⟩
    have hKF : Keep wd (wZ.setRow bl (bkC y).toArray) := Keep.of_ext hkZ hEF (fun q hq e => by omega)
    refine region_fixU (i := 9) (fuel := 0) rfl rfl (by kernel_rfl) (fun K hK => ?_)
    refine wp_store_row _ _ _ rfl bl (bkC y).toArray rfl rfl _ _ bz (by show _ = some 7; kernel_rfl) rfl (by simp [bkC, RwD.v, Value.oneCell']) ?_
    refine hK _ _ (InK.mk' hKF) ?_
    clear hK K bz hkZ hEF hd
    obtain ⟨wF, hwF⟩ : ∃ wF, wZ.setRow bl (bkC y).toArray = wF := ⟨_, rfl⟩
    rw [hwF] at hblF hKF ⊢
    clear hwF
    refine region_done (by kernel_rfl) ?_
    simp only [Act.put, List.setIfInBounds_toArray, List.set_cons_succ, List.set_cons_zero]
    have HD := Lib.hid (fun (wx : World) (hkx : Keep wF wx) => have bb := hblF.keep hkx; (⟨bb.cell 0, bb.cell 1, bb.cell 2, bb.cell 3, bb.cell 4, bb.cell 5, bb.cell 6, bb.lt⟩ :
     wx.cell? ⟨bl, 0, none⟩ = some (.slice y.params.a y.params.l.length y.params.c) ∧ wx.cell? ⟨bl, 1, none⟩ = some (.slice y.ins.a y.ins.l.length y.ins.c) ∧
     wx.cell? ⟨bl, 2, none⟩ = some (.int .i64 y.kind) ∧ wx.cell? ⟨bl, 3, none⟩ = some (.int .i64 y.cond) ∧ wx.cell? ⟨bl, 4, none⟩ = some (.slice y.args.a y.args.l.length y.args.c) ∧
     wx.cell? ⟨bl, 5, none⟩ = some (.slice y.to.a y.to.l.length y.to.c) ∧ wx.cell? ⟨bl, 6, none⟩ = some (.int .i64 y.trap) ∧ bl < wx.heap.size))
    have HkF := Lib.hid (hkeep.out.trans (Hd.out.trans hKF))
    have HOk := Lib.hid (fun (wx : World) (hkx : Keep wF wx) => HY.out.1.keep (Hd.out.trans (hKF.trans hkx)))
    obtain ⟨d0, d1, d2, d3, d4, d5, d6, dlt⟩ := HD.out wF (Keep.refl _)
    clear hKF hblF hkeep qd c3d q0d q1d q2d q3d q4d q5d q6d ltd hbold hBld
    have hat := SsD.atk_lt Hs.out i
    obtain ⟨at_, hate⟩ : ∃ a, x.atk i = a := ⟨_, rfl⟩
    have Hat := Lib.hid hate
    rw [hate] at hat ⊢
    clear hate
    have hpl := HY.out.2.2.1.params
    have Hup := Lib.hid (HU.out wF HkF.out y.params.a y.params.c y.params.l at_ (HOk.out wF (Keep.refl _)).params.seg (by omega) (fun v hv => by rw [← Hat.out]; exact Hv.out.params Hby.out.1 Hby.out.2 hv))
    go_wp2_with fail
    refine Hup.out.mono ?_
    clear Hup d0 d1 d2 d3 d4 d5 d6 dlt
    rintro e w2 ⟨rfl, hk2⟩
    have Hk2 := Lib.hid hk2
    clear hk2
    obtain ⟨nin, hnin⟩ : ∃ n, y.ins.l.length = n := ⟨_, rfl⟩
    have Hnin := Lib.hid hnin
    have hnl : nin ≤ 1000 := by rw [← hnin]; exact HY.out.2.2.2
    rw [hnin] at HD
    clear hnin
    obtain ⟨d0, d1, d2, d3, d4, d5, d6, dlt⟩ := HD.out w2 Hk2.out
    go_wp2_with fail
    clear d0 d1 d2 d3 d4 d5 d6 dlt
    go_loopw [7, 10] (fun va vj wz => ∃ j : Nat, j ≤ nin ∧ vj = .int .i64 j ∧ va = .int .i64 (at_ + 2 * (j : Int)) ∧ Hid (Keep wF wz)) (fun _ vj _ => nin - (intOf vj).toNat)
    case atStart => exact ⟨0, Nat.zero_le _, rfl, by go_num, Hk2⟩
    case round =>
     clear Hk2
     obtain ⟨j, hj, rfl, rfl, hkeep⟩ := hrel
     obtain ⟨wJ, rfl⟩ : ∃ z : World, z = wr := ⟨_, rfl⟩
     obtain ⟨d0, d1, d2, d3, d4, d5, d6, dlt⟩ := HD.out wJ hkeep.out
     by_cases hjl : j < nin
     ·obtain ⟨g, hg⟩ := get_some (l := y.ins.l) (k := j) (by rw [Hnin.out]; exact hjl)
      obtain ⟨B, off, hA, hB, _, _, _, _, _, _, r5, r6⟩ := in_open (HOk.out wJ hkeep.out) (Keep.refl _) hg
      rw [hA] at d1
      have hbg := HY.out.2.2.1.inn g (List.mem_of_getElem? hg)
      have hog := (HOk.out wJ hkeep.out).ins g (List.mem_of_getElem? hg)
      have Hu5 := Lib.hid (HU.out wJ (HkF.out.trans hkeep.out) g.args.a g.args.c g.args.l (at_ + 2 * (j : Int) + 2) hog.args.seg (by omega) (fun v hv => by
       have := Hv.out.args Hby.out.1 Hby.out.2 hg hv
       rw [Hat.out, show at_ + 2 * ((j : Int) + 1) = at_ + 2 * (j : Int) + 2 by omega] at this; exact this))
      have Hu6 := Lib.hid (fun (wx : World) (hkx : Keep wJ wx) => HU.out wx (HkF.out.trans (hkeep.out.trans hkx)) g.outs.a g.outs.c g.outs.l (at_ + 2 * (j : Int) + 2 + 1) (hog.outs.seg.keep hkx) (by omega) (fun v hv => by
       have := Hv.out.outs Hby.out.1 Hby.out.2 hg hv
       rw [Hat.out, show at_ + 2 * ((j : Int) + 1) + 1 = at_ + 2 * (j : Int) + 2 + 1 by omega] at this; exact this))
      have j0 : (0 : Int) ≤ (j : Int) := by omega
      have j1 : (j : Int) < (nin : Int) := by omega
      have HA := Lib.hid hA
      clear hg hA hbg hog
      go_wp2_with fail
      refine Hu5.out.mono ?_
      rintro e w5 ⟨rfl, hk5⟩
      have Hu7 := Lib.hid (Hu6.out w5 hk5)
      replace r6 := hk5.cell r6
      replace hB := Nat.lt_of_lt_of_le hB hk5.size
      have Hk5 := Lib.hid (hkeep.out.trans hk5)
      clear Hu5 Hu6 hk5 d0 d1 d2 d3 d4 d5 d6 dlt r5
      obtain ⟨d0, d1, d2, d3, d4, d5, d6, dlt⟩ := HD.out w5 Hk5.out
      rw [HA.out] at d1
      go_wp2_with fail
      refine Hu7.out.mono ?_
      clear Hu7 d0 d1 d2 d3 d4 d5 d6 dlt r6 hB
      rintro e w6 ⟨rfl, hk6⟩
      have Hk6 := Lib.hid (Hk5.out.trans hk6)
      clear hk6 hkeep Hk5
      go_wp2_with fail
      go_roundw
      case rel => exact ⟨j + 1, hjl, by go_num, by congr 1; omega, Hk6⟩
      case measure => simp [intOf] <;> omega
     ·obtain rfl : j = nin := by omega
      have Hend := Lib.hid (show ∀ v ∈ y.endsI, livesP (liveR x x.vals.l.length) v (at_ + 2 * (j : Int) + 2) = true from fun v hv => by
       have := Hv.out.ends Hby.out.1 Hby.out.2 hv
       rw [Hat.out, Hnin.out, show at_ + 2 * ((j : Int) + 1) = at_ + 2 * (j : Int) + 2 by omega] at this; exact this)
      have hokJ := HOk.out wJ hkeep.out
      have hal := HY.out.2.2.1.args
      have Hua := Lib.hid (HU.out wJ (HkF.out.trans hkeep.out) y.args.a y.args.c y.args.l (at_ + 2 * (j : Int) + 2) hokJ.args.seg (by omega) (fun v hv => Hend.out v (endsI_mem.2 (.inr (.inl hv)))))
      clear hokJ hal
      go_upto_region 20 with fail
      go_cut [121] from 93 to 120 (fun v wx => v = .bool false ∧ Hid (Keep wJ wx))
      case first =>
       go_wp2_with fail
       refine Hua.out.mono ?_
       clear Hua d0 d1 d2 d3 d4 d5 d6 dlt
       rintro e w5 ⟨rfl, hk5⟩
       have Hk5 := Lib.hid hk5
       obtain ⟨d0, d1, d2, d3, d4, d5, d6, dlt⟩ := HD.out w5 (hkeep.out.trans hk5)
       clear hk5
       by_cases hkd : y.kind = 1 ∨ y.kind = 2
       ·have Huc := Lib.hid (HU.out (w5.alloc (.cells #[.int .i64 y.cond] 3)) (HkF.out.trans (hkeep.out.trans (Hk5.out.alloc _))) (some ⟨w5.heap.size, 0, none⟩) 1 [y.cond] (at_ + 2 * (j : Int) + 2) (Seg.of_blk (Blk.new w5 3 [.int .i64 y.cond])) (by simp) (fun v hv => Hend.out v (endsI_mem.2 (.inl ⟨hkd, (List.mem_singleton.1 hv).symm⟩))))
        obtain ⟨kd, hkde⟩ : ∃ kd, y.kind = kd := ⟨_, rfl⟩
        rw [hkde] at hkd d2
        clear hkde
        rcases hkd with rfl | rfl
        all_goals
         go_wp2_with fail
         refine Huc.out.mono ?_
         rintro e w6 ⟨rfl, hk6⟩
         have Hk6 := Lib.hid ((Hk5.out.alloc _).trans hk6)
         clear hk6
         go_wp2_with fail
         go_meet
         case rel => exact ⟨rfl, Hk6⟩
       ·obtain ⟨kd, hkde⟩ : ∃ kd, y.kind = kd := ⟨_, rfl⟩
        rw [hkde] at hkd d2
        have g1 : (kd == 1) = false := beq_eq_false_iff_ne.2 (fun e => hkd (.inl e))
        have g2 : (kd == 2) = false := beq_eq_false_iff_ne.2 (fun e => hkd (.inr e))
        have g1d : decide (kd = 1) = false := decide_eq_false (fun e => hkd (.inl e))
        have g2d : decide (kd = 2) = false := decide_eq_false (fun e => hkd (.inr e))
        clear hkde hkd
        go_wp2_with fail
        go_meet
        case rel => exact ⟨rfl, Hk5⟩
      case rest =>
       obtain ⟨rfl, hk5⟩ := hcut
       have HkE := Lib.hid (hkeep.out.trans hk5.out)
       have htol := HY.out.2.2.1.to
       clear hk5 hkeep Hua d0 d1 d2 d3 d4 d5 d6 dlt
       go_wp2_with fail
       go_loopw [11] (fun vt wz => ∃ t : Nat, t ≤ y.to.l.length ∧ vt = .int .i64 t ∧ Hid (Keep wF wz)) (fun vt _ => y.to.l.length - (intOf vt).toNat)
       case atStart => exact ⟨0, Nat.zero_le _, rfl, HkE⟩
       case round =>
        clear HkE
        obtain ⟨t, ht, rfl, hkeep⟩ := hrel
        obtain ⟨wJ, rfl⟩ : ∃ z : World, z = wr := ⟨_, rfl⟩
        obtain ⟨d0, d1, d2, d3, d4, d5, d6, dlt⟩ := HD.out wJ hkeep.out
        by_cases htl : t < y.to.l.length
        ·obtain ⟨g, hg⟩ := get_some htl
         obtain ⟨B, off, hA, hB, _, r1⟩ := ed_get (HOk.out wJ hkeep.out).toSeg (Keep.refl _) hg
         have r1 : wJ.cell? ⟨B, off + t * 2 + 1, none⟩ = some (.slice g.args.a g.args.l.length g.args.c) := r1
         rw [hA] at d5
         have hbg := HY.out.2.2.1.edges g (List.mem_of_getElem? hg)
         have Hu := Lib.hid (HU.out wJ (HkF.out.trans hkeep.out) g.args.a g.args.c g.args.l (at_ + 2 * (j : Int) + 2) ((HOk.out wJ hkeep.out).to g (List.mem_of_getElem? hg)).args.seg (by omega) (fun v hv => Hend.out v (endsI_mem.2 (.inr (.inr ⟨g, List.mem_of_getElem? hg, hv⟩)))))
         have t0 : (0 : Int) ≤ (t : Int) := by omega
         have t1 : (t : Int) < (y.to.l.length : Int) := by omega
         clear hg hA hbg
         go_wp2_with fail
         refine Hu.out.mono ?_
         clear Hu d0 d1 d2 d3 d4 d5 d6 dlt r1 hB
         rintro e w6 ⟨rfl, hk6⟩
         have Hk6 := Lib.hid (hkeep.out.trans hk6)
         clear hk6 hkeep
         go_wp2_with fail
         go_roundw
         case rel => exact ⟨t + 1, htl, by go_num, Hk6⟩
         case measure => simp [intOf] <;> omega
        ·have Hsu := Lib.hid (show x.atk (i + 1) = at_ + 2 * (j : Int) + 2 + 2 from by rw [SsD.atk_succ Hby.out.1 Hby.out.2, Hat.out, Hnin.out]; omega)
         have Hk6 := Lib.hid (HkF.out.trans hkeep.out)
         clear hkeep
         go_wp2_with fail
         go_roundw
         case rel => exact ⟨i + 1, hil, by go_num, by rw [Hsu.out], Hk6⟩
         case measure => simp [intOf] <;> omega
   ·have hie : i = x.ord.length := by omega
    subst hie
    obtain ⟨at_, hate⟩ : ∃ a, x.atk x.ord.length = a := ⟨_, rfl⟩
    have Hat := Lib.hid hate
    have hat := SsD.atk_lt Hs.out x.ord.length
    rw [hate] at hat ⊢
    clear hate
    go_wp2_with fail
    go_loopw [12, 13, 14] (fun vv _ _ wr => ∃ v : Nat, v ≤ ls.length ∧ vv = .int .i64 v ∧ Hid (Keep wC wr)) (fun vv _ _ _ => ls.length - (intOf vv).toNat)
    case atStart => exact ⟨0, Nat.zero_le _, rfl, hkeep⟩
    case round =>
     clear hkeep
     obtain ⟨v, hv, rfl, hkeep⟩ := hrel
     obtain ⟨wP, rfl⟩ : ∃ z : World, z = wr := ⟨_, rfl⟩
     by_cases hvl : v < ls.length
     ·obtain ⟨z, hz⟩ := get_some hvl
      have v0 : (0 : Int) ≤ (v : Int) := by omega
      have v1 : (v : Int) < (ls.length : Int) := by omega
      have hzm : (lvP ls)[v]? = some (z.val, z.l) := by unfold lvP; rw [List.getElem?_map, hz]; rfl
      have HR := Lib.hid (show Lv.RowsOk z.l at_ from by
       have h1 := List.mem_of_getElem? hzm
       rw [HE.out] at h1
       obtain ⟨u, hu⟩ := liveR_row h1
       have e2 : z.l = rowR x u x.ord.length := congrArg Prod.snd hu
       rw [e2, ← Hat.out]; exact row_ok x u)
      have Hpv := Lib.hid (show ∀ (u : Nat) (y : LvD), u + 1 = v → ls[u]? = some y → y.val < z.val from fun u y hu hy => by
       have hc := liveR_climb x x.vals.l.length
       rw [← HE.out] at hc
       have h1 : (lvP ls)[u]? = some (y.val, y.l) := by unfold lvP; rw [List.getElem?_map, hy]; rfl
       obtain ⟨l1, e1⟩ := List.getElem?_eq_some_iff.1 h1
       obtain ⟨l2, e2⟩ := List.getElem?_eq_some_iff.1 hzm
       have := List.pairwise_iff_getElem.1 hc u v l1 l2 (by omega)
       rw [e1, e2] at this; exact this)
      have Hz := Lib.hid hz
      have HG := Lib.hid (fun (wx : World) (hkx : Keep wC wx) => HL.out.get hkx hz)
      clear hzm hz
      go_wp2_with fail
      go_loopw [13, 14] (fun vk _ wz => ∃ k : Nat, k ≤ z.l.length ∧ vk = .int .i64 k ∧ Hid (Keep wC wz)) (fun vk _ _ => z.l.length - (intOf vk).toNat)
      case atStart => exact ⟨0, Nat.zero_le _, rfl, hkeep⟩
      case round =>
       clear hkeep
       obtain ⟨k, hk, rfl, hkeep⟩ := hrel
       obtain ⟨wQ, rfl⟩ : ∃ z : World, z = wr := ⟨_, rfl⟩
       obtain ⟨B, off, hA, hB, q0, q1, hzo⟩ := HG.out wQ hkeep.out
       subst hA
       have hBl := Nat.lt_of_lt_of_le hB hkeep.out.size
       by_cases hkl : k < z.l.length
       ·obtain ⟨r, hr⟩ := get_some hkl
        obtain ⟨C, oc, hC, hCl, r0, r1⟩ := rng_get hzo.seg (Keep.refl _) hr
        have k0 : (0 : Int) ≤ (k : Int) := by omega
        have k1 : (k : Int) < (z.l.length : Int) := by omega
        have hzl := hzo.len
        unfold maxLen at hzl
        have hrp := HR.out.pos r (List.mem_of_getElem? hr)
        obtain ⟨ra, rb⟩ := r
        dsimp only at r0 r1 hrp
        obtain ⟨zA, hzA⟩ : ∃ A, z.a = A := ⟨_, rfl⟩
        rw [hzA] at q1 hC
        subst hC
        have g1 : decide (rb ≤ ra) = false := decide_eq_false (by omega)
        have g2 : decide (at_ < rb) = false := decide_eq_false (by omega)
        obtain ⟨wB, hwB, kB, bB, _⟩ := boxN wQ 70 [.int .i64 ra, .int .i64 rb]
        have b0 : wB.cell? ⟨wQ.heap.size, 0, none⟩ = some (.int .i64 ra) := bB.cell 0
        have b1 : wB.cell? ⟨wQ.heap.size, 1, none⟩ = some (.int .i64 rb) := bB.cell 1
        have bl := bB.lt
        have HkB := Lib.hid (hkeep.out.trans kB)
        obtain ⟨zv, hzv⟩ : ∃ a, z.val = a := ⟨_, rfl⟩
        have Hzv := Lib.hid hzv
        rw [hzv] at q0
        have bq0 := kB.cell q0
        have bq1 := kB.cell q1
        have hBl2 := Nat.lt_of_lt_of_le hBl kB.size
        have hCl2 := Nat.lt_of_lt_of_le hCl kB.size
        have Hzo := Lib.hid (show Seg wB (some ⟨C, oc, none⟩) (z.l.flatMap rngC) from by rw [← hzA]; exact hzo.seg.keep kB)
        have Hr := Lib.hid hr
        clear hr hzo hkeep kB bB hzv hzA
        obtain ⟨wd, hwd⟩ : ∃ wd, wB.drew = wd := ⟨_, rfl⟩
        have hd : Keep wB wd := by rw [← hwd]; exact (Keep.refl _).drew
        by_cases hk0 : 0 < k
        ·by_cases hv0 : 0 < v
         ·obtain ⟨kp, hkp⟩ : ∃ kp, k = kp + 1 := ⟨k - 1, by omega⟩
          obtain ⟨rp, hrp'⟩ := get_some (l := z.l) (k := kp) (by omega)
          obtain ⟨_, _, hCe, _, _, p1⟩ := rng_get Hzo.out (Keep.refl _) hrp'
          cases hCe
          have hap : rp.2 < ra := by
           obtain ⟨l1, e1⟩ := List.getElem?_eq_some_iff.1 hrp'
           obtain ⟨l2, e2⟩ := List.getElem?_eq_some_iff.1 Hr.out
           have := List.pairwise_iff_getElem.1 HR.out.apart kp k l1 l2 (by omega)
           rw [e1, e2] at this; exact this
          obtain ⟨pb, hpb⟩ : ∃ a, rp.2 = a := ⟨_, rfl⟩
          rw [hpb] at p1 hap
          have hM1 : (k : Int) - 1 = (kp : Int) := by omega
          have hw : IntKind.i64.wrap ((k : Int) - 1) = (kp : Int) := by rw [hM1]; exact IntWalk.i64_in _ (by omega)
          have kp0 : (0 : Int) ≤ (kp : Int) := by omega
          have kp1 : (kp : Int) < (z.l.length : Int) := by omega
          have kd : decide ((0 : Int) < (k : Int)) = true := decide_eq_true (by omega)
          have kdn : decide (0 < k) = true := decide_eq_true (by omega)
          have g3 : decide (ra ≤ pb) = false := decide_eq_false (by omega)
          clear hkp hrp' hpb
          obtain ⟨vp, hvp⟩ : ∃ vp, v = vp + 1 := ⟨v - 1, by omega⟩
          obtain ⟨y, hy⟩ := get_some (l := ls) (k := vp) (by omega)
          obtain ⟨_, _, hBe, _, s0, _, _⟩ := HL.out.get HkB.out hy
          cases hBe
          have hvv := Hpv.out vp y (by omega) hy
          obtain ⟨pv, hpv⟩ : ∃ a, y.val = a := ⟨_, rfl⟩
          rw [hpv] at s0 hvv
          rw [Hzv.out] at hvv
          have hV1 : (v : Int) - 1 = (vp : Int) := by omega
          have hwv : IntKind.i64.wrap ((v : Int) - 1) = (vp : Int) := by rw [hV1]; exact IntWalk.i64_in _ (by omega)
          have vp0 : (0 : Int) ≤ (vp : Int) := by omega
          have vp1 : (vp : Int) < (ls.length : Int) := by omega
          have vd : decide ((0 : Int) < (v : Int)) = true := decide_eq_true (by omega)
          have vdn : decide (0 < v) = true := decide_eq_true (by omega)
          have g4 : decide (zv ≤ pv) = false := decide_eq_false (by omega)
          clear hvp hy hpv
          go_wp2_with fail
          clear q0 q1 r0 r1 hBl hCl
          have eb0 := fun z : KW wB => z.cell b0
          have eb1 := fun z : KW wB => z.cell b1
          have ebq0 := fun z : KW wB => z.cell bq0
          have ebq1 := fun z : KW wB => z.cell bq1
          have ep1 := fun z : KW wB => z.cell p1
          have es0 := fun z : KW wB => z.cell s0
          refine region_begin (S := fun w' => ∃ z : KW wB, w' = z.val) (by kernel_rfl) ?_
          rw [hwd]
          refine region_take [0, 1, 2, 3, 4, 5, 6, 7, 8, 9, 10, 11] [] 36 (by kernel_rfl) (by kernel_rfl) (InK.mk' hd) ?_
          show wpQuiet _ _ _ _ [_, _, _, _, _, _, _, _, _, _, _, _] _
          repeat (go_big_quiet_step (fail))
          refine wpQuiet_nil ?_
          refine region_take [12, 13, 14, 15, 16, 17, 18, 19, 20, 21, 22, 23] [0, 1, 2, 3, 4, 5, 6, 7, 8, 9, 10, 11] 24 (by kernel_rfl) (by kernel_rfl) (InK.mk' hd) ?_
          show wpQuiet _ _ _ _ [_, _, _, _, _, _, _, _, _, _, _, _] _
          repeat (go_big_quiet_step (fail))
          refine wpQuiet_nil ?_
          refine region_take [24, 25, 26, 27, 28, 29, 30, 31, 32, 33, 34, 35] [0, 1, 2, 3, 4, 5, 6, 7, 8, 9, 10, 11, 12, 13, 14, 15, 16, 17, 18, 19, 20, 21, 22, 23] 12 (by kernel_rfl) (by kernel_rfl) (InK.mk' hd) ?_
          show wpQuiet _ _ _ _ [_, _, _, _, _, _, _, _, _, _, _, _] _
          repeat (go_big_quiet_step (fail))
          refine wpQuiet_nil ?_
          refine region_take [36, 37, 38, 39, 40, 41, 42, 43, 44, 45, 46, 47] [0, 1, 2, 3, 4, 5, 6, 7, 8, 9, 10, 11, 12, 13, 14, 15, 16, 17, 18, 19, 20, 21, 22, 23, 24, 25, 26, 27, 28, 29, 30, 31, 32, 33, 34, 35] 0 (by kernel_rfl) (by kernel_rfl) (InK.mk' hd) ?_
          show wpQuiet _ _ _ _ [_, _, _, _, _, _, _, _, _, _, _, _] _
          repeat (go_big_quiet_step (fail))
          refine wpQuiet_nil ?_
          clear hwd eb0 eb1 ebq0 ebq1 ep1 es0
          refine region_done (by kernel_rfl) ?_
          have Hkn := Lib.hid (HkB.out.trans hd)
          clear hd b0 b1 bq0 bq1 p1 s0
          go_wp2_with fail
          go_roundw
          case rel => exact ⟨k + 1, hkl, by go_num, Hkn⟩
          case measure => simp [intOf] <;> omega
         ·obtain ⟨kp, hkp⟩ : ∃ kp, k = kp + 1 := ⟨k - 1, by omega⟩
          obtain ⟨rp, hrp'⟩ := get_some (l := z.l) (k := kp) (by omega)
          obtain ⟨_, _, hCe, _, _, p1⟩ := rng_get Hzo.out (Keep.refl _) hrp'
          cases hCe
          have hap : rp.2 < ra := by
           obtain ⟨l1, e1⟩ := List.getElem?_eq_some_iff.1 hrp'
           obtain ⟨l2, e2⟩ := List.getElem?_eq_some_iff.1 Hr.out
           have := List.pairwise_iff_getElem.1 HR.out.apart kp k l1 l2 (by omega)
           rw [e1, e2] at this; exact this
          obtain ⟨pb, hpb⟩ : ∃ a, rp.2 = a := ⟨_, rfl⟩
          rw [hpb] at p1 hap
          have hM1 : (k : Int) - 1 = (kp : Int) := by omega
          have hw : IntKind.i64.wrap ((k : Int) - 1) = (kp : Int) := by rw [hM1]; exact IntWalk.i64_in _ (by omega)
          have kp0 : (0 : Int) ≤ (kp : Int) := by omega
          have kp1 : (kp : Int) < (z.l.length : Int) := by omega
          have kd : decide ((0 : Int) < (k : Int)) = true := decide_eq_true (by omega)
          have kdn : decide (0 < k) = true := decide_eq_true (by omega)
          have g3 : decide (ra ≤ pb) = false := decide_eq_false (by omega)
          clear hkp hrp' hpb
          have vd : decide ((0 : Int) < (v : Int)) = false := decide_eq_false (by omega)
          have vdn : decide (0 < v) = false := decide_eq_false (by omega)
          go_wp2_with fail
          clear q0 q1 r0 r1 hBl hCl
          have eb0 := fun z : KW wB => z.cell b0
          have eb1 := fun z : KW wB => z.cell b1
          have ebq0 := fun z : KW wB => z.cell bq0
          have ebq1 := fun z : KW wB => z.cell bq1
          have ep1 := fun z : KW wB => z.cell p1
          refine region_begin (S := fun w' => ∃ z : KW wB, w' = z.val) (by kernel_rfl) ?_
          rw [hwd]
          refine region_take [0, 1, 2, 3, 4, 5, 6, 7, 8, 9, 10, 11] [] 36 (by kernel_rfl) (by kernel_rfl) (InK.mk' hd) ?_
          show wpQuiet _ _ _ _ [_, _, _, _, _, _, _, _, _, _, _, _] _
          repeat (go_big_quiet_step (fail))
          refine wpQuiet_nil ?_
          refine region_take [12, 13, 14, 15, 16, 17, 18, 19, 20, 21, 22, 23] [0, 1, 2, 3, 4, 5, 6, 7, 8, 9, 10, 11] 24 (by kernel_rfl) (by kernel_rfl) (InK.mk' hd) ?_
          show wpQuiet _ _ _ _ [_, _, _, _, _, _, _, _, _, _, _, _] _
          repeat (go_big_quiet_step (fail))
          refine wpQuiet_nil ?_
          refine region_take [24, 25, 26, 27, 28, 29, 30, 31, 32, 33, 34, 35] [0, 1, 2, 3, 4, 5, 6, 7, 8, 9, 10, 11, 12, 13, 14, 15, 16, 17, 18, 19, 20, 21, 22, 23] 12 (by kernel_rfl) (by kernel_rfl) (InK.mk' hd) ?_
          show wpQuiet _ _ _ _ [_, _, _, _, _, _, _, _, _, _, _, _] _
          repeat (go_big_quiet_step (fail))
          refine wpQuiet_nil ?_
          refine region_take [36, 37, 38, 39, 40, 41, 42, 43, 44, 45, 46, 47] [0, 1, 2, 3, 4, 5, 6, 7, 8, 9, 10, 11, 12, 13, 14, 15, 16, 17, 18, 19, 20, 21, 22, 23, 24, 25, 26, 27, 28, 29, 30, 31, 32, 33, 34, 35] 0 (by kernel_rfl) (by kernel_rfl) (InK.mk' hd) ?_
          show wpQuiet _ _ _ _ [_, _, _, _, _, _, _, _, _, _, _, _] _
          repeat (go_big_quiet_step (fail))
          refine wpQuiet_nil ?_
          clear hwd eb0 eb1 ebq0 ebq1 ep1
          refine region_done (by kernel_rfl) ?_
          have Hkn := Lib.hid (HkB.out.trans hd)
          clear hd b0 b1 bq0 bq1 p1
          go_wp2_with fail
          go_roundw
          case rel => exact ⟨k + 1, hkl, by go_num, Hkn⟩
          case measure => simp [intOf] <;> omega
        ·by_cases hv0 : 0 < v
         ·have kd : decide ((0 : Int) < (k : Int)) = false := decide_eq_false (by omega)
          have kdn : decide (0 < k) = false := decide_eq_false (by omega)
          obtain ⟨vp, hvp⟩ : ∃ vp, v = vp + 1 := ⟨v - 1, by omega⟩
          obtain ⟨y, hy⟩ := get_some (l := ls) (k := vp) (by omega)
          obtain ⟨_, _, hBe, _, s0, _, _⟩ := HL.out.get HkB.out hy
          cases hBe
          have hvv := Hpv.out vp y (by omega) hy
          obtain ⟨pv, hpv⟩ : ∃ a, y.val = a := ⟨_, rfl⟩
          rw [hpv] at s0 hvv
          rw [Hzv.out] at hvv
          have hV1 : (v : Int) - 1 = (vp : Int) := by omega
          have hwv : IntKind.i64.wrap ((v : Int) - 1) = (vp : Int) := by rw [hV1]; exact IntWalk.i64_in _ (by omega)
          have vp0 : (0 : Int) ≤ (vp : Int) := by omega
          have vp1 : (vp : Int) < (ls.length : Int) := by omega
          have vd : decide ((0 : Int) < (v : Int)) = true := decide_eq_true (by omega)
          have vdn : decide (0 < v) = true := decide_eq_true (by omega)
          have g4 : decide (zv ≤ pv) = false := decide_eq_false (by omega)
          clear hvp hy hpv
          go_wp2_with fail
          clear q0 q1 r0 r1 hBl hCl
          have eb0 := fun z : KW wB => z.cell b0
          have eb1 := fun z : KW wB => z.cell b1
          have ebq0 := fun z : KW wB => z.cell bq0
          have ebq1 := fun z : KW wB => z.cell bq1
          have es0 := fun z : KW wB => z.cell s0
          refine region_begin (S := fun w' => ∃ z : KW wB, w' = z.val) (by kernel_rfl) ?_
          rw [hwd]
          refine region_take [0, 1, 2, 3, 4, 5, 6, 7, 8, 9, 10, 11] [] 36 (by kernel_rfl) (by kernel_rfl) (InK.mk' hd) ?_
          show wpQuiet _ _ _ _ [_, _, _, _, _, _, _, _, _, _, _, _] _
          repeat (go_big_quiet_step (fail))
          refine wpQuiet_nil ?_
          refine region_take [12, 13, 14, 15, 16, 17, 18, 19, 20, 21, 22, 23] [0, 1, 2, 3, 4, 5, 6, 7, 8, 9, 10, 11] 24 (by kernel_rfl) (by kernel_rfl) (InK.mk' hd) ?_
          show wpQuiet _ _ _ _ [_, _, _, _, _, _, _, _, _, _, _, _] _
          repeat (go_big_quiet_step (fail))
          refine wpQuiet_nil ?_
          refine region_take [24, 25, 26, 27, 28, 29, 30, 31, 32, 33, 34, 35] [0, 1, 2, 3, 4, 5, 6, 7, 8, 9, 10, 11, 12, 13, 14, 15, 16, 17, 18, 19, 20, 21, 22, 23] 12 (by kernel_rfl) (by kernel_rfl) (InK.mk' hd) ?_
          show wpQuiet _ _ _ _ [_, _, _, _, _, _, _, _, _, _, _, _] _
          repeat (go_big_quiet_step (fail))
          refine wpQuiet_nil ?_
          refine region_take [36, 37, 38, 39, 40, 41, 42, 43, 44, 45, 46, 47] [0, 1, 2, 3, 4, 5, 6, 7, 8, 9, 10, 11, 12, 13, 14, 15, 16, 17, 18, 19, 20, 21, 22, 23, 24, 25, 26, 27, 28, 29, 30, 31, 32, 33, 34, 35] 0 (by kernel_rfl) (by kernel_rfl) (InK.mk' hd) ?_
          show wpQuiet _ _ _ _ [_, _, _, _, _, _, _, _, _, _, _, _] _
          repeat (go_big_quiet_step (fail))
          refine wpQuiet_nil ?_
          clear hwd eb0 eb1 ebq0 ebq1 es0
          refine region_done (by kernel_rfl) ?_
          have Hkn := Lib.hid (HkB.out.trans hd)
          clear hd b0 b1 bq0 bq1 s0
          go_wp2_with fail
          go_roundw
          case rel => exact ⟨k + 1, hkl, by go_num, Hkn⟩
          case measure => simp [intOf] <;> omega
         ·have kd : decide ((0 : Int) < (k : Int)) = false := decide_eq_false (by omega)
          have kdn : decide (0 < k) = false := decide_eq_false (by omega)
          have vd : decide ((0 : Int) < (v : Int)) = false := decide_eq_false (by omega)
          have vdn : decide (0 < v) = false := decide_eq_false (by omega)
          go_wp2_with fail
          clear q0 q1 r0 r1 hBl hCl
          have eb0 := fun z : KW wB => z.cell b0
          have eb1 := fun z : KW wB => z.cell b1
          have ebq0 := fun z : KW wB => z.cell bq0
          have ebq1 := fun z : KW wB => z.cell bq1
          refine region_begin (S := fun w' => ∃ z : KW wB, w' = z.val) (by kernel_rfl) ?_
          rw [hwd]
          refine region_take [0, 1, 2, 3, 4, 5, 6, 7, 8, 9, 10, 11] [] 36 (by kernel_rfl) (by kernel_rfl) (InK.mk' hd) ?_
          show wpQuiet _ _ _ _ [_, _, _, _, _, _, _, _, _, _, _, _] _
          repeat (go_big_quiet_step (fail))
          refine wpQuiet_nil ?_
          refine region_take [12, 13, 14, 15, 16, 17, 18, 19, 20, 21, 22, 23] [0, 1, 2, 3, 4, 5, 6, 7, 8, 9, 10, 11] 24 (by kernel_rfl) (by kernel_rfl) (InK.mk' hd) ?_
          show wpQuiet _ _ _ _ [_, _, _, _, _, _, _, _, _, _, _, _] _
          repeat (go_big_quiet_step (fail))
          refine wpQuiet_nil ?_
          refine region_take [24, 25, 26, 27, 28, 29, 30, 31, 32, 33, 34, 35] [0, 1, 2, 3, 4, 5, 6, 7, 8, 9, 10, 11, 12, 13, 14, 15, 16, 17, 18, 19, 20, 21, 22, 23] 12 (by kernel_rfl) (by kernel_rfl) (InK.mk' hd) ?_
          show wpQuiet _ _ _ _ [_, _, _, _, _, _, _, _, _, _, _, _] _
          repeat (go_big_quiet_step (fail))
          refine wpQuiet_nil ?_
          refine region_take [36, 37, 38, 39, 40, 41, 42, 43, 44, 45, 46, 47] [0, 1, 2, 3, 4, 5, 6, 7, 8, 9, 10, 11, 12, 13, 14, 15, 16, 17, 18, 19, 20, 21, 22, 23, 24, 25, 26, 27, 28, 29, 30, 31, 32, 33, 34, 35] 0 (by kernel_rfl) (by kernel_rfl) (InK.mk' hd) ?_
          show wpQuiet _ _ _ _ [_, _, _, _, _, _, _, _, _, _, _, _] _
          repeat (go_big_quiet_step (fail))
          refine wpQuiet_nil ?_
          clear hwd eb0 eb1 ebq0 ebq1
          refine region_done (by kernel_rfl) ?_
          have Hkn := Lib.hid (HkB.out.trans hd)
          clear hd b0 b1 bq0 bq1
          go_wp2_with fail
          go_roundw
          case rel => exact ⟨k + 1, hkl, by go_num, Hkn⟩
          case measure => simp [intOf] <;> omega
       ·go_wp2_with fail
        go_roundw
        case rel => exact ⟨v + 1, hvl, by go_num, hkeep⟩
        case measure => simp [intOf] <;> omega
     ·have HkP := Lib.hid (HkC.out.trans hkeep.out)
      have Hpl := Lib.hid (places_calls x wP (HX.out wP HkP.out) Hs.out)
      obtain ⟨c0, c1, c2, c3, lt⟩ := Hc.out wP HkP.out
      rw [Hat.out] at Hpl
      clear hkeep
      go_wp2_with fail
      refine Hpl.out.mono ?_
      clear Hpl c0 c1 c2 c3 lt
      rintro e w8 ⟨rfl, hk8⟩
      have Hal := Lib.hid (alive_calls w8)
      have Hk8 := Lib.hid (HkP.out.trans hk8)
      clear hk8
      go_wp2_with fail
      refine Hal.out.mono ?_
      clear Hal
      rintro e w9 ⟨rfl, hk9⟩
      have Hk9 := Lib.hid (HkV.out.trans (Hk8.out.trans hk9))
      clear hk9
      go_wp2_with fail
      go_ret
      exact ⟨rfl, Hk9.out⟩
end Go.Proofs.YtjpmiejgcnfiiaaGreat
namespace Go.Proofs.YtjpmiejgcnfiiaaGreat.PLiveUses
open Go Go.ChangeShapes Go.WideShapes Go.ChangeAt Go.RowKit

theorem own : ownKnob Tryz.prog.godebug = none := by kernel_rfl
set_option maxRecDepth 100000 in
theorem contract (H : Type) (enc : TypeId × Value → H) (W : World) (base : Nat) (args : Array Value) (ds gs : List (DataW H)) (before : List MemPlace)
  (hval : ∀ (j : Nat) t v, Tryz.f5.params[j]? = some t → args[j]? = some v → Value.okWide Tryz.prog W .any base t v)
  (hW : DataW.Whole enc Tryz.prog Tryz.f5.params.toList Rows.liveUsesSpec.vars false W args.toList ds gs before) (hk : Rows.uptoSmall H (ds ++ gs) = true) :
  Calls Tryz.prog 5 args W fun e W' => ∃ v, e = .returned v ∧ Rows.liveUsesSpec.post enc Tryz.prog Tryz.f5 false true false false W args v W' := by
 have hW' := hW
 obtain ⟨p, q, hA0, hV, rfl, hfz, hnd⟩ := hW
 have hA : DataW.TrodAll enc Tryz.prog W 0 (fun _ => true) true Tryz.f5.params.toList args.toList ds p := hA0
 have hA1 := hA
 rw [Tryz.params5] at hA hval
 obtain ⟨v0, vs0, d0, ds0, p0, q0, hargs, rfl, rfl, h0, r0⟩ := trodAll_cons hA
 obtain ⟨v1, vs1, d1, ds1, p1, q1, rfl, rfl, rfl, h1, r1⟩ := trodAll_cons r0
 obtain ⟨rfl, rfl, rfl⟩ := trodAll_nil r1
 obtain rfl : args = #[v0, v1] := by cases args; simp_all
 obtain ⟨rfl, rfl⟩ := trodVars_none hV
 have hbd := bulk_bound hk
 simp only [List.append_nil, Rows.uptoBulkAll] at hbd
 obtain ⟨m, rfl, hm, sm⟩ := openU_struct Tryz.underlying33 (opU_module W) (hval 0 _ v0 rfl rfl) h0
 obtain ⟨x, rfl, hx, sx⟩ := openU_struct Tryz.underlying39 (opU_form W) (hval 1 _ v1 rfl rfl) h1
 clear hA0
 refine (uses_law m x W (MdOk.of hm (by omega)) hx.1 hx.2.1 hx.2.2.1 (Bulky.of (by omega)) hx.2.2.2).mono fun e W' ⟨he, bel⟩ => ?_
 subst he
 exact ⟨_, rfl, _, _, _, [], _, [], hW', trodAll_mk1 (shut_bool Tryz.underlying4 _), Keep.trodAll DZ.laidOut bel (by kernel_rfl) hA1, rfl, bel.frame _, fun h => by cases h⟩

set_option maxRecDepth 100000 in
theorem lifted (os : Os) (started : os.Started) (H : Type) (enc : TypeId × Value → H) (F : Stop.Interp) :
  ReturnsInHanded {} Tryz.checked os 5 .any ((Rows.OpenSpec.upto Rows.liveUsesSpec).pre6 enc Tryz.prog Tryz.f5 Rows.liveUsesUptoRow.domain false) (((Rows.OpenSpec.upto Rows.liveUsesSpec).at F).post enc Tryz.prog Tryz.f5 false true false false) := by
 refine returnsInHanded_of_cond (C := Tryz.checked) (s := Rows.OpenSpec.upto Rows.liveUsesSpec) (k := Rows.uptoSmall) rfl own started (by kernel_rfl) Tryz.func5
  (OpenSpec.witness (enc := enc) (C := Tryz.checked) (s := Rows.OpenSpec.upto Rows.liveUsesSpec) (k := Rows.uptoSmall) rfl false ⟨#[], #[.agg #[.slice none 0 0, .slice none 0 0, .slice none 0 0, .slice none 0 0, .slice none 0 0, .slice none 0 0, .slice none 0 0, .bool false, .int .i64 0, .slice none 0 0, .slice none 0 0, .slice none 0 0], .agg #[.slice none 0 0, .slice none 0 0, .slice none 0 0, .slice none 0 0]], []⟩ 8 (by kernel_rfl) (by kernel_rfl) (by kernel_rfl)
   (x := ([.agg [.nil, .nil, .nil, .nil, .nil, .nil, .nil, .lit (.bool false), .lit (.int .i64 0), .nil, .nil, .nil], .agg [.agg [.nil, .nil], .nil, .nil]], [], [])) (by kernel_rfl) rfl (by kernel_rfl)) ?_
 intro W base args ds gs before hval hW _ hk _
 exact contract H enc W base args ds gs before hval hW hk

theorem proved : Rows.LiveUsesUptoSaid :=
 OpenClaim.holds_of_cond 5 Tryz.f5 rfl rfl rfl rfl rfl rfl rfl ⟨rfl, rfl, rfl, rfl, rfl⟩ rfl rfl rfl rfl rfl (by kernel_rfl) Tryz.func5 (by kernel_rfl)
  (of_decide_eq_true (by kernel_rfl)) (by unfold Func.isWrapper; first | (rw [if_pos (by decide +kernel)]; kernel_rfl) | (rw [if_neg (by decide +kernel)]; exact ⟨rfl, rfl⟩))
  (fun os started H enc _ F => lifted os started H enc F)
end Go.Proofs.YtjpmiejgcnfiiaaGreat.PLiveUses
