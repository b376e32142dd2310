import Derived.Test.YtjpmiejgcnfiiaaGreatQ35
import Derived.Test.YtjpmiejgcnfiiaaGreatQ31
import Derived.Test.YtjpmiejgcnfiiaaGreatQ34
import Derived.Laws.Tables
import Derived.WalkMore
import Derived.Deep.DeepCutAuto
import Derived.Deep.Cut
import Derived.Test.YtjpmiejgcnfiiaaGreatQ6
set_option linter.unusedVariables false
set_option linter.unusedSimpArgs false
namespace Go.Proofs.YtjpmiejgcnfiiaaGreat
open Go Go.RowKit

/-- What is left of the record once it is made. -/
structure LkMade (wA wx : World) (bl : Nat) (kk : LkD) (m : MdD) (x : SsD) : Prop where
 hm : kk.m = m
 hx : kk.x = x
 blk : Blk wx bl 108 (lkC kk)
 ok : LkOk wx kk
 idom : Dom.Idom x.G kk.idom.l
 defs : DefsI x 0 kk.defs.l
 reached : RchE x kk.reached.l
 keep : Keep wA wx
 ge : wA.heap.size ≤ bl
theorem valid_of {kk : LkD} {m : MdD} {x : SsD} {wA wx : World} {bl : Nat} (h : LkMade wA wx bl kk m x) (hw : WholeOk x) (hb : ∀ b y, x.blocks.l[b]? = some y → BkV kk.x kk.K b y) : ValidD x kk.K kk.idom.l := by
 have hx := h.hx
 refine ⟨⟨hw.ne, hw.first, hw.once, h.defs, h.reached.root (List.length_pos_iff.2 hw.ne), fun b hb t ht => h.reached.shut b hb t ht, fun b y hy => ?_⟩, h.idom, rfl⟩
 have := hb b y hy
 rwa [hx] at this
set_option maxHeartbeats 16000000 in
set_option maxRecDepth 100000 in
theorem check39_calls (m : MdD) (x : SsD) (w : World) (hm : MdOk w m) (h : SsOk w x) (hp : NumOk w x.params) (hr : NumOk w x.results) (hb : Bulky x) (hwf : ∀ y ∈ x.blocks.l, ∀ i ∈ y.ins.l, InWf i) :
  Calls Tryz.prog 21 #[.agg (mdC m).toArray, .agg (ssC x).toArray] w fun e w' => ∃ n er, e = .returned (.tuple #[.int .i64 n, .int .i64 er]) ∧ (er = 0 → ∃ K I, ValidD x K I) ∧ Keep w w' := by
 obtain ⟨W, hW, kW, bW, sW⟩ := boxN w 33 (mdC m)
 obtain ⟨V, hV, kV, bV, sV⟩ := boxN W 39 (ssC x)
 have Hc := Lib.hid (fun (w' : World) (hk : Keep V w') => (⟨(bV.keep hk).cell 0, (bV.keep hk).cell 1, (bV.keep hk).cell 2, (bV.keep hk).cell 3, (bV.keep hk).lt⟩ : w'.cell? ⟨W.heap.size, 0, none⟩ = some (.slice x.params.a x.params.l.length x.params.c) ∧ w'.cell? ⟨W.heap.size, 1, none⟩ = some (.slice x.results.a x.results.l.length x.results.c) ∧ w'.cell? ⟨W.heap.size, 2, none⟩ = some (.slice x.vals.a x.vals.l.length x.vals.c) ∧ w'.cell? ⟨W.heap.size, 3, none⟩ = some (.slice x.blocks.a x.blocks.l.length x.blocks.c) ∧ W.heap.size < w'.heap.size))
 have Hmc := Lib.hid (fun (w' : World) (hk : Keep V w') => ((bW.keep kV).keep hk).md)
 have kk0 := kW.trans kV
 have HkV := Lib.hid kk0
 have HM := Lib.hid (fun (w' : World) (hk : Keep V w') => hm.keep (kk0.trans hk))
 have HX := Lib.hid (fun (w' : World) (hk : Keep V w') => h.keep (kk0.trans hk))
 have HP := Lib.hid (fun (w' : World) (hk : Keep V w') => hp.keep (kk0.trans hk))
 have HR := Lib.hid (fun (w' : World) (hk : Keep V w') => hr.keep (kk0.trans hk))
 have HB := Lib.hid hb
 have HWF := Lib.hid hwf
 have hnl := hb.blocks
 have hvl := hb.vals
 obtain ⟨c0, c1, c2, c3, lt⟩ := Hc.out V (Keep.refl _)
 clear bW sW bV sV hm h hp hr hb hwf kW kV kk0
 by_cases g1 : 8192 < x.blocks.l.length
 ·have g1b : decide ((8192 : Int) < (x.blocks.l.length : Int)) = true := decide_eq_true (by omega)
  have g1c : decide (8192 < x.blocks.l.length) = true := decide_eq_true (by omega)
  clear g1
  go_enter Tryz.func21, Tryz.ntmps21
  go_wp2
  refine bodyPost_ret (by simp [results, Tryz.results21, go_sem] <;> rfl) rfl ?_
  exact ⟨0, 6, rfl, (fun h => by cases h), HkV.out⟩
 have g1b : decide ((8192 : Int) < (x.blocks.l.length : Int)) = false := decide_eq_false (by omega)
 have g1c : decide (8192 < x.blocks.l.length) = false := decide_eq_false (by omega)
 by_cases g2 : 65536 < x.vals.l.length
 ·have g2b : decide ((65536 : Int) < (x.vals.l.length : Int)) = true := decide_eq_true (by omega)
  have g2c : decide (65536 < x.vals.l.length) = true := decide_eq_true (by omega)
  clear g1 g2
  go_enter Tryz.func21, Tryz.ntmps21
  go_wp2
  refine bodyPost_ret (by simp [results, Tryz.results21, go_sem] <;> rfl) rfl ?_
  exact ⟨0, 6, rfl, (fun h => by cases h), HkV.out⟩
 have g2b : decide ((65536 : Int) < (x.vals.l.length : Int)) = false := decide_eq_false (by omega)
 have g2c : decide (65536 < x.vals.l.length) = false := decide_eq_false (by omega)
 have Hwh := Lib.hid (whole39_calls x V (HX.out V (Keep.refl _)) (HP.out V (Keep.refl _)) (HR.out V (Keep.refl _)) HB.out (by omega))
 have hn8 : x.blocks.l.length ≤ 8192 := by omega
 have hv6 : x.vals.l.length ≤ 65536 := by omega
 clear g1 g2
 go_enter Tryz.func21, Tryz.ntmps21
 go_wp2_with fail
 refine Hwh.out.mono ?_
 clear Hwh c0 c1 c2 c3 lt
 rintro e wA ⟨r, rfl, hw, hkA⟩
 have HkA := Lib.hid hkA
 obtain ⟨c0, c1, c2, c3, lt⟩ := Hc.out wA hkA
 cases r with
 | false =>
  clear hw
  go_wp2
  refine bodyPost_ret (by simp [results, Tryz.results21, go_sem] <;> rfl) rfl ?_
  exact ⟨0, 29, rfl, (fun h => by cases h), HkV.out.trans HkA.out⟩
 | true =>
  have HW := Lib.hid (hw rfl)
  have hn0 : 0 < x.blocks.l.length := List.length_pos_iff.2 HW.out.ne
  clear hw hkA
  go_upto_region 5 with fail
  go_cut [6] from 21 to 30 (fun v6 wx => ∃ bl kk, v6 = .pointer (some ⟨bl, 0, none⟩) ∧ LkMade wA wx bl kk m x)
  case first =>
   obtain ⟨d0, d1, d2, d3, d4, d5, d6, d7, d8, d9, da, db, ltm⟩ := Hmc.out wA HkA.out
   have ec0 := fun z : KW wA => z.cell c0
   have ec1 := fun z : KW wA => z.cell c1
   have ec2 := fun z : KW wA => z.cell c2
   have ec3 := fun z : KW wA => z.cell c3
   have ed0 := fun z : KW wA => z.cell d0
   have ed1 := fun z : KW wA => z.cell d1
   have ed2 := fun z : KW wA => z.cell d2
   have ed3 := fun z : KW wA => z.cell d3
   have ed4 := fun z : KW wA => z.cell d4
   have ed5 := fun z : KW wA => z.cell d5
   have ed6 := fun z : KW wA => z.cell d6
   have ed7 := fun z : KW wA => z.cell d7
   have ed8 := fun z : KW wA => z.cell d8
   have ed9 := fun z : KW wA => z.cell d9
   have eda := fun z : KW wA => z.cell da
   have edb := fun z : KW wA => z.cell db
   obtain ⟨wd, hwd⟩ : ∃ wd, wA.drew = wd := ⟨_, rfl⟩
   have hd : Keep wA wd := by rw [← hwd]; exact (Keep.refl _).drew
   obtain ⟨I, hI⟩ := Dom.Idom.ex x.G
   have HI := Lib.hid hI
   clear hI
   refine region_begin (S := fun w' => ∃ z : KW wA, w' = z.val) (by kernel_rfl) ?_
   rw [hwd]
   refine region_take [0, 1, 2, 5, 7] [] 7 (by kernel_rfl) (by kernel_rfl) (InK.mk' hd) ?_
   show wpQuiet _ _ _ _ [_, _, _, _, _] _
   repeat (go_big_quiet_step (fail))
   refine wpQuiet_nil ?_
   clear hwd ec0 ec1 ec2 ec3 ed0 ed1 ed2 ed3 ed4 ed5 ed6 ed7 ed8 ed9 eda edb c0 c1 c2 c3 lt d0 d1 d2 d3 d4 d5 d6 d7 d8 d9 da db ltm
   refine region_any (fuel := 6) (is := [3, 10]) (by kernel_rfl) (by simp) (mem2 ?_ ?_)
   ·refine ⟨_, rfl, fun K hK => ?_⟩
    go_simp
    refine (next39_calls x wd (HX.out _ (HkA.out.trans hd)) HB.out (by omega)).mono ?_
    rintro e wN ⟨AN, rs, cN, rfl, hg, hgr, hkN⟩
    have hK3 : Keep wA wN := hd.trans hkN
    have hrl : rs.length ≤ 100000 := by rw [gr_length hgr]; omega
    have HIg := Lib.hid (show Dom.Idom (DZ.gr rs) I from by rw [hgr]; exact HI.out)
    have Hgr := Lib.hid hg
    clear hgr hg
    refine hK _ _ (InK.mk' hK3) ?_
    clear hK K
    refine region_any (fuel := 5) (is := [4, 10]) (by kernel_rfl) (by simp) (mem2 ?_ ?_)
    ·refine ⟨_, rfl, fun K hK => ?_⟩
     go_simp
     refine (DZ.refOf_calls rs AN cN wN Hgr.out hrl HIg.out).mono ?_
     rintro e wO ⟨vO, rfl, hoI, hkO⟩
     obtain ⟨AI, cI, rfl, hIc, hIc2⟩ := hoI.form
     have hK4 : Keep wA wO := hK3.trans hkO
     have HoI := Lib.hid hoI
     have hIl : I.length ≤ 8192 := by rw [HI.out.len, SsD.G_len]; exact hn8
     clear hoI hIc hIc2
     refine hK _ _ (InK.mk' hK4) ?_
     clear hK K
     refine region_any (fuel := 4) (is := [6, 10]) (by kernel_rfl) (by simp) (mem2 ?_ ?_)
     ·refine ⟨_, rfl, fun K hK => ?_⟩
      go_simp
      refine (defs39_calls x wO (HX.out _ (HkA.out.trans hK4)) HB.out (by omega)).mono ?_
      rintro e wD ⟨gD, D, rfl, hiD, hDI, hkD⟩
      have hK6 : Keep wA wD := hK4.trans hkD
      have HiD := Lib.hid hiD
      have HDI := Lib.hid hDI
      clear hiD hDI
      refine hK _ _ (InK.mk' hK6) ?_
      clear hK K
      refine region_any (fuel := 3) (is := [8, 10]) (by kernel_rfl) (by simp) (mem2 ?_ ?_)
      ·refine ⟨_, rfl, fun K hK => ?_⟩
       go_simp
       refine (reached39_calls x wD (HX.out _ (HkA.out.trans hK6)) HB.out (by omega) hn0).mono ?_
       rintro e wR ⟨gR, sR, rfl, hbR, hRE, hkR⟩
       have hK8 : Keep wA wR := hK6.trans hkR
       have HbR := Lib.hid hbR
       have HRE := Lib.hid hRE
       clear hbR hRE
       refine hK _ _ (InK.mk' hK8) ?_
       clear hK K
       refine region_take [9] [0, 1, 2, 5, 7, 3, 4, 6, 8] 2 (by kernel_rfl) (by kernel_rfl) (InK.mk' hK8) ?_
       show wpQuiet _ _ _ _ [_] _
       repeat (go_big_quiet_step (fail))
       refine wpQuiet_nil ?_
       refine region_fix (i := 10) (fuel := 1) rfl (by kernel_rfl) (fun K hK => ?_)
       go_simp
       have bz : Blk (wR.alloc (.cells #[.slice none 0 0, .slice none 0 0, .slice none 0 0, .slice none 0 0, .slice none 0 0, .slice none 0 0, .slice none 0 0, .bool false, .int .i64 0, .slice none 0 0, .slice none 0 0, .slice none 0 0, .slice none 0 0, .slice none 0 0, .slice none 0 0, .slice none 0 0, .slice none 0 0, .slice none 0 0, .slice none 0 0] 108)) wR.heap.size 108 [.slice none 0 0, .slice none 0 0, .slice none 0 0, .slice none 0 0, .slice none 0 0, .slice none 0 0, .slice none 0 0, .bool false, .int .i64 0, .slice none 0 0, .slice none 0 0, .slice none 0 0, .slice none 0 0, .slice none 0 0, .slice none 0 0, .slice none 0 0, .slice none 0 0, .slice none 0 0, .slice none 0 0] := Blk.new _ _ _
       obtain ⟨wZ, hwZ⟩ : ∃ W, wR.alloc (.cells #[.slice none 0 0, .slice none 0 0, .slice none 0 0, .slice none 0 0, .slice none 0 0, .slice none 0 0, .slice none 0 0, .bool false, .int .i64 0, .slice none 0 0, .slice none 0 0, .slice none 0 0, .slice none 0 0, .slice none 0 0, .slice none 0 0, .slice none 0 0, .slice none 0 0, .slice none 0 0, .slice none 0 0] 108) = W := ⟨_, rfl⟩
       have hkZ : Keep wR wZ := by rw [← hwZ]; exact (Keep.refl _).alloc _
       have hK10 : Keep wA wZ := hK8.trans hkZ
       obtain ⟨bl, hbl⟩ : ∃ bl, wR.heap.size = bl := ⟨_, rfl⟩
       rw [hwZ] at bz ⊢
       rw [hbl] at bz ⊢
       have hge : wA.heap.size ≤ bl := by rw [← hbl]; exact hK8.size
       have Hbz := Lib.hid bz
       clear hwZ hbl bz
       refine hK _ _ (InK.mk' hK10) ?_
       clear hK K
       obtain ⟨kk, hkk⟩ : ∃ kk : LkD, kk = ⟨m, x, ⟨AI, I, cI⟩, ⟨some ⟨gD, 0, none⟩, D, x.vals.l.length⟩, ⟨some ⟨gR, 0, none⟩, sR, x.blocks.l.length⟩⟩ := ⟨_, rfl⟩
       have hDl : D.length = x.vals.l.length := HDI.out.len
       have hRl : sR.length = x.blocks.l.length := HRE.out.len
       have hbzF : Blk wZ bl 108 [.slice none 0 0, .slice none 0 0, .slice none 0 0, .slice none 0 0, .slice none 0 0, .slice none 0 0, .slice none 0 0, .bool false, .int .i64 0, .slice none 0 0, .slice none 0 0, .slice none 0 0, .slice none 0 0, .slice none 0 0, .slice none 0 0, .slice none 0 0, .slice none 0 0, .slice none 0 0, .slice none 0 0] := Hbz.out
       have hblF : Blk (wZ.setRow bl (lkC kk).toArray) bl 108 (lkC kk) := setRow_heap _ _ _ _ _ _ hbzF
       have hEF : Ext (fun q => q = bl) wZ (wZ.setRow bl (lkC kk).toArray) := ⟨rfl, rfl, rfl, by rw [setRow_size]; exact Nat.le_refl _, fun q _ hq => setRow_other _ _ _ _ hq⟩
       have hKF : Keep wA (wZ.setRow bl (lkC kk).toArray) := Keep.of_ext hK10 hEF (fun q hq e => by omega)
       have hoF := (HoI.out.keep ((hkD.trans hkR).trans hkZ))
       have hiF := (HiD.out.keep (hkR.trans hkZ))
       have hbF := (HbR.out.keep hkZ)
       have HMade := Lib.hid (show LkMade wA (wZ.setRow bl (lkC kk).toArray) bl kk m x from by
        have hKV := HkA.out.trans hKF
        have hoE := hoF.ext hEF (fun q hq e => (hoF.blk_apart hbzF (by decide) hq) e)
        have hiE : IBlk (wZ.setRow bl (lkC kk).toArray) gD 3 D := Blk.ext hiF hEF (fun e => (Blk.ne hiF hbzF (by decide)) e)
        have hbE : BBlk (wZ.setRow bl (lkC kk).toArray) gR 4 sR := Blk.ext hbF hEF (fun e => (Blk.ne hbF hbzF (by decide)) e)
        have hbl2 := hblF
        clear hblF hEF
        generalize wZ.setRow bl (lkC kk).toArray = wF at *
        subst hkk
        exact ⟨rfl, rfl, hbl2, ⟨HM.out _ hKV, HX.out _ hKV, HP.out _ hKV, HR.out _ hKV, HB.out, HWF.out, hoE.segN.2, by show I.length ≤ _; omega, hiE.seg, hDl, hbE.seg, hRl⟩, HI.out, HDI.out, HRE.out, hKF, hge⟩)
       refine region_fixU (i := 11) (fuel := 0) rfl rfl (by kernel_rfl) (fun K hK => ?_)
       have hcells : (lkC kk).toArray = #[m.types.v, m.imports.v, m.funcs.v, m.tables.v, m.mems.v, m.globals.v, m.exports.v, .bool m.hasStart, .int .i64 m.start, m.elems.v, m.datas.v, m.customs.v, x.params.v, x.results.v, x.vals.v, x.blocks.v, .slice AI I.length cI, .slice (some ⟨gD, 0, none⟩) x.vals.l.length x.vals.l.length, .slice (some ⟨gR, 0, none⟩) x.blocks.l.length x.blocks.l.length] := by
        subst hkk
        simp only [lkC, RwD.v, hDl, hRl]
       refine wp_store_row _ _ _ rfl bl (lkC kk).toArray rfl (by rw [hcells]; rfl) _ _ hbzF (by show _ = some 19; kernel_rfl) (by rw [hcells]; rfl) (by rw [hcells]; simp [SlD.v, RwD.v, Value.oneCell']) ?_
       refine hK _ _ (InK.mk' hKF) ?_
       clear hK K
       refine region_done (by kernel_rfl) ?_
       simp only [Act.put, List.setIfInBounds_toArray, List.set_cons_succ, List.set_cons_zero]
       clear hKF hEF hblF hbzF hoF hiF hbF hcells
       go_wp2_with fail
       go_meet
       case rel => exact ⟨bl, kk, rfl, HMade.out⟩
      ·refine ⟨_, rfl, fun K hK => ?_⟩
       go_simp
       have bz : Blk (wD.alloc (.cells #[.slice none 0 0, .slice none 0 0, .slice none 0 0, .slice none 0 0, .slice none 0 0, .slice none 0 0, .slice none 0 0, .bool false, .int .i64 0, .slice none 0 0, .slice none 0 0, .slice none 0 0, .slice none 0 0, .slice none 0 0, .slice none 0 0, .slice none 0 0, .slice none 0 0, .slice none 0 0, .slice none 0 0] 108)) wD.heap.size 108 [.slice none 0 0, .slice none 0 0, .slice none 0 0, .slice none 0 0, .slice none 0 0, .slice none 0 0, .slice none 0 0, .bool false, .int .i64 0, .slice none 0 0, .slice none 0 0, .slice none 0 0, .slice none 0 0, .slice none 0 0, .slice none 0 0, .slice none 0 0, .slice none 0 0, .slice none 0 0, .slice none 0 0] := Blk.new _ _ _
       obtain ⟨wZ, hwZ⟩ : ∃ W, wD.alloc (.cells #[.slice none 0 0, .slice none 0 0, .slice none 0 0, .slice none 0 0, .slice none 0 0, .slice none 0 0, .slice none 0 0, .bool false, .int .i64 0, .slice none 0 0, .slice none 0 0, .slice none 0 0, .slice none 0 0, .slice none 0 0, .slice none 0 0, .slice none 0 0, .slice none 0 0, .slice none 0 0, .slice none 0 0] 108) = W := ⟨_, rfl⟩
       have hkZ : Keep wD wZ := by rw [← hwZ]; exact (Keep.refl _).alloc _
       have hK10 : Keep wA wZ := hK6.trans hkZ
       obtain ⟨bl, hbl⟩ : ∃ bl, wD.heap.size = bl := ⟨_, rfl⟩
       rw [hwZ] at bz ⊢
       rw [hbl] at bz ⊢
       have hge : wA.heap.size ≤ bl := by rw [← hbl]; exact hK6.size
       have Hbz := Lib.hid bz
       clear hwZ hbl bz
       refine hK _ _ (InK.mk' hK10) ?_
       clear hK K
       refine region_fix (i := 8) (fuel := 2) rfl (by kernel_rfl) (fun K hK => ?_)
       go_simp
       refine (reached39_calls x wZ (HX.out _ (HkA.out.trans hK10)) HB.out (by omega) hn0).mono ?_
       rintro e wR ⟨gR, sR, rfl, hbR, hRE, hkR⟩
       have hK8 : Keep wA wR := hK10.trans hkR
       have HbR := Lib.hid hbR
       have HRE := Lib.hid hRE
       clear hbR hRE
       refine hK _ _ (InK.mk' hK8) ?_
       clear hK K
       refine region_take [9] [0, 1, 2, 5, 7, 3, 4, 6, 10, 8] 1 (by kernel_rfl) (by kernel_rfl) (InK.mk' hK8) ?_
       show wpQuiet _ _ _ _ [_] _
       repeat (go_big_quiet_step (fail))
       refine wpQuiet_nil ?_
       obtain ⟨kk, hkk⟩ : ∃ kk : LkD, kk = ⟨m, x, ⟨AI, I, cI⟩, ⟨some ⟨gD, 0, none⟩, D, x.vals.l.length⟩, ⟨some ⟨gR, 0, none⟩, sR, x.blocks.l.length⟩⟩ := ⟨_, rfl⟩
       have hDl : D.length = x.vals.l.length := HDI.out.len
       have hRl : sR.length = x.blocks.l.length := HRE.out.len
       have hbzF : Blk wR bl 108 [.slice none 0 0, .slice none 0 0, .slice none 0 0, .slice none 0 0, .slice none 0 0, .slice none 0 0, .slice none 0 0, .bool false, .int .i64 0, .slice none 0 0, .slice none 0 0, .slice none 0 0, .slice none 0 0, .slice none 0 0, .slice none 0 0, .slice none 0 0, .slice none 0 0, .slice none 0 0, .slice none 0 0] := (Hbz.out.keep hkR)
       have hblF : Blk (wR.setRow bl (lkC kk).toArray) bl 108 (lkC kk) := setRow_heap _ _ _ _ _ _ hbzF
       have hEF : Ext (fun q => q = bl) wR (wR.setRow bl (lkC kk).toArray) := ⟨rfl, rfl, rfl, by rw [setRow_size]; exact Nat.le_refl _, fun q _ hq => setRow_other _ _ _ _ hq⟩
       have hKF : Keep wA (wR.setRow bl (lkC kk).toArray) := Keep.of_ext hK8 hEF (fun q hq e => by omega)
       have hoF := (HoI.out.keep ((hkD.trans hkZ).trans hkR))
       have hiF := (HiD.out.keep (hkZ.trans hkR))
       have hbF := HbR.out
       have HMade := Lib.hid (show LkMade wA (wR.setRow bl (lkC kk).toArray) bl kk m x from by
        have hKV := HkA.out.trans hKF
        have hoE := hoF.ext hEF (fun q hq e => (hoF.blk_apart hbzF (by decide) hq) e)
        have hiE : IBlk (wR.setRow bl (lkC kk).toArray) gD 3 D := Blk.ext hiF hEF (fun e => (Blk.ne hiF hbzF (by decide)) e)
        have hbE : BBlk (wR.setRow bl (lkC kk).toArray) gR 4 sR := Blk.ext hbF hEF (fun e => (Blk.ne hbF hbzF (by decide)) e)
        have hbl2 := hblF
        clear hblF hEF
        generalize wR.setRow bl (lkC kk).toArray = wF at *
        subst hkk
        exact ⟨rfl, rfl, hbl2, ⟨HM.out _ hKV, HX.out _ hKV, HP.out _ hKV, HR.out _ hKV, HB.out, HWF.out, hoE.segN.2, by show I.length ≤ _; omega, hiE.seg, hDl, hbE.seg, hRl⟩, HI.out, HDI.out, HRE.out, hKF, hge⟩)
       refine region_fixU (i := 11) (fuel := 0) rfl rfl (by kernel_rfl) (fun K hK => ?_)
       have hcells : (lkC kk).toArray = #[m.types.v, m.imports.v, m.funcs.v, m.tables.v, m.mems.v, m.globals.v, m.exports.v, .bool m.hasStart, .int .i64 m.start, m.elems.v, m.datas.v, m.customs.v, x.params.v, x.results.v, x.vals.v, x.blocks.v, .slice AI I.length cI, .slice (some ⟨gD, 0, none⟩) x.vals.l.length x.vals.l.length, .slice (some ⟨gR, 0, none⟩) x.blocks.l.length x.blocks.l.length] := by
        subst hkk
        simp only [lkC, RwD.v, hDl, hRl]
       refine wp_store_row _ _ _ rfl bl (lkC kk).toArray rfl (by rw [hcells]; rfl) _ _ hbzF (by show _ = some 19; kernel_rfl) (by rw [hcells]; rfl) (by rw [hcells]; simp [SlD.v, RwD.v, Value.oneCell']) ?_
       refine hK _ _ (InK.mk' hKF) ?_
       clear hK K
       refine region_done (by kernel_rfl) ?_
       simp only [Act.put, List.setIfInBounds_toArray, List.set_cons_succ, List.set_cons_zero]
       clear hKF hEF hblF hbzF hoF hiF hbF hcells
       go_wp2_with fail
       go_meet
       case rel => exact ⟨bl, kk, rfl, HMade.out⟩
     ·refine ⟨_, rfl, fun K hK => ?_⟩
      go_simp
      have bz : Blk (wO.alloc (.cells #[.slice none 0 0, .slice none 0 0, .slice none 0 0, .slice none 0 0, .slice none 0 0, .slice none 0 0, .slice none 0 0, .bool false, .int .i64 0, .slice none 0 0, .slice none 0 0, .slice none 0 0, .slice none 0 0, .slice none 0 0, .slice none 0 0, .slice none 0 0, .slice none 0 0, .slice none 0 0, .slice none 0 0] 108)) wO.heap.size 108 [.slice none 0 0, .slice none 0 0, .slice none 0 0, .slice none 0 0, .slice none 0 0, .slice none 0 0, .slice none 0 0, .bool false, .int .i64 0, .slice none 0 0, .slice none 0 0, .slice none 0 0, .slice none 0 0, .slice none 0 0, .slice none 0 0, .slice none 0 0, .slice none 0 0, .slice none 0 0, .slice none 0 0] := Blk.new _ _ _
      obtain ⟨wZ, hwZ⟩ : ∃ W, wO.alloc (.cells #[.slice none 0 0, .slice none 0 0, .slice none 0 0, .slice none 0 0, .slice none 0 0, .slice none 0 0, .slice none 0 0, .bool false, .int .i64 0, .slice none 0 0, .slice none 0 0, .slice none 0 0, .slice none 0 0, .slice none 0 0, .slice none 0 0, .slice none 0 0, .slice none 0 0, .slice none 0 0, .slice none 0 0] 108) = W := ⟨_, rfl⟩
      have hkZ : Keep wO wZ := by rw [← hwZ]; exact (Keep.refl _).alloc _
      have hK10 : Keep wA wZ := hK4.trans hkZ
      obtain ⟨bl, hbl⟩ : ∃ bl, wO.heap.size = bl := ⟨_, rfl⟩
      rw [hwZ] at bz ⊢
      rw [hbl] at bz ⊢
      have hge : wA.heap.size ≤ bl := by rw [← hbl]; exact hK4.size
      have Hbz := Lib.hid bz
      clear hwZ hbl bz
      refine hK _ _ (InK.mk' hK10) ?_
      clear hK K
      refine region_fix (i := 6) (fuel := 3) rfl (by kernel_rfl) (fun K hK => ?_)
      go_simp
      refine (defs39_calls x wZ (HX.out _ (HkA.out.trans hK10)) HB.out (by omega)).mono ?_
      rintro e wD ⟨gD, D, rfl, hiD, hDI, hkD⟩
      have hK6 : Keep wA wD := hK10.trans hkD
      have HiD := Lib.hid hiD
      have HDI := Lib.hid hDI
      clear hiD hDI
      refine hK _ _ (InK.mk' hK6) ?_
      clear hK K
      refine region_fix (i := 8) (fuel := 2) rfl (by kernel_rfl) (fun K hK => ?_)
      go_simp
      refine (reached39_calls x wD (HX.out _ (HkA.out.trans hK6)) HB.out (by omega) hn0).mono ?_
      rintro e wR ⟨gR, sR, rfl, hbR, hRE, hkR⟩
      have hK8 : Keep wA wR := hK6.trans hkR
      have HbR := Lib.hid hbR
      have HRE := Lib.hid hRE
      clear hbR hRE
      refine hK _ _ (InK.mk' hK8) ?_
      clear hK K
      refine region_take [9] [0, 1, 2, 5, 7, 3, 4, 10, 6, 8] 1 (by kernel_rfl) (by kernel_rfl) (InK.mk' hK8) ?_
      show wpQuiet _ _ _ _ [_] _
      repeat (go_big_quiet_step (fail))
      refine wpQuiet_nil ?_
      obtain ⟨kk, hkk⟩ : ∃ kk : LkD, kk = ⟨m, x, ⟨AI, I, cI⟩, ⟨some ⟨gD, 0, none⟩, D, x.vals.l.length⟩, ⟨some ⟨gR, 0, none⟩, sR, x.blocks.l.length⟩⟩ := ⟨_, rfl⟩
      have hDl : D.length = x.vals.l.length := HDI.out.len
      have hRl : sR.length = x.blocks.l.length := HRE.out.len
      have hbzF : Blk wR bl 108 [.slice none 0 0, .slice none 0 0, .slice none 0 0, .slice none 0 0, .slice none 0 0, .slice none 0 0, .slice none 0 0, .bool false, .int .i64 0, .slice none 0 0, .slice none 0 0, .slice none 0 0, .slice none 0 0, .slice none 0 0, .slice none 0 0, .slice none 0 0, .slice none 0 0, .slice none 0 0, .slice none 0 0] := (Hbz.out.keep (hkD.trans hkR))
      have hblF : Blk (wR.setRow bl (lkC kk).toArray) bl 108 (lkC kk) := setRow_heap _ _ _ _ _ _ hbzF
      have hEF : Ext (fun q => q = bl) wR (wR.setRow bl (lkC kk).toArray) := ⟨rfl, rfl, rfl, by rw [setRow_size]; exact Nat.le_refl _, fun q _ hq => setRow_other _ _ _ _ hq⟩
      have hKF : Keep wA (wR.setRow bl (lkC kk).toArray) := Keep.of_ext hK8 hEF (fun q hq e => by omega)
      have hoF := (HoI.out.keep ((hkZ.trans hkD).trans hkR))
      have hiF := (HiD.out.keep hkR)
      have hbF := HbR.out
      have HMade := Lib.hid (show LkMade wA (wR.setRow bl (lkC kk).toArray) bl kk m x from by
       have hKV := HkA.out.trans hKF
       have hoE := hoF.ext hEF (fun q hq e => (hoF.blk_apart hbzF (by decide) hq) e)
       have hiE : IBlk (wR.setRow bl (lkC kk).toArray) gD 3 D := Blk.ext hiF hEF (fun e => (Blk.ne hiF hbzF (by decide)) e)
       have hbE : BBlk (wR.setRow bl (lkC kk).toArray) gR 4 sR := Blk.ext hbF hEF (fun e => (Blk.ne hbF hbzF (by decide)) e)
       have hbl2 := hblF
       clear hblF hEF
       generalize wR.setRow bl (lkC kk).toArray = wF at *
       subst hkk
       exact ⟨rfl, rfl, hbl2, ⟨HM.out _ hKV, HX.out _ hKV, HP.out _ hKV, HR.out _ hKV, HB.out, HWF.out, hoE.segN.2, by show I.length ≤ _; omega, hiE.seg, hDl, hbE.seg, hRl⟩, HI.out, HDI.out, HRE.out, hKF, hge⟩)
      refine region_fixU (i := 11) (fuel := 0) rfl rfl (by kernel_rfl) (fun K hK => ?_)
      have hcells : (lkC kk).toArray = #[m.types.v, m.imports.v, m.funcs.v, m.tables.v, m.mems.v, m.globals.v, m.exports.v, .bool m.hasStart, .int .i64 m.start, m.elems.v, m.datas.v, m.customs.v, x.params.v, x.results.v, x.vals.v, x.blocks.v, .slice AI I.length cI, .slice (some ⟨gD, 0, none⟩) x.vals.l.length x.vals.l.length, .slice (some ⟨gR, 0, none⟩) x.blocks.l.length x.blocks.l.length] := by
       subst hkk
       simp only [lkC, RwD.v, hDl, hRl]
      refine wp_store_row _ _ _ rfl bl (lkC kk).toArray rfl (by rw [hcells]; rfl) _ _ hbzF (by show _ = some 19; kernel_rfl) (by rw [hcells]; rfl) (by rw [hcells]; simp [SlD.v, RwD.v, Value.oneCell']) ?_
      refine hK _ _ (InK.mk' hKF) ?_
      clear hK K
      refine region_done (by kernel_rfl) ?_
      simp only [Act.put, List.setIfInBounds_toArray, List.set_cons_succ, List.set_cons_zero]
      clear hKF hEF hblF hbzF hoF hiF hbF hcells
      go_wp2_with fail
      go_meet
      case rel => exact ⟨bl, kk, rfl, HMade.out⟩
    ·refine ⟨_, rfl, fun K hK => ?_⟩
     go_simp
     have bz : Blk (wN.alloc (.cells #[.slice none 0 0, .slice none 0 0, .slice none 0 0, .slice none 0 0, .slice none 0 0, .slice none 0 0, .slice none 0 0, .bool false, .int .i64 0, .slice none 0 0, .slice none 0 0, .slice none 0 0, .slice none 0 0, .slice none 0 0, .slice none 0 0, .slice none 0 0, .slice none 0 0, .slice none 0 0, .slice none 0 0] 108)) wN.heap.size 108 [.slice none 0 0, .slice none 0 0, .slice none 0 0, .slice none 0 0, .slice none 0 0, .slice none 0 0, .slice none 0 0, .bool false, .int .i64 0, .slice none 0 0, .slice none 0 0, .slice none 0 0, .slice none 0 0, .slice none 0 0, .slice none 0 0, .slice none 0 0, .slice none 0 0, .slice none 0 0, .slice none 0 0] := Blk.new _ _ _
     obtain ⟨wZ, hwZ⟩ : ∃ W, wN.alloc (.cells #[.slice none 0 0, .slice none 0 0, .slice none 0 0, .slice none 0 0, .slice none 0 0, .slice none 0 0, .slice none 0 0, .bool false, .int .i64 0, .slice none 0 0, .slice none 0 0, .slice none 0 0, .slice none 0 0, .slice none 0 0, .slice none 0 0, .slice none 0 0, .slice none 0 0, .slice none 0 0, .slice none 0 0] 108) = W := ⟨_, rfl⟩
     have hkZ : Keep wN wZ := by rw [← hwZ]; exact (Keep.refl _).alloc _
     have hK10 : Keep wA wZ := hK3.trans hkZ
     obtain ⟨bl, hbl⟩ : ∃ bl, wN.heap.size = bl := ⟨_, rfl⟩
     rw [hwZ] at bz ⊢
     rw [hbl] at bz ⊢
     have hge : wA.heap.size ≤ bl := by rw [← hbl]; exact hK3.size
     have Hbz := Lib.hid bz
     clear hwZ hbl bz
     refine hK _ _ (InK.mk' hK10) ?_
     clear hK K
     refine region_fix (i := 4) (fuel := 4) rfl (by kernel_rfl) (fun K hK => ?_)
     go_simp
     refine (DZ.refOf_calls rs AN cN wZ (Hgr.out.keep hkZ) hrl HIg.out).mono ?_
     rintro e wO ⟨vO, rfl, hoI, hkO⟩
     obtain ⟨AI, cI, rfl, hIc, hIc2⟩ := hoI.form
     have hK4 : Keep wA wO := hK10.trans hkO
     have HoI := Lib.hid hoI
     have hIl : I.length ≤ 8192 := by rw [HI.out.len, SsD.G_len]; exact hn8
     clear hoI hIc hIc2
     refine hK _ _ (InK.mk' hK4) ?_
     clear hK K
     refine region_fix (i := 6) (fuel := 3) rfl (by kernel_rfl) (fun K hK => ?_)
     go_simp
     refine (defs39_calls x wO (HX.out _ (HkA.out.trans hK4)) HB.out (by omega)).mono ?_
     rintro e wD ⟨gD, D, rfl, hiD, hDI, hkD⟩
     have hK6 : Keep wA wD := hK4.trans hkD
     have HiD := Lib.hid hiD
     have HDI := Lib.hid hDI
     clear hiD hDI
     refine hK _ _ (InK.mk' hK6) ?_
     clear hK K
     refine region_fix (i := 8) (fuel := 2) rfl (by kernel_rfl) (fun K hK => ?_)
     go_simp
     refine (reached39_calls x wD (HX.out _ (HkA.out.trans hK6)) HB.out (by omega) hn0).mono ?_
     rintro e wR ⟨gR, sR, rfl, hbR, hRE, hkR⟩
     have hK8 : Keep wA wR := hK6.trans hkR
     have HbR := Lib.hid hbR
     have HRE := Lib.hid hRE
     clear hbR hRE
     refine hK _ _ (InK.mk' hK8) ?_
     clear hK K
     refine region_take [9] [0, 1, 2, 5, 7, 3, 10, 4, 6, 8] 1 (by kernel_rfl) (by kernel_rfl) (InK.mk' hK8) ?_
     show wpQuiet _ _ _ _ [_] _
     repeat (go_big_quiet_step (fail))
     refine wpQuiet_nil ?_
     obtain ⟨kk, hkk⟩ : ∃ kk : LkD, kk = ⟨m, x, ⟨AI, I, cI⟩, ⟨some ⟨gD, 0, none⟩, D, x.vals.l.length⟩, ⟨some ⟨gR, 0, none⟩, sR, x.blocks.l.length⟩⟩ := ⟨_, rfl⟩
     have hDl : D.length = x.vals.l.length := HDI.out.len
     have hRl : sR.length = x.blocks.l.length := HRE.out.len
     have hbzF : Blk wR bl 108 [.slice none 0 0, .slice none 0 0, .slice none 0 0, .slice none 0 0, .slice none 0 0, .slice none 0 0, .slice none 0 0, .bool false, .int .i64 0, .slice none 0 0, .slice none 0 0, .slice none 0 0, .slice none 0 0, .slice none 0 0, .slice none 0 0, .slice none 0 0, .slice none 0 0, .slice none 0 0, .slice none 0 0] := (Hbz.out.keep ((hkO.trans hkD).trans hkR))
     have hblF : Blk (wR.setRow bl (lkC kk).toArray) bl 108 (lkC kk) := setRow_heap _ _ _ _ _ _ hbzF
     have hEF : Ext (fun q => q = bl) wR (wR.setRow bl (lkC kk).toArray) := ⟨rfl, rfl, rfl, by rw [setRow_size]; exact Nat.le_refl _, fun q _ hq => setRow_other _ _ _ _ hq⟩
     have hKF : Keep wA (wR.setRow bl (lkC kk).toArray) := Keep.of_ext hK8 hEF (fun q hq e => by omega)
     have hoF := (HoI.out.keep (hkD.trans hkR))
     have hiF := (HiD.out.keep hkR)
     have hbF := HbR.out
     have HMade := Lib.hid (show LkMade wA (wR.setRow bl (lkC kk).toArray) bl kk m x from by
      have hKV := HkA.out.trans hKF
      have hoE := hoF.ext hEF (fun q hq e => (hoF.blk_apart hbzF (by decide) hq) e)
      have hiE : IBlk (wR.setRow bl (lkC kk).toArray) gD 3 D := Blk.ext hiF hEF (fun e => (Blk.ne hiF hbzF (by decide)) e)
      have hbE : BBlk (wR.setRow bl (lkC kk).toArray) gR 4 sR := Blk.ext hbF hEF (fun e => (Blk.ne hbF hbzF (by decide)) e)
      have hbl2 := hblF
      clear hblF hEF
      generalize wR.setRow bl (lkC kk).toArray = wF at *
      subst hkk
      exact ⟨rfl, rfl, hbl2, ⟨HM.out _ hKV, HX.out _ hKV, HP.out _ hKV, HR.out _ hKV, HB.out, HWF.out, hoE.segN.2, by show I.length ≤ _; omega, hiE.seg, hDl, hbE.seg, hRl⟩, HI.out, HDI.out, HRE.out, hKF, hge⟩)
     refine region_fixU (i := 11) (fuel := 0) rfl rfl (by kernel_rfl) (fun K hK => ?_)
     have hcells : (lkC kk).toArray = #[m.types.v, m.imports.v, m.funcs.v, m.tables.v, m.mems.v, m.globals.v, m.exports.v, .bool m.hasStart, .int .i64 m.start, m.elems.v, m.datas.v, m.customs.v, x.params.v, x.results.v, x.vals.v, x.blocks.v, .slice AI I.length cI, .slice (some ⟨gD, 0, none⟩) x.vals.l.length x.vals.l.length, .slice (some ⟨gR, 0, none⟩) x.blocks.l.length x.blocks.l.length] := by
      subst hkk
      simp only [lkC, RwD.v, hDl, hRl]
     refine wp_store_row _ _ _ rfl bl (lkC kk).toArray rfl (by rw [hcells]; rfl) _ _ hbzF (by show _ = some 19; kernel_rfl) (by rw [hcells]; rfl) (by rw [hcells]; simp [SlD.v, RwD.v, Value.oneCell']) ?_
     refine hK _ _ (InK.mk' hKF) ?_
     clear hK K
     refine region_done (by kernel_rfl) ?_
     simp only [Act.put, List.setIfInBounds_toArray, List.set_cons_succ, List.set_cons_zero]
     clear hKF hEF hblF hbzF hoF hiF hbF hcells
     go_wp2_with fail
     go_meet
     case rel => exact ⟨bl, kk, rfl, HMade.out⟩
   ·refine ⟨_, rfl, fun K hK => ?_⟩
    go_simp
    have bz : Blk (wd.alloc (.cells #[.slice none 0 0, .slice none 0 0, .slice none 0 0, .slice none 0 0, .slice none 0 0, .slice none 0 0, .slice none 0 0, .bool false, .int .i64 0, .slice none 0 0, .slice none 0 0, .slice none 0 0, .slice none 0 0, .slice none 0 0, .slice none 0 0, .slice none 0 0, .slice none 0 0, .slice none 0 0, .slice none 0 0] 108)) wd.heap.size 108 [.slice none 0 0, .slice none 0 0, .slice none 0 0, .slice none 0 0, .slice none 0 0, .slice none 0 0, .slice none 0 0, .bool false, .int .i64 0, .slice none 0 0, .slice none 0 0, .slice none 0 0, .slice none 0 0, .slice none 0 0, .slice none 0 0, .slice none 0 0, .slice none 0 0, .slice none 0 0, .slice none 0 0] := Blk.new _ _ _
    obtain ⟨wZ, hwZ⟩ : ∃ W, wd.alloc (.cells #[.slice none 0 0, .slice none 0 0, .slice none 0 0, .slice none 0 0, .slice none 0 0, .slice none 0 0, .slice none 0 0, .bool false, .int .i64 0, .slice none 0 0, .slice none 0 0, .slice none 0 0, .slice none 0 0, .slice none 0 0, .slice none 0 0, .slice none 0 0, .slice none 0 0, .slice none 0 0, .slice none 0 0] 108) = W := ⟨_, rfl⟩
    have hkZ : Keep wd wZ := by rw [← hwZ]; exact (Keep.refl _).alloc _
    have hK10 : Keep wA wZ := hd.trans hkZ
    obtain ⟨bl, hbl⟩ : ∃ bl, wd.heap.size = bl := ⟨_, rfl⟩
    rw [hwZ] at bz ⊢
    rw [hbl] at bz ⊢
    have hge : wA.heap.size ≤ bl := by rw [← hbl]; exact hd.size
    have Hbz := Lib.hid bz
    clear hwZ hbl bz
    refine hK _ _ (InK.mk' hK10) ?_
    clear hK K
    refine region_fix (i := 3) (fuel := 5) rfl (by kernel_rfl) (fun K hK => ?_)
    go_simp
    refine (next39_calls x wZ (HX.out _ (HkA.out.trans hK10)) HB.out (by omega)).mono ?_
    rintro e wN ⟨AN, rs, cN, rfl, hg, hgr, hkN⟩
    have hK3 : Keep wA wN := hK10.trans hkN
    have hrl : rs.length ≤ 100000 := by rw [gr_length hgr]; omega
    have HIg := Lib.hid (show Dom.Idom (DZ.gr rs) I from by rw [hgr]; exact HI.out)
    have Hgr := Lib.hid hg
    clear hgr hg
    refine hK _ _ (InK.mk' hK3) ?_
    clear hK K
    refine region_fix (i := 4) (fuel := 4) rfl (by kernel_rfl) (fun K hK => ?_)
    go_simp
    refine (DZ.refOf_calls rs AN cN wN Hgr.out hrl HIg.out).mono ?_
    rintro e wO ⟨vO, rfl, hoI, hkO⟩
    obtain ⟨AI, cI, rfl, hIc, hIc2⟩ := hoI.form
    have hK4 : Keep wA wO := hK3.trans hkO
    have HoI := Lib.hid hoI
    have hIl : I.length ≤ 8192 := by rw [HI.out.len, SsD.G_len]; exact hn8
    clear hoI hIc hIc2
    refine hK _ _ (InK.mk' hK4) ?_
    clear hK K
    refine region_fix (i := 6) (fuel := 3) rfl (by kernel_rfl) (fun K hK => ?_)
    go_simp
    refine (defs39_calls x wO (HX.out _ (HkA.out.trans hK4)) HB.out (by omega)).mono ?_
    rintro e wD ⟨gD, D, rfl, hiD, hDI, hkD⟩
    have hK6 : Keep wA wD := hK4.trans hkD
    have HiD := Lib.hid hiD
    have HDI := Lib.hid hDI
    clear hiD hDI
    refine hK _ _ (InK.mk' hK6) ?_
    clear hK K
    refine region_fix (i := 8) (fuel := 2) rfl (by kernel_rfl) (fun K hK => ?_)
    go_simp
    refine (reached39_calls x wD (HX.out _ (HkA.out.trans hK6)) HB.out (by omega) hn0).mono ?_
    rintro e wR ⟨gR, sR, rfl, hbR, hRE, hkR⟩
    have hK8 : Keep wA wR := hK6.trans hkR
    have HbR := Lib.hid hbR
    have HRE := Lib.hid hRE
    clear hbR hRE
    refine hK _ _ (InK.mk' hK8) ?_
    clear hK K
    refine region_take [9] [0, 1, 2, 5, 7, 10, 3, 4, 6, 8] 1 (by kernel_rfl) (by kernel_rfl) (InK.mk' hK8) ?_
    show wpQuiet _ _ _ _ [_] _
    repeat (go_big_quiet_step (fail))
    refine wpQuiet_nil ?_
    obtain ⟨kk, hkk⟩ : ∃ kk : LkD, kk = ⟨m, x, ⟨AI, I, cI⟩, ⟨some ⟨gD, 0, none⟩, D, x.vals.l.length⟩, ⟨some ⟨gR, 0, none⟩, sR, x.blocks.l.length⟩⟩ := ⟨_, rfl⟩
    have hDl : D.length = x.vals.l.length := HDI.out.len
    have hRl : sR.length = x.blocks.l.length := HRE.out.len
    have hbzF : Blk wR bl 108 [.slice none 0 0, .slice none 0 0, .slice none 0 0, .slice none 0 0, .slice none 0 0, .slice none 0 0, .slice none 0 0, .bool false, .int .i64 0, .slice none 0 0, .slice none 0 0, .slice none 0 0, .slice none 0 0, .slice none 0 0, .slice none 0 0, .slice none 0 0, .slice none 0 0, .slice none 0 0, .slice none 0 0] := (Hbz.out.keep (((hkN.trans hkO).trans hkD).trans hkR))
    have hblF : Blk (wR.setRow bl (lkC kk).toArray) bl 108 (lkC kk) := setRow_heap _ _ _ _ _ _ hbzF
    have hEF : Ext (fun q => q = bl) wR (wR.setRow bl (lkC kk).toArray) := ⟨rfl, rfl, rfl, by rw [setRow_size]; exact Nat.le_refl _, fun q _ hq => setRow_other _ _ _ _ hq⟩
    have hKF : Keep wA (wR.setRow bl (lkC kk).toArray) := Keep.of_ext hK8 hEF (fun q hq e => by omega)
    have hoF := (HoI.out.keep (hkD.trans hkR))
    have hiF := (HiD.out.keep hkR)
    have hbF := HbR.out
    have HMade := Lib.hid (show LkMade wA (wR.setRow bl (lkC kk).toArray) bl kk m x from by
     have hKV := HkA.out.trans hKF
     have hoE := hoF.ext hEF (fun q hq e => (hoF.blk_apart hbzF (by decide) hq) e)
     have hiE : IBlk (wR.setRow bl (lkC kk).toArray) gD 3 D := Blk.ext hiF hEF (fun e => (Blk.ne hiF hbzF (by decide)) e)
     have hbE : BBlk (wR.setRow bl (lkC kk).toArray) gR 4 sR := Blk.ext hbF hEF (fun e => (Blk.ne hbF hbzF (by decide)) e)
     have hbl2 := hblF
     clear hblF hEF
     generalize wR.setRow bl (lkC kk).toArray = wF at *
     subst hkk
     exact ⟨rfl, rfl, hbl2, ⟨HM.out _ hKV, HX.out _ hKV, HP.out _ hKV, HR.out _ hKV, HB.out, HWF.out, hoE.segN.2, by show I.length ≤ _; omega, hiE.seg, hDl, hbE.seg, hRl⟩, HI.out, HDI.out, HRE.out, hKF, hge⟩)
    refine region_fixU (i := 11) (fuel := 0) rfl rfl (by kernel_rfl) (fun K hK => ?_)
    have hcells : (lkC kk).toArray = #[m.types.v, m.imports.v, m.funcs.v, m.tables.v, m.mems.v, m.globals.v, m.exports.v, .bool m.hasStart, .int .i64 m.start, m.elems.v, m.datas.v, m.customs.v, x.params.v, x.results.v, x.vals.v, x.blocks.v, .slice AI I.length cI, .slice (some ⟨gD, 0, none⟩) x.vals.l.length x.vals.l.length, .slice (some ⟨gR, 0, none⟩) x.blocks.l.length x.blocks.l.length] := by
     subst hkk
     simp only [lkC, RwD.v, hDl, hRl]
    refine wp_store_row _ _ _ rfl bl (lkC kk).toArray rfl (by rw [hcells]; rfl) _ _ hbzF (by show _ = some 19; kernel_rfl) (by rw [hcells]; rfl) (by rw [hcells]; simp [SlD.v, RwD.v, Value.oneCell']) ?_
    refine hK _ _ (InK.mk' hKF) ?_
    clear hK K
    refine region_done (by kernel_rfl) ?_
    simp only [Act.put, List.setIfInBounds_toArray, List.set_cons_succ, List.set_cons_zero]
    clear hKF hEF hblF hbzF hoF hiF hbF hcells
    go_wp2_with fail
    go_meet
    case rel => exact ⟨bl, kk, rfl, HMade.out⟩
  case rest =>
   obtain ⟨bl, kk, rfl, hmade⟩ := hcut
   have HMd := Lib.hid hmade
   have hkq : kk.x.blocks.l = x.blocks.l := by rw [hmade.hx]
   have Hkq := Lib.hid hkq
   have Hblt := Lib.hid hmade.blk.lt
   have c3 := hmade.keep.cell c3
   have lt := Nat.lt_of_lt_of_le lt hmade.keep.size
   have HC3 := Lib.hid c3
   have HLT := Lib.hid lt
   clear hmade hkq c0 c1 c2
   go_wp2_with fail
   clear c3 lt
   go_loopw [7] (fun vi wr => ∃ j : Nat, j ≤ x.blocks.l.length ∧ vi = .int .i64 j ∧ Hid (∀ b y, b < j → x.blocks.l[b]? = some y → BkV kk.x kk.K b y) ∧ Hid (Keep wc wr)) (fun i _ => x.blocks.l.length - (intOf i).toNat)
   case atStart => exact ⟨0, Nat.zero_le _, rfl, Lib.hid (fun b y hb => by omega), Lib.hid (Keep.refl _)⟩
   case round =>
    obtain ⟨j, hj, rfl, hall, hkeep⟩ := hrel
    have c3 := hkeep.out.cell HC3.out
    have lt := Nat.lt_of_lt_of_le HLT.out hkeep.out.size
    by_cases hlt : j < x.blocks.l.length
    ·obtain ⟨y, hy⟩ := get_some hlt
     have Hbk := Lib.hid (block39_calls kk j y wr (HMd.out.ok.keep hkeep.out) (by rw [Hkq.out]; exact hy))
     have Hld := Lib.hid (lk_load (HMd.out.blk.keep hkeep.out))
     have Hy := Lib.hid hy
     have j1 : (j : Int) < (x.blocks.l.length : Int) := by omega
     have j0 : (0 : Int) ≤ (j : Int) := by omega
     have bll := Nat.lt_of_lt_of_le Hblt.out hkeep.out.size
     clear hy
     go_wp2_with (refine wpList_load_w _ _ rfl rfl _ rfl _ Hld.out ?_)
     refine Hbk.out.mono ?_
     clear Hbk Hld c3 lt bll
     rintro e w6 ⟨r6, rfl, h6, hk6⟩
     have HK6 := Lib.hid (hkeep.out.trans hk6)
     clear hk6 hkeep
     cases r6 with
     | false =>
      clear h6
      go_wp2
      refine bodyPost_ret (by simp [results, Tryz.results21, go_sem] <;> rfl) rfl ?_
      exact ⟨j, 29, rfl, (fun h => by cases h), HkV.out.trans (HkA.out.trans (HMd.out.keep.trans HK6.out))⟩
     | true =>
      have Hn := Lib.hid (show ∀ b y, b < j + 1 → x.blocks.l[b]? = some y → BkV kk.x kk.K b y from fun b z hb hz => by
       by_cases e : b = j
       ·subst e; rw [Hy.out] at hz; cases hz; exact h6 rfl
       ·exact hall.out b z (by omega) hz)
      clear h6 hall
      go_wp2
      go_roundw
      case rel => exact ⟨j + 1, hlt, by go_num, Hn, HK6⟩
      case measure => simp [intOf]; omega
    ·have Hv := Lib.hid (show ∃ K I, ValidD x K I from ⟨_, _, valid_of HMd.out HW.out (fun b y hy => hall.out b y (by have := (List.getElem?_eq_some_iff.1 hy).1; omega) hy)⟩)
     clear hall
     go_wp2
     refine bodyPost_ret (by simp [results, Tryz.results21, go_sem] <;> rfl) rfl ?_
     exact ⟨0, 0, rfl, fun _ => Hv.out, HkV.out.trans (HkA.out.trans (HMd.out.keep.trans hkeep.out))⟩
end Go.Proofs.YtjpmiejgcnfiiaaGreat
namespace Go.Proofs.YtjpmiejgcnfiiaaGreat
open Go Go.RowKit

def SsD.cnt (x : SsD) (k : Nat) : Nat := ((x.blocks.l.take k).map fun y => y.ins.l.length + y.params.l.length + 1).sum
theorem SsD.cnt_succ {x : SsD} {k : Nat} {y : BkD} (h : x.blocks.l[k]? = some y) : x.cnt (k + 1) = x.cnt k + (y.ins.l.length + y.params.l.length + 1) := by
 unfold SsD.cnt
 rw [List.take_add_one, h, List.map_append, List.sum_append]
 simp
theorem SsD.cnt_zero (x : SsD) : x.cnt 0 = 0 := by unfold SsD.cnt; rw [List.take_zero]; rfl
theorem mem_le_sum {a : Nat} : ∀ {l : List Nat}, a ∈ l → a ≤ l.sum
 | b :: l, h => by
  rw [List.sum_cons]
  rcases List.mem_cons.1 h with rfl | h
  ·omega
  ·have := mem_le_sum h; omega
theorem small_of {x : SsD} (hb : Bulky x) (h1 : x.blocks.l.length ≤ 60) (h2 : x.cnt x.blocks.l.length ≤ 250) (h3 : x.vals.l.length ≤ 250) : Small x := by
 have key : ∀ y ∈ x.blocks.l, y.ins.l.length + y.params.l.length + 1 ≤ 250 := fun y hy => by
  refine Nat.le_trans (mem_le_sum ?_) h2
  rw [List.take_length]
  exact List.mem_map_of_mem (f := fun y : BkD => y.ins.l.length + y.params.l.length + 1) hy
 exact ⟨by omega, fun y hy => by have := key y hy; omega, fun y hy => by have := key y hy; omega, by omega, fun y hy => by have := (hb.block hy).ends; omega, fun y hy => by have := (hb.block hy).to; omega⟩
/-- What right tells. -/
def RightPost (x : SsD) (w : World) (e : Ending) (w' : World) : Prop := ∃ r, e = .returned (.bool r) ∧ (r = true → Small x ∧ ∃ K I, ValidD x K I) ∧ Keep w w'

set_option maxHeartbeats 16000000 in
set_option maxRecDepth 100000 in
theorem lawright_calls (m : MdD) (x : SsD) (w : World) (hm : MdOk w m) (h : SsOk w x) (hp : NumOk w x.params) (hr : NumOk w x.results) (hb : Bulky x) (hwf : ∀ y ∈ x.blocks.l, ∀ i ∈ y.ins.l, InWf i) :
  Calls Tryz.prog 6 #[.agg (mdC m).toArray, .agg (ssC x).toArray] w (RightPost x w) := by
 obtain ⟨W, hW, kW, bW, sW⟩ := boxN w 33 (mdC m)
 obtain ⟨V, hV, kV, bV, sV⟩ := boxN W 39 (ssC x)
 have Hc := Lib.hid (fun (w' : World) (hk : Keep V w') => (⟨(bV.keep hk).cell 0, (bV.keep hk).cell 1, (bV.keep hk).cell 2, (bV.keep hk).cell 3, (bV.keep hk).lt⟩ : w'.cell? ⟨W.heap.size, 0, none⟩ = some (.slice x.params.a x.params.l.length x.params.c) ∧ w'.cell? ⟨W.heap.size, 1, none⟩ = some (.slice x.results.a x.results.l.length x.results.c) ∧ w'.cell? ⟨W.heap.size, 2, none⟩ = some (.slice x.vals.a x.vals.l.length x.vals.c) ∧ w'.cell? ⟨W.heap.size, 3, none⟩ = some (.slice x.blocks.a x.blocks.l.length x.blocks.c) ∧ W.heap.size < w'.heap.size))
 have Hmc := Lib.hid (fun (w' : World) (hk : Keep V w') => ((bW.keep kV).keep hk).md)
 have kk0 := kW.trans kV
 have HkV := Lib.hid kk0
 have HM := Lib.hid (fun (w' : World) (hk : Keep V w') => hm.keep (kk0.trans hk))
 have HX := Lib.hid (fun (w' : World) (hk : Keep V w') => h.keep (kk0.trans hk))
 have HP := Lib.hid (fun (w' : World) (hk : Keep V w') => hp.keep (kk0.trans hk))
 have HR := Lib.hid (fun (w' : World) (hk : Keep V w') => hr.keep (kk0.trans hk))
 have HB := Lib.hid hb
 have HWF := Lib.hid hwf
 have hnl := hb.blocks
 have hvl := hb.vals
 obtain ⟨c0, c1, c2, c3, lt⟩ := Hc.out V (Keep.refl _)
 clear bW sW bV sV hm h hp hr hb hwf kW kV kk0
 go_enter Tryz.func6, Tryz.ntmps6
 go_wp2_with fail
 clear c0 c1 c2 c3 lt
 go_loopw [5, 6] (fun vn vi wr => ∃ k : Nat, k ≤ x.blocks.l.length ∧ k ≤ 100 ∧ vi = .int .i64 k ∧ vn = .int .i64 ((x.cnt k : Nat) : Int) ∧ Hid (x.cnt k ≤ k * 2097153) ∧ Hid (Keep V wr)) (fun _ vi _ => x.blocks.l.length - (intOf vi).toNat)
 case atStart => exact ⟨0, Nat.zero_le _, Nat.zero_le _, rfl, by rw [SsD.cnt_zero]; rfl, Lib.hid (by rw [SsD.cnt_zero]; exact Nat.zero_le _), Lib.hid (Keep.refl _)⟩
 case round =>
  obtain ⟨k, hk, hk2, rfl, rfl, hcb, hkeep⟩ := hrel
  obtain ⟨wO, rfl⟩ : ∃ z : World, z = wr := ⟨_, rfl⟩
  obtain ⟨c0, c1, c2, c3, lt⟩ := Hc.out wO hkeep.out
  obtain ⟨n, hn⟩ : ∃ n, x.cnt k = n := ⟨_, rfl⟩
  have Hn := Lib.hid hn
  have hnb : n ≤ 100 * 2097153 := by have := hcb.out; omega
  rw [hn]
  clear hn
  by_cases hlt : k < x.blocks.l.length ∧ k < 100
  ·obtain ⟨hlt, hl2⟩ := hlt
   obtain ⟨y, hy⟩ := get_some hlt
   obtain ⟨B, off, hA, hB, q0, q1, q2, q3, q4, q5, q6⟩ := bk_cells (HX.out wO hkeep.out).seg (Keep.refl _) hy
   have hby := HB.out.block (List.mem_of_getElem? hy)
   have hil := hby.ins
   have hpl := hby.params
   have Hs := Lib.hid (SsD.cnt_succ hy)
   rw [hA] at c3
   obtain ⟨il, hil_⟩ : ∃ il, y.ins.l.length = il := ⟨_, rfl⟩
   obtain ⟨pl, hpl_⟩ : ∃ pl, y.params.l.length = pl := ⟨_, rfl⟩
   rw [hil_] at q1 Hs hil
   rw [hpl_] at q0 Hs hpl
   rw [Hn.out] at Hs
   have ec3 := fun z : KW wO => z.cell c3
   have eq0 := fun z : KW wO => z.cell q0
   have eq1 := fun z : KW wO => z.cell q1
   have hd : Keep wO wO.drew := (Keep.refl _).drew
   have k0 : (0 : Int) ≤ (k : Int) := by omega
   have k1 : (k : Int) < (x.blocks.l.length : Int) := by omega
   have k2 : (k : Int) < 100 := by omega
   have kd : decide ((k : Int) < 100) = true := decide_eq_true k2
   have kd' : decide (k < 100) = true := decide_eq_true hl2
   have Hcb := Lib.hid (show x.cnt (k + 1) ≤ (k + 1) * 2097153 from by rw [Hs.out]; have := hcb.out; rw [Hn.out] at this; omega)
   clear hy hA hby hil_ hpl_ hcb q2 q3 q4 q5 q6 c0 c1 c2
   go_wp2_with fail
   refine region_begin (S := fun w' => ∃ z : KW wO, w' = z.val) (by kernel_rfl) ?_
   refine region_take [0, 1, 2, 3, 4, 5, 6, 7, 8, 9, 10, 11, 12, 13, 14, 15, 16, 17, 18] [] 0 (by kernel_rfl) (by kernel_rfl) (InK.mk' hd) ?_
   show wpQuiet _ _ _ _ [_, _, _, _, _, _, _, _, _, _, _, _, _, _, _, _, _, _, _] _
   repeat (go_big_quiet_step (fail))
   refine wpQuiet_nil ?_
   clear ec3 eq0 eq1 q0 q1 c3 lt
   refine region_done (by kernel_rfl) ?_
   go_wp2_with fail
   go_roundw
   case rel => exact ⟨k + 1, hlt, by omega, by go_num, by rw [Hs.out]; go_num, Hcb, Lib.hid (hkeep.out.trans hd)⟩
   case measure => simp [intOf] <;> omega
  ·have Hend := Lib.hid (show x.blocks.l.length ≤ 60 → n ≤ 250 → x.vals.l.length ≤ 250 → Small x from fun h1 h2 h3 => small_of HB.out h1 (by rw [show x.blocks.l.length = k by omega, Hn.out]; exact h2) h3)
   clear hcb
   have HkO := Lib.hid (HkV.out.trans hkeep.out)
   obtain ⟨d0, d1, d2, d3, d4, d5, d6, d7, d8, d9, da, db, ltm⟩ := Hmc.out wO hkeep.out
   have hle : (decide ((k : Int) < (x.blocks.l.length : Int)) = false ∧ decide (k < x.blocks.l.length) = false) ∨ (k < x.blocks.l.length ∧ k = 100) := by
    by_cases h : k < x.blocks.l.length
    ·exact .inr ⟨h, by omega⟩
    ·exact .inl ⟨decide_eq_false (by omega), decide_eq_false h⟩
   clear hlt
   rcases hle with ⟨l1, l2⟩ | ⟨l1, l2⟩
   ·by_cases g0 : 60 < x.blocks.l.length
    ·have g0b : decide ((60 : Int) < (x.blocks.l.length : Int)) = true := decide_eq_true (by omega)
     have g0c : decide (60 < x.blocks.l.length) = true := decide_eq_true g0
     clear g0 Hend 
     go_wp2_with fail
     clear d0 d1 d2 d3 d4 d5 d6 d7 d8 d9 da db ltm c0 c1 c2 c3 lt
     refine bodyPost_ret (by simp [results, Tryz.results6, go_sem] <;> rfl) rfl ?_
     exact ⟨false, rfl, (fun h => by cases h), HkO.out⟩
    ·have g0b : decide ((60 : Int) < (x.blocks.l.length : Int)) = false := decide_eq_false (by omega)
     have g0c : decide (60 < x.blocks.l.length) = false := decide_eq_false g0
     have ng0 : x.blocks.l.length ≤ 60 := by omega
     clear g0
     by_cases g1 : 250 < n
     ·have g1b : decide ((250 : Int) < (n : Int)) = true := decide_eq_true (by omega)
      have g1c : decide (250 < n) = true := decide_eq_true g1
      clear g1 Hend ng0
      go_wp2_with fail
      clear d0 d1 d2 d3 d4 d5 d6 d7 d8 d9 da db ltm c0 c1 c2 c3 lt
      refine bodyPost_ret (by simp [results, Tryz.results6, go_sem] <;> rfl) rfl ?_
      exact ⟨false, rfl, (fun h => by cases h), HkO.out⟩
     ·have g1b : decide ((250 : Int) < (n : Int)) = false := decide_eq_false (by omega)
      have g1c : decide (250 < n) = false := decide_eq_false g1
      have ng1 : n ≤ 250 := by omega
      clear g1
      by_cases g2 : 250 < x.vals.l.length
      ·have g2b : decide ((250 : Int) < (x.vals.l.length : Int)) = true := decide_eq_true (by omega)
       have g2c : decide (250 < x.vals.l.length) = true := decide_eq_true g2
       clear g2 Hend ng0 ng1
       go_wp2_with fail
       clear d0 d1 d2 d3 d4 d5 d6 d7 d8 d9 da db ltm c0 c1 c2 c3 lt
       refine bodyPost_ret (by simp [results, Tryz.results6, go_sem] <;> rfl) rfl ?_
       exact ⟨false, rfl, (fun h => by cases h), HkO.out⟩
      ·have g2b : decide ((250 : Int) < (x.vals.l.length : Int)) = false := decide_eq_false (by omega)
       have g2c : decide (250 < x.vals.l.length) = false := decide_eq_false g2
       have ng2 : x.vals.l.length ≤ 250 := by omega
       clear g2
       by_cases g3 : 40 < m.funcs.l.length
       ·have g3b : decide ((40 : Int) < (m.funcs.l.length : Int)) = true := decide_eq_true (by omega)
        have g3c : decide (40 < m.funcs.l.length) = true := decide_eq_true g3
        clear g3 Hend ng0 ng1 ng2
        go_wp2_with fail
        clear d0 d1 d2 d3 d4 d5 d6 d7 d8 d9 da db ltm c0 c1 c2 c3 lt
        refine bodyPost_ret (by simp [results, Tryz.results6, go_sem] <;> rfl) rfl ?_
        exact ⟨false, rfl, (fun h => by cases h), HkO.out⟩
       ·have g3b : decide ((40 : Int) < (m.funcs.l.length : Int)) = false := decide_eq_false (by omega)
        have g3c : decide (40 < m.funcs.l.length) = false := decide_eq_false g3
        have ng3 : m.funcs.l.length ≤ 40 := by omega
        clear g3
        by_cases g4 : 64 < m.types.l.length
        ·have g4b : decide ((64 : Int) < (m.types.l.length : Int)) = true := decide_eq_true (by omega)
         have g4c : decide (64 < m.types.l.length) = true := decide_eq_true g4
         clear g4 Hend ng0 ng1 ng2 ng3
         go_wp2_with fail
         clear d0 d1 d2 d3 d4 d5 d6 d7 d8 d9 da db ltm c0 c1 c2 c3 lt
         refine bodyPost_ret (by simp [results, Tryz.results6, go_sem] <;> rfl) rfl ?_
         exact ⟨false, rfl, (fun h => by cases h), HkO.out⟩
        ·have g4b : decide ((64 : Int) < (m.types.l.length : Int)) = false := decide_eq_false (by omega)
         have g4c : decide (64 < m.types.l.length) = false := decide_eq_false g4
         have ng4 : m.types.l.length ≤ 64 := by omega
         clear g4
         have Hsm := Lib.hid (Hend.out (by omega) (by omega) (by omega))
         have Hck := Lib.hid (check39_calls m x wO (HM.out wO hkeep.out) (HX.out wO hkeep.out) (HP.out wO hkeep.out) (HR.out wO hkeep.out) HB.out HWF.out)
         clear Hend ng0 ng1 ng2 ng3 ng4
         go_wp2_with fail
         refine Hck.out.mono ?_
         clear Hck d0 d1 d2 d3 d4 d5 d6 d7 d8 d9 da db ltm c0 c1 c2 c3 lt
         rintro e w2 ⟨nn, er, rfl, her, hk2⟩
         have Her := Lib.hid her
         have Hk2 := Lib.hid (HkO.out.trans hk2)
         clear her hk2
         go_wp2_with fail
         refine bodyPost_ret (by simp [results, Tryz.results6, go_sem] <;> rfl) rfl ?_
         exact ⟨_, rfl, (fun h => ⟨Hsm.out, Her.out (by simpa using h)⟩), Hk2.out⟩
   ·have g0b : decide ((60 : Int) < (x.blocks.l.length : Int)) = true := decide_eq_true (by omega)
    have g0c : decide (60 < x.blocks.l.length) = true := decide_eq_true (by omega)
    have l1b : decide ((k : Int) < (x.blocks.l.length : Int)) = true := decide_eq_true (by omega)
    subst l2
    clear Hend
    go_wp2_with fail
    clear d0 d1 d2 d3 d4 d5 d6 d7 d8 d9 da db ltm c0 c1 c2 c3 lt
    refine bodyPost_ret (by simp [results, Tryz.results6, go_sem] <;> rfl) rfl ?_
    exact ⟨false, rfl, (fun h => by cases h), HkO.out⟩
end Go.Proofs.YtjpmiejgcnfiiaaGreat
