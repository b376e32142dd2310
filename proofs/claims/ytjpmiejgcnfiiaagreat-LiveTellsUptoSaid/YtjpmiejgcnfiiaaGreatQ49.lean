/-
  LiveTells, proved where what it reads is of bulk at most 1048576.
-/
import Derived.Test.YtjpmiejgcnfiiaaGreatQ36
import Derived.Test.YtjpmiejgcnfiiaaGreatQ45
import Derived.Test.YtjpmiejgcnfiiaaGreatQ48
import Derived.Test.YtjpmiejgcnfiiaaGreatQ38
import Derived.Test.YtjpmiejgcnfiiaaGreatQ40
import Derived.Test.YtjpmiejgcnfiiaaGreatQ41
import Derived.Test.YtjpmiejgcnfiiaaGreatQ8
import Derived.JoinedCond
import Derived.ProofKit
set_option linter.unusedVariables false
set_option linter.unusedSimpArgs false
namespace Go.Proofs.YtjpmiejgcnfiiaaGreat
open Go Go.RowKit

/-- Rows of integers, read. -/
theorem irows_at {w wr : World} {b base : Nat} {L : List (List Int)} (h : DZ.IRows w b base L) (hk : Keep w wr) {i : Nat} {l : List Int} (hl : L[i]? = some l) : ∃ A c, wr.cell? ⟨b, i, none⟩ = some (.slice A l.length c) ∧ Seg wr A (l.flatMap intC) ∧ b < w.heap.size := by
 obtain ⟨rs, h1, h2, h3, h4, _⟩ := h.read
 have hi := (List.getElem?_eq_some_iff.1 hl).1
 have hir : i < rs.length := by omega
 have e : rs[i].l = l := by
  have : (rs.map (·.l))[i]? = some l := by rw [h1]; exact hl
  rw [List.getElem?_map, List.getElem?_eq_getElem hir] at this
  exact Option.some.inj this
 obtain ⟨b', off, e1, hb, hc⟩ := DZ.row_at h2 hk hir
 cases e1
 rw [e] at hc
 rw [Nat.zero_add] at hc
 exact ⟨_, _, hc, by rw [← e]; exact (h3 _ (List.getElem_mem hir)).keep hk, hb⟩

set_option maxHeartbeats 16000000 in
set_option maxRecDepth 100000 in
theorem tells_calls (m : MdD) (x : SsD) (w : World) (hm : MdOk w m) (h : SsOk w x) (hp : NumOk w x.params) (hr : NumOk w x.results) (hb : Bulky x) (hwf : ∀ y ∈ x.blocks.l, ∀ i ∈ y.ins.l, InWf i) :
  Calls Tryz.prog 3 #[.agg (mdC m).toArray, .agg (ssC x).toArray] w fun e w' => e = .returned (.bool true) ∧ Keep w w' := by
 obtain ⟨W, hW, kW, bW, sW⟩ := boxN w 33 (mdC m)
 obtain ⟨V, hV, kV, bV, sV⟩ := boxN W 39 (ssC x)
 have Hc := Lib.hid (fun (w' : World) (hk : Keep V w') => (⟨(bV.keep hk).cell 0, (bV.keep hk).cell 1, (bV.keep hk).cell 2, (bV.keep hk).cell 3, (bV.keep hk).lt⟩ : w'.cell? ⟨W.heap.size, 0, none⟩ = some (.slice x.params.a x.params.l.length x.params.c) ∧ w'.cell? ⟨W.heap.size, 1, none⟩ = some (.slice x.results.a x.results.l.length x.results.c) ∧ w'.cell? ⟨W.heap.size, 2, none⟩ = some (.slice x.vals.a x.vals.l.length x.vals.c) ∧ w'.cell? ⟨W.heap.size, 3, none⟩ = some (.slice x.blocks.a x.blocks.l.length x.blocks.c) ∧ W.heap.size < w'.heap.size))
 have Hmc := Lib.hid (fun (w' : World) (hk : Keep V w') => ((bW.keep kV).keep hk).md)
 have kk0 := kW.trans kV
 have HkV := Lib.hid kk0
 have HX := Lib.hid (fun (w' : World) (hk : Keep V w') => h.keep (kk0.trans hk))
 have HB := Lib.hid hb
 have Hri := Lib.hid (lawright_calls m x V (hm.keep kk0) (h.keep kk0) (hp.keep kk0) (hr.keep kk0) hb hwf)
 obtain ⟨c0, c1, c2, c3, lt⟩ := Hc.out V (Keep.refl _)
 obtain ⟨d0, d1, d2, d3, d4, d5, d6, d7, d8, d9, da, db, ltm⟩ := Hmc.out V (Keep.refl _)
 clear bW sW bV sV hm h hp hr hb hwf kW kV kk0
 go_enter Tryz.func3, Tryz.ntmps3
 go_wp2_with fail
 refine Hri.out.mono ?_
 clear Hri c0 c1 c2 c3 lt d0 d1 d2 d3 d4 d5 d6 d7 d8 d9 da db ltm
 rintro e wA ⟨r, rfl, hv, hkA⟩
 have HkA := Lib.hid hkA
 clear hkA
 cases r with
 | false =>
  have Hal := Lib.hid (alive_calls wA)
  clear hv
  go_wp2_with fail
  refine Hal.out.mono ?_
  clear Hal
  rintro e w2 ⟨rfl, hk2⟩
  have Hk2 := Lib.hid (HkV.out.trans (HkA.out.trans hk2))
  clear hk2
  go_wp2_with fail
  go_ret
  exact ⟨rfl, Hk2.out⟩
 | true =>
  obtain ⟨hsm, K, I, hvd⟩ := hv rfl
  have Hs := Lib.hid hsm
  have Hf := Lib.hid hvd.v.fits
  have hn := hsm.blocks
  have hnv := hsm.vals
  have hol := x.ord_len
  clear hv hsm hvd
  obtain ⟨c0, c1, c2, c3, lt⟩ := Hc.out wA HkA.out
  obtain ⟨wd, hwd⟩ : ∃ wd, wA.drew = wd := ⟨_, rfl⟩
  have hd : Keep wA wd := by rw [← hwd]; exact (Keep.refl _).drew
  go_wp2_with fail
  have ec0 := fun z : KW wA => z.cell c0
  have ec1 := fun z : KW wA => z.cell c1
  have ec2 := fun z : KW wA => z.cell c2
  have ec3 := fun z : KW wA => z.cell c3
  refine region_begin (S := fun w' => ∃ z : KW wA, w' = z.val) (by kernel_rfl) ?_
  rw [hwd]
  refine region_take [0, 2] [] 4 (by kernel_rfl) (by kernel_rfl) (InK.mk' hd) ?_
  show wpQuiet _ _ _ _ [_, _] _
  repeat (go_big_quiet_step (fail))
  refine wpQuiet_nil ?_
  clear hwd ec0 ec1 ec2 ec3
  refine region_fix (i := 1) (fuel := 3) rfl (by kernel_rfl) (fun K hK => ?_)
  go_simp
  refine (in_calls x wd (HX.out _ (HkA.out.trans hd)) Hs.out Hf.out).mono ?_
  rintro e wB ⟨b1, s1, rfl, hr1, hkB⟩
  have hK1 : Keep wA wB := hd.trans hkB
  refine hK _ _ (InK.mk' hK1) ?_
  clear hK K
  refine region_fix (i := 3) (fuel := 2) rfl (by kernel_rfl) (fun K hK => ?_)
  go_simp
  refine (in47_calls x wB (HX.out _ (HkA.out.trans hK1)) HB.out Hs.out (fun b y hy => Hf.out.inn b y hy)).mono ?_
  rintro e wC ⟨b2, s2, rfl, hr2, hkC⟩
  have hK3 : Keep wA wC := hK1.trans hkC
  refine hK _ _ (InK.mk' hK3) ?_
  clear hK K
  refine region_take [4, 5] [0, 2, 1, 3] 0 (by kernel_rfl) (by kernel_rfl) (InK.mk' hK3) ?_
  show wpQuiet _ _ _ _ [_, _] _
  repeat (go_big_quiet_step (fail))
  refine wpQuiet_nil ?_
  refine region_done (by kernel_rfl) ?_
  have HR1 := Lib.hid (hr1.keep hkC)
  have HR2 := Lib.hid hr2
  have HkC := Lib.hid (HkA.out.trans hK3)
  clear hr1 hr2 hkB hkC hK1 hK3 hd c0 c1 c2 c3 lt
  go_wp2_with fail
  go_loopw [7] (fun vi wr => ∃ i : Nat, i ≤ x.blocks.l.length ∧ vi = .int .i64 i ∧ Hid (Keep wC wr)) (fun vi _ => x.blocks.l.length - (intOf vi).toNat)
  case atStart => exact ⟨0, Nat.zero_le _, rfl, Lib.hid (Keep.refl _)⟩
  case round =>
   obtain ⟨i, hi, rfl, hkeep⟩ := hrel
   obtain ⟨wO, rfl⟩ : ∃ z : World, z = wr := ⟨_, rfl⟩
   by_cases hil : i < x.blocks.l.length
   ·obtain ⟨l, hl⟩ := get_some (l := LI x x.vals.l.length 0) (k := i) (by rw [LI_len]; exact hil)
    obtain ⟨A1, k1, q1, g1, bl1⟩ := irows_at HR1.out hkeep.out hl
    obtain ⟨A2, k2, q2, g2, bl2⟩ := irows_at HR2.out hkeep.out hl
    have hll : l.length ≤ 1000 := by
     have := LI_get (x := x) (k := x.vals.l.length) (i := 0) hil
     rw [hl, if_neg (by omega)] at this
     rw [Option.some.inj this, ints_len]
     have := needL_le x i x.vals.l.length
     omega
    have bl1 := Nat.lt_of_lt_of_le bl1 hkeep.out.size
    have bl2 := Nat.lt_of_lt_of_le bl2 hkeep.out.size
    have G := Lib.hid (show Seg wO A1 (l.flatMap intC) ∧ Seg wO A2 (l.flatMap intC) from ⟨g1, g2⟩)
    have i0 : (0 : Int) ≤ (i : Int) := by omega
    have i1 : (i : Int) < (x.blocks.l.length : Int) := by omega
    clear hl g1 g2
    obtain ⟨wd, hwd⟩ : ∃ wd, wO.drew = wd := ⟨_, rfl⟩
    have hd : Keep wO wd := by rw [← hwd]; exact (Keep.refl _).drew
    go_wp2_with fail
    have eq1 := fun z : KW wO => z.cell q1
    have eq2 := fun z : KW wO => z.cell q2
    refine region_begin (S := fun w' => ∃ z : KW wO, w' = z.val) (by kernel_rfl) ?_
    rw [hwd]
    refine region_take [0, 1, 2, 3, 4, 5, 6, 7] [] 2 (by kernel_rfl) (by kernel_rfl) (InK.mk' hd) ?_
    show wpQuiet _ _ _ _ [_, _, _, _, _, _, _, _] _
    repeat (go_big_quiet_step (fail))
    refine wpQuiet_nil ?_
    clear hwd eq1 eq2 q1 q2
    refine region_fix (i := 8) (fuel := 1) rfl (by kernel_rfl) (fun K hK => ?_)
    go_simp
    refine (refInts_calls l A1 A2 k1 k2 wd (G.out.1.keep hd) (G.out.2.keep hd) (by omega)).mono ?_
    rintro e wE ⟨rfl, hkE⟩
    have hK8 : Keep wO wE := hd.trans hkE
    refine hK _ _ (InK.mk' hK8) ?_
    clear hK K
    refine region_take [9] [0, 1, 2, 3, 4, 5, 6, 7, 8] 0 (by kernel_rfl) (by kernel_rfl) (InK.mk' hK8) ?_
    show wpQuiet _ _ _ _ [_] _
    repeat (go_big_quiet_step (fail))
    refine wpQuiet_nil ?_
    refine region_done (by kernel_rfl) ?_
    have HK8 := Lib.hid (hkeep.out.trans hK8)
    clear hK8 hkE hd hkeep
    go_wp2_with fail
    go_roundw
    case rel => exact ⟨i + 1, hil, by go_num, HK8⟩
    case measure => simp [intOf] <;> omega
   ·have HkO := Lib.hid (HkC.out.trans hkeep.out)
    clear hkeep
    obtain ⟨c0, c1, c2, c3, lt⟩ := Hc.out wO HkO.out
    obtain ⟨wd, hwd⟩ : ∃ wd, wO.drew = wd := ⟨_, rfl⟩
    have hd : Keep wO wd := by rw [← hwd]; exact (Keep.refl _).drew
    go_wp2_with fail
    have ec0 := fun z : KW wO => z.cell c0
    have ec1 := fun z : KW wO => z.cell c1
    have ec2 := fun z : KW wO => z.cell c2
    have ec3 := fun z : KW wO => z.cell c3
    refine region_begin (S := fun w' => ∃ z : KW wO, w' = z.val) (by kernel_rfl) ?_
    rw [hwd]
    refine region_take [0, 2] [] 21 (by kernel_rfl) (by kernel_rfl) (InK.mk' hd) ?_
    show wpQuiet _ _ _ _ [_, _] _
    repeat (go_big_quiet_step (fail))
    refine wpQuiet_nil ?_
    clear hwd
    refine region_fix (i := 1) (fuel := 20) rfl (by kernel_rfl) (fun K hK => ?_)
    go_simp
    refine (order_gives x wd (HX.out _ (HkO.out.trans hd)) Hs.out.edges (by omega)).mono ?_
    rintro e w1 ⟨A1, k1, rfl, ho1, hk1⟩
    have hK1 : Keep wO w1 := hd.trans hk1
    refine hK _ _ (InK.mk' hK1) ?_
    clear hK K
    refine region_fix (i := 3) (fuel := 19) rfl (by kernel_rfl) (fun K hK => ?_)
    go_simp
    refine (order47_calls x w1 (HX.out _ (HkO.out.trans hK1)) HB.out (by omega)).mono ?_
    rintro e w2 ⟨A2, k2, rfl, ho2, hk2⟩
    have hK3 : Keep wO w2 := hK1.trans hk2
    refine hK _ _ (InK.mk' hK3) ?_
    clear hK K
    refine region_fix (i := 4) (fuel := 18) rfl (by kernel_rfl) (fun K hK => ?_)
    go_simp
    have hin := refInts_calls (ints x.ord) A1 A2 k1 k2 w2 (ho1.segN.2.keep hk2) ho2.segN.2 (by rw [ints_len]; omega)
    rw [ints_len] at hin
    refine hin.mono ?_
    rintro e w3 ⟨rfl, hk3⟩
    have hK4 : Keep wO w3 := hK3.trans hk3
    clear hin
    refine hK _ _ (InK.mk' hK4) ?_
    clear hK K
    refine region_take [5, 6, 8] [0, 2, 1, 3, 4] 15 (by kernel_rfl) (by kernel_rfl) (InK.mk' hK4) ?_
    show wpQuiet _ _ _ _ [_, _, _] _
    repeat (go_big_quiet_step (fail))
    refine wpQuiet_nil ?_
    refine region_fix (i := 7) (fuel := 14) rfl (by kernel_rfl) (fun K hK => ?_)
    go_simp
    refine (places_calls x w3 (HX.out _ (HkO.out.trans hK4)) Hs.out).mono ?_
    rintro e w4 ⟨rfl, hk4⟩
    have hK7 : Keep wO w4 := hK4.trans hk4
    refine hK _ _ (InK.mk' hK7) ?_
    clear hK K
    refine region_fix (i := 9) (fuel := 13) rfl (by kernel_rfl) (fun K hK => ?_)
    go_simp
    refine (places47_calls x w4 (HX.out _ (HkO.out.trans hK7)) HB.out Hs.out).mono ?_
    rintro e w5 ⟨rfl, hk5⟩
    have hK9 : Keep wO w5 := hK7.trans hk5
    refine hK _ _ (InK.mk' hK9) ?_
    clear hK K
    refine region_take [10, 11, 12, 13, 15] [0, 2, 1, 3, 4, 5, 6, 8, 7, 9] 8 (by kernel_rfl) (by kernel_rfl) (InK.mk' hK9) ?_
    show wpQuiet _ _ _ _ [_, _, _, _, _] _
    repeat (go_big_quiet_step (fail))
    refine wpQuiet_nil ?_
    refine region_fix (i := 14) (fuel := 7) rfl (by kernel_rfl) (fun K hK => ?_)
    go_simp
    refine (of_calls x w5 (HX.out _ (HkO.out.trans hK9)) Hs.out (fun b y _ hy => Hf.out.inn b y hy)).mono ?_
    rintro e w6 ⟨A6, ls, k6, S, rfl, hl6, he6, hfi, hsh, hk6⟩
    have hK14 : Keep wO w6 := hK9.trans hk6
    refine hK _ _ (InK.mk' hK14) ?_
    clear hK K
    refine region_fix (i := 16) (fuel := 6) rfl (by kernel_rfl) (fun K hK => ?_)
    go_simp
    refine (of47_calls x w6 (HX.out _ (HkO.out.trans hK14)) HB.out Hs.out (fun b y hy => Hf.out.inn b y hy)).mono ?_
    rintro e w7 ⟨A7, ks, k7, rfl, hl7, he7, hk7⟩
    have hK16 : Keep wO w7 := hK14.trans hk7
    refine hK _ _ (InK.mk' hK16) ?_
    clear hK K
    refine region_fix (i := 17) (fuel := 5) rfl (by kernel_rfl) (fun K hK => ?_)
    go_simp
    refine (same_calls ls ks A6 A7 k6 k7 w7 (hl6.keep hk7) hl7 (by rw [he6, he7]; exact ofR_eq Hf.out hfi hsh) (by
     have h1 := congrArg List.length he6
     have h2 := ofR_len x S x.vals.l.length
     rw [List.length_map] at h1
     omega)).mono ?_
    rintro e w8 ⟨rfl, hk8⟩
    have hK17 : Keep wO w8 := hK16.trans hk8
    refine hK _ _ (InK.mk' hK17) ?_
    clear hK K
    refine region_take [18, 19] [0, 2, 1, 3, 4, 5, 6, 8, 7, 9, 10, 11, 12, 13, 15, 14, 16, 17] 3 (by kernel_rfl) (by kernel_rfl) (InK.mk' hK17) ?_
    show wpQuiet _ _ _ _ [_, _] _
    repeat (go_big_quiet_step (fail))
    refine wpQuiet_nil ?_
    refine region_fix (i := 20) (fuel := 2) rfl (by kernel_rfl) (fun K hK => ?_)
    go_simp
    refine (alive_calls w8).mono ?_
    rintro e w9 ⟨rfl, hk9⟩
    have hK20 : Keep wO w9 := hK17.trans hk9
    refine hK _ _ (InK.mk' hK20) ?_
    clear hK K
    refine region_take [21, 22] [0, 2, 1, 3, 4, 5, 6, 8, 7, 9, 10, 11, 12, 13, 15, 14, 16, 17, 18, 19, 20] 0 (by kernel_rfl) (by kernel_rfl) (InK.mk' hK20) ?_
    show wpQuiet _ _ _ _ [_, _] _
    repeat (go_big_quiet_step (fail))
    refine wpQuiet_nil ?_
    refine region_done (by kernel_rfl) ?_
    have HK := Lib.hid (HkV.out.trans (HkO.out.trans hK20))
    clear hd hK1 hK3 hK4 hK7 hK9 hK14 hK16 hK17 hK20 hk1 hk2 hk3 hk4 hk5 hk6 hk7 hk8 hk9 ho1 ho2 hl6 hl7 he6 he7 hfi hsh c0 c1 c2 c3 lt
    go_wp2_with fail
    go_ret
    exact ⟨rfl, HK.out⟩
end Go.Proofs.YtjpmiejgcnfiiaaGreat
namespace Go.Proofs.YtjpmiejgcnfiiaaGreat.PLiveTells
open Go Go.ChangeShapes Go.WideShapes Go.ChangeAt Go.RowKit

theorem own : ownKnob Tryz.prog.godebug = none := by kernel_rfl
set_option maxRecDepth 100000 in
theorem contract (H : Type) (enc : TypeId × Value → H) (W : World) (base : Nat) (args : Array Value) (ds gs : List (DataW H)) (before : List MemPlace)
  (hval : ∀ (j : Nat) t v, Tryz.f3.params[j]? = some t → args[j]? = some v → Value.okWide Tryz.prog W .any base t v)
  (hW : DataW.Whole enc Tryz.prog Tryz.f3.params.toList Rows.liveTellsSpec.vars false W args.toList ds gs before) (hk : Rows.uptoSmall H (ds ++ gs) = true) :
  Calls Tryz.prog 3 args W fun e W' => ∃ v, e = .returned v ∧ Rows.liveTellsSpec.post enc Tryz.prog Tryz.f3 false true false false W args v W' := by
 have hW' := hW
 obtain ⟨p, q, hA0, hV, rfl, hfz, hnd⟩ := hW
 have hA : DataW.TrodAll enc Tryz.prog W 0 (fun _ => true) true Tryz.f3.params.toList args.toList ds p := hA0
 have hA1 := hA
 rw [Tryz.params3] at hA hval
 obtain ⟨v0, vs0, d0, ds0, p0, q0, hargs, rfl, rfl, h0, r0⟩ := trodAll_cons hA
 obtain ⟨v1, vs1, d1, ds1, p1, q1, rfl, rfl, rfl, h1, r1⟩ := trodAll_cons r0
 obtain ⟨rfl, rfl, rfl⟩ := trodAll_nil r1
 obtain rfl : args = #[v0, v1] := by cases args; simp_all
 obtain ⟨rfl, rfl⟩ := trodVars_none hV
 have hbd := bulk_bound hk
 simp only [List.append_nil, Rows.uptoBulkAll] at hbd
 obtain ⟨m, rfl, hm, sm⟩ := openU_struct Tryz.underlying33 (opU_module W) (hval 0 _ v0 rfl rfl) h0
 obtain ⟨x, rfl, hx, sx⟩ := openU_struct Tryz.underlying39 (opU_form W) (hval 1 _ v1 rfl rfl) h1
 clear hA0
 refine (tells_calls m x W (MdOk.of hm (by omega)) hx.1 hx.2.1 hx.2.2.1 (Bulky.of (by omega)) hx.2.2.2).mono fun e W' ⟨he, bel⟩ => ?_
 subst he
 exact ⟨_, rfl, _, _, _, [], _, [], hW', trodAll_mk1 (shut_bool Tryz.underlying4 _), Keep.trodAll DZ.laidOut bel (by kernel_rfl) hA1, rfl, bel.frame _, fun h => by cases h⟩

set_option maxRecDepth 100000 in
theorem lifted (os : Os) (started : os.Started) (H : Type) (enc : TypeId × Value → H) (F : Stop.Interp) :
  ReturnsInHanded {} Tryz.checked os 3 .any ((Rows.OpenSpec.upto Rows.liveTellsSpec).pre6 enc Tryz.prog Tryz.f3 Rows.liveTellsUptoRow.domain false) (((Rows.OpenSpec.upto Rows.liveTellsSpec).at F).post enc Tryz.prog Tryz.f3 false true false false) := by
 refine returnsInHanded_of_cond (C := Tryz.checked) (s := Rows.OpenSpec.upto Rows.liveTellsSpec) (k := Rows.uptoSmall) rfl own started (by kernel_rfl) Tryz.func3
  (OpenSpec.witness (enc := enc) (C := Tryz.checked) (s := Rows.OpenSpec.upto Rows.liveTellsSpec) (k := Rows.uptoSmall) rfl false ⟨#[], #[.agg #[.slice none 0 0, .slice none 0 0, .slice none 0 0, .slice none 0 0, .slice none 0 0, .slice none 0 0, .slice none 0 0, .bool false, .int .i64 0, .slice none 0 0, .slice none 0 0, .slice none 0 0], .agg #[.slice none 0 0, .slice none 0 0, .slice none 0 0, .slice none 0 0]], []⟩ 8 (by kernel_rfl) (by kernel_rfl) (by kernel_rfl)
   (x := ([.agg [.nil, .nil, .nil, .nil, .nil, .nil, .nil, .lit (.bool false), .lit (.int .i64 0), .nil, .nil, .nil], .agg [.agg [.nil, .nil], .nil, .nil]], [], [])) (by kernel_rfl) rfl (by kernel_rfl)) ?_
 intro W base args ds gs before hval hW _ hk _
 exact contract H enc W base args ds gs before hval hW hk

theorem proved : Rows.LiveTellsUptoSaid :=
 OpenClaim.holds_of_cond 3 Tryz.f3 rfl rfl rfl rfl rfl rfl rfl ⟨rfl, rfl, rfl, rfl, rfl⟩ rfl rfl rfl rfl rfl (by kernel_rfl) Tryz.func3 (by kernel_rfl)
  (of_decide_eq_true (by kernel_rfl)) (by unfold Func.isWrapper; first | (rw [if_pos (by decide +kernel)]; kernel_rfl) | (rw [if_neg (by decide +kernel)]; exact ⟨rfl, rfl⟩))
  (fun os started H enc _ F => lifted os started H enc F)
end Go.Proofs.YtjpmiejgcnfiiaaGreat.PLiveTells
