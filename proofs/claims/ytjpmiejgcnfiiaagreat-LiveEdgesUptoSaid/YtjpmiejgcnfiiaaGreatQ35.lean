import Derived.Test.YtjpmiejgcnfiiaaGreatQ28
import Derived.Test.YtjpmiejgcnfiiaaGreatQ31
import Derived.Test.YtjpmiejgcnfiiaaGreatQ19
import Derived.Test.YtjpmiejgcnfiiaaGreatQ29
set_option linter.unusedVariables false
set_option linter.unusedSimpArgs false
namespace Go.Proofs.YtjpmiejgcnfiiaaGreat
open Go Go.RowKit

/-- What is told of an edge that is let through. -/
def EdgeOk (e : EdD) (n nv : Nat) : Prop := (0 ≤ e.to ∧ e.to < (n : Int)) ∧ ∀ v ∈ e.args.l, 0 ≤ v ∧ v < (nv : Int)
set_option maxHeartbeats 8000000 in
set_option maxRecDepth 100000 in
theorem edges39_calls (k : LkD) (y : BkD) (w : World) (h : LkOk w k) (hy : BkOk w y) (hb : BulkyB y) :
  Calls Tryz.prog 63 #[.agg (lkC k).toArray, .agg #[.int .i64 y.kind, .int .i64 y.cond, .slice y.args.a y.args.l.length y.args.c, .slice y.to.a y.to.l.length y.to.c, .int .i64 y.trap]] w (RB w fun r => r = true → ∀ e ∈ y.to.l, EdgeOk e k.x.blocks.l.length k.x.vals.l.length) := by
 obtain ⟨W, hW, kW, bW, sW⟩ := boxN w 108 (lkC k)
 obtain ⟨V, hV, kV, bV, sV⟩ := boxN W 55 [.int .i64 y.kind, .int .i64 y.cond, .slice y.args.a y.args.l.length y.args.c, .slice y.to.a y.to.l.length y.to.c, .int .i64 y.trap]
 have Hld := Lib.hid (fun (w' : World) (hk : Keep V w') => lk_load ((bW.keep kV).keep hk))
 have x3 : V.cell? ⟨W.heap.size, 3, none⟩ = some (.slice y.to.a y.to.l.length y.to.c) := bV.cell 3
 have lx := bV.lt
 have Hx3 := Lib.hid x3
 have Hlx := Lib.hid lx
 have kk := Lib.hid (kW.trans kV)
 have H := Lib.hid (fun (w' : World) (hk : Keep V w') => h.keep (kk.out.trans hk))
 have Hy := Lib.hid (hy.keep kk.out)
 have Hb := Lib.hid hb
 have htl := hb.to
 have hnl := h.bulk.blocks
 have Hce := Lib.hid (fun (w' : World) (hk : Keep V w') => (show w'.cell? ⟨w.heap.size, 14, none⟩ = some (.slice k.x.vals.a k.x.vals.l.length k.x.vals.c) from ((bW.keep kV).keep hk).cell 14))
 have Hcf := Lib.hid (fun (w' : World) (hk : Keep V w') => (show w'.cell? ⟨w.heap.size, 15, none⟩ = some (.slice k.x.blocks.a k.x.blocks.l.length k.x.blocks.c) from ((bW.keep kV).keep hk).cell 15))
 have Hlw := Lib.hid (bW.keep kV).lt
 have K0 : Keep V V := Keep.refl _
 have HBl := Lib.hid (fun (b : Nat) (z : BkD) (hz : k.x.blocks.l[b]? = some z) => h.bulk.block (List.mem_of_getElem? hz))
 have Hvl := Lib.hid h.bulk.vals
 clear bW sW bV sV h hy hb kW kV
 go_enter Tryz.func63, Tryz.ntmps63
 go_wp2_with fail
 clear x3 lx
 go_loopw [5, 6, 7, 8] (fun vi _ _ _ wr => ∃ j : Nat, j ≤ y.to.l.length ∧ vi = .int .i64 j ∧ Hid (∀ e ∈ y.to.l.take j, EdgeOk e k.x.blocks.l.length k.x.vals.l.length) ∧ Hid (Keep V wr)) (fun i _ _ _ _ => y.to.l.length - (intOf i).toNat)
 case atStart => exact ⟨0, Nat.zero_le _, rfl, Lib.hid (by simp), Lib.hid K0⟩
 case round =>
  obtain ⟨j, hj, rfl, hall, hkeep⟩ := hrel
  obtain ⟨wI, rfl⟩ : ∃ z : World, z = wr := ⟨_, rfl⟩
  have x3 := hkeep.out.cell Hx3.out
  have lx := Nat.lt_of_lt_of_le Hlx.out hkeep.out.size
  by_cases hlt : j < y.to.l.length
  ·obtain ⟨e, he⟩ := get_some hlt
   obtain ⟨bE, oE, hEA, hbE, e0, e1⟩ := ed_get Hy.out.toSeg hkeep.out he
   have hbEl := Nat.lt_of_lt_of_le hbE hkeep.out.size
   unfold RwD.v at e1
   rw [hEA] at x3
   have Htk := Lib.hid (show y.to.l.take (j + 1) = y.to.l.take j ++ [e] from by rw [List.take_add_one, he]; rfl)
   have Har := Lib.hid ((Hy.out.to e (List.mem_of_getElem? he)).args.keep hkeep.out)
   have hel := Hb.out.edges e (List.mem_of_getElem? he)
   obtain ⟨X, hX, kX, bX, sX⟩ := boxN wI 65 [.int .i64 e.to, .slice e.args.a e.args.l.length e.args.c]
   have KX : Keep V X := hkeep.out.trans kX
   have z0 : X.cell? ⟨wI.heap.size, 0, none⟩ = some (.int .i64 e.to) := bX.cell 0
   have z1 : X.cell? ⟨wI.heap.size, 1, none⟩ = some (.slice e.args.a e.args.l.length e.args.c) := bX.cell 1
   have zl := bX.lt
   have Hz1 := Lib.hid z1
   have Hzl := Lib.hid zl
   have HkX := Lib.hid kX
   have cf := Hcf.out X KX
   have lw : w.heap.size < X.heap.size := Nat.lt_of_lt_of_le Hlw.out KX.size
   have j1 : (j : Int) < (y.to.l.length : Int) := by omega
   have j0 : (0 : Int) ≤ (j : Int) := by omega
   obtain ⟨et, het⟩ : ∃ et, e.to = et := ⟨_, rfl⟩
   have Het := Lib.hid het
   rw [het] at e0 z0 hX
   clear he hEA het bX sX kX
   by_cases g1 : et < 0
   ·have g1b : decide (et < 0) = true := decide_eq_true g1
    clear g1
    go_wp2_with fail
    go_ret
    exact RB.mk rfl (fun h => by cases h) (kk.out.trans KX)
   ·have g1b : decide (et < 0) = false := decide_eq_false g1
    by_cases g2 : (k.x.blocks.l.length : Int) ≤ et
    ·have g2b : decide ((k.x.blocks.l.length : Int) ≤ et) = true := decide_eq_true g2
     clear g1 g2
     go_wp2_with fail
     go_ret
     exact RB.mk rfl (fun h => by cases h) (kk.out.trans KX)
    ·have g2b : decide ((k.x.blocks.l.length : Int) ≤ et) = false := decide_eq_false g2
     obtain ⟨t, rfl⟩ : ∃ t : Nat, et = (t : Int) := ⟨et.toNat, by omega⟩
     obtain ⟨z, hz⟩ := get_some (l := k.x.blocks.l) (k := t) (by omega)
     obtain ⟨B, off, hBA, hBl, q0, _⟩ := bk_cells (H.out X KX).x.seg (Keep.refl _) hz
     have hzb := HBl.out t z hz
     have t0 : (0 : Int) ≤ (t : Int) := by omega
     have t1 : (t : Int) < (k.x.blocks.l.length : Int) := by omega
     have ce := Hce.out X KX
     have hd : Keep X X.drew := (Keep.refl _).drew
     have Hal := Lib.hid (all39_calls z.params.l z.params.a z.params.c k.x.vals.l k.x.vals.a k.x.vals.c X.drew (((H.out X KX).x.blocks z (List.mem_of_getElem? hz)).params.keep hd).seg (by have := hzb.params; omega) ((H.out X KX).x.vals.keep hd).seg (by have := Hvl.out; omega))
     have Hto := Lib.hid (show 0 ≤ e.to ∧ e.to < (k.x.blocks.l.length : Int) from by rw [Het.out]; exact ⟨t0, t1⟩)
     rw [hBA] at cf
     have ecf := fun u : KW X => u.cell cf
     have ece := fun u : KW X => u.cell ce
     have ez0 := fun u : KW X => u.cell z0
     have eq0 := fun u : KW X => u.cell q0
     clear hz hBA hzb g1 g2
     go_wp2_with fail
     refine region_begin (S := fun w' => ∃ u : KW X, w' = u.val) (by kernel_rfl) ?_
     refine region_take [0, 1, 2, 3, 4, 5, 6, 7, 8, 9, 10] [] 6 (by kernel_rfl) (by kernel_rfl) (InK.mk' hd) ?_
     show wpQuiet _ _ _ _ [_, _, _, _, _, _, _, _, _, _, _] _
     repeat (go_big_quiet_step (fail))
     refine wpQuiet_nil ?_
     refine region_fix (i := 11) (fuel := 5) rfl (by kernel_rfl) (fun K hK => ?_)
     go_simp
     refine Hal.out.mono ?_
     rintro e9 w5 ⟨A, n, c, r, rfl, hA, hrr, hk5⟩
     clear hrr
     have h5 := hd.trans hk5
     refine hK _ _ (InK.mk' h5) ?_
     clear hK K Hal
     refine region_take [12, 13, 14, 15, 16] [0, 1, 2, 3, 4, 5, 6, 7, 8, 9, 10, 11] 0 (by kernel_rfl) (by kernel_rfl) (InK.mk' h5) ?_
     show wpQuiet _ _ _ _ [_, _, _, _, _] _
     repeat (go_big_quiet_step (fail))
     refine wpQuiet_nil ?_
     refine region_done (by kernel_rfl) ?_
     have K5 : Keep V w5 := KX.trans h5
     have HX5 := Lib.hid h5
     have HA := Lib.hid hA
     clear ecf ece ez0 eq0 cf ce z0 q0 z1 zl lw e0 e1 x3 lx hd hk5 h5 hA
     have z1 := HX5.out.cell Hz1.out
     have zl := Nat.lt_of_lt_of_le Hzl.out HX5.out.size
     cases r with
     | false =>
      go_wp2_with fail
      go_ret
      exact RB.mk rfl (fun h => by cases h) (kk.out.trans K5)
     | true =>
      have Hty := Lib.hid (typed39_calls k e.args.l e.args.a e.args.c A n c w5 (H.out w5 K5) ((Har.out.keep HkX.out).keep HX5.out).seg (by omega) HA.out)
      go_wp2_with (refine wpList_load_w _ _ rfl rfl _ rfl _ (Hld.out _ K5) ?_)
      refine Hty.out.mono ?_
      rintro e9 w6 ⟨r6, rfl, h6, hk6⟩
      have HK6 := Lib.hid (K5.trans hk6)
      clear Hty hk6
      cases r6 with
      | false =>
       clear h6
       go_wp2_with fail
       go_ret
       exact RB.mk rfl (fun h => by cases h) (kk.out.trans HK6.out)
      | true =>
       have Hn := Lib.hid (show ∀ e ∈ y.to.l.take (j + 1), EdgeOk e k.x.blocks.l.length k.x.vals.l.length from fun e' he' => by
        rw [Htk.out] at he'
        rcases List.mem_append.1 he' with he' | he'
        ·exact hall.out e' he'
        ·obtain rfl := List.mem_singleton.1 he'
         exact ⟨Hto.out, h6 rfl⟩)
       clear h6 hall
       go_wp2
       go_roundw
       case rel => exact ⟨j + 1, hlt, by go_num, Hn, HK6⟩
       case measure => simp [intOf]; omega
  ·have Hall := Lib.hid (show ∀ e ∈ y.to.l, EdgeOk e k.x.blocks.l.length k.x.vals.l.length from by have := hall.out; rwa [List.take_of_length_le (by omega)] at this)
   clear hall
   go_wp2
   go_ret
   exact RB.mk rfl (fun _ => Hall.out) (kk.out.trans hkeep.out)
end Go.Proofs.YtjpmiejgcnfiiaaGreat
namespace Go.Proofs.YtjpmiejgcnfiiaaGreat
open Go Go.RowKit

/-- The box of a block. -/
structure BX (w : World) (b : Nat) (y : BkD) : Prop where
 X0 : w.cell? ⟨b, 0, none⟩ = some (.slice y.params.a y.params.l.length y.params.c)
 X1 : w.cell? ⟨b, 1, none⟩ = some (.slice y.ins.a y.ins.l.length y.ins.c)
 X2 : w.cell? ⟨b, 2, none⟩ = some (.int .i64 y.kind)
 X3 : w.cell? ⟨b, 3, none⟩ = some (.int .i64 y.cond)
 X4 : w.cell? ⟨b, 4, none⟩ = some (.slice y.args.a y.args.l.length y.args.c)
 X5 : w.cell? ⟨b, 5, none⟩ = some (.slice y.to.a y.to.l.length y.to.c)
 X6 : w.cell? ⟨b, 6, none⟩ = some (.int .i64 y.trap)
 lt : b < w.heap.size
theorem Blk.bx {w : World} {b : Nat} {T : TypeId} {y : BkD} (h : Blk w b T [.slice y.params.a y.params.l.length y.params.c, .slice y.ins.a y.ins.l.length y.ins.c, .int .i64 y.kind, .int .i64 y.cond, .slice y.args.a y.args.l.length y.args.c, .slice y.to.a y.to.l.length y.to.c, .int .i64 y.trap]) : BX w b y := ⟨h.cell 0, h.cell 1, h.cell 2, h.cell 3, h.cell 4, h.cell 5, h.cell 6, h.lt⟩
/-- What is told of the first j instructions. -/
def InsOk (x : SsD) (K : VK) (b : Nat) (y : BkD) (j : Nat) : Prop := ∀ i q, i < j → y.ins.l[i]? = some q → (∀ v ∈ q.args.l, 0 ≤ v ∧ v < (x.vals.l.length : Int)) ∧ (∀ v ∈ q.outs.l, 0 ≤ v ∧ v < (x.vals.l.length : Int)) ∧ ∀ v ∈ q.args.l, K.standsB b (y.hereI i) v = true
theorem BkV.of {x : SsD} {K : VK} {b : Nat} {y : BkD} (hp : ∀ v ∈ y.params.l, 0 ≤ v ∧ v < (x.vals.l.length : Int)) (hi : InsOk x K b y y.ins.l.length) (he : EndOk y x.vals.l.length) (hd : ∀ e ∈ y.to.l, EdgeOk e x.blocks.l.length x.vals.l.length) (hs : ∀ v ∈ y.usedE y.to.l.length, K.standsB b y.outsI v = true) : BkV x K b y where
 inn := ⟨hp, fun i him v hv => by
  obtain ⟨j, hj⟩ := List.mem_iff_getElem?.1 him
  exact (hi j i (List.getElem?_eq_some_iff.1 hj).1 hj).1 v hv, fun i him v hv => by
  obtain ⟨j, hj⟩ := List.mem_iff_getElem?.1 him
  exact (hi j i (List.getElem?_eq_some_iff.1 hj).1 hj).2.1 v hv, fun v hv => by
  unfold BkD.endsI at hv
  rcases List.mem_append.1 hv with hv | hv
  ·rcases List.mem_append.1 hv with hv | hv
   ·exact he.1 v hv
   ·split at hv
    ·rename_i hk
     obtain rfl := List.mem_singleton.1 hv
     exact he.2 hk
    ·simp at hv
  ·obtain ⟨e, hem, hv⟩ := List.mem_flatMap.1 hv
   exact (hd e hem).2 v hv⟩
 ins := fun j i hj v hv => (hi j i (List.getElem?_eq_some_iff.1 hj).1 hj).2.2 v hv
 ends := fun v hv => hs v (usedE_mem.2 hv)
 edges := fun e he => (hd e he).1

set_option maxHeartbeats 16000000 in
set_option maxRecDepth 100000 in
theorem block39_calls (k : LkD) (b : Nat) (y : BkD) (w : World) (h : LkOk w k) (hy : k.x.blocks.l[b]? = some y) :
  Calls Tryz.prog 41 #[.agg (lkC k).toArray, .int .i64 (b : Int)] w (RB w fun r => r = true → BkV k.x k.K b y) := by
 obtain ⟨W, hW, kW, bW, sW⟩ := boxN w 108 (lkC k)
 have Hld := Lib.hid (fun (w' : World) (hk : Keep W w') => lk_load (bW.keep hk))
 have cf : W.cell? ⟨w.heap.size, 15, none⟩ = some (.slice k.x.blocks.a k.x.blocks.l.length k.x.blocks.c) := bW.cell 15
 have lt := bW.lt
 obtain ⟨B, off, hA, hB, q0, q1, q2, q3, q4, q5, q6⟩ := bk_cells h.x.seg kW hy
 have hBl := Nat.lt_of_lt_of_le hB kW.size
 have hbl := (List.getElem?_eq_some_iff.1 hy).1
 obtain ⟨X, hX, kX, bX, sX⟩ := boxN W 57 [.slice y.params.a y.params.l.length y.params.c, .slice y.ins.a y.ins.l.length y.ins.c, .int .i64 y.kind, .int .i64 y.cond, .slice y.args.a y.args.l.length y.args.c, .slice y.to.a y.to.l.length y.to.c, .int .i64 y.trap]
 have KX : Keep W X := kX
 have Hbx := Lib.hid (fun (w' : World) (hk : Keep X w') => (bX.keep hk).bx)
 have H := Lib.hid (fun (w' : World) (hk : Keep W w') => h.keep (kW.trans hk))
 have HkW := Lib.hid kW
 have hbb := h.bulk.block (List.mem_of_getElem? hy)
 have HY := Lib.hid (fun (w' : World) (hk : Keep W w') => (h.keep (kW.trans hk)).x.blocks y (List.mem_of_getElem? hy))
 have HW := Lib.hid (fun i hi => h.wf y (List.mem_of_getElem? hy) i hi)
 have HB := Lib.hid hbb
 have hil := hbb.ins
 have ce : X.cell? ⟨w.heap.size, 14, none⟩ = some (.slice k.x.vals.a k.x.vals.l.length k.x.vals.c) := (bW.keep kX).cell 14
 have lX : w.heap.size < X.heap.size := Nat.lt_of_lt_of_le lt kX.size
 obtain ⟨X0, _, _, _, _, _, _, ltX⟩ := Hbx.out X (Keep.refl _)
 have Hall := Lib.hid (all39_calls y.params.l y.params.a y.params.c k.x.vals.l k.x.vals.a k.x.vals.c X (HY.out X KX).params.seg (by have := hbb.params; omega) (H.out X KX).x.vals.seg (by have := h.bulk.vals; omega))
 have b0 : (0 : Int) ≤ (b : Int) := by omega
 have b1 : (b : Int) < (k.x.blocks.l.length : Int) := by omega
 have Hbl := Lib.hid hbl
 have hpl := hbb.params
 rw [hA] at cf
 clear bW sW bX sX h hy hA kW hbb
 go_enter Tryz.func41, Tryz.ntmps41
 go_wp2_with fail
 refine Hall.out.mono ?_
 clear Hall q0 q1 q2 q3 q4 q5 q6 cf X0 ltX lX ce
 rintro e w2 ⟨A2, n2, c2, r, rfl, _, hr, hk2⟩
 have K2 : Keep W w2 := KX.trans hk2
 cases r with
 | false =>
  clear hr
  go_wp2
  go_ret
  exact RB.mk rfl (fun h => by cases h) (HkW.out.trans K2)
 | true =>
  have Hp := Lib.hid (hr rfl).2
  clear hr
  have HX2 := Lib.hid hk2
  obtain ⟨X0, X1, X2, X3, X4, X5, X6, ltX⟩ := Hbx.out w2 hk2
  have ho : Own intC 1 3 (w2.alloc (.cells #[] 3)) w2.heap.size (.slice (some ⟨w2.heap.size, 0, none⟩) 0 0) [] := Own.empty_made intC 1 3 w2 (Nat.le_refl _)
  have hke : Keep w2 (w2.alloc (.cells #[] 3)) := (Keep.refl _).alloc _
  obtain ⟨_, _, hv0, A1, c1', w3, hrun1, hown1, hE1⟩ := intApp ho (((HY.out w2 K2).params).seg.keep hke) y.params.c (by simp; omega) hke.size
  cases hv0
  have k3 : Keep w2 w3 := Keep.of_ext hke hE1 (fun i hi e => by simp [Value.ownBlock] at e; omega)
  rw [List.nil_append] at hrun1 hown1
  obtain ⟨EL, hEL⟩ : ∃ EL : Nat → List Int, (fun j => y.hereI j) = EL := ⟨_, rfl⟩
  have HEL := Lib.hid (show ∀ j i, y.ins.l[j]? = some i → EL (j + 1) = EL j ++ i.outs.l from fun j i hi => by rw [← hEL]; exact BkD.hereI_succ hi)
  have HEq := Lib.hid (show ∀ j, EL j = y.hereI j from fun j => by rw [← hEL])
  have HEnd := Lib.hid (show EL y.ins.l.length = y.outsI from by rw [← hEL]; exact BkD.hereI_all (Nat.le_refl _))
  have HLe := Lib.hid (show ∀ j, (EL j).length ≤ 1048576 from fun j => by rw [← hEL]; exact Nat.le_trans (BkD.hereI_le y j) HB.out.outs)
  have HE0 : EL 0 = y.params.l := by rw [← hEL]; simp [BkD.hereI]
  have Hst1 := Lib.hid (show Own intC 1 3 w3 w2.heap.size (.slice A1 y.params.l.length c1') (EL 0) from by rw [HE0]; exact hown1)
  have Hst2 := Lib.hid k3
  have HI0 := Lib.hid (show InsOk k.x k.K b y 0 from fun i q hi => by omega)
  clear ho hke hown1 hE1 hEL HE0 k3 hk2 X1 X2 X3 X4 X5 X6
  go_wp2_with (at_builtin; refine wpList_append_eq rfl _ _ _ rfl _ _ rfl rfl _ _ hrun1 ?_; clear hrun1)
  clear X0 ltX
  go_loopw [8, 9] (fun vo vi wr => ∃ j : Nat, j ≤ y.ins.l.length ∧ vi = .int .i64 j ∧ Hid (Own intC 1 3 wr w2.heap.size vo (EL j)) ∧ Hid (InsOk k.x k.K b y j) ∧ Hid (Keep w2 wr)) (fun _ i _ => y.ins.l.length - (intOf i).toNat)
  case atStart => exact ⟨0, Nat.zero_le _, rfl, Hst1, HI0, Hst2⟩
  case round =>
   clear Hst1 Hst2 HI0
   obtain ⟨j, hj, rfl, hown, hins, hkeep⟩ := hrel
   obtain ⟨Ao, co, rfl, _⟩ := hown.out.form
   obtain ⟨X0, X1, X2, X3, X4, X5, X6, ltX⟩ := Hbx.out wr (HX2.out.trans hkeep.out)
   have KR : Keep W wr := K2.trans hkeep.out
   by_cases hlt : j < y.ins.l.length
   ·obtain ⟨q, hq⟩ := get_some hlt
    have hqm := List.mem_of_getElem? hq
    obtain ⟨B2, o2, hA2, hB2, _, p0, p1, p2, p3, p4, p5, p6⟩ := in_open (HY.out wr KR) (Keep.refl _) hq
    have hB2l := hB2
    have Hq := Lib.hid hq
    rw [hA2] at X1
    have j1 : (j : Int) < (y.ins.l.length : Int) := by omega
    have j0 : (0 : Int) ≤ (j : Int) := by omega
    have hd : Keep wr wr.drew := (Keep.refl _).drew
    have hqb := HB.out.inn q hqm
    have Hqi := Lib.hid ((HY.out wr KR).ins q hqm)
    have Hin := Lib.hid (ins39_calls k q wr.drew (H.out _ (KR.trans hd)) (Hqi.out.keep hd) (HW.out q hqm) (by omega) (by omega))
    obtain ⟨mj, hmj⟩ : ∃ m, (EL j).length = m := ⟨_, rfl⟩
    have hmjb : mj ≤ 1048576 := by rw [← hmj]; exact HLe.out j
    have Hsd := Lib.hid (fun (w' : World) (hk : Keep wr w') => show Calls Tryz.prog 61 #[.agg (lkC k).toArray, .int .i64 (b : Int), .slice Ao mj co, .slice q.args.a q.args.l.length q.args.c] w' (RB w' fun r => r = true → ∀ v ∈ q.args.l, k.K.standsB b (EL j) v = true) from by
     have := stand39_calls k b (EL j) Ao co q.args.l q.args.a q.args.c w' (H.out _ (KR.trans hk)) (hown.out.segN.2.keep hk) (by omega) Hbl.out (Hqi.out.args.keep hk).seg (by omega)
     rwa [hmj] at this)
    have eX1 := fun z : KW wr => z.cell X1
    have ep0 := fun z : KW wr => z.cell p0
    have ep1 := fun z : KW wr => z.cell p1
    have ep2 := fun z : KW wr => z.cell p2
    have ep3 := fun z : KW wr => z.cell p3
    have ep4 := fun z : KW wr => z.cell p4
    have ep5 := fun z : KW wr => z.cell p5
    have ep6 := fun z : KW wr => z.cell p6
    have Hmj := Lib.hid hmj
    rw [hmj]
    clear hq hA2 hqm X2 X3 X4 X5 X6 hmj
    go_wp2_with fail
    refine region_begin (S := fun w' => ∃ z : KW wr, w' = z.val) (by kernel_rfl) ?_
    refine region_take [0, 1, 2, 3, 4, 5] [] 15 (by kernel_rfl) (by kernel_rfl) (InK.mk' hd) ?_
    show wpQuiet _ _ _ _ [_, _, _, _, _, _] _
    go_big_quiet_want
    refine quiet_load _ _ rfl (.agg (lkC k).toArray) (fun w' hw => ?_) ?_
    ·obtain ⟨z, rfl⟩ := hw
     exact Hld.out z.val (KR.trans z.keep)
    simp only [Act.put, List.setIfInBounds_toArray, List.set_cons_succ, List.set_cons_zero]
    go_big_quiet_on
    repeat (go_big_quiet_step (fail))
    refine wpQuiet_nil ?_
    refine region_fix (i := 6) (fuel := 14) rfl (by kernel_rfl) (fun K hK => ?_)
    go_simp
    refine Hin.out.mono ?_
    rintro e w5 ⟨r5, rfl, h5, hk5⟩
    have hd5 := hd.trans hk5
    refine hK _ _ (InK.mk' hd5) ?_
    clear hK K
    cases r5 with
    | false =>
     clear h5
     refine region_take [7, 8, 9, 10, 11, 12, 13, 14, 15, 16, 17] [0, 1, 2, 3, 4, 5, 6] 3 (by kernel_rfl) (by kernel_rfl) (InK.mk' hd5) ?_
     show wpQuiet _ _ _ _ [_, _, _, _, _, _, _, _, _, _, _] _
     repeat (go_big_quiet_step (fail))
     refine wpQuiet_nil ?_
     refine region_fix (i := 18) (fuel := 2) rfl (by kernel_rfl) (fun K hK => ?_)
     go_simp
     refine hK _ _ (InK.mk' hd5) ?_
     clear hK K
     refine region_take [19, 20] [0, 1, 2, 3, 4, 5, 6, 7, 8, 9, 10, 11, 12, 13, 14, 15, 16, 17, 18] 0 (by kernel_rfl) (by kernel_rfl) (InK.mk' hd5) ?_
     show wpQuiet _ _ _ _ [_, _] _
     repeat (go_big_quiet_step (fail))
     refine wpQuiet_nil ?_
     refine region_done (by kernel_rfl) ?_
     have HK6 := Lib.hid (hkeep.out.trans hd5)
     clear eX1 ep0 ep1 ep2 ep3 ep4 ep5 ep6 p0 p1 p2 p3 p4 p5 p6 X0 X1 ltX
     go_wp2
     go_ret
     exact RB.mk rfl (fun h => by cases h) (HkW.out.trans (K2.trans HK6.out))
    | true =>
     have H5 := Lib.hid (h5 rfl)
     clear h5
     refine region_take [7, 8, 9, 10, 11, 12, 13, 14, 15, 16, 17] [0, 1, 2, 3, 4, 5, 6] 3 (by kernel_rfl) (by kernel_rfl) (InK.mk' hd5) ?_
     show wpQuiet _ _ _ _ [_, _, _, _, _, _, _, _, _, _, _] _
     go_big_quiet_step (fail)
     go_big_quiet_step (fail)
     go_big_quiet_want
     refine quiet_load _ _ rfl (.agg (lkC k).toArray) (fun w' hw => ?_) ?_
     ·obtain ⟨z, rfl⟩ := hw
      exact Hld.out z.val (KR.trans z.keep)
     simp only [Act.put, List.setIfInBounds_toArray, List.set_cons_succ, List.set_cons_zero]
     go_big_quiet_on
     repeat (go_big_quiet_step (fail))
     refine wpQuiet_nil ?_
     refine region_fix (i := 18) (fuel := 2) rfl (by kernel_rfl) (fun K hK => ?_)
     go_simp
     refine (Hsd.out w5 hd5).mono ?_
     rintro e w6 ⟨r6, rfl, h6, hk6⟩
     have hd6 := hd5.trans hk6
     refine hK _ _ (InK.mk' hd6) ?_
     clear hK K
     refine region_take [19] [0, 1, 2, 3, 4, 5, 6, 7, 8, 9, 10, 11, 12, 13, 14, 15, 16, 17, 18] 1 (by kernel_rfl) (by kernel_rfl) (InK.mk' hd6) ?_
     show wpQuiet _ _ _ _ [_] _
     repeat (go_big_quiet_step (fail))
     refine wpQuiet_nil ?_
     cases r6 with
     | false =>
      clear h6
      refine region_take [20] [0, 1, 2, 3, 4, 5, 6, 7, 8, 9, 10, 11, 12, 13, 14, 15, 16, 17, 18, 19] 0 (by kernel_rfl) (by kernel_rfl) (InK.mk' hd6) ?_
      show wpQuiet _ _ _ _ [_] _
      repeat (go_big_quiet_step (fail))
      refine wpQuiet_nil ?_
      refine region_done (by kernel_rfl) ?_
      have HK6 := Lib.hid (hkeep.out.trans hd6)
      clear eX1 ep0 ep1 ep2 ep3 ep4 ep5 ep6 p0 p1 p2 p3 p4 p5 p6 X0 X1 ltX
      go_wp2
      go_ret
      exact RB.mk rfl (fun h => by cases h) (HkW.out.trans (K2.trans HK6.out))
     | true =>
      refine region_take [20] [0, 1, 2, 3, 4, 5, 6, 7, 8, 9, 10, 11, 12, 13, 14, 15, 16, 17, 18, 19] 0 (by kernel_rfl) (by kernel_rfl) (InK.mk' hd6) ?_
      show wpQuiet _ _ _ _ [_] _
      repeat (go_big_quiet_step (fail))
      refine wpQuiet_nil ?_
      refine region_done (by kernel_rfl) ?_
      have H6 := Lib.hid (h6 rfl)
      clear h6
      have HI := Lib.hid (show InsOk k.x k.K b y (j + 1) from fun i q' hi hq' => by
       by_cases e : i = j
       ·subst e
        rw [Hq.out] at hq'
        cases hq'
        refine ⟨H5.out.1, H5.out.2, fun v hv => ?_⟩
        have := H6.out v hv
        rwa [HEq.out] at this
       ·exact hins.out i q' (by omega) hq')
      have Hne := Lib.hid (HEL.out j q Hq.out)
      have hd6' := hd6
      have hle := HLe.out (j + 1)
      rw [Hne.out, List.length_append, Hmj.out] at hle
      have hown6 := hown.out.keep hd6
      rw [Hmj.out] at hown6
      obtain ⟨_, _, e9, A', c', w7, hrun, hown7, hE7⟩ := intApp hown6 (Hqi.out.outs.keep hd6).seg q.outs.c (by rw [Hmj.out]; omega) (Nat.le_trans hkeep.out.size hd6.size)
      rw [Hmj.out] at e9
      cases e9
      obtain ⟨m2, hm2⟩ : ∃ m, (EL j ++ q.outs.l).length = m := ⟨_, rfl⟩
      rw [hm2] at hrun hown7
      rw [Hmj.out] at hrun
      have Hn := Lib.hid (show Own intC 1 3 w7 w2.heap.size (.slice A' m2 c') (EL (j + 1)) ∧ Keep w2 w7 from ⟨by rw [Hne.out]; exact hown7, Keep.of_ext (hkeep.out.trans hd6) hE7 (fun i hi e => by have := (hown6.lt i e).1; omega)⟩)
      replace X1 := hd6.cell X1
      replace p6 := hd6.cell p6
      replace ltX := Nat.lt_of_lt_of_le ltX hd6.size
      replace hB2l := Nat.lt_of_lt_of_le hB2l hd6.size
      clear eX1 ep0 ep1 ep2 ep3 ep4 ep5 ep6 p0 p1 p2 p3 p4 p5 X0 hm2 hle hown6 hown7 hE7 hown hkeep hins hd hd5 hd6 hd6' hk5 hk6
      go_wp2_with (at_builtin; refine wpList_append_eq rfl _ _ _ rfl _ _ rfl rfl _ _ hrun ?_; clear hrun)
      go_roundw
      case rel => exact ⟨j + 1, hlt, by go_num, Lib.hid Hn.out.1, HI, Lib.hid Hn.out.2⟩
      case measure => simp [intOf]; omega
   ·have hjn : j = y.ins.l.length := by omega
    have hown2 := hown.out
    rw [hjn, HEnd.out] at hown2
    have hins2 := hins.out
    rw [hjn] at hins2
    have HI := Lib.hid hins2
    have hol := HB.out.outs
    have hol2 : y.outsI.length ≤ 1048576 := hol
    rw [hjn, HEnd.out]
    obtain ⟨mj, hmj⟩ : ∃ m, y.outsI.length = m := ⟨_, rfl⟩
    have Hmj := Lib.hid hmj
    rw [hmj] at hown2 hol2 ⊢
    have Hown := Lib.hid hown2
    have HR := Lib.hid KR
    have Hend := Lib.hid (end39_calls k y wr (H.out _ KR) (HY.out _ KR) HB.out)
    have HX5 := Lib.hid (HX2.out.trans hkeep.out)
    clear hown hown2 hins hins2 hjn hol hmj hkeep
    go_wp2_with (refine wpList_load_w _ _ rfl rfl _ rfl _ (Hld.out _ (by assumption)) ?_)
    refine Hend.out.mono ?_
    clear Hend X0 X1 X2 X3 X4 X5 X6 ltX
    rintro e w5 ⟨r5, rfl, h5, hk5⟩
    have K5 : Keep W w5 := KR.trans hk5
    obtain ⟨X0, X1, X2, X3, X4, X5, X6, ltX⟩ := Hbx.out w5 (HX5.out.trans hk5)
    cases r5 with
    | false =>
     clear h5
     go_wp2
     go_ret
     exact RB.mk rfl (fun h => by cases h) (HkW.out.trans K5)
    | true =>
     have H5 := Lib.hid (h5 rfl)
     have Hed := Lib.hid (edges39_calls k y w5 (H.out _ K5) (HY.out _ K5) HB.out)
     clear h5
     go_wp2_with (refine wpList_load_w _ _ rfl rfl _ rfl _ (Hld.out _ (by assumption)) ?_)
     refine Hed.out.mono ?_
     clear Hed X0 X1 X2 X3 X4 X5 X6 ltX
     rintro e w6 ⟨r6, rfl, h6, hk6⟩
     have K6 : Keep W w6 := K5.trans hk6
     have hk56 := hk5.trans hk6
     have Hk56 := Lib.hid hk56
     obtain ⟨X0, X1, X2, X3, X4, X5, X6, ltX⟩ := Hbx.out w6 (HX5.out.trans hk56)
     cases r6 with
     | false =>
      clear h6
      go_wp2
      go_ret
      exact RB.mk rfl (fun h => by cases h) (HkW.out.trans K6)
     | true =>
      have H6 := Lib.hid (h6 rfl)
      have hd : Keep w6 w6.drew := (Keep.refl _).drew
      have Hus := Lib.hid (used39_calls y w6.drew (HY.out _ (K6.trans hd)) HB.out)
      have eX2 := fun z : KW w6 => z.cell X2
      have eX3 := fun z : KW w6 => z.cell X3
      have eX4 := fun z : KW w6 => z.cell X4
      have eX5 := fun z : KW w6 => z.cell X5
      have eX6 := fun z : KW w6 => z.cell X6
      clear h6
      go_wp2_with fail
      refine region_begin (S := fun w' => ∃ z : KW w6, w' = z.val) (by kernel_rfl) ?_
      refine region_take [0, 1, 2, 3, 4, 5] [] 3 (by kernel_rfl) (by kernel_rfl) (InK.mk' hd) ?_
      show wpQuiet _ _ _ _ [_, _, _, _, _, _] _
      go_big_quiet_want
      refine quiet_load _ _ rfl (.agg (lkC k).toArray) (fun w' hw => ?_) ?_
      ·obtain ⟨z, rfl⟩ := hw
       exact Hld.out z.val (K6.trans z.keep)
      simp only [Act.put, List.setIfInBounds_toArray, List.set_cons_succ, List.set_cons_zero]
      go_big_quiet_on
      repeat (go_big_quiet_step (fail))
      refine wpQuiet_nil ?_
      refine region_fix (i := 6) (fuel := 2) rfl (by kernel_rfl) (fun K hK => ?_)
      go_simp
      refine Hus.out.mono ?_
      rintro e w7 ⟨A7, n7, c7, rfl, ho7, hk7⟩
      have hd7 := hd.trans hk7
      obtain ⟨_, _, ef7, _⟩ := ho7.form
      have hn7 : (y.usedE y.to.l.length).length = n7 := by injection ef7 with _ e2 _; exact e2.symm
      have Hsd := Lib.hid (show Calls Tryz.prog 61 #[.agg (lkC k).toArray, .int .i64 (b : Int), .slice Ao mj co, .slice A7 n7 c7] w7 (RB w7 fun r => r = true → ∀ v ∈ y.usedE y.to.l.length, k.K.standsB b y.outsI v = true) from by
       have h1 := Hown.out.keep (Hk56.out.trans hd7)
       have := stand39_calls k b y.outsI Ao co (y.usedE y.to.l.length) A7 c7 w7 (H.out _ (K6.trans hd7)) h1.segN.2 (by rw [Hmj.out]; omega) Hbl.out ho7.segN.2 (by have := usedE_le y y.to.l.length; have := HB.out.ends; omega)
       rwa [Hmj.out, hn7] at this)
      clear ho7 ef7 hn7
      refine hK _ _ (InK.mk' hd7) ?_
      clear hK K
      refine region_fix (i := 7) (fuel := 1) rfl (by kernel_rfl) (fun K hK => ?_)
      go_simp
      refine Hsd.out.mono ?_
      rintro e w8 ⟨r8, rfl, h8, hk8⟩
      have hd8 := hd7.trans hk8
      have HF := Lib.hid (show r8 = true → BkV k.x k.K b y from fun hr => BkV.of Hp.out HI.out H5.out H6.out (h8 hr))
      have HKF := Lib.hid (HkW.out.trans (K6.trans hd8))
      clear h8
      refine hK _ _ (InK.mk' hd8) ?_
      clear hK K
      refine region_take [8] [0, 1, 2, 3, 4, 5, 6, 7] 0 (by kernel_rfl) (by kernel_rfl) (InK.mk' hd8) ?_
      show wpQuiet _ _ _ _ [_] _
      repeat (go_big_quiet_step (fail))
      refine wpQuiet_nil ?_
      refine region_done (by kernel_rfl) ?_
      go_wp2
      go_ret
      exact RB.mk rfl HF.out HKF.out
end Go.Proofs.YtjpmiejgcnfiiaaGreat
