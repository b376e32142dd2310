import Derived.Test.YtjpmiejgcnfiiaaGreatQ42
import Derived.Test.YtjpmiejgcnfiiaaGreatQ31
set_option linter.unusedVariables false
set_option linter.unusedSimpArgs false
namespace Go.Proofs.YtjpmiejgcnfiiaaGreat
open Go Go.RowKit

set_option maxHeartbeats 4000000 in
set_option maxRecDepth 100000 in
theorem begins47_calls (x : SsD) (w : World) (h : SsOk w x) (hb : Bulky x) (hsm : Small x) :
  Calls Tryz.prog 29 #[.agg (ssC x).toArray] w fun e w' => ∃ g, e = .returned (.tuple #[.slice (some ⟨g, 0, none⟩) x.blocks.l.length x.blocks.l.length, .int .i64 (x.atk x.ord.length)]) ∧ IBlk w' g 3 (begL x x.ord.length) ∧ Keep w w' := by
 obtain ⟨W, hW, kW, bW, sW⟩ := boxN w 39 (ssC x)
 have Hc := Lib.hid (fun (w' : World) (hk : Keep W w') => (⟨(bW.keep hk).cell 0, (bW.keep hk).cell 1, (bW.keep hk).cell 2, (bW.keep hk).cell 3, (bW.keep hk).lt⟩ : w'.cell? ⟨w.heap.size, 0, none⟩ = some (.slice x.params.a x.params.l.length x.params.c) ∧ w'.cell? ⟨w.heap.size, 1, none⟩ = some (.slice x.results.a x.results.l.length x.results.c) ∧ w'.cell? ⟨w.heap.size, 2, none⟩ = some (.slice x.vals.a x.vals.l.length x.vals.c) ∧ w'.cell? ⟨w.heap.size, 3, none⟩ = some (.slice x.blocks.a x.blocks.l.length x.blocks.c) ∧ w.heap.size < w'.heap.size))
 have HkW := Lib.hid kW
 have H := Lib.hid h
 have Hb := Lib.hid hb
 have Hs := Lib.hid hsm
 have hn := hsm.blocks
 have hbeg0 : begL x 0 = List.replicate x.blocks.l.length (-1) := by rw [begL]
 have Hbeg0 := Lib.hid hbeg0
 obtain ⟨w1, hmake, hblk, hk1⟩ := make_ints W x.blocks.l.length (by omega)
 have Hblk := Lib.hid (show IBlk w1 W.heap.size 3 (List.replicate 0 (-1) ++ List.replicate (x.blocks.l.length - 0) 0) from by simpa using hblk)
 have Hk1 := Lib.hid hk1
 obtain ⟨c0, c1, c2, c3, lt⟩ := Hc.out W (Keep.refl _)
 clear h hb bW sW kW hblk hk1 hsm hbeg0 c0 c1 c2
 go_enter Tryz.func29, Tryz.ntmps29
 go_wp2_with (refine wpList_make_eq rfl _ _ _ rfl _ _ rfl rfl _ _ hmake ?_; clear hmake)
 clear c3 lt
 go_loopw [5] (fun vi wr => ∃ j : Nat, j ≤ x.blocks.l.length ∧ vi = .int .i64 j ∧ Hid (IBlk wr W.heap.size 3 (List.replicate j (-1) ++ List.replicate (x.blocks.l.length - j) 0)) ∧ Hid (Keep W wr)) (fun i _ => x.blocks.l.length - (intOf i).toNat)
 case atStart => exact ⟨0, Nat.zero_le _, rfl, Hblk, Hk1⟩
 case round =>
  clear Hblk Hk1
  obtain ⟨j, hj, rfl, hib, hkeep⟩ := hrel
  by_cases hjl : j < x.blocks.l.length
  ·have p0 := hib.out.get (k := j) (by simp; omega)
   have f0 := hib.out.frozen j
   have gl := hib.out.lt
   have j1 : (j : Int) < (x.blocks.l.length : Int) := by omega
   have j0 : (0 : Int) ≤ (j : Int) := by omega
   have Hn := Lib.hid (show IBlk (wr.setCell ⟨W.heap.size, j, none⟩ (.int .i64 (-1))) W.heap.size 3 (List.replicate (j + 1) (-1) ++ List.replicate (x.blocks.l.length - (j + 1)) 0) from by rw [← fill_set _ _ _ hjl]; exact hib.out.put j _)
   have HE := Lib.hid (show Keep W (wr.setCell ⟨W.heap.size, j, none⟩ (.int .i64 (-1))) from hkeep.out.setCell (p := ⟨W.heap.size, j, none⟩) (Nat.le_refl _) _)
   clear hib hkeep
   go_wp2
   go_roundw
   case rel => exact ⟨j + 1, hjl, by go_num, Hn, HE⟩
   case measure => simp [intOf]; omega
  ·obtain ⟨wO, rfl⟩ : ∃ z : World, z = wr := ⟨_, rfl⟩
   have hib2 := hib.out
   rw [show j = x.blocks.l.length by omega, Nat.sub_self, List.replicate_zero, List.append_nil] at hib2
   have Hib2 := Lib.hid (show IBlk wO W.heap.size 3 (begL x 0) from by rw [Hbeg0.out]; exact hib2)
   obtain ⟨c0, c1, c2, c3, lt⟩ := Hc.out wO hkeep.out
   have Hor := Lib.hid (order47_calls x wO (H.out.keep (HkW.out.trans hkeep.out)) Hb.out (by have := Hs.out.blocks; omega))
   clear hib hib2
   go_wp2_with fail
   refine Hor.out.mono ?_
   clear Hor c0 c1 c2 c3 lt
   rintro e w3 ⟨A, cA, rfl, how, hk3⟩
   have Hib := Lib.hid (Hib2.out.keep hk3)
   have How := Lib.hid how
   have Hk3 := Lib.hid (hkeep.out.trans hk3)
   have hol := x.ord_len
   have Hgl := Lib.hid (show W.heap.size < wO.heap.size from Hib2.out.lt)
   clear Hib2 hkeep how hk3
   go_wp2_with fail
   go_loopw [7, 8] (fun va vi wz => ∃ k : Nat, k ≤ x.ord.length ∧ va = .int .i64 (x.atk k) ∧ vi = .int .i64 k ∧ Hid (IBlk wz W.heap.size 3 (begL x k)) ∧ Hid (Ext (fun q => q = W.heap.size) w3 wz)) (fun _ i _ => x.ord.length - (intOf i).toNat)
   case atStart => exact ⟨0, Nat.zero_le _, (by unfold SsD.atk; simp [Lv.endAt]), rfl, Hib, Lib.hid (Ext.refl _ _)⟩
   case round =>
    clear Hib
    obtain ⟨k, hk, rfl, rfl, hib, hext⟩ := hrel
    by_cases hlt : k < x.ord.length
    ·obtain ⟨b, hbk⟩ := get_some hlt
     obtain ⟨y, hy⟩ := SsD.ord_get hbk
     obtain ⟨bo, oo, hA, _, q1⟩ := ints_at (How.out.ext hext.out (fun q hq e => by have := (How.out.lt q hq).1; have := Hgl.out; omega)) (Keep.refl _) hbk
     have hkW : Keep W wr := Keep.of_ext Hk3.out hext.out (fun q hq e => by omega)
     obtain ⟨c0, c1, c2, c3, lt⟩ := Hc.out wr hkW
     obtain ⟨BB, ob, hBA, _, hcb⟩ := bk_get H.out.seg (HkW.out.trans hkW) hy
     have q2 : wr.cell? ⟨BB, ob + b * 7 + 1, none⟩ = some (.slice y.ins.a y.ins.l.length y.ins.c) := hcb 1 _ rfl
     rw [hBA] at c3
     subst hA
     have hb1 : b < x.blocks.l.length := (List.getElem?_eq_some_iff.1 hy).1
     have p0 := hib.out.get (k := b) (by rw [begL_len]; exact hb1)
     have f0 := hib.out.frozen b
     have gl := hib.out.lt
     have hE5 : Ext (fun q => q = W.heap.size) w3 (wr.setCell ⟨W.heap.size, b, none⟩ (.int .i64 (x.atk k))) := hext.out.trans (Ext.one _ _ _) (fun _ _ e => e)
     have hib5 : IBlk (wr.setCell ⟨W.heap.size, b, none⟩ (.int .i64 (x.atk k))) W.heap.size 3 (begL x (k + 1)) := by rw [begL_succ hbk]; exact hib.out.put b _
     obtain ⟨w5, hw5⟩ : ∃ w5, wr.setCell ⟨W.heap.size, b, none⟩ (.int .i64 (x.atk k)) = w5 := ⟨_, rfl⟩
     have Hw5 := Lib.hid hw5
     rw [hw5] at hE5 hib5
     have hkW5 : Keep W w5 := Keep.of_ext Hk3.out hE5 (fun q hq e => by omega)
     obtain ⟨bo', oo', hA', _, q15⟩ := ints_at (How.out.ext hE5 (fun q hq e => by have := (How.out.lt q hq).1; have := Hgl.out; omega)) (Keep.refl _) hbk
     cases hA'
     obtain ⟨_, _, _, c35, lt5⟩ := Hc.out w5 hkW5
     obtain ⟨BB', ob', hBA', hB5, hcb5⟩ := bk_get H.out.seg (HkW.out.trans hkW5) hy
     cases hBA'.symm.trans hBA
     have q25 : w5.cell? ⟨BB, ob + b * 7 + 1, none⟩ = some (.slice y.ins.a y.ins.l.length y.ins.c) := hcb5 1 _ rfl
     rw [hBA] at c35
     have e1 := fun z : KW w5 => z.cell q15
     have e2 := fun z : KW w5 => z.cell q25
     have e3 := fun z : KW w5 => z.cell c35
     have hat := SsD.atk_succ hbk hy
     have hal := SsD.atk_lt Hs.out k
     have hil := Hs.out.ins y (List.mem_of_getElem? hy)
     obtain ⟨at_, hate⟩ : ∃ z, z = x.atk k := ⟨_, rfl⟩
     have Hat := Lib.hid (show x.atk (k + 1) = at_ + 2 * ((y.ins.l.length : Int) + 2) from by rw [hat, hate])
     have b0 : (0 : Int) ≤ (b : Int) := by omega
     have b1 : (b : Int) < (x.blocks.l.length : Int) := by omega
     have k0 : (0 : Int) ≤ (k : Int) := by omega
     have k1 : (k : Int) < (x.ord.length : Int) := by omega
     have Hn := Lib.hid (show IBlk w5 W.heap.size 3 (begL x (k + 1)) ∧ Ext (fun q => q = W.heap.size) w3 w5 from ⟨hib5, hE5⟩)
     rw [← hate] at Hw5 hal ⊢
     clear hib hext hkW hE5 hib5 hw5 hkW5 hcb hcb5 hbk hy hat hate hBA' hBA c0 c1 c2
     go_wp2_with fail
     rw [Hw5.out]
     clear q1 q2 c3 lt p0 f0 gl
     refine region_begin (S := fun w' => ∃ z : KW w5, w' = z.val) (by kernel_rfl) ?_
     refine region_take [0, 1, 2, 3, 4, 5, 6, 7, 8, 9, 10, 11, 12, 13, 14] [] 0 (by kernel_rfl) (by kernel_rfl) (InK.mk' (Keep.refl w5).drew) ?_
     show wpQuiet _ _ _ _ [_, _, _, _, _, _, _, _, _, _, _, _, _, _, _] _
     repeat (go_big_quiet_step (fail))
     refine wpQuiet_nil ?_
     clear e1 e2 e3
     refine region_done (by kernel_rfl) ?_
     go_wp2_with fail
     go_roundw
     case rel => exact ⟨k + 1, hlt, by rw [Hat.out], by go_num, Lib.hid (Hn.out.1.keep (Keep.refl w5).drew), Lib.hid (Hn.out.2.keepTrans (Keep.refl w5).drew)⟩
     case measure => simp [intOf] <;> omega
    ·have hke : k = x.ord.length := by omega
     subst hke
     have Hr := Lib.hid (show IBlk wr W.heap.size 3 (begL x x.ord.length) ∧ Keep w wr from ⟨hib.out, HkW.out.trans (Keep.of_ext Hk3.out hext.out (fun q hq e => by omega))⟩)
     clear hib hext
     go_wp2_with fail
     refine bodyPost_ret (by simp [results, Tryz.results29, go_sem] <;> rfl) rfl ?_
     exact ⟨_, rfl, Hr.out.1, Hr.out.2⟩

set_option maxHeartbeats 1000000 in
theorem places47_calls (x : SsD) (w : World) (h : SsOk w x) (hb : Bulky x) (hsm : Small x) :
  Calls Tryz.prog 14 #[.agg (ssC x).toArray] w fun e w' => e = .returned (.int .i64 (x.atk x.ord.length)) ∧ Keep w w' := by
 obtain ⟨W, hW, kW, bW, sW⟩ := boxN w 39 (ssC x)
 have c0 : W.cell? ⟨w.heap.size, 0, none⟩ = some (.slice x.params.a x.params.l.length x.params.c) := bW.cell 0
 have c1 : W.cell? ⟨w.heap.size, 1, none⟩ = some (.slice x.results.a x.results.l.length x.results.c) := bW.cell 1
 have c2 : W.cell? ⟨w.heap.size, 2, none⟩ = some (.slice x.vals.a x.vals.l.length x.vals.c) := bW.cell 2
 have c3 : W.cell? ⟨w.heap.size, 3, none⟩ = some (.slice x.blocks.a x.blocks.l.length x.blocks.c) := bW.cell 3
 have lt := bW.lt
 have HkW := Lib.hid kW
 have Hbg := Lib.hid (begins47_calls x W (h.keep kW) hb hsm)
 clear h hb hsm bW sW kW
 go_enter Tryz.func14, Tryz.ntmps14
 go_wp2_with fail
 refine Hbg.out.mono ?_
 rintro e w1 ⟨g, rfl, _, hk⟩
 go_wp2
 go_ret
 exact ⟨rfl, HkW.out.trans hk⟩
end Go.Proofs.YtjpmiejgcnfiiaaGreat
