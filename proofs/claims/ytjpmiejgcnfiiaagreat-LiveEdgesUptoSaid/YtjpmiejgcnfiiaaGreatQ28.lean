import Derived.Test.YtjpmiejgcnfiiaaGreatQ26
import Derived.Test.YtjpmiejgcnfiiaaGreatQ27
import Derived.Test.YtjpmiejgcnfiiaaGreatQ18
import Derived.WalkMore
import Derived.Deep.DeepCutAuto
import Derived.Deep.Cut
set_option linter.unusedVariables false
set_option linter.unusedSimpArgs false
namespace Go.Proofs.YtjpmiejgcnfiiaaGreat
open Go Go.RowKit

set_option maxHeartbeats 8000000 in
set_option maxRecDepth 100000 in
theorem type39_calls (m : MdD) (kd op a b n : Int) (aa : Option Addr) (al : List Int) (ac : Nat) (oa : Option Addr) (ol : List Int) (oc : Nat) (vl : List Int) (va : Option Addr) (vc : Nat) (w : World) (h : MdOk w m) (ha : Seg w aa (al.flatMap intC)) (hal : al.length ≤ 2000000) (hac : al.length ≤ ac) (ho : Seg w oa (ol.flatMap intC)) (hol : ol.length ≤ 2000000) (hv : Seg w va (vl.flatMap intC)) (hvn : vl.length ≤ 2000000) (hwa : (Lit.int .i64 a).wf = true) (hwb : (Lit.int .i64 b).wf = true) : Calls Tryz.prog 75 #[.agg (mdC m).toArray, .agg #[.int .i64 kd, .int .i64 op, .int .i64 a, .int .i64 b, .int .u64 n, .slice aa al.length ac, .slice oa ol.length oc], .slice va vl.length vc] w (RSB w fun k r => r = true → kd = 0 → 1 ≤ k ∧ 0 ≤ a) := by
  obtain ⟨M, hM, kM, bM, sM⟩ := boxN w 33 (mdC m)
  obtain ⟨W, hW, kW, bW, sW⟩ := boxN M 63 [.int .i64 kd, .int .i64 op, .int .i64 a, .int .i64 b, .int .u64 n, .slice aa al.length ac, .slice oa ol.length oc]
  obtain ⟨U, hU, kU, bU, sU⟩ := boxN W 36 [.slice none 0 0, .slice none 0 0]
  have Hx := Lib.hid (fun (w' : World) (k : Keep U w') => ((bW.keep kU).keep k).sx)
  have Hy := Lib.hid (fun (w' : World) (k : Keep U w') => (bU.keep k).yx)
  have Hyb := Lib.hid (fun (w' : World) (k : Keep U w') => bU.keep k)
  have Hc := Lib.hid (fun (w' : World) (k : Keep U w') => (((bM.keep kW).keep kU).keep k).md)
  have kk := (kM.trans kW).trans kU
  have hle : w.heap.size ≤ W.heap.size := (kM.trans kW).size
  have Hm := Lib.hid (fun (w' : World) (k : Keep U w') => h.keep (kk.trans k))
  have Ha := Lib.hid hwa
  have Hb := Lib.hid hwb
  clear hwa hwb
  have Hpl := Lib.hid (fun (w' : World) (k : Keep U w') => plain39_calls kd op a b n aa al ac oa ol oc vl va vc w' (ha.keep (kk.trans k)) hal hac (ho.keep (kk.trans k)) hol (hv.keep (kk.trans k)) hvn)
  have K0 : Keep U U := Keep.refl _
  obtain ⟨x0, x1, x2, x3, x4, x5, x6, lx1, lx2, lx3, lx4⟩ := Hx.out U K0; obtain ⟨y0, y1, f0, f1, l1, l2, l3, l4⟩ := Hy.out U K0; obtain ⟨c0, c1, c2, c3, c4, c5, c6, c7, c8, c9, ca, cb, lt⟩ := Hc.out U K0
  clear bW bU sW sU bM sM h
  clear ha ho hv
  go_enter Tryz.func75, Tryz.ntmps75
  go_wp2_with (first
    | (go_at_call 96; refine (zero39_calls _ _ _ _ _ _ _ _ _ _ _ _ _ _ _ _).mono ?_; rintro e w4 ⟨r, rfl, _, hk4⟩; have K4 : Keep U w4 := Keep.trans (by repeat (first | assumption | apply Keep.alloc)) hk4; clear hk4; clear x0 x1 x2 x3 x4 x5 x6 lx1 lx2 lx3 lx4 y0 y1 f0 f1 l1 l2 l3 l4 c0 c1 c2 c3 c4 c5 c6 c7 c8 c9 ca cb lt; obtain ⟨x0, x1, x2, x3, x4, x5, x6, lx1, lx2, lx3, lx4⟩ := Hx.out w4 K4; obtain ⟨y0, y1, f0, f1, l1, l2, l3, l4⟩ := Hy.out w4 K4; obtain ⟨c0, c1, c2, c3, c4, c5, c6, c7, c8, c9, ca, cb, lt⟩ := Hc.out w4 K4)
    | (go_at_call 97; refine (fn39_calls _ _ _ _ _ _ _).mono ?_; rintro e w5 ⟨rfl, rfl⟩)
    | (go_at_call 98; refine (none39_calls _).mono ?_; rintro e w5 ⟨rfl, rfl⟩)
    | (go_at_call 91; refine (Hpl.out _ (by repeat (first | assumption | apply Keep.alloc))).mono ?_; rintro e w4 ⟨A, nn, c, B, k, d, r, rfl, hs, hq, hk4⟩; have K4 : Keep U w4 := Keep.trans (by repeat (first | assumption | apply Keep.alloc)) hk4; clear hk4; clear x0 x1 x2 x3 x4 x5 x6 lx1 lx2 lx3 lx4 y0 y1 f0 f1 l1 l2 l3 l4 c0 c1 c2 c3 c4 c5 c6 c7 c8 c9 ca cb lt; obtain ⟨x0, x1, x2, x3, x4, x5, x6, lx1, lx2, lx3, lx4⟩ := Hx.out w4 K4; obtain ⟨y0, y1, f0, f1, l1, l2, l3, l4⟩ := Hy.out w4 K4; obtain ⟨c0, c1, c2, c3, c4, c5, c6, c7, c8, c9, ca, cb, lt⟩ := Hc.out w4 K4; have HsF := Lib.hid hs; clear hs)
    | (go_at_call 92; refine (numeric39_calls _ _ _ _ _ _ _ _ _ _ _ _ _).mono ?_; rintro e w4 ⟨A, nn, c, B, k, d, r, rfl, hs, hq, hk4⟩; have K4 : Keep U w4 := Keep.trans (by repeat (first | assumption | apply Keep.alloc)) hk4; clear hk4; clear x0 x1 x2 x3 x4 x5 x6 lx1 lx2 lx3 lx4 y0 y1 f0 f1 l1 l2 l3 l4 c0 c1 c2 c3 c4 c5 c6 c7 c8 c9 ca cb lt; obtain ⟨x0, x1, x2, x3, x4, x5, x6, lx1, lx2, lx3, lx4⟩ := Hx.out w4 K4; obtain ⟨y0, y1, f0, f1, l1, l2, l3, l4⟩ := Hy.out w4 K4; obtain ⟨c0, c1, c2, c3, c4, c5, c6, c7, c8, c9, ca, cb, lt⟩ := Hc.out w4 K4; have HsF := Lib.hid hs; clear hs)
    | (go_at_call 93; refine (memory39_calls m _ _ _ _ _ _ _ _ _ _ _ _ (Hm.out _ (by repeat (first | assumption | apply Keep.alloc))) Ha.out Hb.out).mono ?_; rintro e w4 ⟨A, nn, c, B, k, d, r, rfl, hs, hq, hk4⟩; have K4 : Keep U w4 := Keep.trans (by repeat (first | assumption | apply Keep.alloc)) hk4; clear hk4; clear x0 x1 x2 x3 x4 x5 x6 lx1 lx2 lx3 lx4 y0 y1 f0 f1 l1 l2 l3 l4 c0 c1 c2 c3 c4 c5 c6 c7 c8 c9 ca cb lt; obtain ⟨x0, x1, x2, x3, x4, x5, x6, lx1, lx2, lx3, lx4⟩ := Hx.out w4 K4; obtain ⟨y0, y1, f0, f1, l1, l2, l3, l4⟩ := Hy.out w4 K4; obtain ⟨c0, c1, c2, c3, c4, c5, c6, c7, c8, c9, ca, cb, lt⟩ := Hc.out w4 K4; have HsF := Lib.hid hs; clear hs)
    | (go_at_call 94; refine (named39_calls m _ _ _ _ _ _ _ _ _ _ _ _ (Hm.out _ (by repeat (first | assumption | apply Keep.alloc))) Ha.out Hb.out).mono ?_; rintro e w4 ⟨A, nn, c, B, k, d, r, rfl, hs, hq, hk4⟩; have K4 : Keep U w4 := Keep.trans (by repeat (first | assumption | apply Keep.alloc)) hk4; clear hk4; clear x0 x1 x2 x3 x4 x5 x6 lx1 lx2 lx3 lx4 y0 y1 f0 f1 l1 l2 l3 l4 c0 c1 c2 c3 c4 c5 c6 c7 c8 c9 ca cb lt; obtain ⟨x0, x1, x2, x3, x4, x5, x6, lx1, lx2, lx3, lx4⟩ := Hx.out w4 K4; obtain ⟨y0, y1, f0, f1, l1, l2, l3, l4⟩ := Hy.out w4 K4; obtain ⟨c0, c1, c2, c3, c4, c5, c6, c7, c8, c9, ca, cb, lt⟩ := Hc.out w4 K4; have HsF := Lib.hid hs; clear hs)
    | (go_at_call 95; refine (bulk39_calls m _ _ _ _ _ _ _ _ _ _ _ _ (Hm.out _ (by repeat (first | assumption | apply Keep.alloc))) Ha.out Hb.out).mono ?_; rintro e w4 ⟨A, nn, c, B, k, d, r, rfl, hs, hq, hk4⟩; have K4 : Keep U w4 := Keep.trans (by repeat (first | assumption | apply Keep.alloc)) hk4; clear hk4; clear x0 x1 x2 x3 x4 x5 x6 lx1 lx2 lx3 lx4 y0 y1 f0 f1 l1 l2 l3 l4 c0 c1 c2 c3 c4 c5 c6 c7 c8 c9 ca cb lt; obtain ⟨x0, x1, x2, x3, x4, x5, x6, lx1, lx2, lx3, lx4⟩ := Hx.out w4 K4; obtain ⟨y0, y1, f0, f1, l1, l2, l3, l4⟩ := Hy.out w4 K4; obtain ⟨c0, c1, c2, c3, c4, c5, c6, c7, c8, c9, ca, cb, lt⟩ := Hc.out w4 K4; have HsF := Lib.hid hs; clear hs))
  all_goals (refine bodyPost_ret (by simp [results, Tryz.results75, go_sem, y0, y1, f0, f1, l1, l2, l3, l4] <;> rfl) rfl ?_)
  all_goals (refine RSB.mk rfl ?_ ?_ ?_)
  all_goals first
    | exact trivial
    | exact hq
    | (intro h h0; first | (cases h; done) | exact ⟨by omega, by omega⟩ | (exfalso; omega) | (exfalso; simp_all; done))
    | exact SigAt.nil _
    | exact SigAt.alloc (SigAt.box HsF.out (Hyb.out _ K4) _ _) _
    | exact SigAt.box HsF.out (Hyb.out _ K4) _ _
    | exact SigAt.alloc (SigAt.alloc (SigAt.box HsF.out (Hyb.out _ K4) _ _) _) _
    | exact ⟨by first | exact IntsAt.nil _ _ | exact IntsAt.one (by simp [go_sem] <;> rfl) | exact IntsAt.three (by simp [go_sem] <;> rfl) (by simp [go_sem] <;> rfl) (by simp [go_sem] <;> rfl), by first | exact IntsAt.nil _ _ | exact IntsAt.one (by simp [go_sem] <;> rfl)⟩
    | (repeat (first | apply Keep.alloc | refine Keep.setCell (p := ⟨W.heap.size, _, none⟩) ?_ hle _)
       first | exact kk.trans K4 | exact kk)
end Go.Proofs.YtjpmiejgcnfiiaaGreat
namespace Go.Proofs.YtjpmiejgcnfiiaaGreat
open Go Go.RowKit

theorem wpList_load_w {P : Program} {w : World} {ops : Array Oper} {rest : List Oper} {o : Oper} {a : Act} {Q : Exit → Act → World → Prop} (x : Operand) (t : TypeId) (hgd : Region.wanted o (yielded ops a.tmps) = true) (ho : o.op = .load t x) (u : Value) (hx : a.eval x = u)
  (v : Value) (hrun : (Instr.loadAt t u).run P w = .ok v w) (h : wpList P ops Q rest (a.put o.dst v) w) : wpList P ops Q (o :: rest) a w := by
 refine wpList_step fun K hK => ?_
 rw [if_pos hgd]
 unfold Oper.wp
 simp [execOp, ho, hx, hrun, Result.andThen]
 exact hK _ _ h
set_option maxHeartbeats 8000000 in
set_option maxRecDepth 100000 in
theorem ins39_calls (k : LkD) (i : InD) (w : World) (h : LkOk w k) (hi : InOk w i) (hwf : InWf i) (hal : i.args.l.length ≤ 1048576) (hol : i.outs.l.length ≤ 1048576) :
  Calls Tryz.prog 60 #[.agg (lkC k).toArray, .agg #[.int .i64 i.kind, .int .i64 i.op, .int .i64 i.a, .int .i64 i.b, .int .u64 i.n, .slice i.args.a i.args.l.length i.args.c, .slice i.outs.a i.outs.l.length i.outs.c]] w (RB w fun r => r = true → (∀ v ∈ i.args.l, 0 ≤ v ∧ v < (k.x.vals.l.length : Int)) ∧ ∀ v ∈ i.outs.l, 0 ≤ v ∧ v < (k.x.vals.l.length : Int)) := by
 obtain ⟨W, hW, kW, bW, sW⟩ := boxN w 108 (lkC k)
 obtain ⟨V, hV, kV, bV, sV⟩ := boxN W 63 [.int .i64 i.kind, .int .i64 i.op, .int .i64 i.a, .int .i64 i.b, .int .u64 i.n, .slice i.args.a i.args.l.length i.args.c, .slice i.outs.a i.outs.l.length i.outs.c]
 have Hld := Lib.hid (fun (w' : World) (hk : Keep V w') => lk_load ((bW.keep kV).keep hk))
 have Hc := Lib.hid (fun (w' : World) (hk : Keep V w') => ((bW.keep kV).keep hk).lk)
 have Hx := Lib.hid (fun (w' : World) (hk : Keep V w') => (bV.keep hk).sx)
 have kk := Lib.hid (kW.trans kV)
 have H := Lib.hid (fun (w' : World) (hk : Keep V w') => h.keep (kk.out.trans hk))
 have Hi := Lib.hid (fun (w' : World) (hk : Keep V w') => hi.keep (kk.out.trans hk))
 have hvl := h.bulk.vals
 have hpl := h.bulk.params
 have Hty := Lib.hid (type39_calls k.m i.kind i.op i.a i.b i.n i.args.a i.args.l i.args.c i.outs.a i.outs.l i.outs.c k.x.vals.l k.x.vals.a k.x.vals.c V (H.out V (Keep.refl _)).m (Hi.out V (Keep.refl _)).args.seg (by omega) hwf.2.2 (Hi.out V (Keep.refl _)).outs.seg (by omega) (H.out V (Keep.refl _)).x.vals.seg (by omega) hwf.1 hwf.2.1)
 have K0 : Keep V V := Keep.refl _
 obtain ⟨c0, c1, c2, c3, c4, c5, c6, c7, c8, c9, ca, cb, cc, cd, ce, cf, cg, ch, ci, lt⟩ := Hc.out V K0
 obtain ⟨x0, x1, x2, x3, x4, x5, x6, lx, _, _, _⟩ := Hx.out V K0
 clear bW sW bV sV h hi hwf kW kV
 go_enter Tryz.func60, Tryz.ntmps60
 go_wp2_with fail
 refine Hty.out.mono ?_
 clear Hty c0 c1 c2 c3 c4 c5 c6 c7 c8 c9 ca cb cc cd ce cf cg ch ci lt x0 x1 x2 x3 x4 x5 x6 lx
 rintro e w4 ⟨A, nn, c, B, kq, d, r, rfl, hs, hq, hk4⟩
 obtain ⟨X, hX, kX, bX, sX⟩ := boxN w4 36 [.slice A nn c, .slice B kq d]
 have K4 : Keep V X := hk4.trans kX
 have Hs := Lib.hid (hs.keep kX)
 have Hz := Lib.hid (fun (w' : World) (hk : Keep X w') => (bX.keep hk).box2)
 have Hq := Lib.hid hq
 clear hs hq hk4 kX bX sX K0
 obtain ⟨c0, c1, c2, c3, c4, c5, c6, c7, c8, c9, ca, cb, cc, cd, ce, cf, cg, ch, ci, lt⟩ := Hc.out X K4
 obtain ⟨x0, x1, x2, x3, x4, x5, x6, lx, _, _, _⟩ := Hx.out X K4
 obtain ⟨z0, z1, _, _, zl⟩ := Hz.out X (Keep.refl _)
 cases r with
 | false =>
  go_wp2
  go_ret
  exact RB.mk rfl (fun h => by cases h) (kk.out.trans K4)
 | true =>
  have Ht1 := Lib.hid (typed39_calls k i.args.l i.args.a i.args.c A nn c X (H.out X K4) (Hi.out X K4).args.seg (by omega) Hs.out.params)
  go_wp2_with (refine wpList_load_w _ _ rfl rfl _ rfl _ (Hld.out _ (by assumption)) ?_)
  refine Ht1.out.mono ?_
  clear Ht1 c0 c1 c2 c3 c4 c5 c6 c7 c8 c9 ca cb cc cd ce cf cg ch ci lt x0 x1 x2 x3 x4 x5 x6 lx z0 z1 zl
  rintro e w5 ⟨r5, rfl, h5, hk5⟩
  have K5 : Keep V w5 := K4.trans hk5
  obtain ⟨c0, c1, c2, c3, c4, c5, c6, c7, c8, c9, ca, cb, cc, cd, ce, cf, cg, ch, ci, lt⟩ := Hc.out w5 K5
  obtain ⟨x0, x1, x2, x3, x4, x5, x6, lx, _, _, _⟩ := Hx.out w5 K5
  obtain ⟨z0, z1, _, _, zl⟩ := Hz.out w5 hk5
  cases r5 with
  | false =>
   clear h5
   go_wp2
   go_ret
   exact RB.mk rfl (fun h => by cases h) (kk.out.trans K5)
  | true =>
   have H5 := Lib.hid (h5 rfl)
   have Ht2 := Lib.hid (typed39_calls k i.outs.l i.outs.a i.outs.c B kq d w5 (H.out w5 K5) (Hi.out w5 K5).outs.seg (by omega) (Hs.out.results.keep hk5))
   clear h5 K4
   go_wp2_with (refine wpList_load_w _ _ rfl rfl _ rfl _ (Hld.out _ (by assumption)) ?_)
   refine Ht2.out.mono ?_
   clear Ht2 c0 c1 c2 c3 c4 c5 c6 c7 c8 c9 ca cb cc cd ce cf cg ch ci lt x0 x1 x2 x3 x4 x5 x6 lx z0 z1 zl
   rintro e w6 ⟨r6, rfl, h6, hk6⟩
   have hk6 := hk5.trans hk6
   have K6 : Keep V w6 := K5.trans (by assumption)
   obtain ⟨c0, c1, c2, c3, c4, c5, c6, c7, c8, c9, ca, cb, cc, cd, ce, cf, cg, ch, ci, lt⟩ := Hc.out w6 K6
   obtain ⟨x0, x1, x2, x3, x4, x5, x6, lx, _, _, _⟩ := Hx.out w6 K6
   obtain ⟨z0, z1, _, _, zl⟩ := Hz.out w6 hk6
   cases r6 with
   | false =>
    clear h6
    go_wp2
    go_ret
    exact RB.mk rfl (fun h => by cases h) (kk.out.trans K6)
   | true =>
    have H6 := Lib.hid (h6 rfl)
    have hd : Keep w6 w6.drew := (Keep.refl _).drew
    have HQ := Lib.hid (show (∀ v ∈ i.args.l, 0 ≤ v ∧ v < (k.x.vals.l.length : Int)) ∧ ∀ v ∈ i.outs.l, 0 ≤ v ∧ v < (k.x.vals.l.length : Int) from ⟨H5.out, H6.out⟩)
    have ex0 := fun z : KW w6 => z.cell x0
    have ex2 := fun z : KW w6 => z.cell x2
    have ecc := fun z : KW w6 => z.cell cc
    have ez1 := fun z : KW w6 => z.cell z1
    have HkR := Lib.hid (kk.out.trans (K6.trans hd))
    clear h6 H5 H6 K5
    by_cases g0 : i.kind = 0
    ·obtain ⟨q1, q2⟩ := Hq.out (by trivial) g0
     by_cases g1 : i.a < (k.x.params.l.length : Int)
     ·obtain ⟨ai, hai⟩ : ∃ ai : Nat, i.a = (ai : Int) := ⟨i.a.toNat, by omega⟩
      have had : ai < k.x.params.l.length := by omega
      obtain ⟨bP, oP, hPA, hbP, p0⟩ := int_at (H.out w6 K6).params.seg (Keep.refl _) had
      obtain ⟨bQ, oQ, uQ, hQA, hbQ, q0⟩ := (Hs.out.results.keep hk6).head (by omega)
      obtain ⟨pv, hpv⟩ : ∃ pv, k.x.params.l[ai] = pv := ⟨_, rfl⟩
      rw [hpv] at p0
      have ep0 := fun z : KW w6 => z.cell p0
      have eq0 := fun z : KW w6 => z.cell q0
      have g0b : (i.kind != 0) = false := by rw [g0]; rfl
      have g1b : decide (i.a < (k.x.params.l.length : Int)) = true := decide_eq_true g1
      have a0 : (0 : Int) ≤ (ai : Int) := by omega
      have a1 : (ai : Int) < (k.x.params.l.length : Int) := by omega
      have b1 : (0 : Int) < (kq : Int) := by omega
      have hbPl := hbP
      have hbQl := hbQ
      subst hQA
      rw [hai] at ex2 g1b
      rw [hPA] at ecc
      clear hai hPA hpv g0 g1 q1 q2
      go_wp2_with fail
      refine region_begin (S := fun w' => ∃ z : KW w6, w' = z.val) (by kernel_rfl) ?_
      refine region_take [0, 1, 2, 3, 4, 5, 6, 7, 8, 9, 10, 11, 12, 13, 14, 15, 16, 17, 18, 19, 20, 21, 22, 23, 24, 25, 26, 27, 28] [] 0 (by kernel_rfl) (by kernel_rfl) (InK.mk' hd) ?_
      show wpQuiet _ _ _ _ [_, _, _, _, _, _, _, _, _, _, _, _, _, _, _, _, _, _, _, _, _, _, _, _, _, _, _, _, _] _
      repeat (go_big_quiet_step (fail))
      refine wpQuiet_nil ?_
      refine region_done (by kernel_rfl) ?_
      go_wp2
      go_ret
      exact RB.mk rfl (fun _ => HQ.out) HkR.out
     ·have g0b : (i.kind != 0) = false := by rw [g0]; rfl
      have g1b : decide (i.a < (k.x.params.l.length : Int)) = false := decide_eq_false g1
      clear g0 g1
      go_wp2_with fail
      refine region_begin (S := fun w' => ∃ z : KW w6, w' = z.val) (by kernel_rfl) ?_
      refine region_take [0, 1, 2, 3, 4, 5, 6, 7, 8, 9, 10, 11, 12, 13, 14, 15, 16, 17, 18, 19, 20, 21, 22, 23, 24, 25, 26, 27, 28] [] 0 (by kernel_rfl) (by kernel_rfl) (InK.mk' hd) ?_
      show wpQuiet _ _ _ _ [_, _, _, _, _, _, _, _, _, _, _, _, _, _, _, _, _, _, _, _, _, _, _, _, _, _, _, _, _] _
      repeat (go_big_quiet_step (fail))
      refine wpQuiet_nil ?_
      refine region_done (by kernel_rfl) ?_
      go_wp2
      go_ret
      exact RB.mk rfl (fun _ => HQ.out) HkR.out
    ·have g0b : (i.kind != 0) = true := by simpa using g0
     clear g0
     go_wp2_with fail
     refine region_begin (S := fun w' => ∃ z : KW w6, w' = z.val) (by kernel_rfl) ?_
     refine region_take [0, 1, 2, 3, 4, 5, 6, 7, 8, 9, 10, 11, 12, 13, 14, 15, 16, 17, 18, 19, 20, 21, 22, 23, 24, 25, 26, 27, 28] [] 0 (by kernel_rfl) (by kernel_rfl) (InK.mk' hd) ?_
     show wpQuiet _ _ _ _ [_, _, _, _, _, _, _, _, _, _, _, _, _, _, _, _, _, _, _, _, _, _, _, _, _, _, _, _, _] _
     repeat (go_big_quiet_step (fail))
     refine wpQuiet_nil ?_
     refine region_done (by kernel_rfl) ?_
     go_wp2
     go_ret
     exact RB.mk rfl (fun _ => HQ.out) HkR.out
end Go.Proofs.YtjpmiejgcnfiiaaGreat
namespace Go.Proofs.YtjpmiejgcnfiiaaGreat
open Go Go.RowKit

/-- What is told of an end that is let through. -/
def EndOk (y : BkD) (nv : Nat) : Prop := (∀ v ∈ y.args.l, 0 ≤ v ∧ v < (nv : Int)) ∧ ((y.kind = 1 ∨ y.kind = 2) → 0 ≤ y.cond ∧ y.cond < (nv : Int))
set_option maxHeartbeats 8000000 in
set_option maxRecDepth 100000 in
theorem end39_calls (k : LkD) (y : BkD) (w : World) (h : LkOk w k) (hy : BkOk w y) (hb : BulkyB y) :
  Calls Tryz.prog 62 #[.agg (lkC k).toArray, .agg #[.int .i64 y.kind, .int .i64 y.cond, .slice y.args.a y.args.l.length y.args.c, .slice y.to.a y.to.l.length y.to.c, .int .i64 y.trap]] w (RB w fun r => r = true → EndOk y k.x.vals.l.length) := by
 obtain ⟨W, hW, kW, bW, sW⟩ := boxN w 108 (lkC k)
 obtain ⟨V, hV, kV, bV, sV⟩ := boxN W 55 [.int .i64 y.kind, .int .i64 y.cond, .slice y.args.a y.args.l.length y.args.c, .slice y.to.a y.to.l.length y.to.c, .int .i64 y.trap]
 obtain ⟨P, hP, kP, bP, sP⟩ := boxN V 3 [.int .i64 y.cond]
 obtain ⟨Q, hQ, kQ, bQ, sQ⟩ := boxN P 74 [.int .i64 1]
 have Hld := Lib.hid (fun (w' : World) (hk : Keep V w') => lk_load ((bW.keep kV).keep hk))
 have cd : V.cell? ⟨w.heap.size, 13, none⟩ = some (.slice k.x.results.a k.x.results.l.length k.x.results.c) := (bW.keep kV).cell 13
 have x0 : V.cell? ⟨W.heap.size, 0, none⟩ = some (.int .i64 y.kind) := bV.cell 0
 have x1 : V.cell? ⟨W.heap.size, 1, none⟩ = some (.int .i64 y.cond) := bV.cell 1
 have x2 : V.cell? ⟨W.heap.size, 2, none⟩ = some (.slice y.args.a y.args.l.length y.args.c) := bV.cell 2
 have x3 : V.cell? ⟨W.heap.size, 3, none⟩ = some (.slice y.to.a y.to.l.length y.to.c) := bV.cell 3
 have x4 : V.cell? ⟨W.heap.size, 4, none⟩ = some (.int .i64 y.trap) := bV.cell 4
 have lx := bV.lt
 have lW : w.heap.size < V.heap.size := (bW.keep kV).lt
 have kk := Lib.hid (kW.trans kV)
 have K0 : Keep V V := Keep.refl _
 have kPQ := kP.trans kQ
 have Hcd := Lib.hid (typed39_calls k [y.cond] (some ⟨V.heap.size, 0, none⟩) 1 (some ⟨P.heap.size, 0, none⟩) 1 1 Q (h.keep ((kk.out.trans kP).trans kQ)) (Seg.of_blk (bP.keep kQ)) (by simp) (IntsAt.one (bQ.cell 0)))
 have Har := Lib.hid (typed39_calls k y.args.l y.args.a y.args.c k.x.results.a k.x.results.l.length k.x.results.c V (h.keep kk.out) (hy.args.keep kk.out).seg (by have := hb.args; omega) ((h.results.keep kk.out).row (by have := h.bulk.results; omega)).ints)
 have HPQ := Lib.hid kPQ
 have hal := hb.args
 have htl := hb.to
 have hcells := Lib.hid (fun (w' : World) (hk : Keep V w') => (⟨hk.cell x2, hk.cell x3, Nat.lt_of_lt_of_le lx hk.size⟩ : w'.cell? ⟨W.heap.size, 2, none⟩ = some (.slice y.args.a y.args.l.length y.args.c) ∧ w'.cell? ⟨W.heap.size, 3, none⟩ = some (.slice y.to.a y.to.l.length y.to.c) ∧ W.heap.size < w'.heap.size))
 obtain ⟨nv, hnv⟩ : ∃ nv, k.x.vals.l.length = nv := ⟨_, rfl⟩
 rw [hnv] at Hcd Har ⊢
 clear bW sW bV sV bP sP bQ sQ kW kV kP kQ h hy hb hnv kPQ
 obtain ⟨kd, hkd⟩ : ∃ kd, y.kind = kd := ⟨_, rfl⟩
 have Hkd := Lib.hid hkd
 rw [hkd] at x0 hV ⊢
 clear hkd
 by_cases g1 : kd = 1
 ·subst g1
  go_enter Tryz.func62, Tryz.ntmps62
  go_upto_region 1 with fail
  go_cut [5] from 6 to 13 (fun v5 wx => ∃ b, v5 = .bool b ∧ V = wx)
  case first =>
   by_cases hc : y.cond = 0
   ·have hcb : (y.cond == 0) = true := by simpa using hc
    clear hc
    go_wp2_with fail
    go_meet
    case rel => exact ⟨_, rfl, rfl⟩
   ·have hcb : (y.cond == 0) = false := by simpa using hc
    clear hc
    go_wp2_with fail
    go_meet
    case rel => exact ⟨_, rfl, rfl⟩
  case rest =>
  obtain ⟨bp, rfl, rfl⟩ := hcut
  clear Har
  by_cases ht : y.trap = 0
  ·have htb : (y.trap == 0) = true := by simpa using ht
   clear ht
   go_wp2_with (refine wpList_load_w _ _ rfl rfl _ rfl _ (Hld.out _ (by assumption)) ?_)
   refine Hcd.out.mono ?_
   rintro e w5 ⟨r5, rfl, h5, hk5⟩
   have K5 : Keep V w5 := HPQ.out.trans hk5
   have H5 := Lib.hid h5
   clear h5 hk5 x0 x1 x2 x3 x4 cd lx lW
   obtain ⟨x2, x3, lx⟩ := hcells.out w5 K5
   cases r5 with
   | false =>
    go_wp2_with fail
    go_ret
    exact RB.mk rfl (fun h => by cases h) (kk.out.trans K5)
   | true =>
    have H6 := Lib.hid (H5.out (by trivial))
    by_cases hto : (y.to.l.length = 2)
    ·have htob : ((y.to.l.length : Int) == 2) = true := by rw [hto]; rfl
     have htoc : (y.to.l.length == 2) = true := by rw [hto]; rfl
     clear hto
     by_cases ha0 : y.args.l.length = 0
     ·have Hnil := Lib.hid (show ∀ v ∈ y.args.l, 0 ≤ v ∧ v < (nv : Int) from fun v hv => by rw [List.eq_nil_of_length_eq_zero ha0] at hv; simp at hv)
      have ha0b : ((y.args.l.length : Int) == 0) = true := by rw [ha0]; rfl
      clear ha0
      go_wp2_with fail
      go_ret
      exact RB.mk rfl (fun h => ⟨Hnil.out, fun _ => by simpa using H6.out⟩) (kk.out.trans K5)
     ·have ha0b : ((y.args.l.length : Int) == 0) = false := beq_eq_false_iff_ne.2 (by omega)
      clear ha0
      go_wp2_with fail
      go_ret
      exact RB.mk rfl (fun h => by cases h) (kk.out.trans K5)
    ·have htob : ((y.to.l.length : Int) == 2) = false := beq_eq_false_iff_ne.2 (by omega)
     have htoc : (y.to.l.length == 2) = false := beq_eq_false_iff_ne.2 (by omega)
     clear hto
     go_wp2_with fail
     go_ret
     exact RB.mk rfl (fun h => by cases h) (kk.out.trans K5)
  ·have htb : (y.trap == 0) = false := by simpa using ht
   clear ht
   go_wp2_with fail
   go_ret
   exact RB.mk rfl (fun h => by cases h) kk.out
 by_cases g2 : kd = 2
 ·subst g2
  go_enter Tryz.func62, Tryz.ntmps62
  go_upto_region 1 with fail
  go_cut [5] from 6 to 13 (fun v5 wx => ∃ b, v5 = .bool b ∧ V = wx)
  case first =>
   by_cases hc : y.cond = 0
   ·have hcb : (y.cond == 0) = true := by simpa using hc
    clear hc
    go_wp2_with fail
    go_meet
    case rel => exact ⟨_, rfl, rfl⟩
   ·have hcb : (y.cond == 0) = false := by simpa using hc
    clear hc
    go_wp2_with fail
    go_meet
    case rel => exact ⟨_, rfl, rfl⟩
  case rest =>
  obtain ⟨bp, rfl, rfl⟩ := hcut
  clear Har
  by_cases ht : y.trap = 0
  ·have htb : (y.trap == 0) = true := by simpa using ht
   clear ht
   go_wp2_with (refine wpList_load_w _ _ rfl rfl _ rfl _ (Hld.out _ (by assumption)) ?_)
   refine Hcd.out.mono ?_
   rintro e w5 ⟨r5, rfl, h5, hk5⟩
   have K5 : Keep V w5 := HPQ.out.trans hk5
   have H5 := Lib.hid h5
   clear h5 hk5 x0 x1 x2 x3 x4 cd lx lW
   obtain ⟨x2, x3, lx⟩ := hcells.out w5 K5
   cases r5 with
   | false =>
    go_wp2_with fail
    go_ret
    exact RB.mk rfl (fun h => by cases h) (kk.out.trans K5)
   | true =>
    have H6 := Lib.hid (H5.out (by trivial))
    by_cases hto : (1 ≤ y.to.l.length)
    ·have htob : decide ((1 : Int) ≤ (y.to.l.length : Int)) = true := decide_eq_true (by omega)
     have htoc : decide (1 ≤ y.to.l.length) = true := decide_eq_true (by omega)
     clear hto
     by_cases ha0 : y.args.l.length = 0
     ·have Hnil := Lib.hid (show ∀ v ∈ y.args.l, 0 ≤ v ∧ v < (nv : Int) from fun v hv => by rw [List.eq_nil_of_length_eq_zero ha0] at hv; simp at hv)
      have ha0b : ((y.args.l.length : Int) == 0) = true := by rw [ha0]; rfl
      clear ha0
      go_wp2_with fail
      go_ret
      exact RB.mk rfl (fun h => ⟨Hnil.out, fun _ => by simpa using H6.out⟩) (kk.out.trans K5)
     ·have ha0b : ((y.args.l.length : Int) == 0) = false := beq_eq_false_iff_ne.2 (by omega)
      clear ha0
      go_wp2_with fail
      go_ret
      exact RB.mk rfl (fun h => by cases h) (kk.out.trans K5)
    ·have htob : decide ((1 : Int) ≤ (y.to.l.length : Int)) = false := decide_eq_false (by omega)
     have htoc : decide (1 ≤ y.to.l.length) = false := decide_eq_false (by omega)
     clear hto
     go_wp2_with fail
     go_ret
     exact RB.mk rfl (fun h => by cases h) (kk.out.trans K5)
  ·have htb : (y.trap == 0) = false := by simpa using ht
   clear ht
   go_wp2_with fail
   go_ret
   exact RB.mk rfl (fun h => by cases h) kk.out
 have g1b : (kd == 1) = false := beq_eq_false_iff_ne.2 g1
 have g2b : (kd == 2) = false := beq_eq_false_iff_ne.2 g2
 have Hno := Lib.hid (show (∀ v ∈ y.args.l, 0 ≤ v ∧ v < (nv : Int)) → EndOk y nv from fun ha => ⟨ha, fun h => by rw [Hkd.out] at h; exact absurd h (fun h => h.elim g1 g2)⟩)
 clear g1 g2 Hcd
 have Hnil := Lib.hid (show y.args.l.length = 0 → ∀ v ∈ y.args.l, 0 ≤ v ∧ v < (nv : Int) from fun ha0 v hv => by rw [List.eq_nil_of_length_eq_zero ha0] at hv; simp at hv)
 by_cases g3 : kd = 3
 ·subst g3
  clear g1b g2b
  go_enter Tryz.func62, Tryz.ntmps62
  go_upto_region 1 with fail
  go_cut [5] from 6 to 13 (fun v5 wx => ∃ b, v5 = .bool b ∧ V = wx)
  case first =>
   by_cases hc : y.cond = 0
   ·have hcb : (y.cond == 0) = true := by simpa using hc
    clear hc
    go_wp2_with fail
    go_meet
    case rel => exact ⟨_, rfl, rfl⟩
   ·have hcb : (y.cond == 0) = false := by simpa using hc
    clear hc
    go_wp2_with fail
    go_meet
    case rel => exact ⟨_, rfl, rfl⟩
  case rest =>
  obtain ⟨bp, rfl, rfl⟩ := hcut
  cases bp with
  | false =>
   go_wp2_with fail
   go_ret
   exact RB.mk rfl (fun h => by cases h) kk.out
  | true =>
   by_cases hto : y.to.l.length = 0
   ·have htob : ((y.to.l.length : Int) == 0) = true := by rw [hto]; rfl
    clear hto
    go_wp2_with (refine wpList_load_w _ _ rfl rfl _ rfl _ (Hld.out _ (by assumption)) ?_)
    refine Har.out.mono ?_
    rintro e w5 ⟨r5, rfl, h5, hk5⟩
    have K5 : Keep V w5 := hk5
    have H5 := Lib.hid h5
    clear h5 hk5 x0 x1 x2 x3 x4 cd lx lW
    obtain ⟨x2, x3, lx⟩ := hcells.out w5 K5
    go_wp2_with fail
    go_ret
    exact RB.mk rfl (fun h => Hno.out (H5.out h)) (kk.out.trans K5)
   ·have htob : ((y.to.l.length : Int) == 0) = false := beq_eq_false_iff_ne.2 (by omega)
    clear hto
    go_wp2_with fail
    go_ret
    exact RB.mk rfl (fun h => by cases h) kk.out
 have g3b : (kd == 3) = false := beq_eq_false_iff_ne.2 g3
 clear g3 Har
 by_cases g0 : kd = 0
 ·subst g0
  clear g1b g2b g3b
  go_enter Tryz.func62, Tryz.ntmps62
  go_upto_region 1 with fail
  go_cut [5] from 6 to 13 (fun v5 wx => ∃ b, v5 = .bool b ∧ V = wx)
  case first =>
   by_cases hc : y.cond = 0
   ·have hcb : (y.cond == 0) = true := by simpa using hc
    clear hc
    go_wp2_with fail
    go_meet
    case rel => exact ⟨_, rfl, rfl⟩
   ·have hcb : (y.cond == 0) = false := by simpa using hc
    clear hc
    go_wp2_with fail
    go_meet
    case rel => exact ⟨_, rfl, rfl⟩
  case rest =>
  obtain ⟨bp, rfl, rfl⟩ := hcut
  cases bp with
  | false =>
   go_wp2_with fail
   go_ret
   exact RB.mk rfl (fun h => by cases h) kk.out
  | true =>
   by_cases hto : y.to.l.length = 1
   ·have htob : ((y.to.l.length : Int) == 1) = true := by rw [hto]; rfl
    have htoc : (y.to.l.length == 1) = true := by rw [hto]; rfl
    clear hto
    by_cases ha0 : y.args.l.length = 0
    ·have Hn := Lib.hid (Hnil.out ha0)
     have ha0b : ((y.args.l.length : Int) == 0) = true := by rw [ha0]; rfl
     clear ha0
     go_wp2_with fail
     go_ret
     exact RB.mk rfl (fun h => Hno.out Hn.out) kk.out
    ·have ha0b : ((y.args.l.length : Int) == 0) = false := beq_eq_false_iff_ne.2 (by omega)
     clear ha0
     go_wp2_with fail
     go_ret
     exact RB.mk rfl (fun h => by cases h) kk.out
   ·have htob : ((y.to.l.length : Int) == 1) = false := beq_eq_false_iff_ne.2 (by omega)
    have htoc : (y.to.l.length == 1) = false := beq_eq_false_iff_ne.2 (by omega)
    clear hto
    go_wp2_with fail
    go_ret
    exact RB.mk rfl (fun h => by cases h) kk.out
 have g0b : (kd == 0) = false := beq_eq_false_iff_ne.2 g0
 clear g0
 by_cases g4 : kd = 4
 ·subst g4
  clear g1b g2b g3b g0b
  go_enter Tryz.func62, Tryz.ntmps62
  go_upto_region 1 with fail
  go_cut [5] from 6 to 13 (fun v5 wx => ∃ b, v5 = .bool b ∧ V = wx)
  case first =>
   by_cases hc : y.cond = 0
   ·have hcb : (y.cond == 0) = true := by simpa using hc
    clear hc
    go_wp2_with fail
    go_meet
    case rel => exact ⟨_, rfl, rfl⟩
   ·have hcb : (y.cond == 0) = false := by simpa using hc
    clear hc
    go_wp2_with fail
    go_meet
    case rel => exact ⟨_, rfl, rfl⟩
  case rest =>
  obtain ⟨bp, rfl, rfl⟩ := hcut
  by_cases hc : y.cond = 0
  ·have hcb : (y.cond == 0) = true := by simpa using hc
   clear hc
   by_cases hs : y.to.l.length + y.args.l.length = 0
   ·have Hn := Lib.hid (Hnil.out (by omega))
    have hsb : ((y.to.l.length : Int) + (y.args.l.length : Int) == 0) = true := by simp; omega
    clear hs
    by_cases ht : 1 ≤ y.trap
    ·have htb : decide (1 ≤ y.trap) = true := decide_eq_true ht
     clear ht
     go_wp2_with fail
     go_ret
     exact RB.mk rfl (fun h => Hno.out Hn.out) kk.out
    ·have htb : decide (1 ≤ y.trap) = false := decide_eq_false ht
     clear ht
     go_wp2_with fail
     go_ret
     exact RB.mk rfl (fun h => by cases h) kk.out
   ·have hsb : ((y.to.l.length : Int) + (y.args.l.length : Int) == 0) = false := beq_eq_false_iff_ne.2 (by omega)
    clear hs
    go_wp2_with fail
    go_ret
    exact RB.mk rfl (fun h => by cases h) kk.out
  ·have hcb : (y.cond == 0) = false := by simpa using hc
   clear hc
   go_wp2_with fail
   go_ret
   exact RB.mk rfl (fun h => by cases h) kk.out
 have g4b : (kd == 4) = false := beq_eq_false_iff_ne.2 g4
 clear g4
 go_enter Tryz.func62, Tryz.ntmps62
 go_upto_region 1 with fail
 go_cut [5] from 6 to 13 (fun v5 wx => ∃ b, v5 = .bool b ∧ V = wx)
 case first =>
  by_cases hc : y.cond = 0
  ·have hcb : (y.cond == 0) = true := by simpa using hc
   clear hc
   go_wp2_with fail
   go_meet
   case rel => exact ⟨_, rfl, rfl⟩
  ·have hcb : (y.cond == 0) = false := by simpa using hc
   clear hc
   go_wp2_with fail
   go_meet
   case rel => exact ⟨_, rfl, rfl⟩
 case rest =>
 obtain ⟨bp, rfl, rfl⟩ := hcut
 go_wp2_with fail
 go_ret
 exact RB.mk rfl (fun h => by cases h) kk.out
end Go.Proofs.YtjpmiejgcnfiiaaGreat
