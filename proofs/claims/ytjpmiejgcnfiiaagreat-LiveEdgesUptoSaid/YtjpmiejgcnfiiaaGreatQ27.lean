import Derived.Test.YtjpmiejgcnfiiaaGreatQ18
import Derived.Test.YtjpmiejgcnfiiaaGreatQ20
set_option linter.unusedVariables false
set_option linter.unusedSimpArgs false
namespace Go.Proofs.YtjpmiejgcnfiiaaGreat
open Go Go.RowKit

set_option maxHeartbeats 8000000 in
set_option maxRecDepth 100000 in
theorem plain39_calls (kd op a b n : Int) (aa : Option Addr) (al : List Int) (ac : Nat) (oa : Option Addr) (ol : List Int) (oc : Nat) (vl : List Int) (va : Option Addr) (vc : Nat) (w : World) (ha : Seg w aa (al.flatMap intC)) (hal : al.length ≤ 2000000) (hac : al.length ≤ ac) (ho : Seg w oa (ol.flatMap intC)) (hol : ol.length ≤ 2000000) (hv : Seg w va (vl.flatMap intC)) (hvn : vl.length ≤ 2000000) : Calls Tryz.prog 91 #[.agg #[.int .i64 kd, .int .i64 op, .int .i64 a, .int .i64 b, .int .u64 n, .slice aa al.length ac, .slice oa ol.length oc], .slice va vl.length vc] w (RSB w fun k r => r = true → kd = 0 → 1 ≤ k ∧ 0 ≤ a) := by
  obtain ⟨W, hW, kW, bW, sW⟩ := boxN w 63 [.int .i64 kd, .int .i64 op, .int .i64 a, .int .i64 b, .int .u64 n, .slice aa al.length ac, .slice oa ol.length oc]
  obtain ⟨U, hU, kU, bU, sU⟩ := boxN W 36 [.slice none 0 0, .slice none 0 0]
  have Hx := Lib.hid (fun (w' : World) (k : Keep U w') => ((bW.keep kU).keep k).sx)
  have Hy := Lib.hid (fun (w' : World) (k : Keep U w') => (bU.keep k).yx)
  have Hyb := Lib.hid (fun (w' : World) (k : Keep U w') => bU.keep k)
  have kk := kW.trans kU
  have hle : w.heap.size ≤ W.heap.size := kW.size
  have Hown := Lib.hid (fun (w' : World) (k : Keep U w') => own39_calls kd op a b n aa al ac oa ol oc vl va vc w' (ho.keep (kk.trans k)) hol (hv.keep (kk.trans k)) hvn)
  have Hfir := Lib.hid (fun (w' : World) (k : Keep U w') => first39_calls kd op a b n aa al ac oa ol oc vl va vc w' (ha.keep (kk.trans k)) hal hac (hv.keep (kk.trans k)) hvn)
  have K0 : Keep U U := Keep.refl _
  obtain ⟨x0, x1, x2, x3, x4, x5, x6, lx1, lx2, lx3, lx4⟩ := Hx.out U K0; obtain ⟨y0, y1, f0, f1, l1, l2, l3, l4⟩ := Hy.out U K0
  clear bW bU sW sU
  clear ha ho hv
  go_enter Tryz.func91, Tryz.ntmps91
  go_wp2_with (first
    | (go_at_call 115; refine (Hown.out _ (by repeat (first | assumption | apply Keep.alloc))).mono ?_; rintro e w4 ⟨t, r, rfl, hk4⟩; have K4 : Keep U w4 := Keep.trans (by repeat (first | assumption | apply Keep.alloc)) hk4; clear hk4; clear x0 x1 x2 x3 x4 x5 x6 lx1 lx2 lx3 lx4 y0 y1 f0 f1 l1 l2 l3 l4; obtain ⟨x0, x1, x2, x3, x4, x5, x6, lx1, lx2, lx3, lx4⟩ := Hx.out w4 K4; obtain ⟨y0, y1, f0, f1, l1, l2, l3, l4⟩ := Hy.out w4 K4)
    | (go_at_call 96; refine (zero39_calls _ _ _ _ _ _ _ _ _ _ _ _ _ _ _ _).mono ?_; rintro e w4 ⟨r, rfl, _, hk4⟩; have K4 : Keep U w4 := Keep.trans (by repeat (first | assumption | apply Keep.alloc)) hk4; clear hk4; clear x0 x1 x2 x3 x4 x5 x6 lx1 lx2 lx3 lx4 y0 y1 f0 f1 l1 l2 l3 l4; obtain ⟨x0, x1, x2, x3, x4, x5, x6, lx1, lx2, lx3, lx4⟩ := Hx.out w4 K4; obtain ⟨y0, y1, f0, f1, l1, l2, l3, l4⟩ := Hy.out w4 K4)
    | (go_at_call 116; refine (ref06_calls _ _).mono ?_; rintro e w4 ⟨r, rfl, _, hk4⟩; have K4 : Keep U w4 := Keep.trans (by repeat (first | assumption | apply Keep.alloc)) hk4; clear hk4; clear x0 x1 x2 x3 x4 x5 x6 lx1 lx2 lx3 lx4 y0 y1 f0 f1 l1 l2 l3 l4; obtain ⟨x0, x1, x2, x3, x4, x5, x6, lx1, lx2, lx3, lx4⟩ := Hx.out w4 K4; obtain ⟨y0, y1, f0, f1, l1, l2, l3, l4⟩ := Hy.out w4 K4)
    | (go_at_call 117; refine (Hfir.out _ (by repeat (first | assumption | apply Keep.alloc))).mono ?_; rintro e w4 ⟨t, r, rfl, hk4⟩; have K4 : Keep U w4 := Keep.trans (by repeat (first | assumption | apply Keep.alloc)) hk4; clear hk4; clear x0 x1 x2 x3 x4 x5 x6 lx1 lx2 lx3 lx4 y0 y1 f0 f1 l1 l2 l3 l4; obtain ⟨x0, x1, x2, x3, x4, x5, x6, lx1, lx2, lx3, lx4⟩ := Hx.out w4 K4; obtain ⟨y0, y1, f0, f1, l1, l2, l3, l4⟩ := Hy.out w4 K4)
    | (go_at_call 97; refine (fn39_calls _ _ _ _ _ _ _).mono ?_; rintro e w5 ⟨rfl, rfl⟩)
    | (go_at_call 98; refine (none39_calls _).mono ?_; rintro e w5 ⟨rfl, rfl⟩))
  all_goals (refine bodyPost_ret (by simp [results, Tryz.results91, go_sem, y0, y1, f0, f1, l1, l2, l3, l4] <;> rfl) rfl ?_)
  all_goals (refine RSB.mk rfl ?_ ?_ ?_)
  all_goals first
    | exact trivial
    | (intro h h0; first | (cases h; done) | exact ⟨by omega, by omega⟩ | (exfalso; omega) | (exfalso; simp_all; done))
    | exact SigAt.nil _
    | exact SigAt.alloc (SigAt.box HsF.out (Hyb.out _ K4) _ _) _
    | exact SigAt.box HsF.out (Hyb.out _ K4) _ _
    | exact SigAt.alloc (SigAt.alloc (SigAt.box HsF.out (Hyb.out _ K4) _ _) _) _
    | exact ⟨by first | exact IntsAt.nil _ _ | exact IntsAt.one (by simp [go_sem] <;> rfl) | exact IntsAt.three (by simp [go_sem] <;> rfl) (by simp [go_sem] <;> rfl) (by simp [go_sem] <;> rfl), by first | exact IntsAt.nil _ _ | exact IntsAt.one (by simp [go_sem] <;> rfl)⟩
    | (repeat (first | apply Keep.alloc | refine Keep.setCell (p := ⟨W.heap.size, _, none⟩) ?_ hle _)
       first | exact kk.trans K4 | exact kk)
end Go.Proofs.YtjpmiejgcnfiiaaGreat
namespace Go.Proofs.YtjpmiejgcnfiiaaGreat
open Go Go.RowKit

set_option maxHeartbeats 8000000 in
set_option maxRecDepth 100000 in
theorem numeric39_calls (kd op a b n : Int) (aa : Option Addr) (al : List Int) (ac : Nat) (oa : Option Addr) (ol : List Int) (oc : Nat) (z : Int) (w : World) : Calls Tryz.prog 92 #[.agg #[.int .i64 kd, .int .i64 op, .int .i64 a, .int .i64 b, .int .u64 n, .slice aa al.length ac, .slice oa ol.length oc], .int .i64 z] w (RSB w fun _ _ => True) := by
  obtain ⟨W, hW, kW, bW, sW⟩ := boxN w 63 [.int .i64 kd, .int .i64 op, .int .i64 a, .int .i64 b, .int .u64 n, .slice aa al.length ac, .slice oa ol.length oc]
  obtain ⟨U, hU, kU, bU, sU⟩ := boxN W 36 [.slice none 0 0, .slice none 0 0]
  have Hx := Lib.hid (fun (w' : World) (k : Keep U w') => ((bW.keep kU).keep k).sx)
  have Hy := Lib.hid (fun (w' : World) (k : Keep U w') => (bU.keep k).yx)
  have Hyb := Lib.hid (fun (w' : World) (k : Keep U w') => bU.keep k)
  have kk := kW.trans kU
  have hle : w.heap.size ≤ W.heap.size := kW.size
  have K0 : Keep U U := Keep.refl _
  obtain ⟨x0, x1, x2, x3, x4, x5, x6, lx1, lx2, lx3, lx4⟩ := Hx.out U K0; obtain ⟨y0, y1, f0, f1, l1, l2, l3, l4⟩ := Hy.out U K0
  clear bW bU sW sU
  go_enter Tryz.func92, Tryz.ntmps92
  go_wp2_with fail
  refine (sig05_calls _ _).mono ?_
  rintro e w4 ⟨A, nn, c, B, k, d, r, rfl, hs, _, hk4⟩
  obtain ⟨V, hV, kV, bV, sV⟩ := boxN w4 36 [.slice A nn c, .slice B k d]
  have KV : Keep U V := hk4.trans kV
  have Hz := Lib.hid (fun (w' : World) (k : Keep V w') => (bV.keep k).box2)
  have Hs := Lib.hid (fun (w' : World) (k : Keep V w') => hs.keep (kV.trans k))
  have Hx := Lib.hid (fun (w' : World) (k : Keep V w') => Hx.out w' (KV.trans k))
  have Hy := Lib.hid (fun (w' : World) (k : Keep V w') => Hy.out w' (KV.trans k))
  have Hyb := Lib.hid (fun (w' : World) (k : Keep V w') => Hyb.out w' (KV.trans k))
  have kk := kk.trans KV
  have K4 : Keep V V := Keep.refl _
  obtain ⟨z0, z1, z2, z3, z4⟩ := Hz.out V K4
  clear bV sV hs hk4 KV K0 z2 z3 kV x0 x1 x2 x3 x4 x5 x6 lx1 lx2 lx3 lx4 y0 y1 f0 f1 l1 l2 l3 l4
  obtain ⟨x0, x1, x2, x3, x4, x5, x6, lx1, lx2, lx3, lx4⟩ := Hx.out V K4
  obtain ⟨y0, y1, f0, f1, l1, l2, l3, l4⟩ := Hy.out V K4
  go_wp2_with (first
    | (go_at_call 96; refine (zero39_calls _ _ _ _ _ _ _ _ _ _ _ _ _ _ _ _).mono ?_; rintro e w5 ⟨r, rfl, _, hk4⟩; have K5 : Keep V w5 := Keep.trans (by repeat (first | assumption | apply Keep.alloc)) hk4; clear hk4 K4; have K4 := K5; clear K5; clear x0 x1 x2 x3 x4 x5 x6 lx1 lx2 lx3 lx4 y0 y1 f0 f1 l1 l2 l3 l4 z0 z1 z4; obtain ⟨x0, x1, x2, x3, x4, x5, x6, lx1, lx2, lx3, lx4⟩ := Hx.out w5 K4; obtain ⟨y0, y1, f0, f1, l1, l2, l3, l4⟩ := Hy.out w5 K4; obtain ⟨z0, z1, _, _, z4⟩ := Hz.out w5 K4)
    | (go_at_call 119; refine (of05_calls _ _).mono ?_; rintro e w5 ⟨rfl, hk4⟩; have K5 : Keep V w5 := Keep.trans (by repeat (first | assumption | apply Keep.alloc)) hk4; clear hk4 K4; have K4 := K5; clear K5; clear x0 x1 x2 x3 x4 x5 x6 lx1 lx2 lx3 lx4 y0 y1 f0 f1 l1 l2 l3 l4 z0 z1 z4; obtain ⟨x0, x1, x2, x3, x4, x5, x6, lx1, lx2, lx3, lx4⟩ := Hx.out w5 K4; obtain ⟨y0, y1, f0, f1, l1, l2, l3, l4⟩ := Hy.out w5 K4; obtain ⟨z0, z1, _, _, z4⟩ := Hz.out w5 K4)
    | (go_at_call 120; refine (begins39_calls _ _ (by decide) _).mono ?_; rintro e w5 ⟨r, rfl, _, hk4⟩; have K5 : Keep V w5 := Keep.trans (by repeat (first | assumption | apply Keep.alloc)) hk4; clear hk4 K4; have K4 := K5; clear K5; clear x0 x1 x2 x3 x4 x5 x6 lx1 lx2 lx3 lx4 y0 y1 f0 f1 l1 l2 l3 l4 z0 z1 z4; obtain ⟨x0, x1, x2, x3, x4, x5, x6, lx1, lx2, lx3, lx4⟩ := Hx.out w5 K4; obtain ⟨y0, y1, f0, f1, l1, l2, l3, l4⟩ := Hy.out w5 K4; obtain ⟨z0, z1, _, _, z4⟩ := Hz.out w5 K4)
    | (go_at_call 98; refine (none39_calls _).mono ?_; rintro e w5 ⟨rfl, rfl⟩))
  all_goals (refine bodyPost_ret (by simp [results, Tryz.results92, go_sem, y0, y1, f0, f1, l1, l2, l3, l4] <;> rfl) rfl ?_)
  all_goals (refine RSB.mk rfl ?_ ?_ ?_)
  all_goals first
    | exact trivial
    | exact SigAt.nil _
    | exact SigAt.alloc (SigAt.box (Hs.out _ K4) (Hyb.out _ K4) _ _) _
    | exact SigAt.box (Hs.out _ K4) (Hyb.out _ K4) _ _
    | exact SigAt.alloc (SigAt.alloc (SigAt.box (Hs.out _ K4) (Hyb.out _ K4) _ _) _) _
    | exact ⟨by first | exact IntsAt.nil _ _ | exact IntsAt.one (by simp [go_sem] <;> rfl) | exact IntsAt.three (by simp [go_sem] <;> rfl) (by simp [go_sem] <;> rfl) (by simp [go_sem] <;> rfl), by first | exact IntsAt.nil _ _ | exact IntsAt.one (by simp [go_sem] <;> rfl)⟩
    | (repeat (first | apply Keep.alloc | refine Keep.setCell (p := ⟨W.heap.size, _, none⟩) ?_ hle _)
       first | exact kk.trans K4 | exact kk)
end Go.Proofs.YtjpmiejgcnfiiaaGreat
