import Derived.Test.YtjpmiejgcnfiiaaGreatQ20
set_option linter.unusedVariables false
set_option linter.unusedSimpArgs false
namespace Go.Proofs.YtjpmiejgcnfiiaaGreat
open Go Go.RowKit

set_option maxHeartbeats 8000000 in
set_option maxRecDepth 100000 in
theorem two23_calls (m : MdD) (op a b n : Int) (w : World) (h : MdOk w m) (ha : (Lit.int .i64 a).wf = true) (hb : (Lit.int .i64 b).wf = true) : Calls Tryz.prog 164 #[.agg (mdC m).toArray, .agg #[.int .i64 op, .int .i64 a, .int .i64 b, .int .u64 n, .int .i64 0, .int .i64 0, .int .i64 0, .slice none 0 0, .slice none 0 0]] w (RW w) := by
  obtain ⟨W, hW, kW, bW, sW⟩ := boxN w 33 (mdC m)
  obtain ⟨V, hV, kV, bV, sV⟩ := boxN W 215 [.int .i64 op, .int .i64 a, .int .i64 b, .int .u64 n, .int .i64 0, .int .i64 0, .int .i64 0, .slice none 0 0, .slice none 0 0]
  obtain ⟨U, hU, kU, bU, sU⟩ := boxN V 234 [.slice none 0 0, .slice none 0 0, .int .i64 0]
  have Hs := Lib.hid (fun (w' : World) (k : Keep U w') => rule3 (((bW.keep kV).keep kU).keep k) ((bV.keep kU).keep k) (bU.keep k))
  have Hyb := Lib.hid (fun (w' : World) (k : Keep U w') => bU.keep k)
  have kk := (kW.trans kV).trans kU
  have hle : w.heap.size ≤ V.heap.size := (kW.trans kV).size
  have Hm := Lib.hid (fun (w' : World) (k : Keep U w') => h.keep (kk.trans k))
  have Ha := Lib.hid ha
  have Hb := Lib.hid hb
  have K0 : Keep U U := Keep.refl _
  obtain ⟨c0, c1, c2, c3, c4, c5, c6, c7, c8, c9, ca, cb, lt, x0, x1, x2, x3, x4, x5, x6, x7, x8, y0, y1, y2, f0, f1, f2, l1, l2, l3, l4, lx1, lx2, lx3, lx4, lt2, lt3, lt4⟩ := Hs.out U K0
  clear h ha hb bW bV bU sW sV sU
  go_enter Tryz.func164, Tryz.ntmps164
  go_wp2_with (first
    | (go_at_call 165; refine (elem08_calls m _ _ (Hm.out _ (by repeat (first | assumption | apply Keep.alloc)))).mono ?_; rintro e w4 ⟨t, r, rfl, hk4⟩; have K4 : Keep U w4 := Keep.trans (by repeat (first | assumption | apply Keep.alloc)) hk4; clear hk4 c0 c1 c2 c3 c4 c5 c6 c7 c8 c9 ca cb lt x0 x1 x2 x3 x4 x5 x6 x7 x8 y0 y1 y2 f0 f1 f2 l1 l2 l3 l4 lx1 lx2 lx3 lx4 lt2 lt3 lt4; obtain ⟨c0, c1, c2, c3, c4, c5, c6, c7, c8, c9, ca, cb, lt, x0, x1, x2, x3, x4, x5, x6, x7, x8, y0, y1, y2, f0, f1, f2, l1, l2, l3, l4, lx1, lx2, lx3, lx4, lt2, lt3, lt4⟩ := Hs.out w4 K4)
    | (go_at_call 170; refine (table08_calls m _ _ (Hm.out _ (by repeat (first | assumption | apply Keep.alloc))) (by first | exact Ha.out | exact Hb.out)).mono ?_; rintro e w4 ⟨v0, v1, v2, v3, r, rfl, hk4⟩; have K4 : Keep U w4 := Keep.trans (by repeat (first | assumption | apply Keep.alloc)) hk4; clear hk4 c0 c1 c2 c3 c4 c5 c6 c7 c8 c9 ca cb lt x0 x1 x2 x3 x4 x5 x6 x7 x8 y0 y1 y2 f0 f1 f2 l1 l2 l3 l4 lx1 lx2 lx3 lx4 lt2 lt3 lt4; obtain ⟨c0, c1, c2, c3, c4, c5, c6, c7, c8, c9, ca, cb, lt, x0, x1, x2, x3, x4, x5, x6, x7, x8, y0, y1, y2, f0, f1, f2, l1, l2, l3, l4, lx1, lx2, lx3, lx4, lt2, lt3, lt4⟩ := Hs.out w4 K4)
    | (go_at_call 156; refine (bad23_calls _ _).mono ?_; rintro e w5 ⟨rfl, rfl⟩)
    | (go_at_call 168; refine (sig23_calls _ _).mono ?_; rintro e w4 ⟨A, nn, c, B, k, d, er, rfl, hs, hk4⟩; have K4 : Keep U w4 := Keep.trans (by repeat (first | assumption | apply Keep.alloc)) hk4; clear hk4 c0 c1 c2 c3 c4 c5 c6 c7 c8 c9 ca cb lt x0 x1 x2 x3 x4 x5 x6 x7 x8 y0 y1 y2 f0 f1 f2 l1 l2 l3 l4 lx1 lx2 lx3 lx4 lt2 lt3 lt4; obtain ⟨c0, c1, c2, c3, c4, c5, c6, c7, c8, c9, ca, cb, lt, x0, x1, x2, x3, x4, x5, x6, x7, x8, y0, y1, y2, f0, f1, f2, l1, l2, l3, l4, lx1, lx2, lx3, lx4, lt2, lt3, lt4⟩ := Hs.out w4 K4; have HsS := Lib.hid hs; clear hs))
  all_goals (refine bodyPost_ret (by simp [results, Tryz.results164, go_sem, y0, y1, y2, f0, f1, f2, l1, l2, l3, l4] <;> rfl) rfl ?_)
  all_goals (refine RW.mk rfl ?_ ?_)
  all_goals first
    | exact SigAt.nil _
    | exact HsS.out.box3 (Hyb.out _ K4) _ _ _
    | exact SigAt.alloc (HsS.out.box3 (Hyb.out _ K4) _ _ _) _
    | exact HsF.out.box3 (Hyb.out _ K4) _ _ _
    | exact SigAt.alloc (HsF.out.box3 (Hyb.out _ K4) _ _ _) _
    | exact ⟨by first | exact IntsAt.nil _ _ | exact IntsAt.one (by simp [go_sem] <;> rfl) | exact IntsAt.two (by simp [go_sem] <;> rfl) (by simp [go_sem] <;> rfl) | exact IntsAt.three (by simp [go_sem] <;> rfl) (by simp [go_sem] <;> rfl) (by simp [go_sem] <;> rfl), by first | exact IntsAt.nil _ _ | exact IntsAt.one (by simp [go_sem] <;> rfl)⟩
    | (repeat (first | apply Keep.alloc | refine Keep.setCell (p := ⟨V.heap.size, _, none⟩) ?_ hle _)
       first | exact kk.trans K4 | exact kk)
end Go.Proofs.YtjpmiejgcnfiiaaGreat
namespace Go.Proofs.YtjpmiejgcnfiiaaGreat
open Go Go.RowKit

set_option maxHeartbeats 8000000 in
set_option maxRecDepth 100000 in
theorem global23_calls (m : MdD) (op a b n : Int) (w : World) (h : MdOk w m) (ha : (Lit.int .i64 a).wf = true) (hb : (Lit.int .i64 b).wf = true) : Calls Tryz.prog 162 #[.agg (mdC m).toArray, .agg #[.int .i64 op, .int .i64 a, .int .i64 b, .int .u64 n, .int .i64 0, .int .i64 0, .int .i64 0, .slice none 0 0, .slice none 0 0]] w (RW w) := by
  obtain ⟨W, hW, kW, bW, sW⟩ := boxN w 33 (mdC m)
  obtain ⟨V, hV, kV, bV, sV⟩ := boxN W 215 [.int .i64 op, .int .i64 a, .int .i64 b, .int .u64 n, .int .i64 0, .int .i64 0, .int .i64 0, .slice none 0 0, .slice none 0 0]
  obtain ⟨U, hU, kU, bU, sU⟩ := boxN V 234 [.slice none 0 0, .slice none 0 0, .int .i64 0]
  have Hs := Lib.hid (fun (w' : World) (k : Keep U w') => rule3 (((bW.keep kV).keep kU).keep k) ((bV.keep kU).keep k) (bU.keep k))
  have Hyb := Lib.hid (fun (w' : World) (k : Keep U w') => bU.keep k)
  have kk := (kW.trans kV).trans kU
  have hle : w.heap.size ≤ V.heap.size := (kW.trans kV).size
  have Hm := Lib.hid (fun (w' : World) (k : Keep U w') => h.keep (kk.trans k))
  have Ha := Lib.hid ha
  have Hb := Lib.hid hb
  have K0 : Keep U U := Keep.refl _
  obtain ⟨c0, c1, c2, c3, c4, c5, c6, c7, c8, c9, ca, cb, lt, x0, x1, x2, x3, x4, x5, x6, x7, x8, y0, y1, y2, f0, f1, f2, l1, l2, l3, l4, lx1, lx2, lx3, lx4, lt2, lt3, lt4⟩ := Hs.out U K0
  clear h ha hb bW bV bU sW sV sU
  go_enter Tryz.func162, Tryz.ntmps162
  go_wp2_with (first
    | (go_at_call 171; refine (global08_calls m _ _ (Hm.out _ (by repeat (first | assumption | apply Keep.alloc))) (by first | exact Ha.out | exact Hb.out)).mono ?_; rintro e w4 ⟨v0, v1, r, rfl, hk4⟩; have K4 : Keep U w4 := Keep.trans (by repeat (first | assumption | apply Keep.alloc)) hk4; clear hk4 c0 c1 c2 c3 c4 c5 c6 c7 c8 c9 ca cb lt x0 x1 x2 x3 x4 x5 x6 x7 x8 y0 y1 y2 f0 f1 f2 l1 l2 l3 l4 lx1 lx2 lx3 lx4 lt2 lt3 lt4; obtain ⟨c0, c1, c2, c3, c4, c5, c6, c7, c8, c9, ca, cb, lt, x0, x1, x2, x3, x4, x5, x6, x7, x8, y0, y1, y2, f0, f1, f2, l1, l2, l3, l4, lx1, lx2, lx3, lx4, lt2, lt3, lt4⟩ := Hs.out w4 K4)
    | (go_at_call 156; refine (bad23_calls _ _).mono ?_; rintro e w5 ⟨rfl, rfl⟩)
    | (go_at_call 159; refine (gives23_calls _ _ _ _ _ _ _).mono ?_; rintro e w5 ⟨rfl, rfl⟩)
    | (go_at_call 160; refine (list23_calls _ _ _ _).mono ?_; rintro e w5 ⟨rfl, rfl⟩))
  all_goals (refine bodyPost_ret (by simp [results, Tryz.results162, go_sem, y0, y1, y2, f0, f1, f2, l1, l2, l3, l4] <;> rfl) rfl ?_)
  all_goals (refine RW.mk rfl ?_ ?_)
  all_goals first
    | exact SigAt.nil _
    | exact HsS.out.box3 (Hyb.out _ K4) _ _ _
    | exact SigAt.alloc (HsS.out.box3 (Hyb.out _ K4) _ _ _) _
    | exact HsF.out.box3 (Hyb.out _ K4) _ _ _
    | exact SigAt.alloc (HsF.out.box3 (Hyb.out _ K4) _ _ _) _
    | exact ⟨by first | exact IntsAt.nil _ _ | exact IntsAt.one (by simp [go_sem] <;> rfl) | exact IntsAt.two (by simp [go_sem] <;> rfl) (by simp [go_sem] <;> rfl) | exact IntsAt.three (by simp [go_sem] <;> rfl) (by simp [go_sem] <;> rfl) (by simp [go_sem] <;> rfl), by first | exact IntsAt.nil _ _ | exact IntsAt.one (by simp [go_sem] <;> rfl)⟩
    | (repeat (first | apply Keep.alloc | refine Keep.setCell (p := ⟨V.heap.size, _, none⟩) ?_ hle _)
       first | exact kk.trans K4 | exact kk)
end Go.Proofs.YtjpmiejgcnfiiaaGreat
namespace Go.Proofs.YtjpmiejgcnfiiaaGreat
open Go Go.RowKit

theorem local23_calls (op a b n : Int) (w : World) (ha : 0 ≤ a) : Calls Tryz.prog 161 #[.slice none 0 0, .agg #[.int .i64 op, .int .i64 a, .int .i64 b, .int .u64 n, .int .i64 0, .int .i64 0, .int .i64 0, .slice none 0 0, .slice none 0 0]] w (RW w) := by
  obtain ⟨V, hV, kV, bV, sV⟩ := boxN w 215 [.int .i64 op, .int .i64 a, .int .i64 b, .int .u64 n, .int .i64 0, .int .i64 0, .int .i64 0, .slice none 0 0, .slice none 0 0]
  have x1 : V.cell? ⟨w.heap.size, 1, none⟩ = some (.int .i64 a) := bV.cell 1
  have lt := bV.lt
  clear bV sV
  go_enter Tryz.func161, Tryz.ntmps161
  go_wp2_with ((go_at_call 156; refine (bad23_calls _ _).mono ?_; rintro e w5 ⟨rfl, rfl⟩))
  all_goals first
    | (exfalso; omega)
    | (refine bodyPost_ret (by simp [results, Tryz.results161, go_sem] <;> rfl) rfl ?_
       exact RW.mk rfl (SigAt.nil _) (by repeat (first | exact kV | apply Keep.alloc)))
end Go.Proofs.YtjpmiejgcnfiiaaGreat
