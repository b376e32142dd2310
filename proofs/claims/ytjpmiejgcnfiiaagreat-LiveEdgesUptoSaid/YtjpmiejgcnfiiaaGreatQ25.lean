import Derived.Test.YtjpmiejgcnfiiaaGreatQ21
import Derived.Test.YtjpmiejgcnfiiaaGreatQ22
import Derived.Test.YtjpmiejgcnfiiaaGreatQ24
import Derived.Test.YtjpmiejgcnfiiaaGreatQ23
import Derived.Test.YtjpmiejgcnfiiaaGreatQ18
set_option linter.unusedVariables false
set_option linter.unusedSimpArgs false
namespace Go.Proofs.YtjpmiejgcnfiiaaGreat
open Go Go.RowKit

set_option maxHeartbeats 8000000 in
set_option maxRecDepth 100000 in
theorem wants23_calls (m : MdD) (op a b n : Int) (w : World) (h : MdOk w m) (ha : (Lit.int .i64 a).wf = true) (hb : (Lit.int .i64 b).wf = true) (h6 : (findRow op).1.imm ≠ 6) (h7 : (findRow op).1.imm = 7 → 0 ≤ a) : Calls Tryz.prog 143 #[.agg (mdC m).toArray, .slice none 0 0, .agg #[.int .i64 op, .int .i64 a, .int .i64 b, .int .u64 n, .int .i64 0, .int .i64 0, .int .i64 0, .slice none 0 0, .slice none 0 0]] w (RW w) := by
  obtain ⟨W, hW, kW, bW, sW⟩ := boxN w 33 (mdC m)
  obtain ⟨V, hV, kV, bV, sV⟩ := boxN W 215 [.int .i64 op, .int .i64 a, .int .i64 b, .int .u64 n, .int .i64 0, .int .i64 0, .int .i64 0, .slice none 0 0, .slice none 0 0]
  obtain ⟨U, hU, kU, bU, sU⟩ := boxN V 234 [.slice none 0 0, .slice none 0 0, .int .i64 0]
  have Hs := Lib.hid (fun (w' : World) (k : Keep U w') => rule3 (((bW.keep kV).keep kU).keep k) ((bV.keep kU).keep k) (bU.keep k))
  have Hyb := Lib.hid (fun (w' : World) (k : Keep U w') => bU.keep k)
  have kk := (kW.trans kV).trans kU
  have hle : w.heap.size ≤ V.heap.size := (kW.trans kV).size
  have Hm := Lib.hid (fun (w' : World) (k : Keep U w') => h.keep (kk.trans k))
  have Ha := Lib.hid ha
  have Hb := Lib.hid hb
  have K0 : Keep U U := Keep.refl _
  obtain ⟨c0, c1, c2, c3, c4, c5, c6, c7, c8, c9, ca, cb, lt, x0, x1, x2, x3, x4, x5, x6, x7, x8, y0, y1, y2, f0, f1, f2, l1, l2, l3, l4, lx1, lx2, lx3, lx4, lt2, lt3, lt4⟩ := Hs.out U K0
  clear h ha hb bW bV bU sW sV sU
  obtain ⟨im, him⟩ : ∃ im, (findRow op).1.imm = im := ⟨_, rfl⟩
  have Hof := Lib.hid (fun w' => him ▸ of05_calls op w')
  rw [him] at h6 h7
  have H7 := Lib.hid h7
  have h6b : (im == 6) = false := by simpa using h6
  clear him h7 h6
  go_enter Tryz.func143, Tryz.ntmps143
  go_wp2_with fail
  refine (Hof.out _).mono ?_
  rintro e w4 ⟨rfl, hk4⟩
  have K4 : Keep U w4 := hk4
  clear hk4 c0 c1 c2 c3 c4 c5 c6 c7 c8 c9 ca cb lt x0 x1 x2 x3 x4 x5 x6 x7 x8 y0 y1 y2 f0 f1 f2 l1 l2 l3 l4 lx1 lx2 lx3 lx4 lt2 lt3 lt4
  obtain ⟨c0, c1, c2, c3, c4, c5, c6, c7, c8, c9, ca, cb, lt, x0, x1, x2, x3, x4, x5, x6, x7, x8, y0, y1, y2, f0, f1, f2, l1, l2, l3, l4, lx1, lx2, lx3, lx4, lt2, lt3, lt4⟩ := Hs.out w4 K4
  by_cases h16 : im = 16
  · subst h16
    clear h6b
    go_wp2_with fail
    obtain ⟨wd, hwd⟩ : ∃ wd, w4.drew = wd := ⟨_, rfl⟩
    have hd : Keep w4 wd := by rw [← hwd]; exact (Keep.refl _).drew
    have ec0 := fun z : KW w4 => z.cell c0
    have ec1 := fun z : KW w4 => z.cell c1
    have ec2 := fun z : KW w4 => z.cell c2
    have ec3 := fun z : KW w4 => z.cell c3
    have ec4 := fun z : KW w4 => z.cell c4
    have ec5 := fun z : KW w4 => z.cell c5
    have ec6 := fun z : KW w4 => z.cell c6
    have ec7 := fun z : KW w4 => z.cell c7
    have ec8 := fun z : KW w4 => z.cell c8
    have ec9 := fun z : KW w4 => z.cell c9
    have eca := fun z : KW w4 => z.cell ca
    have ecb := fun z : KW w4 => z.cell cb
    have ex0 := fun z : KW w4 => z.cell x0
    have ex1 := fun z : KW w4 => z.cell x1
    have ex2 := fun z : KW w4 => z.cell x2
    have ex3 := fun z : KW w4 => z.cell x3
    have ex4 := fun z : KW w4 => z.cell x4
    have ex5 := fun z : KW w4 => z.cell x5
    have ex6 := fun z : KW w4 => z.cell x6
    have ex7 := fun z : KW w4 => z.cell x7
    have ex8 := fun z : KW w4 => z.cell x8
    refine region_begin (S := fun w' => ∃ z : KW w4, w' = z.val) (by kernel_rfl) ?_
    rw [hwd]
    refine region_take [0, 1, 2] [] 2 (by kernel_rfl) (by kernel_rfl) (InK.mk' hd) ?_
    show wpQuiet _ _ _ _ [_, _, _] _
    repeat (go_big_quiet_step (fail))
    refine wpQuiet_nil ?_
    clear hwd
    refine region_fix (i := 3) (fuel := 1) rfl (by kernel_rfl) (fun K hK => ?_)
    go_simp
    refine (datas08_calls m _ (Hm.out _ (K4.trans hd))).mono ?_
    rintro e w5 ⟨z, rfl, _, hk5⟩
    have h5 := hd.trans hk5
    refine hK _ _ (InK.mk' h5) ?_
    clear hK K
    refine region_take [4] [0, 1, 2, 3] 0 (by kernel_rfl) (by kernel_rfl) (InK.mk' h5) ?_
    show wpQuiet _ _ _ _ [_] _
    repeat (go_big_quiet_step (fail))
    refine wpQuiet_nil ?_
    refine region_done (by kernel_rfl) ?_
    have K5 : Keep U w5 := K4.trans h5
    clear ec0 ec1 ec2 ec3 ec4 ec5 ec6 ec7 ec8 ec9 eca ecb ex0 ex1 ex2 ex3 ex4 ex5 ex6 ex7 ex8 c0 c1 c2 c3 c4 c5 c6 c7 c8 c9 ca cb lt x0 x1 x2 x3 x4 x5 x6 x7 x8 y0 y1 y2 f0 f1 f2 l1 l2 l3 l4 lx1 lx2 lx3 lx4 lt2 lt3 lt4 K4
    have K4 := K5
    clear K5
    obtain ⟨c0, c1, c2, c3, c4, c5, c6, c7, c8, c9, ca, cb, lt, x0, x1, x2, x3, x4, x5, x6, x7, x8, y0, y1, y2, f0, f1, f2, l1, l2, l3, l4, lx1, lx2, lx3, lx4, lt2, lt3, lt4⟩ := Hs.out w5 K4
    clear hd
    go_wp2_with (first
    | (go_at_call 156; refine (bad23_calls _ _).mono ?_; rintro e w5 ⟨rfl, rfl⟩)
    | (go_at_call 168; refine (sig23_calls _ _).mono ?_; rintro e w4 ⟨A, nn, c, B, k, d, er, rfl, hs, hk4⟩; have K4 : Keep U w4 := Keep.trans (by repeat (first | assumption | apply Keep.alloc)) hk4; clear hk4 c0 c1 c2 c3 c4 c5 c6 c7 c8 c9 ca cb lt x0 x1 x2 x3 x4 x5 x6 x7 x8 y0 y1 y2 f0 f1 f2 l1 l2 l3 l4 lx1 lx2 lx3 lx4 lt2 lt3 lt4; obtain ⟨c0, c1, c2, c3, c4, c5, c6, c7, c8, c9, ca, cb, lt, x0, x1, x2, x3, x4, x5, x6, x7, x8, y0, y1, y2, f0, f1, f2, l1, l2, l3, l4, lx1, lx2, lx3, lx4, lt2, lt3, lt4⟩ := Hs.out w4 K4; have HsS := Lib.hid hs; clear hs))
    all_goals (refine bodyPost_ret (by simp [results, Tryz.results143, go_sem, y0, y1, y2, f0, f1, f2, l1, l2, l3, l4] <;> rfl) rfl ?_)
    all_goals (refine RW.mk rfl ?_ ?_)
    all_goals first
      | exact SigAt.nil _
      | exact HsS.out.box3 (Hyb.out _ K4) _ _ _
      | exact SigAt.alloc (HsS.out.box3 (Hyb.out _ K4) _ _ _) _
      | exact HsF.out.box3 (Hyb.out _ K4) _ _ _
      | exact SigAt.alloc (HsF.out.box3 (Hyb.out _ K4) _ _ _) _
      | exact ⟨by first | exact IntsAt.nil _ _ | exact IntsAt.one (by simp [go_sem] <;> rfl) | exact IntsAt.two (by simp [go_sem] <;> rfl) (by simp [go_sem] <;> rfl) | exact IntsAt.three (by simp [go_sem] <;> rfl) (by simp [go_sem] <;> rfl) (by simp [go_sem] <;> rfl), by first | exact IntsAt.nil _ _ | exact IntsAt.one (by simp [go_sem] <;> rfl)⟩
      | (repeat (first | apply Keep.alloc | refine Keep.setCell (p := ⟨V.heap.size, _, none⟩) ?_ hle _)
         first | exact kk.trans K4 | exact kk)
  by_cases h7c : im = 7
  · subst h7c
    clear h6b h16
    go_wp2_with fail
    refine (local23_calls _ _ _ _ _ (by simpa using H7.out)).mono ?_
    rintro e w6 ⟨A, nn, c, B, k, d, er, rfl, hs, hk6⟩
    have K6 : Keep U w6 := K4.trans hk6
    clear K4 hk6 c0 c1 c2 c3 c4 c5 c6 c7 c8 c9 ca cb lt x0 x1 x2 x3 x4 x5 x6 x7 x8 y0 y1 y2 f0 f1 f2 l1 l2 l3 l4 lx1 lx2 lx3 lx4 lt2 lt3 lt4
    have K4 := K6
    obtain ⟨c0, c1, c2, c3, c4, c5, c6, c7, c8, c9, ca, cb, lt, x0, x1, x2, x3, x4, x5, x6, x7, x8, y0, y1, y2, f0, f1, f2, l1, l2, l3, l4, lx1, lx2, lx3, lx4, lt2, lt3, lt4⟩ := Hs.out w6 K4
    have HsS := Lib.hid hs
    clear hs K6
    go_wp2
    all_goals (refine bodyPost_ret (by simp [results, Tryz.results143, go_sem, y0, y1, y2, f0, f1, f2, l1, l2, l3, l4] <;> rfl) rfl ?_)
    all_goals (refine RW.mk rfl ?_ ?_)
    all_goals first
      | exact SigAt.nil _
      | exact HsS.out.box3 (Hyb.out _ K4) _ _ _
      | exact SigAt.alloc (HsS.out.box3 (Hyb.out _ K4) _ _ _) _
      | exact HsF.out.box3 (Hyb.out _ K4) _ _ _
      | exact SigAt.alloc (HsF.out.box3 (Hyb.out _ K4) _ _ _) _
      | exact ⟨by first | exact IntsAt.nil _ _ | exact IntsAt.one (by simp [go_sem] <;> rfl) | exact IntsAt.two (by simp [go_sem] <;> rfl) (by simp [go_sem] <;> rfl) | exact IntsAt.three (by simp [go_sem] <;> rfl) (by simp [go_sem] <;> rfl) (by simp [go_sem] <;> rfl), by first | exact IntsAt.nil _ _ | exact IntsAt.one (by simp [go_sem] <;> rfl)⟩
      | (repeat (first | apply Keep.alloc | refine Keep.setCell (p := ⟨V.heap.size, _, none⟩) ?_ hle _)
         first | exact kk.trans K4 | exact kk)
  · have h16b : (im == 16) = false := by simpa using h16
    have h7b : (im == 7) = false := by simpa using h7c
    clear h16 h7c H7
    go_wp2_with (first
    | (go_at_call 157; refine (call23_calls m _ _ _ _ _ (Hm.out _ (by repeat (first | assumption | apply Keep.alloc))) Ha.out Hb.out).mono ?_; rintro e w4 ⟨A, nn, c, B, k, d, er, rfl, hs, hk4⟩; have K4 : Keep U w4 := Keep.trans (by repeat (first | assumption | apply Keep.alloc)) hk4; clear hk4 c0 c1 c2 c3 c4 c5 c6 c7 c8 c9 ca cb lt x0 x1 x2 x3 x4 x5 x6 x7 x8 y0 y1 y2 f0 f1 f2 l1 l2 l3 l4 lx1 lx2 lx3 lx4 lt2 lt3 lt4; obtain ⟨c0, c1, c2, c3, c4, c5, c6, c7, c8, c9, ca, cb, lt, x0, x1, x2, x3, x4, x5, x6, x7, x8, y0, y1, y2, f0, f1, f2, l1, l2, l3, l4, lx1, lx2, lx3, lx4, lt2, lt3, lt4⟩ := Hs.out w4 K4; have HsS := Lib.hid hs; clear hs)
    | (go_at_call 158; refine (indirect23_calls m _ _ _ _ _ (Hm.out _ (by repeat (first | assumption | apply Keep.alloc))) Ha.out Hb.out).mono ?_; rintro e w4 ⟨A, nn, c, B, k, d, er, rfl, hs, hk4⟩; have K4 : Keep U w4 := Keep.trans (by repeat (first | assumption | apply Keep.alloc)) hk4; clear hk4 c0 c1 c2 c3 c4 c5 c6 c7 c8 c9 ca cb lt x0 x1 x2 x3 x4 x5 x6 x7 x8 y0 y1 y2 f0 f1 f2 l1 l2 l3 l4 lx1 lx2 lx3 lx4 lt2 lt3 lt4; obtain ⟨c0, c1, c2, c3, c4, c5, c6, c7, c8, c9, ca, cb, lt, x0, x1, x2, x3, x4, x5, x6, x7, x8, y0, y1, y2, f0, f1, f2, l1, l2, l3, l4, lx1, lx2, lx3, lx4, lt2, lt3, lt4⟩ := Hs.out w4 K4; have HsS := Lib.hid hs; clear hs)
    | (go_at_call 162; refine (global23_calls m _ _ _ _ _ (Hm.out _ (by repeat (first | assumption | apply Keep.alloc))) Ha.out Hb.out).mono ?_; rintro e w4 ⟨A, nn, c, B, k, d, er, rfl, hs, hk4⟩; have K4 : Keep U w4 := Keep.trans (by repeat (first | assumption | apply Keep.alloc)) hk4; clear hk4 c0 c1 c2 c3 c4 c5 c6 c7 c8 c9 ca cb lt x0 x1 x2 x3 x4 x5 x6 x7 x8 y0 y1 y2 f0 f1 f2 l1 l2 l3 l4 lx1 lx2 lx3 lx4 lt2 lt3 lt4; obtain ⟨c0, c1, c2, c3, c4, c5, c6, c7, c8, c9, ca, cb, lt, x0, x1, x2, x3, x4, x5, x6, x7, x8, y0, y1, y2, f0, f1, f2, l1, l2, l3, l4, lx1, lx2, lx3, lx4, lt2, lt3, lt4⟩ := Hs.out w4 K4; have HsS := Lib.hid hs; clear hs)
    | (go_at_call 163; refine (table23_calls m _ _ _ _ _ (Hm.out _ (by repeat (first | assumption | apply Keep.alloc))) Ha.out Hb.out).mono ?_; rintro e w4 ⟨A, nn, c, B, k, d, er, rfl, hs, hk4⟩; have K4 : Keep U w4 := Keep.trans (by repeat (first | assumption | apply Keep.alloc)) hk4; clear hk4 c0 c1 c2 c3 c4 c5 c6 c7 c8 c9 ca cb lt x0 x1 x2 x3 x4 x5 x6 x7 x8 y0 y1 y2 f0 f1 f2 l1 l2 l3 l4 lx1 lx2 lx3 lx4 lt2 lt3 lt4; obtain ⟨c0, c1, c2, c3, c4, c5, c6, c7, c8, c9, ca, cb, lt, x0, x1, x2, x3, x4, x5, x6, x7, x8, y0, y1, y2, f0, f1, f2, l1, l2, l3, l4, lx1, lx2, lx3, lx4, lt2, lt3, lt4⟩ := Hs.out w4 K4; have HsS := Lib.hid hs; clear hs)
    | (go_at_call 164; refine (two23_calls m _ _ _ _ _ (Hm.out _ (by repeat (first | assumption | apply Keep.alloc))) Ha.out Hb.out).mono ?_; rintro e w4 ⟨A, nn, c, B, k, d, er, rfl, hs, hk4⟩; have K4 : Keep U w4 := Keep.trans (by repeat (first | assumption | apply Keep.alloc)) hk4; clear hk4 c0 c1 c2 c3 c4 c5 c6 c7 c8 c9 ca cb lt x0 x1 x2 x3 x4 x5 x6 x7 x8 y0 y1 y2 f0 f1 f2 l1 l2 l3 l4 lx1 lx2 lx3 lx4 lt2 lt3 lt4; obtain ⟨c0, c1, c2, c3, c4, c5, c6, c7, c8, c9, ca, cb, lt, x0, x1, x2, x3, x4, x5, x6, x7, x8, y0, y1, y2, f0, f1, f2, l1, l2, l3, l4, lx1, lx2, lx3, lx4, lt2, lt3, lt4⟩ := Hs.out w4 K4; have HsS := Lib.hid hs; clear hs)
    | (go_at_call 165; refine (elem08_calls m _ _ (Hm.out _ (by repeat (first | assumption | apply Keep.alloc)))).mono ?_; rintro e w4 ⟨t, r, rfl, hk4⟩; have K4 : Keep U w4 := Keep.trans (by repeat (first | assumption | apply Keep.alloc)) hk4; clear hk4 c0 c1 c2 c3 c4 c5 c6 c7 c8 c9 ca cb lt x0 x1 x2 x3 x4 x5 x6 x7 x8 y0 y1 y2 f0 f1 f2 l1 l2 l3 l4 lx1 lx2 lx3 lx4 lt2 lt3 lt4; obtain ⟨c0, c1, c2, c3, c4, c5, c6, c7, c8, c9, ca, cb, lt, x0, x1, x2, x3, x4, x5, x6, x7, x8, y0, y1, y2, f0, f1, f2, l1, l2, l3, l4, lx1, lx2, lx3, lx4, lt2, lt3, lt4⟩ := Hs.out w4 K4)
    | (go_at_call 166; refine (memory23_calls m _ _ _ _ _ (Hm.out _ (by repeat (first | assumption | apply Keep.alloc))) Ha.out Hb.out).mono ?_; rintro e w4 ⟨A, nn, c, B, k, d, er, rfl, hs, hk4⟩; have K4 : Keep U w4 := Keep.trans (by repeat (first | assumption | apply Keep.alloc)) hk4; clear hk4 c0 c1 c2 c3 c4 c5 c6 c7 c8 c9 ca cb lt x0 x1 x2 x3 x4 x5 x6 x7 x8 y0 y1 y2 f0 f1 f2 l1 l2 l3 l4 lx1 lx2 lx3 lx4 lt2 lt3 lt4; obtain ⟨c0, c1, c2, c3, c4, c5, c6, c7, c8, c9, ca, cb, lt, x0, x1, x2, x3, x4, x5, x6, x7, x8, y0, y1, y2, f0, f1, f2, l1, l2, l3, l4, lx1, lx2, lx3, lx4, lt2, lt3, lt4⟩ := Hs.out w4 K4; have HsS := Lib.hid hs; clear hs)
    | (go_at_call 159; refine (gives23_calls _ _ _ _ _ _ _).mono ?_; rintro e w5 ⟨rfl, rfl⟩)
    | (go_at_call 168; refine (sig23_calls _ _).mono ?_; rintro e w4 ⟨A, nn, c, B, k, d, er, rfl, hs, hk4⟩; have K4 : Keep U w4 := Keep.trans (by repeat (first | assumption | apply Keep.alloc)) hk4; clear hk4 c0 c1 c2 c3 c4 c5 c6 c7 c8 c9 ca cb lt x0 x1 x2 x3 x4 x5 x6 x7 x8 y0 y1 y2 f0 f1 f2 l1 l2 l3 l4 lx1 lx2 lx3 lx4 lt2 lt3 lt4; obtain ⟨c0, c1, c2, c3, c4, c5, c6, c7, c8, c9, ca, cb, lt, x0, x1, x2, x3, x4, x5, x6, x7, x8, y0, y1, y2, f0, f1, f2, l1, l2, l3, l4, lx1, lx2, lx3, lx4, lt2, lt3, lt4⟩ := Hs.out w4 K4; have HsS := Lib.hid hs; clear hs)
    | (go_at_call 156; refine (bad23_calls _ _).mono ?_; rintro e w5 ⟨rfl, rfl⟩))
    all_goals (refine bodyPost_ret (by simp [results, Tryz.results143, go_sem, y0, y1, y2, f0, f1, f2, l1, l2, l3, l4] <;> rfl) rfl ?_)
    all_goals (refine RW.mk rfl ?_ ?_)
    all_goals first
      | exact SigAt.nil _
      | exact HsS.out.box3 (Hyb.out _ K4) _ _ _
      | exact SigAt.alloc (HsS.out.box3 (Hyb.out _ K4) _ _ _) _
      | exact HsF.out.box3 (Hyb.out _ K4) _ _ _
      | exact SigAt.alloc (HsF.out.box3 (Hyb.out _ K4) _ _ _) _
      | exact ⟨by first | exact IntsAt.nil _ _ | exact IntsAt.one (by simp [go_sem] <;> rfl) | exact IntsAt.two (by simp [go_sem] <;> rfl) (by simp [go_sem] <;> rfl) | exact IntsAt.three (by simp [go_sem] <;> rfl) (by simp [go_sem] <;> rfl) (by simp [go_sem] <;> rfl), by first | exact IntsAt.nil _ _ | exact IntsAt.one (by simp [go_sem] <;> rfl)⟩
      | (repeat (first | apply Keep.alloc | refine Keep.setCell (p := ⟨V.heap.size, _, none⟩) ?_ hle _)
         first | exact kk.trans K4 | exact kk)
/-- A call that gives a signature and an error, apart. -/
def RWE (w : World) (e : Ending) (w' : World) : Prop := ∃ A n c B k d er, e = .returned (.tuple #[.agg #[.slice A n c, .slice B k d], .int .i64 er]) ∧ SigAt w' A n B k ∧ Keep w w'
theorem RWE.mk {w w' : World} {e : Ending} {A B : Option Addr} {n c k d : Nat} {er : Int} (he : e = .returned (.tuple #[.agg #[.slice A n c, .slice B k d], .int .i64 er])) (hs : SigAt w' A n B k) (hk : Keep w w') : RWE w e w' := ⟨A, n, c, B, k, d, er, he, hs, hk⟩
/-- The box of an instruction. -/
structure IX (w : World) (bx : Nat) (op a b n : Int) : Prop where
  x0 : w.cell? ⟨bx, 0, none⟩ = some (.int .i64 op)
  x1 : w.cell? ⟨bx, 1, none⟩ = some (.int .i64 a)
  x2 : w.cell? ⟨bx, 2, none⟩ = some (.int .i64 b)
  x3 : w.cell? ⟨bx, 3, none⟩ = some (.int .u64 n)
  x4 : w.cell? ⟨bx, 4, none⟩ = some (.int .i64 0)
  x5 : w.cell? ⟨bx, 5, none⟩ = some (.int .i64 0)
  x6 : w.cell? ⟨bx, 6, none⟩ = some (.int .i64 0)
  x7 : w.cell? ⟨bx, 7, none⟩ = some (.slice none 0 0)
  x8 : w.cell? ⟨bx, 8, none⟩ = some (.slice none 0 0)
  lx : bx < w.heap.size
theorem Blk.ix {w : World} {bx : Nat} {T : TypeId} {op a b n : Int} (h : Blk w bx T [.int .i64 op, .int .i64 a, .int .i64 b, .int .u64 n, .int .i64 0, .int .i64 0, .int .i64 0, .slice none 0 0, .slice none 0 0]) : IX w bx op a b n :=
  ⟨h.cell 0, h.cell 1, h.cell 2, h.cell 3, h.cell 4, h.cell 5, h.cell 6, h.cell 7, h.cell 8, h.lt⟩
set_option maxHeartbeats 8000000 in
set_option maxRecDepth 100000 in
theorem Wants23_calls (m : MdD) (op a b n : Int) (w : World) (h : MdOk w m) (ha : (Lit.int .i64 a).wf = true) (hb : (Lit.int .i64 b).wf = true) : Calls Tryz.prog 136 #[.agg (mdC m).toArray, .slice none 0 0, .agg #[.int .i64 op, .int .i64 a, .int .i64 b, .int .u64 n, .int .i64 0, .int .i64 0, .int .i64 0, .slice none 0 0, .slice none 0 0]] w (RWE w) := by
  obtain ⟨W, hW, kW, bW, sW⟩ := boxN w 33 (mdC m)
  obtain ⟨V, hV, kV, bV, sV⟩ := boxN W 215 [.int .i64 op, .int .i64 a, .int .i64 b, .int .u64 n, .int .i64 0, .int .i64 0, .int .i64 0, .slice none 0 0, .slice none 0 0]
  obtain ⟨U, hU, kU, bU, sU⟩ := boxN V 36 [.slice none 0 0, .slice none 0 0]
  have Hc := Lib.hid (fun (w' : World) (k : Keep U w') => (((bW.keep kV).keep kU).keep k).md)
  have Hv := Lib.hid (fun (w' : World) (k : Keep U w') => ((bV.keep kU).keep k).ix)
  have Hy := Lib.hid (fun (w' : World) (k : Keep U w') => (bU.keep k).yx)
  have Hyb := Lib.hid (fun (w' : World) (k : Keep U w') => bU.keep k)
  have kk := (kW.trans kV).trans kU
  have hle : w.heap.size ≤ V.heap.size := (kW.trans kV).size
  have Hm := Lib.hid (fun (w' : World) (k : Keep U w') => h.keep (kk.trans k))
  have Ha := Lib.hid ha
  have Hb := Lib.hid hb
  have K0 : Keep U U := Keep.refl _
  obtain ⟨c0, c1, c2, c3, c4, c5, c6, c7, c8, c9, ca, cb, lt⟩ := Hc.out U K0
  obtain ⟨x0, x1, x2, x3, x4, x5, x6, x7, x8, lx⟩ := Hv.out U K0
  obtain ⟨y0, y1, f0, f1, l1, l2, l3, l4⟩ := Hy.out U K0
  clear h ha hb bW bV bU sW sV sU
  go_enter Tryz.func136, Tryz.ntmps136
  go_wp2_with fail
  refine (plainIs_calls op a b n _).mono ?_
  rintro e w4 ⟨r, rfl, hq, hk4⟩
  have K4 : Keep U w4 := hk4
  clear hk4
  clear c0 c1 c2 c3 c4 c5 c6 c7 c8 c9 ca cb lt x0 x1 x2 x3 x4 x5 x6 x7 x8 lx y0 y1 f0 f1 l1 l2 l3 l4
  obtain ⟨c0, c1, c2, c3, c4, c5, c6, c7, c8, c9, ca, cb, lt⟩ := Hc.out w4 K4
  obtain ⟨x0, x1, x2, x3, x4, x5, x6, x7, x8, lx⟩ := Hv.out w4 K4
  obtain ⟨y0, y1, f0, f1, l1, l2, l3, l4⟩ := Hy.out w4 K4
  cases r with
  | false =>
    clear hq
    go_wp2
    all_goals (refine bodyPost_ret (by simp [results, Tryz.results136, go_sem, y0, y1, f0, f1, l1, l2, l3, l4] <;> rfl) rfl ?_)
    all_goals (refine RWE.mk rfl ?_ ?_)
    all_goals first
      | exact trivial
      | exact SigAt.nil _
      | exact SigAt.alloc (SigAt.box HsF.out (Hyb.out _ K4) _ _) _
      | exact SigAt.box HsF.out (Hyb.out _ K4) _ _
      | (repeat (first | apply Keep.alloc | refine Keep.setCell (p := ⟨V.heap.size, _, none⟩) ?_ hle _)
         exact kk.trans K4)
  | true =>
    have hq2 := hq rfl
    have Hq6 := Lib.hid hq2.2
    have Hq7 := Lib.hid hq2.1
    clear hq hq2
    go_wp2_with fail
    refine (wants23_calls m op a b n _ (Hm.out _ K4) Ha.out Hb.out Hq6.out Hq7.out).mono ?_
    rintro e w5 ⟨A, nn, c, B, kq, d, er, rfl, hs, hk5⟩
    have hk5s := hk5.size
    have hV4 : V.heap.size < w4.heap.size := l1
    obtain ⟨X, hX, kX, bX, sX⟩ := boxN w5 234 [.slice A nn c, .slice B kq d, .int .i64 er]
    have K5 : Keep U X := (K4.trans hk5).trans kX
    clear K4
    have K4 := K5
    have HsF := Lib.hid (hs.keep kX)
    have z0 : X.cell? ⟨w5.heap.size, 0, none⟩ = some (.slice A nn c) := bX.cell 0
    have z1 : X.cell? ⟨w5.heap.size, 1, none⟩ = some (.slice B kq d) := bX.cell 1
    have z2 : X.cell? ⟨w5.heap.size, 2, none⟩ = some (.int .i64 er) := bX.cell 2
    have zl := bX.lt
    clear hs hk5 K5
    clear c0 c1 c2 c3 c4 c5 c6 c7 c8 c9 ca cb lt x0 x1 x2 x3 x4 x5 x6 x7 x8 lx y0 y1 f0 f1 l1 l2 l3 l4
    obtain ⟨c0, c1, c2, c3, c4, c5, c6, c7, c8, c9, ca, cb, lt⟩ := Hc.out X K4
    obtain ⟨x0, x1, x2, x3, x4, x5, x6, x7, x8, lx⟩ := Hv.out X K4
    obtain ⟨y0, y1, f0, f1, l1, l2, l3, l4⟩ := Hy.out X K4
    have hV5 : V.heap.size < w5.heap.size := Nat.lt_of_lt_of_le hV4 hk5s
    by_cases he : er = 0
    · have heb : (er != 0) = false := by simpa using he
      clear bX sX kX he
      go_wp2
      all_goals (refine bodyPost_ret (by simp [results, Tryz.results136, go_sem, y0, y1, f0, f1, l1, l2, l3, l4] <;> rfl) rfl ?_)
      all_goals (refine RWE.mk rfl ?_ ?_)
      all_goals first
        | exact trivial
        | exact SigAt.nil _
        | exact SigAt.alloc (SigAt.box HsF.out (Hyb.out _ K4) _ _) _
        | exact SigAt.box HsF.out (Hyb.out _ K4) _ _
        | (repeat (first | apply Keep.alloc | refine Keep.setCell (p := ⟨V.heap.size, _, none⟩) ?_ hle _)
           exact kk.trans K4)
    · have heb : (er != 0) = true := by simpa using he
      have hlt1 : ¬ w5.heap.size = V.heap.size := by omega
      have ez2 := fun z : KE (fun q => q = V.heap.size) X => z.cell z2 hlt1
      have el1 : V.heap.size < X.heap.size := l1
      clear bX sX kX he
      obtain ⟨wd, hwd⟩ : ∃ wd, X.drew = wd := ⟨_, rfl⟩
      have hd : Keep X wd := by rw [← hwd]; exact (Keep.refl _).drew
      have Kd : Keep U wd := K4.trans hd
      go_wp2_with fail
      refine region_begin (S := fun w' => ∃ z : KE (fun q => q = V.heap.size) X, w' = z.val) (by kernel_rfl) ?_
      rw [hwd]
      refine region_take [0, 1, 2] [] 2 (by kernel_rfl) (by kernel_rfl) (KE.mk' (hd.ext (fun q => q = V.heap.size))) ?_
      show wpQuiet _ _ _ _ [_, _, _] _
      repeat (go_big_quiet_step (fail))
      refine wpQuiet_nil ?_
      clear ez2 c0 c1 c2 c3 c4 c5 c6 c7 c8 c9 ca cb lt x0 x1 x2 x3 x4 x5 x6 x7 x8 lx y0 y1 f0 f1 l1 l2 l3 l4
      obtain ⟨y0, y1, f0, f1, l1, l2, l3, l4⟩ := Hy.out wd Kd
      clear hwd
      refine region_fixU (i := 3) (fuel := 1) rfl rfl (by kernel_rfl) (fun K hK => ?_)
      go_simp
      refine hK _ _ (KE.mk' (((hd.ext (fun q => q = V.heap.size)).setCell (p := ⟨V.heap.size, 0, none⟩) (fun _ => rfl) _).setCell (p := ⟨V.heap.size, 1, none⟩) (fun _ => rfl) _)) ?_
      clear hK K
      refine region_take [4] [0, 1, 2, 3] 0 (by kernel_rfl) (by kernel_rfl) (KE.mk' (((hd.ext (fun q => q = V.heap.size)).setCell (p := ⟨V.heap.size, 0, none⟩) (fun _ => rfl) _).setCell (p := ⟨V.heap.size, 1, none⟩) (fun _ => rfl) _)) ?_
      show wpQuiet _ _ _ _ [_] _
      repeat (go_big_quiet_step (fail))
      refine wpQuiet_nil ?_
      refine region_done (by kernel_rfl) ?_
      clear K4
      have K4 := Kd
      go_wp2
      all_goals (refine bodyPost_ret (by simp [results, Tryz.results136, go_sem, y0, y1, f0, f1, l1, l2, l3, l4] <;> rfl) rfl ?_)
      all_goals (refine RWE.mk rfl ?_ ?_)
      all_goals first
        | exact trivial
        | exact SigAt.nil _
        | exact SigAt.alloc (SigAt.box HsF.out (Hyb.out _ K4) _ _) _
        | exact SigAt.box HsF.out (Hyb.out _ K4) _ _
        | (repeat (first | apply Keep.alloc | refine Keep.setCell (p := ⟨V.heap.size, _, none⟩) ?_ hle _)
           exact kk.trans K4)
set_option maxHeartbeats 8000000 in
set_option maxRecDepth 100000 in
theorem wants39_calls (m : MdD) (op a b n : Int) (w : World) (h : MdOk w m) (ha : (Lit.int .i64 a).wf = true) (hb : (Lit.int .i64 b).wf = true) : Calls Tryz.prog 122 #[.agg (mdC m).toArray, .int .i64 op, .int .i64 a, .int .i64 b, .int .u64 n] w (RSB w fun _ _ => True) := by
  obtain ⟨W, hW, kW, bW, sW⟩ := boxN w 33 (mdC m)
  obtain ⟨U, hU, kU, bU, sU⟩ := boxN W 36 [.slice none 0 0, .slice none 0 0]
  have Hy := Lib.hid (fun (w' : World) (k : Keep U w') => (bU.keep k).yx)
  have Hyb := Lib.hid (fun (w' : World) (k : Keep U w') => bU.keep k)
  have kk := kW.trans kU
  have hle : w.heap.size ≤ W.heap.size := kW.size
  have Hw := Lib.hid (Wants23_calls m op a b n U (h.keep kk) ha hb)
  obtain ⟨c0, c1, c2, c3, c4, c5, c6, c7, c8, c9, ca, cb, lt⟩ := (bW.keep kU).md
  clear h ha hb bW bU sW sU
  go_enter Tryz.func122, Tryz.ntmps122
  go_wp2_with fail
  refine Hw.out.mono ?_
  rintro e w5 ⟨A, nn, c, B, kq, d, er, rfl, hs, hk5⟩
  obtain ⟨X, hX, kX, bX, sX⟩ := boxN w5 36 [.slice A nn c, .slice B kq d]
  have K4 : Keep U X := hk5.trans kX
  have HsF := Lib.hid (hs.keep kX)
  have z0 : X.cell? ⟨w5.heap.size, 0, none⟩ = some (.slice A nn c) := bX.cell 0
  have z1 : X.cell? ⟨w5.heap.size, 1, none⟩ = some (.slice B kq d) := bX.cell 1
  have zl := bX.lt
  clear hs hk5 c0 c1 c2 c3 c4 c5 c6 c7 c8 c9 ca cb lt Hw bX sX kX
  obtain ⟨y0, y1, f0, f1, l1, l2, l3, l4⟩ := Hy.out X K4
  go_wp2
  all_goals (refine bodyPost_ret (by simp [results, Tryz.results122, go_sem, y0, y1, f0, f1, l1, l2, l3, l4] <;> rfl) rfl ?_)
  all_goals (refine RSB.mk rfl ?_ ?_ ?_)
  all_goals first
    | exact trivial
    | exact SigAt.nil _
    | exact SigAt.alloc (SigAt.box HsF.out (Hyb.out _ K4) _ _) _
    | exact SigAt.box HsF.out (Hyb.out _ K4) _ _
    | (repeat (first | apply Keep.alloc | refine Keep.setCell (p := ⟨W.heap.size, _, none⟩) ?_ hle _)
       exact kk.trans K4)
end Go.Proofs.YtjpmiejgcnfiiaaGreat
