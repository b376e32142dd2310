import Derived.Test.YtjpmiejgcnfiiaaGreatQ20
set_option linter.unusedVariables false
set_option linter.unusedSimpArgs false
namespace Go.Proofs.YtjpmiejgcnfiiaaGreat
open Go Go.RowKit

set_option maxHeartbeats 8000000 in
set_option maxRecDepth 100000 in
theorem memory23_calls (m : MdD) (op a b n : Int) (w : World) (h : MdOk w m) (ha : (Lit.int .i64 a).wf = true) (hb : (Lit.int .i64 b).wf = true) : Calls Tryz.prog 166 #[.agg (mdC m).toArray, .agg #[.int .i64 op, .int .i64 a, .int .i64 b, .int .u64 n, .int .i64 0, .int .i64 0, .int .i64 0, .slice none 0 0, .slice none 0 0]] w (RW w) := by
  obtain ⟨W, hW, kW, bW, sW⟩ := boxN w 33 (mdC m)
  obtain ⟨V, hV, kV, bV, sV⟩ := boxN W 215 [.int .i64 op, .int .i64 a, .int .i64 b, .int .u64 n, .int .i64 0, .int .i64 0, .int .i64 0, .slice none 0 0, .slice none 0 0]
  obtain ⟨U, hU, kU, bU, sU⟩ := boxN V 234 [.slice none 0 0, .slice none 0 0, .int .i64 0]
  have Hs := Lib.hid (fun (w' : World) (k : Keep U w') => rule3 (((bW.keep kV).keep kU).keep k) ((bV.keep kU).keep k) (bU.keep k))
  have Hyb := Lib.hid (fun (w' : World) (k : Keep U w') => bU.keep k)
  have kk := (kW.trans kV).trans kU
  have hle : w.heap.size ≤ V.heap.size := (kW.trans kV).size
  have Hm := Lib.hid (fun (w' : World) (k : Keep U w') => h.keep (kk.trans k))
  have Ha := Lib.hid ha
  have Hb := Lib.hid hb
  have K0 : Keep U U := Keep.refl _
  obtain ⟨c0, c1, c2, c3, c4, c5, c6, c7, c8, c9, ca, cb, lt, x0, x1, x2, x3, x4, x5, x6, x7, x8, y0, y1, y2, f0, f1, f2, l1, l2, l3, l4, lx1, lx2, lx3, lx4, lt2, lt3, lt4⟩ := Hs.out U K0
  clear h ha hb bW bV bU sW sV sU
  obtain ⟨im, him⟩ : ∃ im, (findRow op).1.imm = im := ⟨_, rfl⟩
  have Hof := Lib.hid (fun w' => him ▸ of05_calls op w')
  clear him
  by_cases h1 : op = 64522
  · subst h1
    go_enter Tryz.func166, Tryz.ntmps166
    go_wp2_with fail
    refine (has23_calls m _ _ (Hm.out _ K0) Ha.out).mono ?_
    rintro e w4 ⟨r4, rfl, _, hk4⟩
    have K4 : Keep U w4 := hk4
    clear hk4 c0 c1 c2 c3 c4 c5 c6 c7 c8 c9 ca cb lt x0 x1 x2 x3 x4 x5 x6 x7 x8 y0 y1 y2 f0 f1 f2 l1 l2 l3 l4 lx1 lx2 lx3 lx4 lt2 lt3 lt4
    obtain ⟨c0, c1, c2, c3, c4, c5, c6, c7, c8, c9, ca, cb, lt, x0, x1, x2, x3, x4, x5, x6, x7, x8, y0, y1, y2, f0, f1, f2, l1, l2, l3, l4, lx1, lx2, lx3, lx4, lt2, lt3, lt4⟩ := Hs.out w4 K4
    cases r4 with
    | false =>
      go_wp2_with ((go_at_call 156; refine (bad23_calls _ _).mono ?_; rintro e w5 ⟨rfl, rfl⟩))
      all_goals (refine bodyPost_ret (by simp [results, Tryz.results166, go_sem, y0, y1, y2, f0, f1, f2, l1, l2, l3, l4] <;> rfl) rfl ?_)
      all_goals (refine RW.mk rfl ?_ ?_)
      all_goals first
        | exact SigAt.nil _
        | exact HsS.out.box3 (Hyb.out _ K4) _ _ _
        | exact SigAt.alloc (HsS.out.box3 (Hyb.out _ K4) _ _ _) _
        | exact HsF.out.box3 (Hyb.out _ K4) _ _ _
        | exact SigAt.alloc (HsF.out.box3 (Hyb.out _ K4) _ _ _) _
        | exact ⟨by first | exact IntsAt.nil _ _ | exact IntsAt.one (by simp [go_sem] <;> rfl) | exact IntsAt.two (by simp [go_sem] <;> rfl) (by simp [go_sem] <;> rfl) | exact IntsAt.three (by simp [go_sem] <;> rfl) (by simp [go_sem] <;> rfl) (by simp [go_sem] <;> rfl), by first | exact IntsAt.nil _ _ | exact IntsAt.one (by simp [go_sem] <;> rfl)⟩
        | (repeat (first | apply Keep.alloc | refine Keep.setCell (p := ⟨V.heap.size, _, none⟩) ?_ hle _)
           first | exact kk.trans K4 | exact kk)
    | true =>
      go_wp2_with fail
      obtain ⟨wd, hwd⟩ : ∃ wd, w4.drew = wd := ⟨_, rfl⟩
      have hd : Keep w4 wd := by rw [← hwd]; exact (Keep.refl _).drew
      have ec0 := fun z : KW w4 => z.cell c0
      have ec1 := fun z : KW w4 => z.cell c1
      have ec2 := fun z : KW w4 => z.cell c2
      have ec3 := fun z : KW w4 => z.cell c3
      have ec4 := fun z : KW w4 => z.cell c4
      have ec5 := fun z : KW w4 => z.cell c5
      have ec6 := fun z : KW w4 => z.cell c6
      have ec7 := fun z : KW w4 => z.cell c7
      have ec8 := fun z : KW w4 => z.cell c8
      have ec9 := fun z : KW w4 => z.cell c9
      have eca := fun z : KW w4 => z.cell ca
      have ecb := fun z : KW w4 => z.cell cb
      have ex0 := fun z : KW w4 => z.cell x0
      have ex1 := fun z : KW w4 => z.cell x1
      have ex2 := fun z : KW w4 => z.cell x2
      have ex3 := fun z : KW w4 => z.cell x3
      have ex4 := fun z : KW w4 => z.cell x4
      have ex5 := fun z : KW w4 => z.cell x5
      have ex6 := fun z : KW w4 => z.cell x6
      have ex7 := fun z : KW w4 => z.cell x7
      have ex8 := fun z : KW w4 => z.cell x8
      refine region_begin (S := fun w' => ∃ z : KW w4, w' = z.val) (by kernel_rfl) ?_
      rw [hwd]
      refine region_take [0, 1, 2, 3, 4, 5, 6] [] 4 (by kernel_rfl) (by kernel_rfl) (InK.mk' hd) ?_
      show wpQuiet _ _ _ _ [_, _, _, _, _, _, _] _
      repeat (go_big_quiet_step (fail))
      refine wpQuiet_nil ?_
      clear hwd
      refine region_fix (i := 7) (fuel := 3) rfl (by kernel_rfl) (fun K hK => ?_)
      go_simp
      obtain ⟨w5, h5e⟩ : ∃ w5, wd = w5 := ⟨_, rfl⟩
      have h5 : Keep w4 w5 := by rw [← h5e]; exact hd
      rw [h5e]
      refine hK _ _ (InK.mk' h5) ?_
      clear hK K
      refine region_take [8, 9, 10] [0, 1, 2, 3, 4, 5, 6, 7] 0 (by kernel_rfl) (by kernel_rfl) (InK.mk' h5) ?_
      show wpQuiet _ _ _ _ [_, _, _] _
      repeat (go_big_quiet_step (fail))
      refine wpQuiet_nil ?_
      refine region_done (by kernel_rfl) ?_
      have K5 : Keep U w5 := Keep.trans K4 h5
      clear ec0 ec1 ec2 ec3 ec4 ec5 ec6 ec7 ec8 ec9 eca ecb ex0 ex1 ex2 ex3 ex4 ex5 ex6 ex7 ex8 c0 c1 c2 c3 c4 c5 c6 c7 c8 c9 ca cb lt x0 x1 x2 x3 x4 x5 x6 x7 x8 y0 y1 y2 f0 f1 f2 l1 l2 l3 l4 lx1 lx2 lx3 lx4 lt2 lt3 lt4
      obtain ⟨c0, c1, c2, c3, c4, c5, c6, c7, c8, c9, ca, cb, lt, x0, x1, x2, x3, x4, x5, x6, x7, x8, y0, y1, y2, f0, f1, f2, l1, l2, l3, l4, lx1, lx2, lx3, lx4, lt2, lt3, lt4⟩ := Hs.out w5 K5
      clear hd
      go_wp2_with fail
      refine (has23_calls m _ _ (Hm.out _ K5) Hb.out).mono ?_
      rintro e w6 ⟨r6, rfl, _, hk6⟩
      have K6 : Keep U w6 := Keep.trans K5 hk6
      clear hk6 c0 c1 c2 c3 c4 c5 c6 c7 c8 c9 ca cb lt x0 x1 x2 x3 x4 x5 x6 x7 x8 y0 y1 y2 f0 f1 f2 l1 l2 l3 l4 lx1 lx2 lx3 lx4 lt2 lt3 lt4
      obtain ⟨c0, c1, c2, c3, c4, c5, c6, c7, c8, c9, ca, cb, lt, x0, x1, x2, x3, x4, x5, x6, x7, x8, y0, y1, y2, f0, f1, f2, l1, l2, l3, l4, lx1, lx2, lx3, lx4, lt2, lt3, lt4⟩ := Hs.out w6 K6
      cases r6 with
      | false =>
        go_wp2_with ((go_at_call 156; refine (bad23_calls _ _).mono ?_; rintro e w5 ⟨rfl, rfl⟩))
        all_goals (refine bodyPost_ret (by simp [results, Tryz.results166, go_sem, y0, y1, y2, f0, f1, f2, l1, l2, l3, l4] <;> rfl) rfl ?_)
        all_goals (refine RW.mk rfl ?_ ?_)
        all_goals first
          | exact SigAt.nil _
          | exact HsS.out.box3 (Hyb.out _ K6) _ _ _
          | exact SigAt.alloc (HsS.out.box3 (Hyb.out _ K6) _ _ _) _
          | exact HsF.out.box3 (Hyb.out _ K6) _ _ _
          | exact SigAt.alloc (HsF.out.box3 (Hyb.out _ K6) _ _ _) _
          | exact ⟨by first | exact IntsAt.nil _ _ | exact IntsAt.one (by simp [go_sem] <;> rfl) | exact IntsAt.two (by simp [go_sem] <;> rfl) (by simp [go_sem] <;> rfl) | exact IntsAt.three (by simp [go_sem] <;> rfl) (by simp [go_sem] <;> rfl) (by simp [go_sem] <;> rfl), by first | exact IntsAt.nil _ _ | exact IntsAt.one (by simp [go_sem] <;> rfl)⟩
          | (repeat (first | apply Keep.alloc | refine Keep.setCell (p := ⟨V.heap.size, _, none⟩) ?_ hle _)
             first | exact kk.trans K6 | exact kk)
      | true =>
        obtain ⟨we, hwe⟩ : ∃ we, w6.drew = we := ⟨_, rfl⟩
        have hd : Keep w6 we := by rw [← hwe]; exact (Keep.refl _).drew
        have ec0 := fun z : KW w6 => z.cell c0
        have ec1 := fun z : KW w6 => z.cell c1
        have ec2 := fun z : KW w6 => z.cell c2
        have ec3 := fun z : KW w6 => z.cell c3
        have ec4 := fun z : KW w6 => z.cell c4
        have ec5 := fun z : KW w6 => z.cell c5
        have ec6 := fun z : KW w6 => z.cell c6
        have ec7 := fun z : KW w6 => z.cell c7
        have ec8 := fun z : KW w6 => z.cell c8
        have ec9 := fun z : KW w6 => z.cell c9
        have eca := fun z : KW w6 => z.cell ca
        have ecb := fun z : KW w6 => z.cell cb
        have ex0 := fun z : KW w6 => z.cell x0
        have ex1 := fun z : KW w6 => z.cell x1
        have ex2 := fun z : KW w6 => z.cell x2
        have ex3 := fun z : KW w6 => z.cell x3
        have ex4 := fun z : KW w6 => z.cell x4
        have ex5 := fun z : KW w6 => z.cell x5
        have ex6 := fun z : KW w6 => z.cell x6
        have ex7 := fun z : KW w6 => z.cell x7
        have ex8 := fun z : KW w6 => z.cell x8
        go_wp2_with fail
        by_cases h17 : im = 17
        · subst h17
          refine region_begin (S := fun w' => ∃ z : KW w6, w' = z.val) (by kernel_rfl) ?_
          rw [hwe]
          refine region_take [0, 1] [] 11 (by kernel_rfl) (by kernel_rfl) (InK.mk' hd) ?_
          show wpQuiet _ _ _ _ [_, _] _
          repeat (go_big_quiet_step (fail))
          refine wpQuiet_nil ?_
          clear hwe
          refine region_fix (i := 2) (fuel := 10) rfl (by kernel_rfl) (fun K hK => ?_)
          go_simp
          refine (Hof.out _).mono ?_
          rintro e w7 ⟨rfl, hk7⟩
          have h7 := hd.trans hk7
          refine hK _ _ (InK.mk' h7) ?_
          clear hK K
          refine region_take [3, 4, 5, 6, 7, 8] [0, 1, 2] 4 (by kernel_rfl) (by kernel_rfl) (InK.mk' h7) ?_
          show wpQuiet _ _ _ _ [_, _, _, _, _, _] _
          repeat (go_big_quiet_step (fail))
          refine wpQuiet_nil ?_
          refine region_fix (i := 9) (fuel := 3) rfl (by kernel_rfl) (fun K hK => ?_)
          go_simp
          refine (align05_calls _ _).mono ?_
          rintro e w8 ⟨z, rfl, _, hk8⟩
          have h8 := h7.trans hk8
          refine hK _ _ (InK.mk' h8) ?_
          clear hK K
          refine region_take [10, 11, 12] [0, 1, 2, 3, 4, 5, 6, 7, 8, 9] 0 (by kernel_rfl) (by kernel_rfl) (InK.mk' h8) ?_
          show wpQuiet _ _ _ _ [_, _, _] _
          repeat (go_big_quiet_step (fail))
          refine wpQuiet_nil ?_
          refine region_done (by kernel_rfl) ?_
          have K4 : Keep U w8 := K6.trans h8
          clear ec0 ec1 ec2 ec3 ec4 ec5 ec6 ec7 ec8 ec9 eca ecb ex0 ex1 ex2 ex3 ex4 ex5 ex6 ex7 ex8 c0 c1 c2 c3 c4 c5 c6 c7 c8 c9 ca cb lt x0 x1 x2 x3 x4 x5 x6 x7 x8 y0 y1 y2 f0 f1 f2 l1 l2 l3 l4 lx1 lx2 lx3 lx4 lt2 lt3 lt4
          obtain ⟨c0, c1, c2, c3, c4, c5, c6, c7, c8, c9, ca, cb, lt, x0, x1, x2, x3, x4, x5, x6, x7, x8, y0, y1, y2, f0, f1, f2, l1, l2, l3, l4, lx1, lx2, lx3, lx4, lt2, lt3, lt4⟩ := Hs.out w8 K4
          go_wp2_with (first
    | (go_at_call 156; refine (bad23_calls _ _).mono ?_; rintro e w5 ⟨rfl, rfl⟩)
    | (go_at_call 168; refine (sig23_calls _ _).mono ?_; rintro e w4 ⟨A, nn, c, B, k, d, er, rfl, hs, hk4⟩; have K4 : Keep U w4 := Keep.trans (by repeat (first | assumption | apply Keep.alloc)) hk4; clear hk4 c0 c1 c2 c3 c4 c5 c6 c7 c8 c9 ca cb lt x0 x1 x2 x3 x4 x5 x6 x7 x8 y0 y1 y2 f0 f1 f2 l1 l2 l3 l4 lx1 lx2 lx3 lx4 lt2 lt3 lt4; obtain ⟨c0, c1, c2, c3, c4, c5, c6, c7, c8, c9, ca, cb, lt, x0, x1, x2, x3, x4, x5, x6, x7, x8, y0, y1, y2, f0, f1, f2, l1, l2, l3, l4, lx1, lx2, lx3, lx4, lt2, lt3, lt4⟩ := Hs.out w4 K4; have HsS := Lib.hid hs; clear hs))
          all_goals (refine bodyPost_ret (by simp [results, Tryz.results166, go_sem, y0, y1, y2, f0, f1, f2, l1, l2, l3, l4] <;> rfl) rfl ?_)
          all_goals (refine RW.mk rfl ?_ ?_)
          all_goals first
            | exact SigAt.nil _
            | exact HsS.out.box3 (Hyb.out _ K4) _ _ _
            | exact SigAt.alloc (HsS.out.box3 (Hyb.out _ K4) _ _ _) _
            | exact HsF.out.box3 (Hyb.out _ K4) _ _ _
            | exact SigAt.alloc (HsF.out.box3 (Hyb.out _ K4) _ _ _) _
            | exact ⟨by first | exact IntsAt.nil _ _ | exact IntsAt.one (by simp [go_sem] <;> rfl) | exact IntsAt.two (by simp [go_sem] <;> rfl) (by simp [go_sem] <;> rfl) | exact IntsAt.three (by simp [go_sem] <;> rfl) (by simp [go_sem] <;> rfl) (by simp [go_sem] <;> rfl), by first | exact IntsAt.nil _ _ | exact IntsAt.one (by simp [go_sem] <;> rfl)⟩
            | (repeat (first | apply Keep.alloc | refine Keep.setCell (p := ⟨V.heap.size, _, none⟩) ?_ hle _)
               first | exact kk.trans K4 | exact kk)
        · have h17b : (im == 17) = false := by simpa using h17
          refine region_begin (S := fun w' => ∃ z : KW w6, w' = z.val) (by kernel_rfl) ?_
          rw [hwe]
          refine region_take [0, 1] [] 11 (by kernel_rfl) (by kernel_rfl) (InK.mk' hd) ?_
          show wpQuiet _ _ _ _ [_, _] _
          repeat (go_big_quiet_step (fail))
          refine wpQuiet_nil ?_
          clear hwe
          refine region_fix (i := 2) (fuel := 10) rfl (by kernel_rfl) (fun K hK => ?_)
          go_simp
          refine (Hof.out _).mono ?_
          rintro e w7 ⟨rfl, hk7⟩
          have h7 := hd.trans hk7
          refine hK _ _ (InK.mk' h7) ?_
          clear hK K
          refine region_take [3, 4, 5, 6, 7, 8] [0, 1, 2] 4 (by kernel_rfl) (by kernel_rfl) (InK.mk' h7) ?_
          show wpQuiet _ _ _ _ [_, _, _, _, _, _] _
          repeat (go_big_quiet_step (fail))
          refine wpQuiet_nil ?_
          refine region_fix (i := 9) (fuel := 3) rfl (by kernel_rfl) (fun K hK => ?_)
          go_simp
          obtain ⟨w8, h8e⟩ : ∃ w8, w7 = w8 := ⟨_, rfl⟩
          have h8 : Keep w6 w8 := by rw [← h8e]; exact h7
          rw [h8e]
          refine hK _ _ (InK.mk' h8) ?_
          clear hK K
          refine region_take [10, 11, 12] [0, 1, 2, 3, 4, 5, 6, 7, 8, 9] 0 (by kernel_rfl) (by kernel_rfl) (InK.mk' h8) ?_
          show wpQuiet _ _ _ _ [_, _, _] _
          repeat (go_big_quiet_step (fail))
          refine wpQuiet_nil ?_
          refine region_done (by kernel_rfl) ?_
          have K4 : Keep U w8 := K6.trans h8
          clear ec0 ec1 ec2 ec3 ec4 ec5 ec6 ec7 ec8 ec9 eca ecb ex0 ex1 ex2 ex3 ex4 ex5 ex6 ex7 ex8 c0 c1 c2 c3 c4 c5 c6 c7 c8 c9 ca cb lt x0 x1 x2 x3 x4 x5 x6 x7 x8 y0 y1 y2 f0 f1 f2 l1 l2 l3 l4 lx1 lx2 lx3 lx4 lt2 lt3 lt4
          obtain ⟨c0, c1, c2, c3, c4, c5, c6, c7, c8, c9, ca, cb, lt, x0, x1, x2, x3, x4, x5, x6, x7, x8, y0, y1, y2, f0, f1, f2, l1, l2, l3, l4, lx1, lx2, lx3, lx4, lt2, lt3, lt4⟩ := Hs.out w8 K4
          go_wp2_with (first
    | (go_at_call 156; refine (bad23_calls _ _).mono ?_; rintro e w5 ⟨rfl, rfl⟩)
    | (go_at_call 168; refine (sig23_calls _ _).mono ?_; rintro e w4 ⟨A, nn, c, B, k, d, er, rfl, hs, hk4⟩; have K4 : Keep U w4 := Keep.trans (by repeat (first | assumption | apply Keep.alloc)) hk4; clear hk4 c0 c1 c2 c3 c4 c5 c6 c7 c8 c9 ca cb lt x0 x1 x2 x3 x4 x5 x6 x7 x8 y0 y1 y2 f0 f1 f2 l1 l2 l3 l4 lx1 lx2 lx3 lx4 lt2 lt3 lt4; obtain ⟨c0, c1, c2, c3, c4, c5, c6, c7, c8, c9, ca, cb, lt, x0, x1, x2, x3, x4, x5, x6, x7, x8, y0, y1, y2, f0, f1, f2, l1, l2, l3, l4, lx1, lx2, lx3, lx4, lt2, lt3, lt4⟩ := Hs.out w4 K4; have HsS := Lib.hid hs; clear hs))
          all_goals (refine bodyPost_ret (by simp [results, Tryz.results166, go_sem, y0, y1, y2, f0, f1, f2, l1, l2, l3, l4] <;> rfl) rfl ?_)
          all_goals (refine RW.mk rfl ?_ ?_)
          all_goals first
            | exact SigAt.nil _
            | exact HsS.out.box3 (Hyb.out _ K4) _ _ _
            | exact SigAt.alloc (HsS.out.box3 (Hyb.out _ K4) _ _ _) _
            | exact HsF.out.box3 (Hyb.out _ K4) _ _ _
            | exact SigAt.alloc (HsF.out.box3 (Hyb.out _ K4) _ _ _) _
            | exact ⟨by first | exact IntsAt.nil _ _ | exact IntsAt.one (by simp [go_sem] <;> rfl) | exact IntsAt.two (by simp [go_sem] <;> rfl) (by simp [go_sem] <;> rfl) | exact IntsAt.three (by simp [go_sem] <;> rfl) (by simp [go_sem] <;> rfl) (by simp [go_sem] <;> rfl), by first | exact IntsAt.nil _ _ | exact IntsAt.one (by simp [go_sem] <;> rfl)⟩
            | (repeat (first | apply Keep.alloc | refine Keep.setCell (p := ⟨V.heap.size, _, none⟩) ?_ hle _)
               first | exact kk.trans K4 | exact kk)
  have h1b : (op == 64522) = false := by simpa using h1
  by_cases h2 : op = 64520
  · subst h2
    go_enter Tryz.func166, Tryz.ntmps166
    go_wp2_with fail
    obtain ⟨wd, hwd⟩ : ∃ wd, U.drew = wd := ⟨_, rfl⟩
    have hd : Keep U wd := by rw [← hwd]; exact (Keep.refl _).drew
    have ec0 := fun z : KW U => z.cell c0
    have ec1 := fun z : KW U => z.cell c1
    have ec2 := fun z : KW U => z.cell c2
    have ec3 := fun z : KW U => z.cell c3
    have ec4 := fun z : KW U => z.cell c4
    have ec5 := fun z : KW U => z.cell c5
    have ec6 := fun z : KW U => z.cell c6
    have ec7 := fun z : KW U => z.cell c7
    have ec8 := fun z : KW U => z.cell c8
    have ec9 := fun z : KW U => z.cell c9
    have eca := fun z : KW U => z.cell ca
    have ecb := fun z : KW U => z.cell cb
    have ex0 := fun z : KW U => z.cell x0
    have ex1 := fun z : KW U => z.cell x1
    have ex2 := fun z : KW U => z.cell x2
    have ex3 := fun z : KW U => z.cell x3
    have ex4 := fun z : KW U => z.cell x4
    have ex5 := fun z : KW U => z.cell x5
    have ex6 := fun z : KW U => z.cell x6
    have ex7 := fun z : KW U => z.cell x7
    have ex8 := fun z : KW U => z.cell x8
    refine region_begin (S := fun w' => ∃ z : KW U, w' = z.val) (by kernel_rfl) ?_
    rw [hwd]
    refine region_take [0, 1, 2, 3, 4, 5, 6] [] 4 (by kernel_rfl) (by kernel_rfl) (InK.mk' hd) ?_
    show wpQuiet _ _ _ _ [_, _, _, _, _, _, _] _
    repeat (go_big_quiet_step (fail))
    refine wpQuiet_nil ?_
    clear hwd
    refine region_fix (i := 7) (fuel := 3) rfl (by kernel_rfl) (fun K hK => ?_)
    go_simp
    refine (datas08_calls m _ (Hm.out _ (Keep.trans K0 hd))).mono ?_
    rintro e w5 ⟨z, rfl, _, hk5⟩
    have h5 := hd.trans hk5
    refine hK _ _ (InK.mk' h5) ?_
    clear hK K
    refine region_take [8, 9, 10] [0, 1, 2, 3, 4, 5, 6, 7] 0 (by kernel_rfl) (by kernel_rfl) (InK.mk' h5) ?_
    show wpQuiet _ _ _ _ [_, _, _] _
    repeat (go_big_quiet_step (fail))
    refine wpQuiet_nil ?_
    refine region_done (by kernel_rfl) ?_
    have K5 : Keep U w5 := Keep.trans K0 h5
    clear ec0 ec1 ec2 ec3 ec4 ec5 ec6 ec7 ec8 ec9 eca ecb ex0 ex1 ex2 ex3 ex4 ex5 ex6 ex7 ex8 c0 c1 c2 c3 c4 c5 c6 c7 c8 c9 ca cb lt x0 x1 x2 x3 x4 x5 x6 x7 x8 y0 y1 y2 f0 f1 f2 l1 l2 l3 l4 lx1 lx2 lx3 lx4 lt2 lt3 lt4
    obtain ⟨c0, c1, c2, c3, c4, c5, c6, c7, c8, c9, ca, cb, lt, x0, x1, x2, x3, x4, x5, x6, x7, x8, y0, y1, y2, f0, f1, f2, l1, l2, l3, l4, lx1, lx2, lx3, lx4, lt2, lt3, lt4⟩ := Hs.out w5 K5
    clear hd
    by_cases hz : z ≤ a
    · go_wp2_with ((go_at_call 156; refine (bad23_calls _ _).mono ?_; rintro e w5 ⟨rfl, rfl⟩))
      all_goals (refine bodyPost_ret (by simp [results, Tryz.results166, go_sem, y0, y1, y2, f0, f1, f2, l1, l2, l3, l4] <;> rfl) rfl ?_)
      all_goals (refine RW.mk rfl ?_ ?_)
      all_goals first
        | exact SigAt.nil _
        | exact HsS.out.box3 (Hyb.out _ K5) _ _ _
        | exact SigAt.alloc (HsS.out.box3 (Hyb.out _ K5) _ _ _) _
        | exact HsF.out.box3 (Hyb.out _ K5) _ _ _
        | exact SigAt.alloc (HsF.out.box3 (Hyb.out _ K5) _ _ _) _
        | exact ⟨by first | exact IntsAt.nil _ _ | exact IntsAt.one (by simp [go_sem] <;> rfl) | exact IntsAt.two (by simp [go_sem] <;> rfl) (by simp [go_sem] <;> rfl) | exact IntsAt.three (by simp [go_sem] <;> rfl) (by simp [go_sem] <;> rfl) (by simp [go_sem] <;> rfl), by first | exact IntsAt.nil _ _ | exact IntsAt.one (by simp [go_sem] <;> rfl)⟩
        | (repeat (first | apply Keep.alloc | refine Keep.setCell (p := ⟨V.heap.size, _, none⟩) ?_ hle _)
           first | exact kk.trans K5 | exact kk)
    · go_wp2_with fail
      refine (has23_calls m _ _ (Hm.out _ K5) Hb.out).mono ?_
      rintro e w6 ⟨r6, rfl, _, hk6⟩
      have K6 : Keep U w6 := Keep.trans K5 hk6
      clear hk6 c0 c1 c2 c3 c4 c5 c6 c7 c8 c9 ca cb lt x0 x1 x2 x3 x4 x5 x6 x7 x8 y0 y1 y2 f0 f1 f2 l1 l2 l3 l4 lx1 lx2 lx3 lx4 lt2 lt3 lt4
      obtain ⟨c0, c1, c2, c3, c4, c5, c6, c7, c8, c9, ca, cb, lt, x0, x1, x2, x3, x4, x5, x6, x7, x8, y0, y1, y2, f0, f1, f2, l1, l2, l3, l4, lx1, lx2, lx3, lx4, lt2, lt3, lt4⟩ := Hs.out w6 K6
      cases r6 with
      | false =>
        go_wp2_with ((go_at_call 156; refine (bad23_calls _ _).mono ?_; rintro e w5 ⟨rfl, rfl⟩))
        all_goals (refine bodyPost_ret (by simp [results, Tryz.results166, go_sem, y0, y1, y2, f0, f1, f2, l1, l2, l3, l4] <;> rfl) rfl ?_)
        all_goals (refine RW.mk rfl ?_ ?_)
        all_goals first
          | exact SigAt.nil _
          | exact HsS.out.box3 (Hyb.out _ K6) _ _ _
          | exact SigAt.alloc (HsS.out.box3 (Hyb.out _ K6) _ _ _) _
          | exact HsF.out.box3 (Hyb.out _ K6) _ _ _
          | exact SigAt.alloc (HsF.out.box3 (Hyb.out _ K6) _ _ _) _
          | exact ⟨by first | exact IntsAt.nil _ _ | exact IntsAt.one (by simp [go_sem] <;> rfl) | exact IntsAt.two (by simp [go_sem] <;> rfl) (by simp [go_sem] <;> rfl) | exact IntsAt.three (by simp [go_sem] <;> rfl) (by simp [go_sem] <;> rfl) (by simp [go_sem] <;> rfl), by first | exact IntsAt.nil _ _ | exact IntsAt.one (by simp [go_sem] <;> rfl)⟩
          | (repeat (first | apply Keep.alloc | refine Keep.setCell (p := ⟨V.heap.size, _, none⟩) ?_ hle _)
             first | exact kk.trans K6 | exact kk)
      | true =>
        obtain ⟨we, hwe⟩ : ∃ we, w6.drew = we := ⟨_, rfl⟩
        have hd : Keep w6 we := by rw [← hwe]; exact (Keep.refl _).drew
        have ec0 := fun z : KW w6 => z.cell c0
        have ec1 := fun z : KW w6 => z.cell c1
        have ec2 := fun z : KW w6 => z.cell c2
        have ec3 := fun z : KW w6 => z.cell c3
        have ec4 := fun z : KW w6 => z.cell c4
        have ec5 := fun z : KW w6 => z.cell c5
        have ec6 := fun z : KW w6 => z.cell c6
        have ec7 := fun z : KW w6 => z.cell c7
        have ec8 := fun z : KW w6 => z.cell c8
        have ec9 := fun z : KW w6 => z.cell c9
        have eca := fun z : KW w6 => z.cell ca
        have ecb := fun z : KW w6 => z.cell cb
        have ex0 := fun z : KW w6 => z.cell x0
        have ex1 := fun z : KW w6 => z.cell x1
        have ex2 := fun z : KW w6 => z.cell x2
        have ex3 := fun z : KW w6 => z.cell x3
        have ex4 := fun z : KW w6 => z.cell x4
        have ex5 := fun z : KW w6 => z.cell x5
        have ex6 := fun z : KW w6 => z.cell x6
        have ex7 := fun z : KW w6 => z.cell x7
        have ex8 := fun z : KW w6 => z.cell x8
        go_wp2_with fail
        by_cases h17 : im = 17
        · subst h17
          refine region_begin (S := fun w' => ∃ z : KW w6, w' = z.val) (by kernel_rfl) ?_
          rw [hwe]
          refine region_take [0, 1] [] 11 (by kernel_rfl) (by kernel_rfl) (InK.mk' hd) ?_
          show wpQuiet _ _ _ _ [_, _] _
          repeat (go_big_quiet_step (fail))
          refine wpQuiet_nil ?_
          clear hwe
          refine region_fix (i := 2) (fuel := 10) rfl (by kernel_rfl) (fun K hK => ?_)
          go_simp
          refine (Hof.out _).mono ?_
          rintro e w7 ⟨rfl, hk7⟩
          have h7 := hd.trans hk7
          refine hK _ _ (InK.mk' h7) ?_
          clear hK K
          refine region_take [3, 4, 5, 6, 7, 8] [0, 1, 2] 4 (by kernel_rfl) (by kernel_rfl) (InK.mk' h7) ?_
          show wpQuiet _ _ _ _ [_, _, _, _, _, _] _
          repeat (go_big_quiet_step (fail))
          refine wpQuiet_nil ?_
          refine region_fix (i := 9) (fuel := 3) rfl (by kernel_rfl) (fun K hK => ?_)
          go_simp
          refine (align05_calls _ _).mono ?_
          rintro e w8 ⟨z, rfl, _, hk8⟩
          have h8 := h7.trans hk8
          refine hK _ _ (InK.mk' h8) ?_
          clear hK K
          refine region_take [10, 11, 12] [0, 1, 2, 3, 4, 5, 6, 7, 8, 9] 0 (by kernel_rfl) (by kernel_rfl) (InK.mk' h8) ?_
          show wpQuiet _ _ _ _ [_, _, _] _
          repeat (go_big_quiet_step (fail))
          refine wpQuiet_nil ?_
          refine region_done (by kernel_rfl) ?_
          have K4 : Keep U w8 := K6.trans h8
          clear ec0 ec1 ec2 ec3 ec4 ec5 ec6 ec7 ec8 ec9 eca ecb ex0 ex1 ex2 ex3 ex4 ex5 ex6 ex7 ex8 c0 c1 c2 c3 c4 c5 c6 c7 c8 c9 ca cb lt x0 x1 x2 x3 x4 x5 x6 x7 x8 y0 y1 y2 f0 f1 f2 l1 l2 l3 l4 lx1 lx2 lx3 lx4 lt2 lt3 lt4
          obtain ⟨c0, c1, c2, c3, c4, c5, c6, c7, c8, c9, ca, cb, lt, x0, x1, x2, x3, x4, x5, x6, x7, x8, y0, y1, y2, f0, f1, f2, l1, l2, l3, l4, lx1, lx2, lx3, lx4, lt2, lt3, lt4⟩ := Hs.out w8 K4
          go_wp2_with (first
    | (go_at_call 156; refine (bad23_calls _ _).mono ?_; rintro e w5 ⟨rfl, rfl⟩)
    | (go_at_call 168; refine (sig23_calls _ _).mono ?_; rintro e w4 ⟨A, nn, c, B, k, d, er, rfl, hs, hk4⟩; have K4 : Keep U w4 := Keep.trans (by repeat (first | assumption | apply Keep.alloc)) hk4; clear hk4 c0 c1 c2 c3 c4 c5 c6 c7 c8 c9 ca cb lt x0 x1 x2 x3 x4 x5 x6 x7 x8 y0 y1 y2 f0 f1 f2 l1 l2 l3 l4 lx1 lx2 lx3 lx4 lt2 lt3 lt4; obtain ⟨c0, c1, c2, c3, c4, c5, c6, c7, c8, c9, ca, cb, lt, x0, x1, x2, x3, x4, x5, x6, x7, x8, y0, y1, y2, f0, f1, f2, l1, l2, l3, l4, lx1, lx2, lx3, lx4, lt2, lt3, lt4⟩ := Hs.out w4 K4; have HsS := Lib.hid hs; clear hs))
          all_goals (refine bodyPost_ret (by simp [results, Tryz.results166, go_sem, y0, y1, y2, f0, f1, f2, l1, l2, l3, l4] <;> rfl) rfl ?_)
          all_goals (refine RW.mk rfl ?_ ?_)
          all_goals first
            | exact SigAt.nil _
            | exact HsS.out.box3 (Hyb.out _ K4) _ _ _
            | exact SigAt.alloc (HsS.out.box3 (Hyb.out _ K4) _ _ _) _
            | exact HsF.out.box3 (Hyb.out _ K4) _ _ _
            | exact SigAt.alloc (HsF.out.box3 (Hyb.out _ K4) _ _ _) _
            | exact ⟨by first | exact IntsAt.nil _ _ | exact IntsAt.one (by simp [go_sem] <;> rfl) | exact IntsAt.two (by simp [go_sem] <;> rfl) (by simp [go_sem] <;> rfl) | exact IntsAt.three (by simp [go_sem] <;> rfl) (by simp [go_sem] <;> rfl) (by simp [go_sem] <;> rfl), by first | exact IntsAt.nil _ _ | exact IntsAt.one (by simp [go_sem] <;> rfl)⟩
            | (repeat (first | apply Keep.alloc | refine Keep.setCell (p := ⟨V.heap.size, _, none⟩) ?_ hle _)
               first | exact kk.trans K4 | exact kk)
        · have h17b : (im == 17) = false := by simpa using h17
          refine region_begin (S := fun w' => ∃ z : KW w6, w' = z.val) (by kernel_rfl) ?_
          rw [hwe]
          refine region_take [0, 1] [] 11 (by kernel_rfl) (by kernel_rfl) (InK.mk' hd) ?_
          show wpQuiet _ _ _ _ [_, _] _
          repeat (go_big_quiet_step (fail))
          refine wpQuiet_nil ?_
          clear hwe
          refine region_fix (i := 2) (fuel := 10) rfl (by kernel_rfl) (fun K hK => ?_)
          go_simp
          refine (Hof.out _).mono ?_
          rintro e w7 ⟨rfl, hk7⟩
          have h7 := hd.trans hk7
          refine hK _ _ (InK.mk' h7) ?_
          clear hK K
          refine region_take [3, 4, 5, 6, 7, 8] [0, 1, 2] 4 (by kernel_rfl) (by kernel_rfl) (InK.mk' h7) ?_
          show wpQuiet _ _ _ _ [_, _, _, _, _, _] _
          repeat (go_big_quiet_step (fail))
          refine wpQuiet_nil ?_
          refine region_fix (i := 9) (fuel := 3) rfl (by kernel_rfl) (fun K hK => ?_)
          go_simp
          obtain ⟨w8, h8e⟩ : ∃ w8, w7 = w8 := ⟨_, rfl⟩
          have h8 : Keep w6 w8 := by rw [← h8e]; exact h7
          rw [h8e]
          refine hK _ _ (InK.mk' h8) ?_
          clear hK K
          refine region_take [10, 11, 12] [0, 1, 2, 3, 4, 5, 6, 7, 8, 9] 0 (by kernel_rfl) (by kernel_rfl) (InK.mk' h8) ?_
          show wpQuiet _ _ _ _ [_, _, _] _
          repeat (go_big_quiet_step (fail))
          refine wpQuiet_nil ?_
          refine region_done (by kernel_rfl) ?_
          have K4 : Keep U w8 := K6.trans h8
          clear ec0 ec1 ec2 ec3 ec4 ec5 ec6 ec7 ec8 ec9 eca ecb ex0 ex1 ex2 ex3 ex4 ex5 ex6 ex7 ex8 c0 c1 c2 c3 c4 c5 c6 c7 c8 c9 ca cb lt x0 x1 x2 x3 x4 x5 x6 x7 x8 y0 y1 y2 f0 f1 f2 l1 l2 l3 l4 lx1 lx2 lx3 lx4 lt2 lt3 lt4
          obtain ⟨c0, c1, c2, c3, c4, c5, c6, c7, c8, c9, ca, cb, lt, x0, x1, x2, x3, x4, x5, x6, x7, x8, y0, y1, y2, f0, f1, f2, l1, l2, l3, l4, lx1, lx2, lx3, lx4, lt2, lt3, lt4⟩ := Hs.out w8 K4
          go_wp2_with (first
    | (go_at_call 156; refine (bad23_calls _ _).mono ?_; rintro e w5 ⟨rfl, rfl⟩)
    | (go_at_call 168; refine (sig23_calls _ _).mono ?_; rintro e w4 ⟨A, nn, c, B, k, d, er, rfl, hs, hk4⟩; have K4 : Keep U w4 := Keep.trans (by repeat (first | assumption | apply Keep.alloc)) hk4; clear hk4 c0 c1 c2 c3 c4 c5 c6 c7 c8 c9 ca cb lt x0 x1 x2 x3 x4 x5 x6 x7 x8 y0 y1 y2 f0 f1 f2 l1 l2 l3 l4 lx1 lx2 lx3 lx4 lt2 lt3 lt4; obtain ⟨c0, c1, c2, c3, c4, c5, c6, c7, c8, c9, ca, cb, lt, x0, x1, x2, x3, x4, x5, x6, x7, x8, y0, y1, y2, f0, f1, f2, l1, l2, l3, l4, lx1, lx2, lx3, lx4, lt2, lt3, lt4⟩ := Hs.out w4 K4; have HsS := Lib.hid hs; clear hs))
          all_goals (refine bodyPost_ret (by simp [results, Tryz.results166, go_sem, y0, y1, y2, f0, f1, f2, l1, l2, l3, l4] <;> rfl) rfl ?_)
          all_goals (refine RW.mk rfl ?_ ?_)
          all_goals first
            | exact SigAt.nil _
            | exact HsS.out.box3 (Hyb.out _ K4) _ _ _
            | exact SigAt.alloc (HsS.out.box3 (Hyb.out _ K4) _ _ _) _
            | exact HsF.out.box3 (Hyb.out _ K4) _ _ _
            | exact SigAt.alloc (HsF.out.box3 (Hyb.out _ K4) _ _ _) _
            | exact ⟨by first | exact IntsAt.nil _ _ | exact IntsAt.one (by simp [go_sem] <;> rfl) | exact IntsAt.two (by simp [go_sem] <;> rfl) (by simp [go_sem] <;> rfl) | exact IntsAt.three (by simp [go_sem] <;> rfl) (by simp [go_sem] <;> rfl) (by simp [go_sem] <;> rfl), by first | exact IntsAt.nil _ _ | exact IntsAt.one (by simp [go_sem] <;> rfl)⟩
            | (repeat (first | apply Keep.alloc | refine Keep.setCell (p := ⟨V.heap.size, _, none⟩) ?_ hle _)
               first | exact kk.trans K4 | exact kk)
  · have h2b : (op == 64520) = false := by simpa using h2
    go_enter Tryz.func166, Tryz.ntmps166
    go_wp2_with fail
    obtain ⟨wd, hwd⟩ : ∃ wd, U.drew = wd := ⟨_, rfl⟩
    have hd : Keep U wd := by rw [← hwd]; exact (Keep.refl _).drew
    have ec0 := fun z : KW U => z.cell c0
    have ec1 := fun z : KW U => z.cell c1
    have ec2 := fun z : KW U => z.cell c2
    have ec3 := fun z : KW U => z.cell c3
    have ec4 := fun z : KW U => z.cell c4
    have ec5 := fun z : KW U => z.cell c5
    have ec6 := fun z : KW U => z.cell c6
    have ec7 := fun z : KW U => z.cell c7
    have ec8 := fun z : KW U => z.cell c8
    have ec9 := fun z : KW U => z.cell c9
    have eca := fun z : KW U => z.cell ca
    have ecb := fun z : KW U => z.cell cb
    have ex0 := fun z : KW U => z.cell x0
    have ex1 := fun z : KW U => z.cell x1
    have ex2 := fun z : KW U => z.cell x2
    have ex3 := fun z : KW U => z.cell x3
    have ex4 := fun z : KW U => z.cell x4
    have ex5 := fun z : KW U => z.cell x5
    have ex6 := fun z : KW U => z.cell x6
    have ex7 := fun z : KW U => z.cell x7
    have ex8 := fun z : KW U => z.cell x8
    refine region_begin (S := fun w' => ∃ z : KW U, w' = z.val) (by kernel_rfl) ?_
    rw [hwd]
    refine region_take [0, 1, 2, 3, 4, 5, 6] [] 4 (by kernel_rfl) (by kernel_rfl) (InK.mk' hd) ?_
    show wpQuiet _ _ _ _ [_, _, _, _, _, _, _] _
    repeat (go_big_quiet_step (fail))
    refine wpQuiet_nil ?_
    clear hwd
    refine region_fix (i := 7) (fuel := 3) rfl (by kernel_rfl) (fun K hK => ?_)
    go_simp
    obtain ⟨w5, h5e⟩ : ∃ w5, wd = w5 := ⟨_, rfl⟩
    have h5 : Keep U w5 := by rw [← h5e]; exact hd
    rw [h5e]
    refine hK _ _ (InK.mk' h5) ?_
    clear hK K
    refine region_take [8, 9, 10] [0, 1, 2, 3, 4, 5, 6, 7] 0 (by kernel_rfl) (by kernel_rfl) (InK.mk' h5) ?_
    show wpQuiet _ _ _ _ [_, _, _] _
    repeat (go_big_quiet_step (fail))
    refine wpQuiet_nil ?_
    refine region_done (by kernel_rfl) ?_
    have K5 : Keep U w5 := Keep.trans K0 h5
    clear ec0 ec1 ec2 ec3 ec4 ec5 ec6 ec7 ec8 ec9 eca ecb ex0 ex1 ex2 ex3 ex4 ex5 ex6 ex7 ex8 c0 c1 c2 c3 c4 c5 c6 c7 c8 c9 ca cb lt x0 x1 x2 x3 x4 x5 x6 x7 x8 y0 y1 y2 f0 f1 f2 l1 l2 l3 l4 lx1 lx2 lx3 lx4 lt2 lt3 lt4
    obtain ⟨c0, c1, c2, c3, c4, c5, c6, c7, c8, c9, ca, cb, lt, x0, x1, x2, x3, x4, x5, x6, x7, x8, y0, y1, y2, f0, f1, f2, l1, l2, l3, l4, lx1, lx2, lx3, lx4, lt2, lt3, lt4⟩ := Hs.out w5 K5
    clear hd
    go_wp2_with fail
    refine (has23_calls m _ _ (Hm.out _ K5) Hb.out).mono ?_
    rintro e w6 ⟨r6, rfl, _, hk6⟩
    have K6 : Keep U w6 := Keep.trans K5 hk6
    clear hk6 c0 c1 c2 c3 c4 c5 c6 c7 c8 c9 ca cb lt x0 x1 x2 x3 x4 x5 x6 x7 x8 y0 y1 y2 f0 f1 f2 l1 l2 l3 l4 lx1 lx2 lx3 lx4 lt2 lt3 lt4
    obtain ⟨c0, c1, c2, c3, c4, c5, c6, c7, c8, c9, ca, cb, lt, x0, x1, x2, x3, x4, x5, x6, x7, x8, y0, y1, y2, f0, f1, f2, l1, l2, l3, l4, lx1, lx2, lx3, lx4, lt2, lt3, lt4⟩ := Hs.out w6 K6
    cases r6 with
    | false =>
      go_wp2_with ((go_at_call 156; refine (bad23_calls _ _).mono ?_; rintro e w5 ⟨rfl, rfl⟩))
      all_goals (refine bodyPost_ret (by simp [results, Tryz.results166, go_sem, y0, y1, y2, f0, f1, f2, l1, l2, l3, l4] <;> rfl) rfl ?_)
      all_goals (refine RW.mk rfl ?_ ?_)
      all_goals first
        | exact SigAt.nil _
        | exact HsS.out.box3 (Hyb.out _ K6) _ _ _
        | exact SigAt.alloc (HsS.out.box3 (Hyb.out _ K6) _ _ _) _
        | exact HsF.out.box3 (Hyb.out _ K6) _ _ _
        | exact SigAt.alloc (HsF.out.box3 (Hyb.out _ K6) _ _ _) _
        | exact ⟨by first | exact IntsAt.nil _ _ | exact IntsAt.one (by simp [go_sem] <;> rfl) | exact IntsAt.two (by simp [go_sem] <;> rfl) (by simp [go_sem] <;> rfl) | exact IntsAt.three (by simp [go_sem] <;> rfl) (by simp [go_sem] <;> rfl) (by simp [go_sem] <;> rfl), by first | exact IntsAt.nil _ _ | exact IntsAt.one (by simp [go_sem] <;> rfl)⟩
        | (repeat (first | apply Keep.alloc | refine Keep.setCell (p := ⟨V.heap.size, _, none⟩) ?_ hle _)
           first | exact kk.trans K6 | exact kk)
    | true =>
      obtain ⟨we, hwe⟩ : ∃ we, w6.drew = we := ⟨_, rfl⟩
      have hd : Keep w6 we := by rw [← hwe]; exact (Keep.refl _).drew
      have ec0 := fun z : KW w6 => z.cell c0
      have ec1 := fun z : KW w6 => z.cell c1
      have ec2 := fun z : KW w6 => z.cell c2
      have ec3 := fun z : KW w6 => z.cell c3
      have ec4 := fun z : KW w6 => z.cell c4
      have ec5 := fun z : KW w6 => z.cell c5
      have ec6 := fun z : KW w6 => z.cell c6
      have ec7 := fun z : KW w6 => z.cell c7
      have ec8 := fun z : KW w6 => z.cell c8
      have ec9 := fun z : KW w6 => z.cell c9
      have eca := fun z : KW w6 => z.cell ca
      have ecb := fun z : KW w6 => z.cell cb
      have ex0 := fun z : KW w6 => z.cell x0
      have ex1 := fun z : KW w6 => z.cell x1
      have ex2 := fun z : KW w6 => z.cell x2
      have ex3 := fun z : KW w6 => z.cell x3
      have ex4 := fun z : KW w6 => z.cell x4
      have ex5 := fun z : KW w6 => z.cell x5
      have ex6 := fun z : KW w6 => z.cell x6
      have ex7 := fun z : KW w6 => z.cell x7
      have ex8 := fun z : KW w6 => z.cell x8
      go_wp2_with fail
      by_cases h17 : im = 17
      · subst h17
        refine region_begin (S := fun w' => ∃ z : KW w6, w' = z.val) (by kernel_rfl) ?_
        rw [hwe]
        refine region_take [0, 1] [] 11 (by kernel_rfl) (by kernel_rfl) (InK.mk' hd) ?_
        show wpQuiet _ _ _ _ [_, _] _
        repeat (go_big_quiet_step (fail))
        refine wpQuiet_nil ?_
        clear hwe
        refine region_fix (i := 2) (fuel := 10) rfl (by kernel_rfl) (fun K hK => ?_)
        go_simp
        refine (Hof.out _).mono ?_
        rintro e w7 ⟨rfl, hk7⟩
        have h7 := hd.trans hk7
        refine hK _ _ (InK.mk' h7) ?_
        clear hK K
        refine region_take [3, 4, 5, 6, 7, 8] [0, 1, 2] 4 (by kernel_rfl) (by kernel_rfl) (InK.mk' h7) ?_
        show wpQuiet _ _ _ _ [_, _, _, _, _, _] _
        repeat (go_big_quiet_step (fail))
        refine wpQuiet_nil ?_
        refine region_fix (i := 9) (fuel := 3) rfl (by kernel_rfl) (fun K hK => ?_)
        go_simp
        refine (align05_calls _ _).mono ?_
        rintro e w8 ⟨z, rfl, _, hk8⟩
        have h8 := h7.trans hk8
        refine hK _ _ (InK.mk' h8) ?_
        clear hK K
        refine region_take [10, 11, 12] [0, 1, 2, 3, 4, 5, 6, 7, 8, 9] 0 (by kernel_rfl) (by kernel_rfl) (InK.mk' h8) ?_
        show wpQuiet _ _ _ _ [_, _, _] _
        repeat (go_big_quiet_step (fail))
        refine wpQuiet_nil ?_
        refine region_done (by kernel_rfl) ?_
        have K4 : Keep U w8 := K6.trans h8
        clear ec0 ec1 ec2 ec3 ec4 ec5 ec6 ec7 ec8 ec9 eca ecb ex0 ex1 ex2 ex3 ex4 ex5 ex6 ex7 ex8 c0 c1 c2 c3 c4 c5 c6 c7 c8 c9 ca cb lt x0 x1 x2 x3 x4 x5 x6 x7 x8 y0 y1 y2 f0 f1 f2 l1 l2 l3 l4 lx1 lx2 lx3 lx4 lt2 lt3 lt4
        obtain ⟨c0, c1, c2, c3, c4, c5, c6, c7, c8, c9, ca, cb, lt, x0, x1, x2, x3, x4, x5, x6, x7, x8, y0, y1, y2, f0, f1, f2, l1, l2, l3, l4, lx1, lx2, lx3, lx4, lt2, lt3, lt4⟩ := Hs.out w8 K4
        go_wp2_with (first
    | (go_at_call 156; refine (bad23_calls _ _).mono ?_; rintro e w5 ⟨rfl, rfl⟩)
    | (go_at_call 168; refine (sig23_calls _ _).mono ?_; rintro e w4 ⟨A, nn, c, B, k, d, er, rfl, hs, hk4⟩; have K4 : Keep U w4 := Keep.trans (by repeat (first | assumption | apply Keep.alloc)) hk4; clear hk4 c0 c1 c2 c3 c4 c5 c6 c7 c8 c9 ca cb lt x0 x1 x2 x3 x4 x5 x6 x7 x8 y0 y1 y2 f0 f1 f2 l1 l2 l3 l4 lx1 lx2 lx3 lx4 lt2 lt3 lt4; obtain ⟨c0, c1, c2, c3, c4, c5, c6, c7, c8, c9, ca, cb, lt, x0, x1, x2, x3, x4, x5, x6, x7, x8, y0, y1, y2, f0, f1, f2, l1, l2, l3, l4, lx1, lx2, lx3, lx4, lt2, lt3, lt4⟩ := Hs.out w4 K4; have HsS := Lib.hid hs; clear hs))
        all_goals (refine bodyPost_ret (by simp [results, Tryz.results166, go_sem, y0, y1, y2, f0, f1, f2, l1, l2, l3, l4] <;> rfl) rfl ?_)
        all_goals (refine RW.mk rfl ?_ ?_)
        all_goals first
          | exact SigAt.nil _
          | exact HsS.out.box3 (Hyb.out _ K4) _ _ _
          | exact SigAt.alloc (HsS.out.box3 (Hyb.out _ K4) _ _ _) _
          | exact HsF.out.box3 (Hyb.out _ K4) _ _ _
          | exact SigAt.alloc (HsF.out.box3 (Hyb.out _ K4) _ _ _) _
          | exact ⟨by first | exact IntsAt.nil _ _ | exact IntsAt.one (by simp [go_sem] <;> rfl) | exact IntsAt.two (by simp [go_sem] <;> rfl) (by simp [go_sem] <;> rfl) | exact IntsAt.three (by simp [go_sem] <;> rfl) (by simp [go_sem] <;> rfl) (by simp [go_sem] <;> rfl), by first | exact IntsAt.nil _ _ | exact IntsAt.one (by simp [go_sem] <;> rfl)⟩
          | (repeat (first | apply Keep.alloc | refine Keep.setCell (p := ⟨V.heap.size, _, none⟩) ?_ hle _)
             first | exact kk.trans K4 | exact kk)
      · have h17b : (im == 17) = false := by simpa using h17
        refine region_begin (S := fun w' => ∃ z : KW w6, w' = z.val) (by kernel_rfl) ?_
        rw [hwe]
        refine region_take [0, 1] [] 11 (by kernel_rfl) (by kernel_rfl) (InK.mk' hd) ?_
        show wpQuiet _ _ _ _ [_, _] _
        repeat (go_big_quiet_step (fail))
        refine wpQuiet_nil ?_
        clear hwe
        refine region_fix (i := 2) (fuel := 10) rfl (by kernel_rfl) (fun K hK => ?_)
        go_simp
        refine (Hof.out _).mono ?_
        rintro e w7 ⟨rfl, hk7⟩
        have h7 := hd.trans hk7
        refine hK _ _ (InK.mk' h7) ?_
        clear hK K
        refine region_take [3, 4, 5, 6, 7, 8] [0, 1, 2] 4 (by kernel_rfl) (by kernel_rfl) (InK.mk' h7) ?_
        show wpQuiet _ _ _ _ [_, _, _, _, _, _] _
        repeat (go_big_quiet_step (fail))
        refine wpQuiet_nil ?_
        refine region_fix (i := 9) (fuel := 3) rfl (by kernel_rfl) (fun K hK => ?_)
        go_simp
        obtain ⟨w8, h8e⟩ : ∃ w8, w7 = w8 := ⟨_, rfl⟩
        have h8 : Keep w6 w8 := by rw [← h8e]; exact h7
        rw [h8e]
        refine hK _ _ (InK.mk' h8) ?_
        clear hK K
        refine region_take [10, 11, 12] [0, 1, 2, 3, 4, 5, 6, 7, 8, 9] 0 (by kernel_rfl) (by kernel_rfl) (InK.mk' h8) ?_
        show wpQuiet _ _ _ _ [_, _, _] _
        repeat (go_big_quiet_step (fail))
        refine wpQuiet_nil ?_
        refine region_done (by kernel_rfl) ?_
        have K4 : Keep U w8 := K6.trans h8
        clear ec0 ec1 ec2 ec3 ec4 ec5 ec6 ec7 ec8 ec9 eca ecb ex0 ex1 ex2 ex3 ex4 ex5 ex6 ex7 ex8 c0 c1 c2 c3 c4 c5 c6 c7 c8 c9 ca cb lt x0 x1 x2 x3 x4 x5 x6 x7 x8 y0 y1 y2 f0 f1 f2 l1 l2 l3 l4 lx1 lx2 lx3 lx4 lt2 lt3 lt4
        obtain ⟨c0, c1, c2, c3, c4, c5, c6, c7, c8, c9, ca, cb, lt, x0, x1, x2, x3, x4, x5, x6, x7, x8, y0, y1, y2, f0, f1, f2, l1, l2, l3, l4, lx1, lx2, lx3, lx4, lt2, lt3, lt4⟩ := Hs.out w8 K4
        go_wp2_with (first
    | (go_at_call 156; refine (bad23_calls _ _).mono ?_; rintro e w5 ⟨rfl, rfl⟩)
    | (go_at_call 168; refine (sig23_calls _ _).mono ?_; rintro e w4 ⟨A, nn, c, B, k, d, er, rfl, hs, hk4⟩; have K4 : Keep U w4 := Keep.trans (by repeat (first | assumption | apply Keep.alloc)) hk4; clear hk4 c0 c1 c2 c3 c4 c5 c6 c7 c8 c9 ca cb lt x0 x1 x2 x3 x4 x5 x6 x7 x8 y0 y1 y2 f0 f1 f2 l1 l2 l3 l4 lx1 lx2 lx3 lx4 lt2 lt3 lt4; obtain ⟨c0, c1, c2, c3, c4, c5, c6, c7, c8, c9, ca, cb, lt, x0, x1, x2, x3, x4, x5, x6, x7, x8, y0, y1, y2, f0, f1, f2, l1, l2, l3, l4, lx1, lx2, lx3, lx4, lt2, lt3, lt4⟩ := Hs.out w4 K4; have HsS := Lib.hid hs; clear hs))
        all_goals (refine bodyPost_ret (by simp [results, Tryz.results166, go_sem, y0, y1, y2, f0, f1, f2, l1, l2, l3, l4] <;> rfl) rfl ?_)
        all_goals (refine RW.mk rfl ?_ ?_)
        all_goals first
          | exact SigAt.nil _
          | exact HsS.out.box3 (Hyb.out _ K4) _ _ _
          | exact SigAt.alloc (HsS.out.box3 (Hyb.out _ K4) _ _ _) _
          | exact HsF.out.box3 (Hyb.out _ K4) _ _ _
          | exact SigAt.alloc (HsF.out.box3 (Hyb.out _ K4) _ _ _) _
          | exact ⟨by first | exact IntsAt.nil _ _ | exact IntsAt.one (by simp [go_sem] <;> rfl) | exact IntsAt.two (by simp [go_sem] <;> rfl) (by simp [go_sem] <;> rfl) | exact IntsAt.three (by simp [go_sem] <;> rfl) (by simp [go_sem] <;> rfl) (by simp [go_sem] <;> rfl), by first | exact IntsAt.nil _ _ | exact IntsAt.one (by simp [go_sem] <;> rfl)⟩
          | (repeat (first | apply Keep.alloc | refine Keep.setCell (p := ⟨V.heap.size, _, none⟩) ?_ hle _)
             first | exact kk.trans K4 | exact kk)
end Go.Proofs.YtjpmiejgcnfiiaaGreat
