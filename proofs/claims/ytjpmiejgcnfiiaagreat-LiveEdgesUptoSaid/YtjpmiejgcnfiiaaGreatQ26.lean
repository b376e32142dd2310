import Derived.Test.YtjpmiejgcnfiiaaGreatQ25
set_option linter.unusedVariables false
set_option linter.unusedSimpArgs false
namespace Go.Proofs.YtjpmiejgcnfiiaaGreat
open Go Go.RowKit

set_option maxHeartbeats 8000000 in
set_option maxRecDepth 100000 in
theorem memory39_calls (m : MdD) (kd op a b n : Int) (aa : Option Addr) (al : List Int) (ac : Nat) (oa : Option Addr) (ol : List Int) (oc : Nat) (w : World) (h : MdOk w m) (hwa : (Lit.int .i64 a).wf = true) (hwb : (Lit.int .i64 b).wf = true) : Calls Tryz.prog 93 #[.agg (mdC m).toArray, .agg #[.int .i64 kd, .int .i64 op, .int .i64 a, .int .i64 b, .int .u64 n, .slice aa al.length ac, .slice oa ol.length oc]] w (RSB w fun _ _ => True) := by
  obtain ⟨M, hM, kM, bM, sM⟩ := boxN w 33 (mdC m)
  obtain ⟨W, hW, kW, bW, sW⟩ := boxN M 63 [.int .i64 kd, .int .i64 op, .int .i64 a, .int .i64 b, .int .u64 n, .slice aa al.length ac, .slice oa ol.length oc]
  obtain ⟨U, hU, kU, bU, sU⟩ := boxN W 36 [.slice none 0 0, .slice none 0 0]
  have Hx := Lib.hid (fun (w' : World) (k : Keep U w') => ((bW.keep kU).keep k).sx)
  have Hy := Lib.hid (fun (w' : World) (k : Keep U w') => (bU.keep k).yx)
  have Hyb := Lib.hid (fun (w' : World) (k : Keep U w') => bU.keep k)
  have Hc := Lib.hid (fun (w' : World) (k : Keep U w') => (((bM.keep kW).keep kU).keep k).md)
  have kk := (kM.trans kW).trans kU
  have hle : w.heap.size ≤ W.heap.size := (kM.trans kW).size
  have Hm := Lib.hid (fun (w' : World) (k : Keep U w') => h.keep (kk.trans k))
  have Ha := Lib.hid hwa
  have Hb := Lib.hid hwb
  clear hwa hwb
  have K0 : Keep U U := Keep.refl _
  obtain ⟨x0, x1, x2, x3, x4, x5, x6, lx1, lx2, lx3, lx4⟩ := Hx.out U K0; obtain ⟨y0, y1, f0, f1, l1, l2, l3, l4⟩ := Hy.out U K0; obtain ⟨c0, c1, c2, c3, c4, c5, c6, c7, c8, c9, ca, cb, lt⟩ := Hc.out U K0
  clear bW bU sW sU bM sM h
  obtain ⟨im, him⟩ : ∃ im, (findRow op).1.imm = im := ⟨_, rfl⟩
  have Hof := Lib.hid (fun w' => him ▸ of05_calls op w')
  clear him
  by_cases g6 : kd = 6
  · subst g6
    go_enter Tryz.func93, Tryz.ntmps93
    obtain ⟨wd, hwd⟩ : ∃ wd, U.drew = wd := ⟨_, rfl⟩
    have hd : Keep U wd := by rw [← hwd]; exact (Keep.refl _).drew
    have ex0 := fun z : KW U => z.cell x0
    have ex1 := fun z : KW U => z.cell x1
    have ex2 := fun z : KW U => z.cell x2
    have ex3 := fun z : KW U => z.cell x3
    have ex4 := fun z : KW U => z.cell x4
    have ex5 := fun z : KW U => z.cell x5
    have ex6 := fun z : KW U => z.cell x6
    have ec0 := fun z : KW U => z.cell c0
    have ec1 := fun z : KW U => z.cell c1
    have ec2 := fun z : KW U => z.cell c2
    have ec3 := fun z : KW U => z.cell c3
    have ec4 := fun z : KW U => z.cell c4
    have ec5 := fun z : KW U => z.cell c5
    have ec6 := fun z : KW U => z.cell c6
    have ec7 := fun z : KW U => z.cell c7
    have ec8 := fun z : KW U => z.cell c8
    have ec9 := fun z : KW U => z.cell c9
    have eca := fun z : KW U => z.cell ca
    have ecb := fun z : KW U => z.cell cb
    go_wp2_with fail
    refine region_begin (S := fun w' => ∃ z : KW U, w' = z.val) (by kernel_rfl) ?_
    rw [hwd]
    refine region_take [0] [] 17 (by kernel_rfl) (by kernel_rfl) (InK.mk' hd) ?_
    show wpQuiet _ _ _ _ [_] _
    repeat (go_big_quiet_step (fail))
    refine wpQuiet_nil ?_
    clear hwd
    refine region_fix (i := 1) (fuel := 16) rfl (by kernel_rfl) (fun K hK => ?_)
    go_simp
    refine (zero39_calls _ _ _ _ _ _ _ _ _ _ _ _ _ _ _ _).mono ?_
    rintro e w4 ⟨r1, rfl, _, hk4⟩
    have h4 := hd.trans hk4
    refine hK _ _ (InK.mk' h4) ?_
    clear hK K
    cases r1
    · refine region_take [2, 3, 4, 5] [0, 1] 12 (by kernel_rfl) (by kernel_rfl) (InK.mk' h4) ?_
      show wpQuiet _ _ _ _ [_, _, _, _] _
      repeat (go_big_quiet_step (fail))
      refine wpQuiet_nil ?_
      refine region_fix (i := 6) (fuel := 11) rfl (by kernel_rfl) (fun K hK => ?_)
      go_simp
      obtain ⟨w5, w5e⟩ : ∃ W, w4 = W := ⟨_, rfl⟩
      have hw5 : Keep U w5 := by rw [← w5e]; exact h4
      rw [w5e]
      refine hK _ _ (InK.mk' hw5) ?_
      clear hK K
      refine region_take [7, 8, 9, 10, 11, 13, 14, 15] [0, 1, 2, 3, 4, 5, 6] 3 (by kernel_rfl) (by kernel_rfl) (InK.mk' hw5) ?_
      show wpQuiet _ _ _ _ [_, _, _, _, _, _, _, _] _
      repeat (go_big_quiet_step (fail))
      refine wpQuiet_nil ?_
      refine region_fix (i := 12) (fuel := 2) rfl (by kernel_rfl) (fun K hK => ?_)
      go_simp
      obtain ⟨w6, w6e⟩ : ∃ W, w5 = W := ⟨_, rfl⟩
      have hw6 : Keep U w6 := by rw [← w6e]; exact hw5
      rw [w6e]
      refine hK _ _ (InK.mk' hw6) ?_
      clear hK K
      refine region_take [16, 17] [0, 1, 2, 3, 4, 5, 6, 7, 8, 9, 10, 11, 13, 14, 15, 12] 0 (by kernel_rfl) (by kernel_rfl) (InK.mk' hw6) ?_
      show wpQuiet _ _ _ _ [_, _] _
      repeat (go_big_quiet_step (fail))
      refine wpQuiet_nil ?_
      refine region_done (by kernel_rfl) ?_
      have K4 : Keep U w6 := hw6
      clear x0 x1 x2 x3 x4 x5 x6 lx1 lx2 lx3 lx4 y0 y1 f0 f1 l1 l2 l3 l4 c0 c1 c2 c3 c4 c5 c6 c7 c8 c9 ca cb lt ex0 ex1 ex2 ex3 ex4 ex5 ex6 ec0 ec1 ec2 ec3 ec4 ec5 ec6 ec7 ec8 ec9 eca ecb
      obtain ⟨x0, x1, x2, x3, x4, x5, x6, lx1, lx2, lx3, lx4⟩ := Hx.out w6 K4
      obtain ⟨y0, y1, f0, f1, l1, l2, l3, l4⟩ := Hy.out w6 K4
      obtain ⟨c0, c1, c2, c3, c4, c5, c6, c7, c8, c9, ca, cb, lt⟩ := Hc.out w6 K4
      clear K0
      go_wp2_with (first
          | (go_at_call 122; refine (wants39_calls m _ _ _ _ _ (Hm.out _ (by repeat (first | assumption | apply Keep.alloc))) (by first | exact Ha.out | exact Hb.out | decide) (by first | exact Ha.out | exact Hb.out | decide)).mono ?_; rintro e w4 ⟨A, nn, c, B, k, d, r, rfl, hs, _, hk4⟩; have K4 : Keep U w4 := Keep.trans (by repeat (first | assumption | apply Keep.alloc)) hk4; clear hk4; clear x0 x1 x2 x3 x4 x5 x6 lx1 lx2 lx3 lx4 y0 y1 f0 f1 l1 l2 l3 l4 c0 c1 c2 c3 c4 c5 c6 c7 c8 c9 ca cb lt; obtain ⟨x0, x1, x2, x3, x4, x5, x6, lx1, lx2, lx3, lx4⟩ := Hx.out w4 K4; obtain ⟨y0, y1, f0, f1, l1, l2, l3, l4⟩ := Hy.out w4 K4; obtain ⟨c0, c1, c2, c3, c4, c5, c6, c7, c8, c9, ca, cb, lt⟩ := Hc.out w4 K4; have HsF := Lib.hid hs; clear hs)
          | (go_at_call 98; refine (none39_calls _).mono ?_; rintro e w5 ⟨rfl, rfl⟩))
      all_goals (refine bodyPost_ret (by simp [results, Tryz.results93, go_sem, y0, y1, f0, f1, l1, l2, l3, l4] <;> rfl) rfl ?_)
      all_goals (refine RSB.mk rfl ?_ ?_ ?_)
      all_goals first
        | exact trivial
        | exact SigAt.nil _
        | exact SigAt.alloc (SigAt.box HsF.out (Hyb.out _ K4) _ _) _
        | exact SigAt.box HsF.out (Hyb.out _ K4) _ _
        | exact SigAt.alloc (SigAt.alloc (SigAt.box HsF.out (Hyb.out _ K4) _ _) _) _
        | exact ⟨by first | exact IntsAt.nil _ _ | exact IntsAt.one (by simp [go_sem] <;> rfl) | exact IntsAt.three (by simp [go_sem] <;> rfl) (by simp [go_sem] <;> rfl) (by simp [go_sem] <;> rfl), by first | exact IntsAt.nil _ _ | exact IntsAt.one (by simp [go_sem] <;> rfl)⟩
        | (repeat (first | apply Keep.alloc | refine Keep.setCell (p := ⟨W.heap.size, _, none⟩) ?_ hle _)
           first | exact kk.trans K4 | exact kk)
    · refine region_take [2, 3, 4, 5] [0, 1] 12 (by kernel_rfl) (by kernel_rfl) (InK.mk' h4) ?_
      show wpQuiet _ _ _ _ [_, _, _, _] _
      repeat (go_big_quiet_step (fail))
      refine wpQuiet_nil ?_
      refine region_fix (i := 6) (fuel := 11) rfl (by kernel_rfl) (fun K hK => ?_)
      go_simp
      refine (Hof.out _).mono ?_
      rintro e w5 ⟨rfl, hk5⟩
      have h5 := h4.trans hk5
      refine hK _ _ (InK.mk' h5) ?_
      clear hK K
      by_cases h17 : im = 17
      · subst h17
        refine region_take [7, 8, 9, 10, 11, 13, 14, 15] [0, 1, 2, 3, 4, 5, 6] 3 (by kernel_rfl) (by kernel_rfl) (InK.mk' h5) ?_
        show wpQuiet _ _ _ _ [_, _, _, _, _, _, _, _] _
        repeat (go_big_quiet_step (fail))
        refine wpQuiet_nil ?_
        refine region_fix (i := 12) (fuel := 2) rfl (by kernel_rfl) (fun K hK => ?_)
        go_simp
        refine (load39_calls _ _).mono ?_
        rintro e w6 ⟨r3, rfl, _, hk6⟩
        have h6 := h5.trans hk6
        refine hK _ _ (InK.mk' h6) ?_
        clear hK K
        cases r3
        · refine region_take [16, 17] [0, 1, 2, 3, 4, 5, 6, 7, 8, 9, 10, 11, 13, 14, 15, 12] 0 (by kernel_rfl) (by kernel_rfl) (InK.mk' h6) ?_
          show wpQuiet _ _ _ _ [_, _] _
          repeat (go_big_quiet_step (fail))
          refine wpQuiet_nil ?_
          refine region_done (by kernel_rfl) ?_
          have K4 : Keep U w6 := h6
          clear x0 x1 x2 x3 x4 x5 x6 lx1 lx2 lx3 lx4 y0 y1 f0 f1 l1 l2 l3 l4 c0 c1 c2 c3 c4 c5 c6 c7 c8 c9 ca cb lt ex0 ex1 ex2 ex3 ex4 ex5 ex6 ec0 ec1 ec2 ec3 ec4 ec5 ec6 ec7 ec8 ec9 eca ecb
          obtain ⟨x0, x1, x2, x3, x4, x5, x6, lx1, lx2, lx3, lx4⟩ := Hx.out w6 K4
          obtain ⟨y0, y1, f0, f1, l1, l2, l3, l4⟩ := Hy.out w6 K4
          obtain ⟨c0, c1, c2, c3, c4, c5, c6, c7, c8, c9, ca, cb, lt⟩ := Hc.out w6 K4
          clear K0
          go_wp2_with (first
              | (go_at_call 122; refine (wants39_calls m _ _ _ _ _ (Hm.out _ (by repeat (first | assumption | apply Keep.alloc))) (by first | exact Ha.out | exact Hb.out | decide) (by first | exact Ha.out | exact Hb.out | decide)).mono ?_; rintro e w4 ⟨A, nn, c, B, k, d, r, rfl, hs, _, hk4⟩; have K4 : Keep U w4 := Keep.trans (by repeat (first | assumption | apply Keep.alloc)) hk4; clear hk4; clear x0 x1 x2 x3 x4 x5 x6 lx1 lx2 lx3 lx4 y0 y1 f0 f1 l1 l2 l3 l4 c0 c1 c2 c3 c4 c5 c6 c7 c8 c9 ca cb lt; obtain ⟨x0, x1, x2, x3, x4, x5, x6, lx1, lx2, lx3, lx4⟩ := Hx.out w4 K4; obtain ⟨y0, y1, f0, f1, l1, l2, l3, l4⟩ := Hy.out w4 K4; obtain ⟨c0, c1, c2, c3, c4, c5, c6, c7, c8, c9, ca, cb, lt⟩ := Hc.out w4 K4; have HsF := Lib.hid hs; clear hs)
              | (go_at_call 98; refine (none39_calls _).mono ?_; rintro e w5 ⟨rfl, rfl⟩))
          all_goals (refine bodyPost_ret (by simp [results, Tryz.results93, go_sem, y0, y1, f0, f1, l1, l2, l3, l4] <;> rfl) rfl ?_)
          all_goals (refine RSB.mk rfl ?_ ?_ ?_)
          all_goals first
            | exact trivial
            | exact SigAt.nil _
            | exact SigAt.alloc (SigAt.box HsF.out (Hyb.out _ K4) _ _) _
            | exact SigAt.box HsF.out (Hyb.out _ K4) _ _
            | exact SigAt.alloc (SigAt.alloc (SigAt.box HsF.out (Hyb.out _ K4) _ _) _) _
            | exact ⟨by first | exact IntsAt.nil _ _ | exact IntsAt.one (by simp [go_sem] <;> rfl) | exact IntsAt.three (by simp [go_sem] <;> rfl) (by simp [go_sem] <;> rfl) (by simp [go_sem] <;> rfl), by first | exact IntsAt.nil _ _ | exact IntsAt.one (by simp [go_sem] <;> rfl)⟩
            | (repeat (first | apply Keep.alloc | refine Keep.setCell (p := ⟨W.heap.size, _, none⟩) ?_ hle _)
               first | exact kk.trans K4 | exact kk)
        · refine region_take [16, 17] [0, 1, 2, 3, 4, 5, 6, 7, 8, 9, 10, 11, 13, 14, 15, 12] 0 (by kernel_rfl) (by kernel_rfl) (InK.mk' h6) ?_
          show wpQuiet _ _ _ _ [_, _] _
          repeat (go_big_quiet_step (fail))
          refine wpQuiet_nil ?_
          refine region_done (by kernel_rfl) ?_
          have K4 : Keep U w6 := h6
          clear x0 x1 x2 x3 x4 x5 x6 lx1 lx2 lx3 lx4 y0 y1 f0 f1 l1 l2 l3 l4 c0 c1 c2 c3 c4 c5 c6 c7 c8 c9 ca cb lt ex0 ex1 ex2 ex3 ex4 ex5 ex6 ec0 ec1 ec2 ec3 ec4 ec5 ec6 ec7 ec8 ec9 eca ecb
          obtain ⟨x0, x1, x2, x3, x4, x5, x6, lx1, lx2, lx3, lx4⟩ := Hx.out w6 K4
          obtain ⟨y0, y1, f0, f1, l1, l2, l3, l4⟩ := Hy.out w6 K4
          obtain ⟨c0, c1, c2, c3, c4, c5, c6, c7, c8, c9, ca, cb, lt⟩ := Hc.out w6 K4
          clear K0
          go_wp2_with (first
              | (go_at_call 122; refine (wants39_calls m _ _ _ _ _ (Hm.out _ (by repeat (first | assumption | apply Keep.alloc))) (by first | exact Ha.out | exact Hb.out | decide) (by first | exact Ha.out | exact Hb.out | decide)).mono ?_; rintro e w4 ⟨A, nn, c, B, k, d, r, rfl, hs, _, hk4⟩; have K4 : Keep U w4 := Keep.trans (by repeat (first | assumption | apply Keep.alloc)) hk4; clear hk4; clear x0 x1 x2 x3 x4 x5 x6 lx1 lx2 lx3 lx4 y0 y1 f0 f1 l1 l2 l3 l4 c0 c1 c2 c3 c4 c5 c6 c7 c8 c9 ca cb lt; obtain ⟨x0, x1, x2, x3, x4, x5, x6, lx1, lx2, lx3, lx4⟩ := Hx.out w4 K4; obtain ⟨y0, y1, f0, f1, l1, l2, l3, l4⟩ := Hy.out w4 K4; obtain ⟨c0, c1, c2, c3, c4, c5, c6, c7, c8, c9, ca, cb, lt⟩ := Hc.out w4 K4; have HsF := Lib.hid hs; clear hs)
              | (go_at_call 98; refine (none39_calls _).mono ?_; rintro e w5 ⟨rfl, rfl⟩))
          all_goals (refine bodyPost_ret (by simp [results, Tryz.results93, go_sem, y0, y1, f0, f1, l1, l2, l3, l4] <;> rfl) rfl ?_)
          all_goals (refine RSB.mk rfl ?_ ?_ ?_)
          all_goals first
            | exact trivial
            | exact SigAt.nil _
            | exact SigAt.alloc (SigAt.box HsF.out (Hyb.out _ K4) _ _) _
            | exact SigAt.box HsF.out (Hyb.out _ K4) _ _
            | exact SigAt.alloc (SigAt.alloc (SigAt.box HsF.out (Hyb.out _ K4) _ _) _) _
            | exact ⟨by first | exact IntsAt.nil _ _ | exact IntsAt.one (by simp [go_sem] <;> rfl) | exact IntsAt.three (by simp [go_sem] <;> rfl) (by simp [go_sem] <;> rfl) (by simp [go_sem] <;> rfl), by first | exact IntsAt.nil _ _ | exact IntsAt.one (by simp [go_sem] <;> rfl)⟩
            | (repeat (first | apply Keep.alloc | refine Keep.setCell (p := ⟨W.heap.size, _, none⟩) ?_ hle _)
               first | exact kk.trans K4 | exact kk)
      · have h17b : (im != 17) = true := by simpa using h17
        refine region_take [7, 8, 9, 10, 11, 13, 14, 15] [0, 1, 2, 3, 4, 5, 6] 3 (by kernel_rfl) (by kernel_rfl) (InK.mk' h5) ?_
        show wpQuiet _ _ _ _ [_, _, _, _, _, _, _, _] _
        repeat (go_big_quiet_step (fail))
        refine wpQuiet_nil ?_
        refine region_fix (i := 12) (fuel := 2) rfl (by kernel_rfl) (fun K hK => ?_)
        go_simp
        obtain ⟨w6, w6e⟩ : ∃ W, w5 = W := ⟨_, rfl⟩
        have hw6 : Keep U w6 := by rw [← w6e]; exact h5
        rw [w6e]
        refine hK _ _ (InK.mk' hw6) ?_
        clear hK K
        refine region_take [16, 17] [0, 1, 2, 3, 4, 5, 6, 7, 8, 9, 10, 11, 13, 14, 15, 12] 0 (by kernel_rfl) (by kernel_rfl) (InK.mk' hw6) ?_
        show wpQuiet _ _ _ _ [_, _] _
        repeat (go_big_quiet_step (fail))
        refine wpQuiet_nil ?_
        refine region_done (by kernel_rfl) ?_
        have K4 : Keep U w6 := hw6
        clear x0 x1 x2 x3 x4 x5 x6 lx1 lx2 lx3 lx4 y0 y1 f0 f1 l1 l2 l3 l4 c0 c1 c2 c3 c4 c5 c6 c7 c8 c9 ca cb lt ex0 ex1 ex2 ex3 ex4 ex5 ex6 ec0 ec1 ec2 ec3 ec4 ec5 ec6 ec7 ec8 ec9 eca ecb
        obtain ⟨x0, x1, x2, x3, x4, x5, x6, lx1, lx2, lx3, lx4⟩ := Hx.out w6 K4
        obtain ⟨y0, y1, f0, f1, l1, l2, l3, l4⟩ := Hy.out w6 K4
        obtain ⟨c0, c1, c2, c3, c4, c5, c6, c7, c8, c9, ca, cb, lt⟩ := Hc.out w6 K4
        clear K0
        go_wp2_with (first
            | (go_at_call 122; refine (wants39_calls m _ _ _ _ _ (Hm.out _ (by repeat (first | assumption | apply Keep.alloc))) (by first | exact Ha.out | exact Hb.out | decide) (by first | exact Ha.out | exact Hb.out | decide)).mono ?_; rintro e w4 ⟨A, nn, c, B, k, d, r, rfl, hs, _, hk4⟩; have K4 : Keep U w4 := Keep.trans (by repeat (first | assumption | apply Keep.alloc)) hk4; clear hk4; clear x0 x1 x2 x3 x4 x5 x6 lx1 lx2 lx3 lx4 y0 y1 f0 f1 l1 l2 l3 l4 c0 c1 c2 c3 c4 c5 c6 c7 c8 c9 ca cb lt; obtain ⟨x0, x1, x2, x3, x4, x5, x6, lx1, lx2, lx3, lx4⟩ := Hx.out w4 K4; obtain ⟨y0, y1, f0, f1, l1, l2, l3, l4⟩ := Hy.out w4 K4; obtain ⟨c0, c1, c2, c3, c4, c5, c6, c7, c8, c9, ca, cb, lt⟩ := Hc.out w4 K4; have HsF := Lib.hid hs; clear hs)
            | (go_at_call 98; refine (none39_calls _).mono ?_; rintro e w5 ⟨rfl, rfl⟩))
        all_goals (refine bodyPost_ret (by simp [results, Tryz.results93, go_sem, y0, y1, f0, f1, l1, l2, l3, l4] <;> rfl) rfl ?_)
        all_goals (refine RSB.mk rfl ?_ ?_ ?_)
        all_goals first
          | exact trivial
          | exact SigAt.nil _
          | exact SigAt.alloc (SigAt.box HsF.out (Hyb.out _ K4) _ _) _
          | exact SigAt.box HsF.out (Hyb.out _ K4) _ _
          | exact SigAt.alloc (SigAt.alloc (SigAt.box HsF.out (Hyb.out _ K4) _ _) _) _
          | exact ⟨by first | exact IntsAt.nil _ _ | exact IntsAt.one (by simp [go_sem] <;> rfl) | exact IntsAt.three (by simp [go_sem] <;> rfl) (by simp [go_sem] <;> rfl) (by simp [go_sem] <;> rfl), by first | exact IntsAt.nil _ _ | exact IntsAt.one (by simp [go_sem] <;> rfl)⟩
          | (repeat (first | apply Keep.alloc | refine Keep.setCell (p := ⟨W.heap.size, _, none⟩) ?_ hle _)
             first | exact kk.trans K4 | exact kk)
  by_cases g7 : kd = 7
  · subst g7
    go_enter Tryz.func93, Tryz.ntmps93
    obtain ⟨wd, hwd⟩ : ∃ wd, U.drew = wd := ⟨_, rfl⟩
    have hd : Keep U wd := by rw [← hwd]; exact (Keep.refl _).drew
    have ex0 := fun z : KW U => z.cell x0
    have ex1 := fun z : KW U => z.cell x1
    have ex2 := fun z : KW U => z.cell x2
    have ex3 := fun z : KW U => z.cell x3
    have ex4 := fun z : KW U => z.cell x4
    have ex5 := fun z : KW U => z.cell x5
    have ex6 := fun z : KW U => z.cell x6
    have ec0 := fun z : KW U => z.cell c0
    have ec1 := fun z : KW U => z.cell c1
    have ec2 := fun z : KW U => z.cell c2
    have ec3 := fun z : KW U => z.cell c3
    have ec4 := fun z : KW U => z.cell c4
    have ec5 := fun z : KW U => z.cell c5
    have ec6 := fun z : KW U => z.cell c6
    have ec7 := fun z : KW U => z.cell c7
    have ec8 := fun z : KW U => z.cell c8
    have ec9 := fun z : KW U => z.cell c9
    have eca := fun z : KW U => z.cell ca
    have ecb := fun z : KW U => z.cell cb
    go_wp2_with fail
    refine region_begin (S := fun w' => ∃ z : KW U, w' = z.val) (by kernel_rfl) ?_
    rw [hwd]
    refine region_take [0] [] 17 (by kernel_rfl) (by kernel_rfl) (InK.mk' hd) ?_
    show wpQuiet _ _ _ _ [_] _
    repeat (go_big_quiet_step (fail))
    refine wpQuiet_nil ?_
    clear hwd
    refine region_fix (i := 1) (fuel := 16) rfl (by kernel_rfl) (fun K hK => ?_)
    go_simp
    refine (zero39_calls _ _ _ _ _ _ _ _ _ _ _ _ _ _ _ _).mono ?_
    rintro e w4 ⟨r1, rfl, _, hk4⟩
    have h4 := hd.trans hk4
    refine hK _ _ (InK.mk' h4) ?_
    clear hK K
    cases r1
    · refine region_take [2, 3, 4, 5] [0, 1] 12 (by kernel_rfl) (by kernel_rfl) (InK.mk' h4) ?_
      show wpQuiet _ _ _ _ [_, _, _, _] _
      repeat (go_big_quiet_step (fail))
      refine wpQuiet_nil ?_
      refine region_fix (i := 6) (fuel := 11) rfl (by kernel_rfl) (fun K hK => ?_)
      go_simp
      obtain ⟨w5, w5e⟩ : ∃ W, w4 = W := ⟨_, rfl⟩
      have hw5 : Keep U w5 := by rw [← w5e]; exact h4
      rw [w5e]
      refine hK _ _ (InK.mk' hw5) ?_
      clear hK K
      refine region_take [7, 8, 9, 10, 11, 13, 14, 15] [0, 1, 2, 3, 4, 5, 6] 3 (by kernel_rfl) (by kernel_rfl) (InK.mk' hw5) ?_
      show wpQuiet _ _ _ _ [_, _, _, _, _, _, _, _] _
      repeat (go_big_quiet_step (fail))
      refine wpQuiet_nil ?_
      refine region_fix (i := 12) (fuel := 2) rfl (by kernel_rfl) (fun K hK => ?_)
      go_simp
      obtain ⟨w6, w6e⟩ : ∃ W, w5 = W := ⟨_, rfl⟩
      have hw6 : Keep U w6 := by rw [← w6e]; exact hw5
      rw [w6e]
      refine hK _ _ (InK.mk' hw6) ?_
      clear hK K
      refine region_take [16, 17] [0, 1, 2, 3, 4, 5, 6, 7, 8, 9, 10, 11, 13, 14, 15, 12] 0 (by kernel_rfl) (by kernel_rfl) (InK.mk' hw6) ?_
      show wpQuiet _ _ _ _ [_, _] _
      repeat (go_big_quiet_step (fail))
      refine wpQuiet_nil ?_
      refine region_done (by kernel_rfl) ?_
      have K4 : Keep U w6 := hw6
      clear x0 x1 x2 x3 x4 x5 x6 lx1 lx2 lx3 lx4 y0 y1 f0 f1 l1 l2 l3 l4 c0 c1 c2 c3 c4 c5 c6 c7 c8 c9 ca cb lt ex0 ex1 ex2 ex3 ex4 ex5 ex6 ec0 ec1 ec2 ec3 ec4 ec5 ec6 ec7 ec8 ec9 eca ecb
      obtain ⟨x0, x1, x2, x3, x4, x5, x6, lx1, lx2, lx3, lx4⟩ := Hx.out w6 K4
      obtain ⟨y0, y1, f0, f1, l1, l2, l3, l4⟩ := Hy.out w6 K4
      obtain ⟨c0, c1, c2, c3, c4, c5, c6, c7, c8, c9, ca, cb, lt⟩ := Hc.out w6 K4
      clear K0
      go_wp2_with (first
          | (go_at_call 122; refine (wants39_calls m _ _ _ _ _ (Hm.out _ (by repeat (first | assumption | apply Keep.alloc))) (by first | exact Ha.out | exact Hb.out | decide) (by first | exact Ha.out | exact Hb.out | decide)).mono ?_; rintro e w4 ⟨A, nn, c, B, k, d, r, rfl, hs, _, hk4⟩; have K4 : Keep U w4 := Keep.trans (by repeat (first | assumption | apply Keep.alloc)) hk4; clear hk4; clear x0 x1 x2 x3 x4 x5 x6 lx1 lx2 lx3 lx4 y0 y1 f0 f1 l1 l2 l3 l4 c0 c1 c2 c3 c4 c5 c6 c7 c8 c9 ca cb lt; obtain ⟨x0, x1, x2, x3, x4, x5, x6, lx1, lx2, lx3, lx4⟩ := Hx.out w4 K4; obtain ⟨y0, y1, f0, f1, l1, l2, l3, l4⟩ := Hy.out w4 K4; obtain ⟨c0, c1, c2, c3, c4, c5, c6, c7, c8, c9, ca, cb, lt⟩ := Hc.out w4 K4; have HsF := Lib.hid hs; clear hs)
          | (go_at_call 98; refine (none39_calls _).mono ?_; rintro e w5 ⟨rfl, rfl⟩))
      all_goals (refine bodyPost_ret (by simp [results, Tryz.results93, go_sem, y0, y1, f0, f1, l1, l2, l3, l4] <;> rfl) rfl ?_)
      all_goals (refine RSB.mk rfl ?_ ?_ ?_)
      all_goals first
        | exact trivial
        | exact SigAt.nil _
        | exact SigAt.alloc (SigAt.box HsF.out (Hyb.out _ K4) _ _) _
        | exact SigAt.box HsF.out (Hyb.out _ K4) _ _
        | exact SigAt.alloc (SigAt.alloc (SigAt.box HsF.out (Hyb.out _ K4) _ _) _) _
        | exact ⟨by first | exact IntsAt.nil _ _ | exact IntsAt.one (by simp [go_sem] <;> rfl) | exact IntsAt.three (by simp [go_sem] <;> rfl) (by simp [go_sem] <;> rfl) (by simp [go_sem] <;> rfl), by first | exact IntsAt.nil _ _ | exact IntsAt.one (by simp [go_sem] <;> rfl)⟩
        | (repeat (first | apply Keep.alloc | refine Keep.setCell (p := ⟨W.heap.size, _, none⟩) ?_ hle _)
           first | exact kk.trans K4 | exact kk)
    · refine region_take [2, 3, 4, 5] [0, 1] 12 (by kernel_rfl) (by kernel_rfl) (InK.mk' h4) ?_
      show wpQuiet _ _ _ _ [_, _, _, _] _
      repeat (go_big_quiet_step (fail))
      refine wpQuiet_nil ?_
      refine region_fix (i := 6) (fuel := 11) rfl (by kernel_rfl) (fun K hK => ?_)
      go_simp
      refine (Hof.out _).mono ?_
      rintro e w5 ⟨rfl, hk5⟩
      have h5 := h4.trans hk5
      refine hK _ _ (InK.mk' h5) ?_
      clear hK K
      by_cases h17 : im = 17
      · subst h17
        refine region_take [7, 8, 9, 10, 11, 13, 14, 15] [0, 1, 2, 3, 4, 5, 6] 3 (by kernel_rfl) (by kernel_rfl) (InK.mk' h5) ?_
        show wpQuiet _ _ _ _ [_, _, _, _, _, _, _, _] _
        repeat (go_big_quiet_step (fail))
        refine wpQuiet_nil ?_
        refine region_fix (i := 12) (fuel := 2) rfl (by kernel_rfl) (fun K hK => ?_)
        go_simp
        refine (load39_calls _ _).mono ?_
        rintro e w6 ⟨r3, rfl, _, hk6⟩
        have h6 := h5.trans hk6
        refine hK _ _ (InK.mk' h6) ?_
        clear hK K
        cases r3
        · refine region_take [16, 17] [0, 1, 2, 3, 4, 5, 6, 7, 8, 9, 10, 11, 13, 14, 15, 12] 0 (by kernel_rfl) (by kernel_rfl) (InK.mk' h6) ?_
          show wpQuiet _ _ _ _ [_, _] _
          repeat (go_big_quiet_step (fail))
          refine wpQuiet_nil ?_
          refine region_done (by kernel_rfl) ?_
          have K4 : Keep U w6 := h6
          clear x0 x1 x2 x3 x4 x5 x6 lx1 lx2 lx3 lx4 y0 y1 f0 f1 l1 l2 l3 l4 c0 c1 c2 c3 c4 c5 c6 c7 c8 c9 ca cb lt ex0 ex1 ex2 ex3 ex4 ex5 ex6 ec0 ec1 ec2 ec3 ec4 ec5 ec6 ec7 ec8 ec9 eca ecb
          obtain ⟨x0, x1, x2, x3, x4, x5, x6, lx1, lx2, lx3, lx4⟩ := Hx.out w6 K4
          obtain ⟨y0, y1, f0, f1, l1, l2, l3, l4⟩ := Hy.out w6 K4
          obtain ⟨c0, c1, c2, c3, c4, c5, c6, c7, c8, c9, ca, cb, lt⟩ := Hc.out w6 K4
          clear K0
          go_wp2_with (first
              | (go_at_call 122; refine (wants39_calls m _ _ _ _ _ (Hm.out _ (by repeat (first | assumption | apply Keep.alloc))) (by first | exact Ha.out | exact Hb.out | decide) (by first | exact Ha.out | exact Hb.out | decide)).mono ?_; rintro e w4 ⟨A, nn, c, B, k, d, r, rfl, hs, _, hk4⟩; have K4 : Keep U w4 := Keep.trans (by repeat (first | assumption | apply Keep.alloc)) hk4; clear hk4; clear x0 x1 x2 x3 x4 x5 x6 lx1 lx2 lx3 lx4 y0 y1 f0 f1 l1 l2 l3 l4 c0 c1 c2 c3 c4 c5 c6 c7 c8 c9 ca cb lt; obtain ⟨x0, x1, x2, x3, x4, x5, x6, lx1, lx2, lx3, lx4⟩ := Hx.out w4 K4; obtain ⟨y0, y1, f0, f1, l1, l2, l3, l4⟩ := Hy.out w4 K4; obtain ⟨c0, c1, c2, c3, c4, c5, c6, c7, c8, c9, ca, cb, lt⟩ := Hc.out w4 K4; have HsF := Lib.hid hs; clear hs)
              | (go_at_call 98; refine (none39_calls _).mono ?_; rintro e w5 ⟨rfl, rfl⟩))
          all_goals (refine bodyPost_ret (by simp [results, Tryz.results93, go_sem, y0, y1, f0, f1, l1, l2, l3, l4] <;> rfl) rfl ?_)
          all_goals (refine RSB.mk rfl ?_ ?_ ?_)
          all_goals first
            | exact trivial
            | exact SigAt.nil _
            | exact SigAt.alloc (SigAt.box HsF.out (Hyb.out _ K4) _ _) _
            | exact SigAt.box HsF.out (Hyb.out _ K4) _ _
            | exact SigAt.alloc (SigAt.alloc (SigAt.box HsF.out (Hyb.out _ K4) _ _) _) _
            | exact ⟨by first | exact IntsAt.nil _ _ | exact IntsAt.one (by simp [go_sem] <;> rfl) | exact IntsAt.three (by simp [go_sem] <;> rfl) (by simp [go_sem] <;> rfl) (by simp [go_sem] <;> rfl), by first | exact IntsAt.nil _ _ | exact IntsAt.one (by simp [go_sem] <;> rfl)⟩
            | (repeat (first | apply Keep.alloc | refine Keep.setCell (p := ⟨W.heap.size, _, none⟩) ?_ hle _)
               first | exact kk.trans K4 | exact kk)
        · refine region_take [16, 17] [0, 1, 2, 3, 4, 5, 6, 7, 8, 9, 10, 11, 13, 14, 15, 12] 0 (by kernel_rfl) (by kernel_rfl) (InK.mk' h6) ?_
          show wpQuiet _ _ _ _ [_, _] _
          repeat (go_big_quiet_step (fail))
          refine wpQuiet_nil ?_
          refine region_done (by kernel_rfl) ?_
          have K4 : Keep U w6 := h6
          clear x0 x1 x2 x3 x4 x5 x6 lx1 lx2 lx3 lx4 y0 y1 f0 f1 l1 l2 l3 l4 c0 c1 c2 c3 c4 c5 c6 c7 c8 c9 ca cb lt ex0 ex1 ex2 ex3 ex4 ex5 ex6 ec0 ec1 ec2 ec3 ec4 ec5 ec6 ec7 ec8 ec9 eca ecb
          obtain ⟨x0, x1, x2, x3, x4, x5, x6, lx1, lx2, lx3, lx4⟩ := Hx.out w6 K4
          obtain ⟨y0, y1, f0, f1, l1, l2, l3, l4⟩ := Hy.out w6 K4
          obtain ⟨c0, c1, c2, c3, c4, c5, c6, c7, c8, c9, ca, cb, lt⟩ := Hc.out w6 K4
          clear K0
          go_wp2_with (first
              | (go_at_call 122; refine (wants39_calls m _ _ _ _ _ (Hm.out _ (by repeat (first | assumption | apply Keep.alloc))) (by first | exact Ha.out | exact Hb.out | decide) (by first | exact Ha.out | exact Hb.out | decide)).mono ?_; rintro e w4 ⟨A, nn, c, B, k, d, r, rfl, hs, _, hk4⟩; have K4 : Keep U w4 := Keep.trans (by repeat (first | assumption | apply Keep.alloc)) hk4; clear hk4; clear x0 x1 x2 x3 x4 x5 x6 lx1 lx2 lx3 lx4 y0 y1 f0 f1 l1 l2 l3 l4 c0 c1 c2 c3 c4 c5 c6 c7 c8 c9 ca cb lt; obtain ⟨x0, x1, x2, x3, x4, x5, x6, lx1, lx2, lx3, lx4⟩ := Hx.out w4 K4; obtain ⟨y0, y1, f0, f1, l1, l2, l3, l4⟩ := Hy.out w4 K4; obtain ⟨c0, c1, c2, c3, c4, c5, c6, c7, c8, c9, ca, cb, lt⟩ := Hc.out w4 K4; have HsF := Lib.hid hs; clear hs)
              | (go_at_call 98; refine (none39_calls _).mono ?_; rintro e w5 ⟨rfl, rfl⟩))
          all_goals (refine bodyPost_ret (by simp [results, Tryz.results93, go_sem, y0, y1, f0, f1, l1, l2, l3, l4] <;> rfl) rfl ?_)
          all_goals (refine RSB.mk rfl ?_ ?_ ?_)
          all_goals first
            | exact trivial
            | exact SigAt.nil _
            | exact SigAt.alloc (SigAt.box HsF.out (Hyb.out _ K4) _ _) _
            | exact SigAt.box HsF.out (Hyb.out _ K4) _ _
            | exact SigAt.alloc (SigAt.alloc (SigAt.box HsF.out (Hyb.out _ K4) _ _) _) _
            | exact ⟨by first | exact IntsAt.nil _ _ | exact IntsAt.one (by simp [go_sem] <;> rfl) | exact IntsAt.three (by simp [go_sem] <;> rfl) (by simp [go_sem] <;> rfl) (by simp [go_sem] <;> rfl), by first | exact IntsAt.nil _ _ | exact IntsAt.one (by simp [go_sem] <;> rfl)⟩
            | (repeat (first | apply Keep.alloc | refine Keep.setCell (p := ⟨W.heap.size, _, none⟩) ?_ hle _)
               first | exact kk.trans K4 | exact kk)
      · have h17b : (im != 17) = true := by simpa using h17
        refine region_take [7, 8, 9, 10, 11, 13, 14, 15] [0, 1, 2, 3, 4, 5, 6] 3 (by kernel_rfl) (by kernel_rfl) (InK.mk' h5) ?_
        show wpQuiet _ _ _ _ [_, _, _, _, _, _, _, _] _
        repeat (go_big_quiet_step (fail))
        refine wpQuiet_nil ?_
        refine region_fix (i := 12) (fuel := 2) rfl (by kernel_rfl) (fun K hK => ?_)
        go_simp
        obtain ⟨w6, w6e⟩ : ∃ W, w5 = W := ⟨_, rfl⟩
        have hw6 : Keep U w6 := by rw [← w6e]; exact h5
        rw [w6e]
        refine hK _ _ (InK.mk' hw6) ?_
        clear hK K
        refine region_take [16, 17] [0, 1, 2, 3, 4, 5, 6, 7, 8, 9, 10, 11, 13, 14, 15, 12] 0 (by kernel_rfl) (by kernel_rfl) (InK.mk' hw6) ?_
        show wpQuiet _ _ _ _ [_, _] _
        repeat (go_big_quiet_step (fail))
        refine wpQuiet_nil ?_
        refine region_done (by kernel_rfl) ?_
        have K4 : Keep U w6 := hw6
        clear x0 x1 x2 x3 x4 x5 x6 lx1 lx2 lx3 lx4 y0 y1 f0 f1 l1 l2 l3 l4 c0 c1 c2 c3 c4 c5 c6 c7 c8 c9 ca cb lt ex0 ex1 ex2 ex3 ex4 ex5 ex6 ec0 ec1 ec2 ec3 ec4 ec5 ec6 ec7 ec8 ec9 eca ecb
        obtain ⟨x0, x1, x2, x3, x4, x5, x6, lx1, lx2, lx3, lx4⟩ := Hx.out w6 K4
        obtain ⟨y0, y1, f0, f1, l1, l2, l3, l4⟩ := Hy.out w6 K4
        obtain ⟨c0, c1, c2, c3, c4, c5, c6, c7, c8, c9, ca, cb, lt⟩ := Hc.out w6 K4
        clear K0
        go_wp2_with (first
            | (go_at_call 122; refine (wants39_calls m _ _ _ _ _ (Hm.out _ (by repeat (first | assumption | apply Keep.alloc))) (by first | exact Ha.out | exact Hb.out | decide) (by first | exact Ha.out | exact Hb.out | decide)).mono ?_; rintro e w4 ⟨A, nn, c, B, k, d, r, rfl, hs, _, hk4⟩; have K4 : Keep U w4 := Keep.trans (by repeat (first | assumption | apply Keep.alloc)) hk4; clear hk4; clear x0 x1 x2 x3 x4 x5 x6 lx1 lx2 lx3 lx4 y0 y1 f0 f1 l1 l2 l3 l4 c0 c1 c2 c3 c4 c5 c6 c7 c8 c9 ca cb lt; obtain ⟨x0, x1, x2, x3, x4, x5, x6, lx1, lx2, lx3, lx4⟩ := Hx.out w4 K4; obtain ⟨y0, y1, f0, f1, l1, l2, l3, l4⟩ := Hy.out w4 K4; obtain ⟨c0, c1, c2, c3, c4, c5, c6, c7, c8, c9, ca, cb, lt⟩ := Hc.out w4 K4; have HsF := Lib.hid hs; clear hs)
            | (go_at_call 98; refine (none39_calls _).mono ?_; rintro e w5 ⟨rfl, rfl⟩))
        all_goals (refine bodyPost_ret (by simp [results, Tryz.results93, go_sem, y0, y1, f0, f1, l1, l2, l3, l4] <;> rfl) rfl ?_)
        all_goals (refine RSB.mk rfl ?_ ?_ ?_)
        all_goals first
          | exact trivial
          | exact SigAt.nil _
          | exact SigAt.alloc (SigAt.box HsF.out (Hyb.out _ K4) _ _) _
          | exact SigAt.box HsF.out (Hyb.out _ K4) _ _
          | exact SigAt.alloc (SigAt.alloc (SigAt.box HsF.out (Hyb.out _ K4) _ _) _) _
          | exact ⟨by first | exact IntsAt.nil _ _ | exact IntsAt.one (by simp [go_sem] <;> rfl) | exact IntsAt.three (by simp [go_sem] <;> rfl) (by simp [go_sem] <;> rfl) (by simp [go_sem] <;> rfl), by first | exact IntsAt.nil _ _ | exact IntsAt.one (by simp [go_sem] <;> rfl)⟩
          | (repeat (first | apply Keep.alloc | refine Keep.setCell (p := ⟨W.heap.size, _, none⟩) ?_ hle _)
             first | exact kk.trans K4 | exact kk)
  have g6b : (kd == 6) = false := by simpa using g6
  have g7b : (kd == 7) = false := by simpa using g7
  clear g6 g7
  go_enter Tryz.func93, Tryz.ntmps93
  go_wp2_with (first
    | (go_at_call 96; refine (zero39_calls _ _ _ _ _ _ _ _ _ _ _ _ _ _ _ _).mono ?_; rintro e w4 ⟨r, rfl, _, hk4⟩; have K4 : Keep U w4 := Keep.trans (by repeat (first | assumption | apply Keep.alloc)) hk4; clear hk4; clear x0 x1 x2 x3 x4 x5 x6 lx1 lx2 lx3 lx4 y0 y1 f0 f1 l1 l2 l3 l4 c0 c1 c2 c3 c4 c5 c6 c7 c8 c9 ca cb lt; obtain ⟨x0, x1, x2, x3, x4, x5, x6, lx1, lx2, lx3, lx4⟩ := Hx.out w4 K4; obtain ⟨y0, y1, f0, f1, l1, l2, l3, l4⟩ := Hy.out w4 K4; obtain ⟨c0, c1, c2, c3, c4, c5, c6, c7, c8, c9, ca, cb, lt⟩ := Hc.out w4 K4)
    | (go_at_call 123; refine (mem08_calls m _ _ (Hm.out _ (by repeat (first | assumption | apply Keep.alloc))) Hb.out).mono ?_; rintro e w4 ⟨v0, v1, v2, r, rfl, hk4⟩; have K4 : Keep U w4 := Keep.trans (by repeat (first | assumption | apply Keep.alloc)) hk4; clear hk4; clear x0 x1 x2 x3 x4 x5 x6 lx1 lx2 lx3 lx4 y0 y1 f0 f1 l1 l2 l3 l4 c0 c1 c2 c3 c4 c5 c6 c7 c8 c9 ca cb lt; obtain ⟨x0, x1, x2, x3, x4, x5, x6, lx1, lx2, lx3, lx4⟩ := Hx.out w4 K4; obtain ⟨y0, y1, f0, f1, l1, l2, l3, l4⟩ := Hy.out w4 K4; obtain ⟨c0, c1, c2, c3, c4, c5, c6, c7, c8, c9, ca, cb, lt⟩ := Hc.out w4 K4)
    | (go_at_call 122; refine (wants39_calls m _ _ _ _ _ (Hm.out _ (by repeat (first | assumption | apply Keep.alloc))) (by first | exact Ha.out | exact Hb.out | decide) (by first | exact Ha.out | exact Hb.out | decide)).mono ?_; rintro e w4 ⟨A, nn, c, B, k, d, r, rfl, hs, _, hk4⟩; have K4 : Keep U w4 := Keep.trans (by repeat (first | assumption | apply Keep.alloc)) hk4; clear hk4; clear x0 x1 x2 x3 x4 x5 x6 lx1 lx2 lx3 lx4 y0 y1 f0 f1 l1 l2 l3 l4 c0 c1 c2 c3 c4 c5 c6 c7 c8 c9 ca cb lt; obtain ⟨x0, x1, x2, x3, x4, x5, x6, lx1, lx2, lx3, lx4⟩ := Hx.out w4 K4; obtain ⟨y0, y1, f0, f1, l1, l2, l3, l4⟩ := Hy.out w4 K4; obtain ⟨c0, c1, c2, c3, c4, c5, c6, c7, c8, c9, ca, cb, lt⟩ := Hc.out w4 K4; have HsF := Lib.hid hs; clear hs)
    | (go_at_call 97; refine (fn39_calls _ _ _ _ _ _ _).mono ?_; rintro e w5 ⟨rfl, rfl⟩)
    | (go_at_call 98; refine (none39_calls _).mono ?_; rintro e w5 ⟨rfl, rfl⟩))
  all_goals (refine bodyPost_ret (by simp [results, Tryz.results93, go_sem, y0, y1, f0, f1, l1, l2, l3, l4] <;> rfl) rfl ?_)
  all_goals (refine RSB.mk rfl ?_ ?_ ?_)
  all_goals first
    | exact trivial
    | exact SigAt.nil _
    | exact SigAt.alloc (SigAt.box HsF.out (Hyb.out _ K4) _ _) _
    | exact SigAt.box HsF.out (Hyb.out _ K4) _ _
    | exact SigAt.alloc (SigAt.alloc (SigAt.box HsF.out (Hyb.out _ K4) _ _) _) _
    | exact ⟨by first | exact IntsAt.nil _ _ | exact IntsAt.one (by simp [go_sem] <;> rfl) | exact IntsAt.three (by simp [go_sem] <;> rfl) (by simp [go_sem] <;> rfl) (by simp [go_sem] <;> rfl), by first | exact IntsAt.nil _ _ | exact IntsAt.one (by simp [go_sem] <;> rfl)⟩
    | (repeat (first | apply Keep.alloc | refine Keep.setCell (p := ⟨W.heap.size, _, none⟩) ?_ hle _)
       first | exact kk.trans K4 | exact kk)
end Go.Proofs.YtjpmiejgcnfiiaaGreat
namespace Go.Proofs.YtjpmiejgcnfiiaaGreat
open Go Go.RowKit

set_option maxHeartbeats 8000000 in
set_option maxRecDepth 100000 in
theorem named39_calls (m : MdD) (kd op a b n : Int) (aa : Option Addr) (al : List Int) (ac : Nat) (oa : Option Addr) (ol : List Int) (oc : Nat) (w : World) (h : MdOk w m) (hwa : (Lit.int .i64 a).wf = true) (hwb : (Lit.int .i64 b).wf = true) : Calls Tryz.prog 94 #[.agg (mdC m).toArray, .agg #[.int .i64 kd, .int .i64 op, .int .i64 a, .int .i64 b, .int .u64 n, .slice aa al.length ac, .slice oa ol.length oc]] w (RSB w fun _ _ => True) := by
  obtain ⟨M, hM, kM, bM, sM⟩ := boxN w 33 (mdC m)
  obtain ⟨W, hW, kW, bW, sW⟩ := boxN M 63 [.int .i64 kd, .int .i64 op, .int .i64 a, .int .i64 b, .int .u64 n, .slice aa al.length ac, .slice oa ol.length oc]
  obtain ⟨U, hU, kU, bU, sU⟩ := boxN W 36 [.slice none 0 0, .slice none 0 0]
  have Hx := Lib.hid (fun (w' : World) (k : Keep U w') => ((bW.keep kU).keep k).sx)
  have Hy := Lib.hid (fun (w' : World) (k : Keep U w') => (bU.keep k).yx)
  have Hyb := Lib.hid (fun (w' : World) (k : Keep U w') => bU.keep k)
  have Hc := Lib.hid (fun (w' : World) (k : Keep U w') => (((bM.keep kW).keep kU).keep k).md)
  have kk := (kM.trans kW).trans kU
  have hle : w.heap.size ≤ W.heap.size := (kM.trans kW).size
  have Hm := Lib.hid (fun (w' : World) (k : Keep U w') => h.keep (kk.trans k))
  have Ha := Lib.hid hwa
  have Hb := Lib.hid hwb
  clear hwa hwb
  have K0 : Keep U U := Keep.refl _
  obtain ⟨x0, x1, x2, x3, x4, x5, x6, lx1, lx2, lx3, lx4⟩ := Hx.out U K0; obtain ⟨y0, y1, f0, f1, l1, l2, l3, l4⟩ := Hy.out U K0; obtain ⟨c0, c1, c2, c3, c4, c5, c6, c7, c8, c9, ca, cb, lt⟩ := Hc.out U K0
  clear bW bU sW sU bM sM h
  go_enter Tryz.func94, Tryz.ntmps94
  go_wp2_with (first
    | (go_at_call 96; refine (zero39_calls _ _ _ _ _ _ _ _ _ _ _ _ _ _ _ _).mono ?_; rintro e w4 ⟨r, rfl, _, hk4⟩; have K4 : Keep U w4 := Keep.trans (by repeat (first | assumption | apply Keep.alloc)) hk4; clear hk4; clear x0 x1 x2 x3 x4 x5 x6 lx1 lx2 lx3 lx4 y0 y1 f0 f1 l1 l2 l3 l4 c0 c1 c2 c3 c4 c5 c6 c7 c8 c9 ca cb lt; obtain ⟨x0, x1, x2, x3, x4, x5, x6, lx1, lx2, lx3, lx4⟩ := Hx.out w4 K4; obtain ⟨y0, y1, f0, f1, l1, l2, l3, l4⟩ := Hy.out w4 K4; obtain ⟨c0, c1, c2, c3, c4, c5, c6, c7, c8, c9, ca, cb, lt⟩ := Hc.out w4 K4)
    | (go_at_call 124; refine (func08_calls m _ _ (Hm.out _ (by repeat (first | assumption | apply Keep.alloc))) Ha.out).mono ?_; rintro e w4 ⟨A, nn, c, B, k, d, r, rfl, hs, _, hk4⟩; have K4 : Keep U w4 := Keep.trans (by repeat (first | assumption | apply Keep.alloc)) hk4; clear hk4; clear x0 x1 x2 x3 x4 x5 x6 lx1 lx2 lx3 lx4 y0 y1 f0 f1 l1 l2 l3 l4 c0 c1 c2 c3 c4 c5 c6 c7 c8 c9 ca cb lt; obtain ⟨x0, x1, x2, x3, x4, x5, x6, lx1, lx2, lx3, lx4⟩ := Hx.out w4 K4; obtain ⟨y0, y1, f0, f1, l1, l2, l3, l4⟩ := Hy.out w4 K4; obtain ⟨c0, c1, c2, c3, c4, c5, c6, c7, c8, c9, ca, cb, lt⟩ := Hc.out w4 K4; clear hs)
    | (go_at_call 122; refine (wants39_calls m _ _ _ _ _ (Hm.out _ (by repeat (first | assumption | apply Keep.alloc))) (by first | exact Ha.out | exact Hb.out | decide) (by first | exact Ha.out | exact Hb.out | decide)).mono ?_; rintro e w4 ⟨A, nn, c, B, k, d, r, rfl, hs, _, hk4⟩; have K4 : Keep U w4 := Keep.trans (by repeat (first | assumption | apply Keep.alloc)) hk4; clear hk4; clear x0 x1 x2 x3 x4 x5 x6 lx1 lx2 lx3 lx4 y0 y1 f0 f1 l1 l2 l3 l4 c0 c1 c2 c3 c4 c5 c6 c7 c8 c9 ca cb lt; obtain ⟨x0, x1, x2, x3, x4, x5, x6, lx1, lx2, lx3, lx4⟩ := Hx.out w4 K4; obtain ⟨y0, y1, f0, f1, l1, l2, l3, l4⟩ := Hy.out w4 K4; obtain ⟨c0, c1, c2, c3, c4, c5, c6, c7, c8, c9, ca, cb, lt⟩ := Hc.out w4 K4; have HsF := Lib.hid hs; clear hs)
    | (go_at_call 97; refine (fn39_calls _ _ _ _ _ _ _).mono ?_; rintro e w5 ⟨rfl, rfl⟩)
    | (go_at_call 98; refine (none39_calls _).mono ?_; rintro e w5 ⟨rfl, rfl⟩))
  all_goals (refine bodyPost_ret (by simp [results, Tryz.results94, go_sem, y0, y1, f0, f1, l1, l2, l3, l4] <;> rfl) rfl ?_)
  all_goals (refine RSB.mk rfl ?_ ?_ ?_)
  all_goals first
    | exact trivial
    | exact SigAt.nil _
    | exact SigAt.alloc (SigAt.box HsF.out (Hyb.out _ K4) _ _) _
    | exact SigAt.box HsF.out (Hyb.out _ K4) _ _
    | exact SigAt.alloc (SigAt.alloc (SigAt.box HsF.out (Hyb.out _ K4) _ _) _) _
    | exact ⟨by first | exact IntsAt.nil _ _ | exact IntsAt.one (by simp [go_sem] <;> rfl) | exact IntsAt.three (by simp [go_sem] <;> rfl) (by simp [go_sem] <;> rfl) (by simp [go_sem] <;> rfl), by first | exact IntsAt.nil _ _ | exact IntsAt.one (by simp [go_sem] <;> rfl)⟩
    | (repeat (first | apply Keep.alloc | refine Keep.setCell (p := ⟨W.heap.size, _, none⟩) ?_ hle _)
       first | exact kk.trans K4 | exact kk)
set_option maxHeartbeats 8000000 in
set_option maxRecDepth 100000 in
theorem bulk39_calls (m : MdD) (kd op a b n : Int) (aa : Option Addr) (al : List Int) (ac : Nat) (oa : Option Addr) (ol : List Int) (oc : Nat) (w : World) (h : MdOk w m) (hwa : (Lit.int .i64 a).wf = true) (hwb : (Lit.int .i64 b).wf = true) : Calls Tryz.prog 95 #[.agg (mdC m).toArray, .agg #[.int .i64 kd, .int .i64 op, .int .i64 a, .int .i64 b, .int .u64 n, .slice aa al.length ac, .slice oa ol.length oc]] w (RSB w fun _ _ => True) := by
  obtain ⟨M, hM, kM, bM, sM⟩ := boxN w 33 (mdC m)
  obtain ⟨W, hW, kW, bW, sW⟩ := boxN M 63 [.int .i64 kd, .int .i64 op, .int .i64 a, .int .i64 b, .int .u64 n, .slice aa al.length ac, .slice oa ol.length oc]
  obtain ⟨U, hU, kU, bU, sU⟩ := boxN W 36 [.slice none 0 0, .slice none 0 0]
  have Hx := Lib.hid (fun (w' : World) (k : Keep U w') => ((bW.keep kU).keep k).sx)
  have Hy := Lib.hid (fun (w' : World) (k : Keep U w') => (bU.keep k).yx)
  have Hyb := Lib.hid (fun (w' : World) (k : Keep U w') => bU.keep k)
  have Hc := Lib.hid (fun (w' : World) (k : Keep U w') => (((bM.keep kW).keep kU).keep k).md)
  have kk := (kM.trans kW).trans kU
  have hle : w.heap.size ≤ W.heap.size := (kM.trans kW).size
  have Hm := Lib.hid (fun (w' : World) (k : Keep U w') => h.keep (kk.trans k))
  have Ha := Lib.hid hwa
  have Hb := Lib.hid hwb
  clear hwa hwb
  have K0 : Keep U U := Keep.refl _
  obtain ⟨x0, x1, x2, x3, x4, x5, x6, lx1, lx2, lx3, lx4⟩ := Hx.out U K0; obtain ⟨y0, y1, f0, f1, l1, l2, l3, l4⟩ := Hy.out U K0; obtain ⟨c0, c1, c2, c3, c4, c5, c6, c7, c8, c9, ca, cb, lt⟩ := Hc.out U K0
  clear bW bU sW sU bM sM h
  go_enter Tryz.func95, Tryz.ntmps95
  go_wp2_with (first
    | (go_at_call 96; refine (zero39_calls _ _ _ _ _ _ _ _ _ _ _ _ _ _ _ _).mono ?_; rintro e w4 ⟨r, rfl, _, hk4⟩; have K4 : Keep U w4 := Keep.trans (by repeat (first | assumption | apply Keep.alloc)) hk4; clear hk4; clear x0 x1 x2 x3 x4 x5 x6 lx1 lx2 lx3 lx4 y0 y1 f0 f1 l1 l2 l3 l4 c0 c1 c2 c3 c4 c5 c6 c7 c8 c9 ca cb lt; obtain ⟨x0, x1, x2, x3, x4, x5, x6, lx1, lx2, lx3, lx4⟩ := Hx.out w4 K4; obtain ⟨y0, y1, f0, f1, l1, l2, l3, l4⟩ := Hy.out w4 K4; obtain ⟨c0, c1, c2, c3, c4, c5, c6, c7, c8, c9, ca, cb, lt⟩ := Hc.out w4 K4)
    | (go_at_call 122; refine (wants39_calls m _ _ _ _ _ (Hm.out _ (by repeat (first | assumption | apply Keep.alloc))) (by first | exact Ha.out | exact Hb.out | decide) (by first | exact Ha.out | exact Hb.out | decide)).mono ?_; rintro e w4 ⟨A, nn, c, B, k, d, r, rfl, hs, _, hk4⟩; have K4 : Keep U w4 := Keep.trans (by repeat (first | assumption | apply Keep.alloc)) hk4; clear hk4; clear x0 x1 x2 x3 x4 x5 x6 lx1 lx2 lx3 lx4 y0 y1 f0 f1 l1 l2 l3 l4 c0 c1 c2 c3 c4 c5 c6 c7 c8 c9 ca cb lt; obtain ⟨x0, x1, x2, x3, x4, x5, x6, lx1, lx2, lx3, lx4⟩ := Hx.out w4 K4; obtain ⟨y0, y1, f0, f1, l1, l2, l3, l4⟩ := Hy.out w4 K4; obtain ⟨c0, c1, c2, c3, c4, c5, c6, c7, c8, c9, ca, cb, lt⟩ := Hc.out w4 K4; have HsF := Lib.hid hs; clear hs)
    | (go_at_call 98; refine (none39_calls _).mono ?_; rintro e w5 ⟨rfl, rfl⟩))
  all_goals (refine bodyPost_ret (by simp [results, Tryz.results95, go_sem, y0, y1, f0, f1, l1, l2, l3, l4] <;> rfl) rfl ?_)
  all_goals (refine RSB.mk rfl ?_ ?_ ?_)
  all_goals first
    | exact trivial
    | exact SigAt.nil _
    | exact SigAt.alloc (SigAt.box HsF.out (Hyb.out _ K4) _ _) _
    | exact SigAt.box HsF.out (Hyb.out _ K4) _ _
    | exact SigAt.alloc (SigAt.alloc (SigAt.box HsF.out (Hyb.out _ K4) _ _) _) _
    | exact ⟨by first | exact IntsAt.nil _ _ | exact IntsAt.one (by simp [go_sem] <;> rfl) | exact IntsAt.three (by simp [go_sem] <;> rfl) (by simp [go_sem] <;> rfl) (by simp [go_sem] <;> rfl), by first | exact IntsAt.nil _ _ | exact IntsAt.one (by simp [go_sem] <;> rfl)⟩
    | (repeat (first | apply Keep.alloc | refine Keep.setCell (p := ⟨W.heap.size, _, none⟩) ?_ hle _)
       first | exact kk.trans K4 | exact kk)
end Go.Proofs.YtjpmiejgcnfiiaaGreat
