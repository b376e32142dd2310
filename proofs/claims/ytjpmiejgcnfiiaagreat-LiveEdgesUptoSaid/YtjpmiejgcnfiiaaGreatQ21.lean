import Derived.Test.YtjpmiejgcnfiiaaGreatQ20
import Derived.Test.YtjpmiejgcnfiiaaGreatQ16
set_option linter.unusedVariables false
set_option linter.unusedSimpArgs false
namespace Go.Proofs.YtjpmiejgcnfiiaaGreat
open Go Go.RowKit

theorem valApp {w : World} {base : Nat} {v : Value} {xs : List Int} (h : Own intC 1 74 w base v xs) {B : Option Addr} {ys : List Int} (hs : Seg w B (ys.flatMap intC)) (c : Nat) (hn : xs.length + ys.length ≤ 17592186044416) (hb : base ≤ w.heap.size) :
    ∃ A k, v = .slice A xs.length k ∧ ∃ A' c' w2, (Builtin.append_ #[34, 34] 34 #[.slice A xs.length k, .slice B ys.length c]).run Tryz.prog w = .ok (.slice A' (xs ++ ys).length c') w2 ∧
      Own intC 1 74 w2 base (.slice A' (xs ++ ys).length c') (xs ++ ys) ∧ Ext (fun k => v.ownBlock = some k) w w2 := by
  obtain ⟨A, k, hform, _⟩ := h.form
  obtain ⟨v', w2, hrun, hown, hg, _⟩ := append_run elVal h hs c 34 (by simp [maxLen]; omega) (by omega) hb
  obtain ⟨A', c', rfl, _⟩ := hown.form
  subst hform
  exact ⟨A, k, rfl, A', c', w2, hrun, hown, Ext.of_grown hg⟩
/-- Parameters and one type more, laid into a row of one's own: in whichever order. -/
structure More (Y w : World) (v : Value) (l : List Int) : Prop where
  own : Own intC 1 74 w Y.heap.size v (l ++ [1])
  keep : Keep Y w
set_option maxHeartbeats 8000000 in
set_option maxRecDepth 100000 in
theorem indirect23_calls (m : MdD) (op a b n : Int) (w : World) (h : MdOk w m) (ha : (Lit.int .i64 a).wf = true) (hb : (Lit.int .i64 b).wf = true) : Calls Tryz.prog 158 #[.agg (mdC m).toArray, .agg #[.int .i64 op, .int .i64 a, .int .i64 b, .int .u64 n, .int .i64 0, .int .i64 0, .int .i64 0, .slice none 0 0, .slice none 0 0]] w (RW w) := by
  obtain ⟨W, hW, kW, bW, sW⟩ := boxN w 33 (mdC m)
  obtain ⟨V, hV, kV, bV, sV⟩ := boxN W 215 [.int .i64 op, .int .i64 a, .int .i64 b, .int .u64 n, .int .i64 0, .int .i64 0, .int .i64 0, .slice none 0 0, .slice none 0 0]
  obtain ⟨U, hU, kU, bU, sU⟩ := boxN V 234 [.slice none 0 0, .slice none 0 0, .int .i64 0]
  have Hs := Lib.hid (fun (w' : World) (k : Keep U w') => rule3 (((bW.keep kV).keep kU).keep k) ((bV.keep kU).keep k) (bU.keep k))
  have Hyb := Lib.hid (fun (w' : World) (k : Keep U w') => bU.keep k)
  have kk := (kW.trans kV).trans kU
  have hle : w.heap.size ≤ V.heap.size := (kW.trans kV).size
  have Hm := Lib.hid (fun (w' : World) (k : Keep U w') => h.keep (kk.trans k))
  have Ha := Lib.hid ha
  have Hb := Lib.hid hb
  have K0 : Keep U U := Keep.refl _
  obtain ⟨c0, c1, c2, c3, c4, c5, c6, c7, c8, c9, ca, cb, lt, x0, x1, x2, x3, x4, x5, x6, x7, x8, y0, y1, y2, f0, f1, f2, l1, l2, l3, l4, lx1, lx2, lx3, lx4, lt2, lt3, lt4⟩ := Hs.out U K0
  clear h ha hb bW bV bU sW sV sU
  go_enter Tryz.func158, Tryz.ntmps158
  go_wp2_with fail
  refine (type08S_calls m _ _ (Hm.out _ K0)).mono ?_
  rintro e w4 ⟨A, nn, c, B, kq, d, r, rfl, hs, hnn, hk4⟩
  obtain ⟨X, hX, kX, bX, sX⟩ := boxN w4 36 [.slice A nn c, .slice B kq d]
  have KX : Keep U X := hk4.trans kX
  have hV4 : V.heap.size < w4.heap.size := Nat.lt_of_lt_of_le l1 hk4.size
  clear c0 c1 c2 c3 c4 c5 c6 c7 c8 c9 ca cb lt x0 x1 x2 x3 x4 x5 x6 x7 x8 y0 y1 y2 f0 f1 f2 l1 l2 l3 l4 lx1 lx2 lx3 lx4 lt2 lt3 lt4
  obtain ⟨c0, c1, c2, c3, c4, c5, c6, c7, c8, c9, ca, cb, lt, x0, x1, x2, x3, x4, x5, x6, x7, x8, y0, y1, y2, f0, f1, f2, l1, l2, l3, l4, lx1, lx2, lx3, lx4, lt2, lt3, lt4⟩ := Hs.out X KX
  have HsX := Lib.hid (hs.keep kX)
  have HbX := Lib.hid (fun (w' : World) (k : Keep X w') => (bX.keep k).box2)
  clear hs hk4 bX kX K0 sX
  go_wp2_with fail
  refine (table08_calls m _ _ (Hm.out _ KX) Hb.out).mono ?_
  rintro e w5 ⟨v0, v1, v2, v3, r2, rfl, hk5⟩
  obtain ⟨Y, hY, kY, bY, sY⟩ := boxN w5 218 [.int .i64 v0, .int .i64 v1, .int .i64 v2, .bool v3]
  have hk5Y := hk5.trans kY
  have K4 : Keep U Y := KX.trans hk5Y
  have HsY := Lib.hid (HsX.out.keep hk5Y)
  obtain ⟨z0, z1, _, _, zl⟩ := HbX.out Y hk5Y
  have t0 : Y.cell? ⟨w5.heap.size, 0, none⟩ = some (.int .i64 v0) := bY.cell 0
  have tl := bY.lt
  clear hk5 hk5Y kY bY sY HbX HsX KX c0 c1 c2 c3 c4 c5 c6 c7 c8 c9 ca cb lt x0 x1 x2 x3 x4 x5 x6 x7 x8 y0 y1 y2 f0 f1 f2 l1 l2 l3 l4 lx1 lx2 lx3 lx4 lt2 lt3 lt4
  obtain ⟨c0, c1, c2, c3, c4, c5, c6, c7, c8, c9, ca, cb, lt, x0, x1, x2, x3, x4, x5, x6, x7, x8, y0, y1, y2, f0, f1, f2, l1, l2, l3, l4, lx1, lx2, lx3, lx4, lt2, lt3, lt4⟩ := Hs.out Y K4
  cases r with
  | false =>
    go_wp2_with ((go_at_call 156; refine (bad23_calls _ _).mono ?_; rintro e w5 ⟨rfl, rfl⟩))
    all_goals (refine bodyPost_ret (by simp [results, Tryz.results158, go_sem, y0, y1, y2, f0, f1, f2, l1, l2, l3, l4] <;> rfl) rfl ?_)
    all_goals (refine RW.mk rfl ?_ ?_)
    all_goals first
      | exact SigAt.nil _
      | exact HsS.out.box3 (Hyb.out _ K4) _ _ _
      | exact SigAt.alloc (HsS.out.box3 (Hyb.out _ K4) _ _ _) _
      | exact HsF.out.box3 (Hyb.out _ K4) _ _ _
      | exact SigAt.alloc (HsF.out.box3 (Hyb.out _ K4) _ _ _) _
      | exact ⟨by first | exact IntsAt.nil _ _ | exact IntsAt.one (by simp [go_sem] <;> rfl) | exact IntsAt.two (by simp [go_sem] <;> rfl) (by simp [go_sem] <;> rfl) | exact IntsAt.three (by simp [go_sem] <;> rfl) (by simp [go_sem] <;> rfl) (by simp [go_sem] <;> rfl), by first | exact IntsAt.nil _ _ | exact IntsAt.one (by simp [go_sem] <;> rfl)⟩
      | (repeat (first | apply Keep.alloc | refine Keep.setCell (p := ⟨V.heap.size, _, none⟩) ?_ hle _)
         first | exact kk.trans K4 | exact kk)
  | true =>
    cases r2 with
    | false =>
      go_wp2_with ((go_at_call 156; refine (bad23_calls _ _).mono ?_; rintro e w5 ⟨rfl, rfl⟩))
      all_goals (refine bodyPost_ret (by simp [results, Tryz.results158, go_sem, y0, y1, y2, f0, f1, f2, l1, l2, l3, l4] <;> rfl) rfl ?_)
      all_goals (refine RW.mk rfl ?_ ?_)
      all_goals first
        | exact SigAt.nil _
        | exact HsS.out.box3 (Hyb.out _ K4) _ _ _
        | exact SigAt.alloc (HsS.out.box3 (Hyb.out _ K4) _ _ _) _
        | exact HsF.out.box3 (Hyb.out _ K4) _ _ _
        | exact SigAt.alloc (HsF.out.box3 (Hyb.out _ K4) _ _ _) _
        | exact ⟨by first | exact IntsAt.nil _ _ | exact IntsAt.one (by simp [go_sem] <;> rfl) | exact IntsAt.two (by simp [go_sem] <;> rfl) (by simp [go_sem] <;> rfl) | exact IntsAt.three (by simp [go_sem] <;> rfl) (by simp [go_sem] <;> rfl) (by simp [go_sem] <;> rfl), by first | exact IntsAt.nil _ _ | exact IntsAt.one (by simp [go_sem] <;> rfl)⟩
        | (repeat (first | apply Keep.alloc | refine Keep.setCell (p := ⟨V.heap.size, _, none⟩) ?_ hle _)
           first | exact kk.trans K4 | exact kk)
    | true =>
      by_cases hv : v0 = 3
      · subst hv
        have hvb : ((3 : Int) != 3) = false := by simp
        obtain ⟨l, hl, hsl, hln⟩ := HsY.out.params
        subst hl
        have HslY := Lib.hid hsl
        have hln' := hln
        clear hsl
        have ez0 := fun z : KE (fun q => q = V.heap.size) Y => z.cell z0 (by show ¬ w4.heap.size = V.heap.size; omega)
        have ez1 := fun z : KE (fun q => q = V.heap.size) Y => z.cell z1 (by show ¬ w4.heap.size = V.heap.size; omega)
        have hbm : V.heap.size < Y.heap.size := l1
        go_wp2_with fail
        clear c0 c1 c2 c3 c4 c5 c6 c7 c8 c9 ca cb lt x0 x1 x2 x3 x4 x5 x6 x7 x8 y0 y1 y2 f0 f1 f2 l1 l2 l3 l4 lx1 lx2 lx3 lx4 lt2 lt3 lt4 z0 z1 t0
        refine region_begin (S := fun w' => ∃ z : KE (fun q => q = V.heap.size) Y, w' = z.val) (by kernel_rfl) ?_
        obtain ⟨wd, hwd⟩ : ∃ wd, Y.drew = wd := ⟨_, rfl⟩
        have hd : Keep Y wd := by rw [← hwd]; exact (Keep.refl _).drew
        have Hsd := Lib.hid (HslY.out.keep hd)
        rw [hwd]
        refine region_take [1, 2, 6, 7] [] 6 (by kernel_rfl) (by kernel_rfl) (KE.mk' (hd.ext (fun q => q = V.heap.size))) ?_
        show wpQuiet _ _ _ _ [_, _, _, _] _
        repeat (go_big_quiet_step (fail))
        refine wpQuiet_nil ?_
        clear hwd ez0 ez1
        refine region_any (fuel := 5) (is := [0, 4]) (by kernel_rfl) (by simp) (mem2 ?_ ?_)
        · refine ⟨_, rfl, fun K hK => ?_⟩
          refine wp_buildSlice0 _ _ rfl elVal.slice elVal.info.choose_spec.choose_spec.1 ?_
          have oE : Own intC 1 74 (wd.alloc (.cells #[] 74)) Y.heap.size (.slice (some ⟨wd.heap.size, 0, none⟩) 0 0) [] := Own.empty_made intC 1 74 wd hd.size
          obtain ⟨w1, hw1⟩ : ∃ W, wd.alloc (.cells #[] 74) = W := ⟨_, rfl⟩
          have k0w1 : Keep wd w1 := by rw [← hw1]; exact (Keep.refl _).alloc _
          have k1 : Keep Y w1 := hd.trans k0w1
          have sw1 : wd.heap.size < w1.heap.size := by rw [← hw1]; simp
          rw [hw1] at oE ⊢
          refine hK _ _ (KE.mk' (k1.ext (fun q => q = V.heap.size))) ?_
          clear hK K
          clear hw1
          simp only [Act.put, List.setIfInBounds_toArray, List.set_cons_succ, List.set_cons_zero]
          refine region_any (fuel := 4) (is := [3, 4]) (by kernel_rfl) (by simp) (mem2 ?_ ?_)
          · refine ⟨_, rfl, fun K hK => ?_⟩
            obtain ⟨_, _, e1, Aw2, cw2, w2, hrun, o2, hEw2⟩ := valApp oE (Hsd.out.keep k0w1) c (by simp; omega) k1.size
            cases e1
            have k2 : Keep Y w2 := Keep.of_ext k1 hEw2 (fun i hi e => by have := (oE.lt i e).1; omega)
            refine wp_append_eq _ _ _ rfl _ _ rfl rfl _ _ hrun ?_
            refine hK _ _ (KE.mk' (k2.ext (fun q => q = V.heap.size))) ?_
            clear hK K
            clear hrun
            simp only [Act.put, List.setIfInBounds_toArray, List.set_cons_succ, List.set_cons_zero]
            refine region_fixU (i := 4) (fuel := 3) rfl rfl (by kernel_rfl) (fun K hK => ?_)
            go_simp
            have b1 : Blk (w2.alloc (.cells #[.int .i64 1] 74)) w2.heap.size 74 [.int .i64 1] := Blk.new w2 _ _
            obtain ⟨w3, hw3⟩ : ∃ W, w2.alloc (.cells #[.int .i64 1] 74) = W := ⟨_, rfl⟩
            have k0w3 : Keep w2 w3 := by rw [← hw3]; exact (Keep.refl _).alloc _
            have k3 : Keep Y w3 := k2.trans k0w3
            have sw3 : w2.heap.size < w3.heap.size := by rw [← hw3]; simp
            rw [hw3] at b1 ⊢
            refine hK _ _ (KE.mk' (k3.ext (fun q => q = V.heap.size))) ?_
            clear hK K
            clear hw3
            rw [List.nil_append] at o2
            have b1s : Seg w3 (some ⟨w2.heap.size, 0, none⟩) (([1] : List Int).flatMap intC) := Seg.of_blk b1
            obtain ⟨_, _, e1, Aw4a, cw4a, w4a, hrun, o4, hEw4a⟩ := valApp (o2.keep k0w3) b1s 1 (by simp; omega) k3.size
            cases e1
            have k4 : Keep Y w4a := Keep.of_ext k3 hEw4a (fun i hi e => by have := ((o2.keep k0w3).lt i e).1; omega)
            refine region_fixU (i := 5) (fuel := 2) rfl rfl (by kernel_rfl) (fun K hK => ?_)
            refine wp_append_eq _ _ _ rfl _ _ rfl rfl _ _ hrun ?_
            refine hK _ _ (KE.mk' (k4.ext (fun q => q = V.heap.size))) ?_
            clear hK K
            clear hrun
            simp only [Act.put, List.setIfInBounds_toArray, List.set_cons_succ, List.set_cons_zero]
            have hL : (l ++ [1]).length = l.length + 1 := by simp
            rw [hL] at o4
            have HsF := Lib.hid (show SigAt w4a Aw4a (l.length + 1) B kq from ⟨Own.intsAt o4 (by simp; omega), HsY.out.results.keep k4⟩)
            have K4 : Keep U w4a := K4.trans k4
            clear o4 hL
            obtain ⟨c0, c1, c2, c3, c4, c5, c6, c7, c8, c9, ca, cb, lt, x0, x1, x2, x3, x4, x5, x6, x7, x8, y0, y1, y2, f0, f1, f2, l1, l2, l3, l4, lx1, lx2, lx3, lx4, lt2, lt3, lt4⟩ := Hs.out w4a K4
            refine region_fix (i := 8) (fuel := 1) rfl (by kernel_rfl) (fun K hK => ?_)
            go_simp
            refine (gives23_calls _ _ _ _ _ _ _).mono ?_
            rintro e w9 ⟨rfl, rfl⟩
            refine hK _ _ (KE.mk' ((k4.alloc _).ext (fun q => q = V.heap.size))) ?_
            clear hK K
            refine region_fixU (i := 9) (fuel := 0) rfl rfl (by kernel_rfl) (fun K hK => ?_)
            go_simp
            refine hK _ _ (KE.mk' (((((k4.ext (fun q => q = V.heap.size)).setCell (p := ⟨V.heap.size, 0, none⟩) (fun _ => rfl) _).setCell (p := ⟨V.heap.size, 1, none⟩) (fun _ => rfl) _).setCell (p := ⟨V.heap.size, 2, none⟩) (fun _ => rfl) _).alloc _)) ?_
            clear hK K
            refine region_done (by kernel_rfl) ?_
            go_wp2
            all_goals (refine bodyPost_ret (by simp [results, Tryz.results158, go_sem, y0, y1, y2, f0, f1, f2, l1, l2, l3, l4] <;> rfl) rfl ?_)
            all_goals (refine RW.mk rfl ?_ ?_)
            all_goals first
              | exact SigAt.nil _
              | exact HsS.out.box3 (Hyb.out _ K4) _ _ _
              | exact SigAt.alloc (HsS.out.box3 (Hyb.out _ K4) _ _ _) _
              | exact HsF.out.box3 (Hyb.out _ K4) _ _ _
              | exact SigAt.alloc (HsF.out.box3 (Hyb.out _ K4) _ _ _) _
              | exact ⟨by first | exact IntsAt.nil _ _ | exact IntsAt.one (by simp [go_sem] <;> rfl) | exact IntsAt.two (by simp [go_sem] <;> rfl) (by simp [go_sem] <;> rfl) | exact IntsAt.three (by simp [go_sem] <;> rfl) (by simp [go_sem] <;> rfl) (by simp [go_sem] <;> rfl), by first | exact IntsAt.nil _ _ | exact IntsAt.one (by simp [go_sem] <;> rfl)⟩
              | (repeat (first | apply Keep.alloc | refine Keep.setCell (p := ⟨V.heap.size, _, none⟩) ?_ hle _)
                 first | exact kk.trans K4 | exact kk)
          · refine ⟨_, rfl, fun K hK => ?_⟩
            go_simp
            have b1 : Blk (w1.alloc (.cells #[.int .i64 1] 74)) w1.heap.size 74 [.int .i64 1] := Blk.new w1 _ _
            obtain ⟨w2, hw2⟩ : ∃ W, w1.alloc (.cells #[.int .i64 1] 74) = W := ⟨_, rfl⟩
            have k0w2 : Keep w1 w2 := by rw [← hw2]; exact (Keep.refl _).alloc _
            have k2 : Keep Y w2 := k1.trans k0w2
            have sw2 : w1.heap.size < w2.heap.size := by rw [← hw2]; simp
            rw [hw2] at b1 ⊢
            refine hK _ _ (KE.mk' (k2.ext (fun q => q = V.heap.size))) ?_
            clear hK K
            clear hw2
            obtain ⟨_, _, e1, Aw3, cw3, w3, hrun, o2, hEw3⟩ := valApp (oE.keep k0w2) ((Hsd.out.keep k0w1).keep k0w2) c (by simp; omega) k2.size
            cases e1
            have k3 : Keep Y w3 := Keep.of_ext k2 hEw3 (fun i hi e => by have := ((oE.keep k0w2).lt i e).1; omega)
            refine region_fixU (i := 3) (fuel := 3) rfl rfl (by kernel_rfl) (fun K hK => ?_)
            refine wp_append_eq _ _ _ rfl _ _ rfl rfl _ _ hrun ?_
            refine hK _ _ (KE.mk' (k3.ext (fun q => q = V.heap.size))) ?_
            clear hK K
            clear hrun
            simp only [Act.put, List.setIfInBounds_toArray, List.set_cons_succ, List.set_cons_zero]
            rw [List.nil_append] at o2
            have b1s : Seg w3 (some ⟨w1.heap.size, 0, none⟩) (([1] : List Int).flatMap intC) := Seg.of_blk (b1.ext hEw3 (fun e => by have := (oE.lt _ e).2; omega))
            obtain ⟨_, _, e1, Aw4a, cw4a, w4a, hrun, o4, hEw4a⟩ := valApp o2 b1s 1 (by simp; omega) k3.size
            cases e1
            have k4 : Keep Y w4a := Keep.of_ext k3 hEw4a (fun i hi e => by have := (o2.lt i e).1; omega)
            refine region_fixU (i := 5) (fuel := 2) rfl rfl (by kernel_rfl) (fun K hK => ?_)
            refine wp_append_eq _ _ _ rfl _ _ rfl rfl _ _ hrun ?_
            refine hK _ _ (KE.mk' (k4.ext (fun q => q = V.heap.size))) ?_
            clear hK K
            clear hrun
            simp only [Act.put, List.setIfInBounds_toArray, List.set_cons_succ, List.set_cons_zero]
            have hL : (l ++ [1]).length = l.length + 1 := by simp
            rw [hL] at o4
            have HsF := Lib.hid (show SigAt w4a Aw4a (l.length + 1) B kq from ⟨Own.intsAt o4 (by simp; omega), HsY.out.results.keep k4⟩)
            have K4 : Keep U w4a := K4.trans k4
            clear o4 hL
            obtain ⟨c0, c1, c2, c3, c4, c5, c6, c7, c8, c9, ca, cb, lt, x0, x1, x2, x3, x4, x5, x6, x7, x8, y0, y1, y2, f0, f1, f2, l1, l2, l3, l4, lx1, lx2, lx3, lx4, lt2, lt3, lt4⟩ := Hs.out w4a K4
            refine region_fix (i := 8) (fuel := 1) rfl (by kernel_rfl) (fun K hK => ?_)
            go_simp
            refine (gives23_calls _ _ _ _ _ _ _).mono ?_
            rintro e w9 ⟨rfl, rfl⟩
            refine hK _ _ (KE.mk' ((k4.alloc _).ext (fun q => q = V.heap.size))) ?_
            clear hK K
            refine region_fixU (i := 9) (fuel := 0) rfl rfl (by kernel_rfl) (fun K hK => ?_)
            go_simp
            refine hK _ _ (KE.mk' (((((k4.ext (fun q => q = V.heap.size)).setCell (p := ⟨V.heap.size, 0, none⟩) (fun _ => rfl) _).setCell (p := ⟨V.heap.size, 1, none⟩) (fun _ => rfl) _).setCell (p := ⟨V.heap.size, 2, none⟩) (fun _ => rfl) _).alloc _)) ?_
            clear hK K
            refine region_done (by kernel_rfl) ?_
            go_wp2
            all_goals (refine bodyPost_ret (by simp [results, Tryz.results158, go_sem, y0, y1, y2, f0, f1, f2, l1, l2, l3, l4] <;> rfl) rfl ?_)
            all_goals (refine RW.mk rfl ?_ ?_)
            all_goals first
              | exact SigAt.nil _
              | exact HsS.out.box3 (Hyb.out _ K4) _ _ _
              | exact SigAt.alloc (HsS.out.box3 (Hyb.out _ K4) _ _ _) _
              | exact HsF.out.box3 (Hyb.out _ K4) _ _ _
              | exact SigAt.alloc (HsF.out.box3 (Hyb.out _ K4) _ _ _) _
              | exact ⟨by first | exact IntsAt.nil _ _ | exact IntsAt.one (by simp [go_sem] <;> rfl) | exact IntsAt.two (by simp [go_sem] <;> rfl) (by simp [go_sem] <;> rfl) | exact IntsAt.three (by simp [go_sem] <;> rfl) (by simp [go_sem] <;> rfl) (by simp [go_sem] <;> rfl), by first | exact IntsAt.nil _ _ | exact IntsAt.one (by simp [go_sem] <;> rfl)⟩
              | (repeat (first | apply Keep.alloc | refine Keep.setCell (p := ⟨V.heap.size, _, none⟩) ?_ hle _)
                 first | exact kk.trans K4 | exact kk)
        · refine ⟨_, rfl, fun K hK => ?_⟩
          go_simp
          have b1 : Blk (wd.alloc (.cells #[.int .i64 1] 74)) wd.heap.size 74 [.int .i64 1] := Blk.new wd _ _
          obtain ⟨w1, hw1⟩ : ∃ W, wd.alloc (.cells #[.int .i64 1] 74) = W := ⟨_, rfl⟩
          have k0w1 : Keep wd w1 := by rw [← hw1]; exact (Keep.refl _).alloc _
          have k1 : Keep Y w1 := hd.trans k0w1
          have sw1 : wd.heap.size < w1.heap.size := by rw [← hw1]; simp
          rw [hw1] at b1 ⊢
          refine hK _ _ (KE.mk' (k1.ext (fun q => q = V.heap.size))) ?_
          clear hK K
          clear hw1
          refine region_fixU (i := 0) (fuel := 4) rfl rfl (by kernel_rfl) (fun K hK => ?_)
          refine wp_buildSlice0 _ _ rfl elVal.slice elVal.info.choose_spec.choose_spec.1 ?_
          have oE : Own intC 1 74 (w1.alloc (.cells #[] 74)) Y.heap.size (.slice (some ⟨w1.heap.size, 0, none⟩) 0 0) [] := Own.empty_made intC 1 74 w1 k1.size
          obtain ⟨w2, hw2⟩ : ∃ W, w1.alloc (.cells #[] 74) = W := ⟨_, rfl⟩
          have k0w2 : Keep w1 w2 := by rw [← hw2]; exact (Keep.refl _).alloc _
          have k2 : Keep Y w2 := k1.trans k0w2
          have sw2 : w1.heap.size < w2.heap.size := by rw [← hw2]; simp
          rw [hw2] at oE ⊢
          refine hK _ _ (KE.mk' (k2.ext (fun q => q = V.heap.size))) ?_
          clear hK K
          clear hw2
          simp only [Act.put, List.setIfInBounds_toArray, List.set_cons_succ, List.set_cons_zero]
          obtain ⟨_, _, e1, Aw3, cw3, w3, hrun, o2, hEw3⟩ := valApp oE ((Hsd.out.keep k0w1).keep k0w2) c (by simp; omega) k2.size
          cases e1
          have k3 : Keep Y w3 := Keep.of_ext k2 hEw3 (fun i hi e => by have := (oE.lt i e).1; omega)
          refine region_fixU (i := 3) (fuel := 3) rfl rfl (by kernel_rfl) (fun K hK => ?_)
          refine wp_append_eq _ _ _ rfl _ _ rfl rfl _ _ hrun ?_
          refine hK _ _ (KE.mk' (k3.ext (fun q => q = V.heap.size))) ?_
          clear hK K
          clear hrun
          simp only [Act.put, List.setIfInBounds_toArray, List.set_cons_succ, List.set_cons_zero]
          rw [List.nil_append] at o2
          have b1s : Seg w3 (some ⟨wd.heap.size, 0, none⟩) (([1] : List Int).flatMap intC) := Seg.of_blk ((b1.keep k0w2).ext hEw3 (fun e => by have e2 : some w1.heap.size = some wd.heap.size := e; have := Option.some.inj e2; omega))
          obtain ⟨_, _, e1, Aw4a, cw4a, w4a, hrun, o4, hEw4a⟩ := valApp o2 b1s 1 (by simp; omega) k3.size
          cases e1
          have k4 : Keep Y w4a := Keep.of_ext k3 hEw4a (fun i hi e => by have := (o2.lt i e).1; omega)
          refine region_fixU (i := 5) (fuel := 2) rfl rfl (by kernel_rfl) (fun K hK => ?_)
          refine wp_append_eq _ _ _ rfl _ _ rfl rfl _ _ hrun ?_
          refine hK _ _ (KE.mk' (k4.ext (fun q => q = V.heap.size))) ?_
          clear hK K
          clear hrun
          simp only [Act.put, List.setIfInBounds_toArray, List.set_cons_succ, List.set_cons_zero]
          have hL : (l ++ [1]).length = l.length + 1 := by simp
          rw [hL] at o4
          have HsF := Lib.hid (show SigAt w4a Aw4a (l.length + 1) B kq from ⟨Own.intsAt o4 (by simp; omega), HsY.out.results.keep k4⟩)
          have K4 : Keep U w4a := K4.trans k4
          clear o4 hL
          obtain ⟨c0, c1, c2, c3, c4, c5, c6, c7, c8, c9, ca, cb, lt, x0, x1, x2, x3, x4, x5, x6, x7, x8, y0, y1, y2, f0, f1, f2, l1, l2, l3, l4, lx1, lx2, lx3, lx4, lt2, lt3, lt4⟩ := Hs.out w4a K4
          refine region_fix (i := 8) (fuel := 1) rfl (by kernel_rfl) (fun K hK => ?_)
          go_simp
          refine (gives23_calls _ _ _ _ _ _ _).mono ?_
          rintro e w9 ⟨rfl, rfl⟩
          refine hK _ _ (KE.mk' ((k4.alloc _).ext (fun q => q = V.heap.size))) ?_
          clear hK K
          refine region_fixU (i := 9) (fuel := 0) rfl rfl (by kernel_rfl) (fun K hK => ?_)
          go_simp
          refine hK _ _ (KE.mk' (((((k4.ext (fun q => q = V.heap.size)).setCell (p := ⟨V.heap.size, 0, none⟩) (fun _ => rfl) _).setCell (p := ⟨V.heap.size, 1, none⟩) (fun _ => rfl) _).setCell (p := ⟨V.heap.size, 2, none⟩) (fun _ => rfl) _).alloc _)) ?_
          clear hK K
          refine region_done (by kernel_rfl) ?_
          go_wp2
          all_goals (refine bodyPost_ret (by simp [results, Tryz.results158, go_sem, y0, y1, y2, f0, f1, f2, l1, l2, l3, l4] <;> rfl) rfl ?_)
          all_goals (refine RW.mk rfl ?_ ?_)
          all_goals first
            | exact SigAt.nil _
            | exact HsS.out.box3 (Hyb.out _ K4) _ _ _
            | exact SigAt.alloc (HsS.out.box3 (Hyb.out _ K4) _ _ _) _
            | exact HsF.out.box3 (Hyb.out _ K4) _ _ _
            | exact SigAt.alloc (HsF.out.box3 (Hyb.out _ K4) _ _ _) _
            | exact ⟨by first | exact IntsAt.nil _ _ | exact IntsAt.one (by simp [go_sem] <;> rfl) | exact IntsAt.two (by simp [go_sem] <;> rfl) (by simp [go_sem] <;> rfl) | exact IntsAt.three (by simp [go_sem] <;> rfl) (by simp [go_sem] <;> rfl) (by simp [go_sem] <;> rfl), by first | exact IntsAt.nil _ _ | exact IntsAt.one (by simp [go_sem] <;> rfl)⟩
            | (repeat (first | apply Keep.alloc | refine Keep.setCell (p := ⟨V.heap.size, _, none⟩) ?_ hle _)
               first | exact kk.trans K4 | exact kk)
      · have hvb : (v0 != 3) = true := by simpa using hv
        go_wp2_with ((go_at_call 156; refine (bad23_calls _ _).mono ?_; rintro e w5 ⟨rfl, rfl⟩))
        all_goals (refine bodyPost_ret (by simp [results, Tryz.results158, go_sem, y0, y1, y2, f0, f1, f2, l1, l2, l3, l4] <;> rfl) rfl ?_)
        all_goals (refine RW.mk rfl ?_ ?_)
        all_goals first
          | exact SigAt.nil _
          | exact HsS.out.box3 (Hyb.out _ K4) _ _ _
          | exact SigAt.alloc (HsS.out.box3 (Hyb.out _ K4) _ _ _) _
          | exact HsF.out.box3 (Hyb.out _ K4) _ _ _
          | exact SigAt.alloc (HsF.out.box3 (Hyb.out _ K4) _ _ _) _
          | exact ⟨by first | exact IntsAt.nil _ _ | exact IntsAt.one (by simp [go_sem] <;> rfl) | exact IntsAt.two (by simp [go_sem] <;> rfl) (by simp [go_sem] <;> rfl) | exact IntsAt.three (by simp [go_sem] <;> rfl) (by simp [go_sem] <;> rfl) (by simp [go_sem] <;> rfl), by first | exact IntsAt.nil _ _ | exact IntsAt.one (by simp [go_sem] <;> rfl)⟩
          | (repeat (first | apply Keep.alloc | refine Keep.setCell (p := ⟨V.heap.size, _, none⟩) ?_ hle _)
             first | exact kk.trans K4 | exact kk)
end Go.Proofs.YtjpmiejgcnfiiaaGreat
namespace Go.Proofs.YtjpmiejgcnfiiaaGreat
open Go Go.RowKit

set_option maxHeartbeats 8000000 in
set_option maxRecDepth 100000 in
theorem table23_calls (m : MdD) (op a b n : Int) (w : World) (h : MdOk w m) (ha : (Lit.int .i64 a).wf = true) (hb : (Lit.int .i64 b).wf = true) : Calls Tryz.prog 163 #[.agg (mdC m).toArray, .agg #[.int .i64 op, .int .i64 a, .int .i64 b, .int .u64 n, .int .i64 0, .int .i64 0, .int .i64 0, .slice none 0 0, .slice none 0 0]] w (RW w) := by
  obtain ⟨W, hW, kW, bW, sW⟩ := boxN w 33 (mdC m)
  obtain ⟨V, hV, kV, bV, sV⟩ := boxN W 215 [.int .i64 op, .int .i64 a, .int .i64 b, .int .u64 n, .int .i64 0, .int .i64 0, .int .i64 0, .slice none 0 0, .slice none 0 0]
  obtain ⟨U, hU, kU, bU, sU⟩ := boxN V 234 [.slice none 0 0, .slice none 0 0, .int .i64 0]
  have Hs := Lib.hid (fun (w' : World) (k : Keep U w') => rule3 (((bW.keep kV).keep kU).keep k) ((bV.keep kU).keep k) (bU.keep k))
  have Hyb := Lib.hid (fun (w' : World) (k : Keep U w') => bU.keep k)
  have kk := (kW.trans kV).trans kU
  have hle : w.heap.size ≤ V.heap.size := (kW.trans kV).size
  have Hm := Lib.hid (fun (w' : World) (k : Keep U w') => h.keep (kk.trans k))
  have Ha := Lib.hid ha
  have Hb := Lib.hid hb
  have K0 : Keep U U := Keep.refl _
  obtain ⟨c0, c1, c2, c3, c4, c5, c6, c7, c8, c9, ca, cb, lt, x0, x1, x2, x3, x4, x5, x6, x7, x8, y0, y1, y2, f0, f1, f2, l1, l2, l3, l4, lx1, lx2, lx3, lx4, lt2, lt3, lt4⟩ := Hs.out U K0
  clear h ha hb bW bV bU sW sV sU
  go_enter Tryz.func163, Tryz.ntmps163
  go_wp2_with fail
  refine (table08_calls m _ _ (Hm.out _ K0) Ha.out).mono ?_
  rintro e w4 ⟨v0, v1, v2, v3, r, rfl, hk4⟩
  have K4 : Keep U w4 := hk4
  clear hk4 c0 c1 c2 c3 c4 c5 c6 c7 c8 c9 ca cb lt x0 x1 x2 x3 x4 x5 x6 x7 x8 y0 y1 y2 f0 f1 f2 l1 l2 l3 l4 lx1 lx2 lx3 lx4 lt2 lt3 lt4
  obtain ⟨c0, c1, c2, c3, c4, c5, c6, c7, c8, c9, ca, cb, lt, x0, x1, x2, x3, x4, x5, x6, x7, x8, y0, y1, y2, f0, f1, f2, l1, l2, l3, l4, lx1, lx2, lx3, lx4, lt2, lt3, lt4⟩ := Hs.out w4 K4
  cases r with
  | false =>
    go_wp2_with ((go_at_call 156; refine (bad23_calls _ _).mono ?_; rintro e w5 ⟨rfl, rfl⟩))
    all_goals (refine bodyPost_ret (by simp [results, Tryz.results163, go_sem, y0, y1, y2, f0, f1, f2, l1, l2, l3, l4] <;> rfl) rfl ?_)
    all_goals (refine RW.mk rfl ?_ ?_)
    all_goals first
      | exact SigAt.nil _
      | exact HsS.out.box3 (Hyb.out _ K4) _ _ _
      | exact SigAt.alloc (HsS.out.box3 (Hyb.out _ K4) _ _ _) _
      | exact HsF.out.box3 (Hyb.out _ K4) _ _ _
      | exact SigAt.alloc (HsF.out.box3 (Hyb.out _ K4) _ _ _) _
      | exact ⟨by first | exact IntsAt.nil _ _ | exact IntsAt.one (by simp [go_sem] <;> rfl) | exact IntsAt.two (by simp [go_sem] <;> rfl) (by simp [go_sem] <;> rfl) | exact IntsAt.three (by simp [go_sem] <;> rfl) (by simp [go_sem] <;> rfl) (by simp [go_sem] <;> rfl), by first | exact IntsAt.nil _ _ | exact IntsAt.one (by simp [go_sem] <;> rfl)⟩
      | (repeat (first | apply Keep.alloc | refine Keep.setCell (p := ⟨V.heap.size, _, none⟩) ?_ hle _)
         first | exact kk.trans K4 | exact kk)
  | true =>
    by_cases h37 : op = 37
    · subst h37
      obtain ⟨w9, hw9, k9, b9, s9⟩ := boxN w4 218 [.int .i64 v0, .int .i64 v1, .int .i64 v2, .bool v3]
      have K9 := K4.trans k9
      have t0 : w9.cell? ⟨w4.heap.size, 0, none⟩ = some (.int .i64 v0) := b9.cell 0
      have tl := b9.lt
      have hne0 : ¬ w4.heap.size = V.heap.size := by omega
      have et0 := fun z : KE (fun q => q = V.heap.size) w9 => z.cell t0 hne0
      clear c0 c1 c2 c3 c4 c5 c6 c7 c8 c9 ca cb lt x0 x1 x2 x3 x4 x5 x6 x7 x8 y0 y1 y2 f0 f1 f2 l1 l2 l3 l4 lx1 lx2 lx3 lx4 lt2 lt3 lt4
      obtain ⟨wd, hwd⟩ : ∃ wd, w9.drew = wd := ⟨_, rfl⟩
      have hd : Keep w9 wd := by rw [← hwd]; exact (Keep.refl _).drew
      obtain ⟨c0, c1, c2, c3, c4, c5, c6, c7, c8, c9, ca, cb, lt, x0, x1, x2, x3, x4, x5, x6, x7, x8, y0, y1, y2, f0, f1, f2, l1, l2, l3, l4, lx1, lx2, lx3, lx4, lt2, lt3, lt4⟩ := Hs.out w9 K9
      have K4d : Keep U wd := K9.trans hd
      clear b9 s9
      go_wp2_with fail
      refine region_begin (S := fun w' => ∃ z : KE (fun q => q = V.heap.size) w9, w' = z.val) (by kernel_rfl) ?_
      rw [hwd]
      refine region_take [2, 3] [] 5 (by kernel_rfl) (by kernel_rfl) (KE.mk' (hd.ext (fun q => q = V.heap.size))) ?_
      show wpQuiet _ _ _ _ [_, _] _
      repeat (go_big_quiet_step (fail))
      refine wpQuiet_nil ?_
      clear c0 c1 c2 c3 c4 c5 c6 c7 c8 c9 ca cb lt x0 x1 x2 x3 x4 x5 x6 x7 x8 y0 y1 y2 f0 f1 f2 l1 l2 l3 l4 lx1 lx2 lx3 lx4 lt2 lt3 lt4 et0 t0 tl hw9
      obtain ⟨c0, c1, c2, c3, c4, c5, c6, c7, c8, c9, ca, cb, lt, x0, x1, x2, x3, x4, x5, x6, x7, x8, y0, y1, y2, f0, f1, f2, l1, l2, l3, l4, lx1, lx2, lx3, lx4, lt2, lt3, lt4⟩ := Hs.out wd K4d
      clear hwd
      refine region_any (fuel := 4) (is := [0, 4]) (by kernel_rfl) (by simp) (mem2 ?_ ?_)
      · refine ⟨_, rfl, fun K hK => ?_⟩
        go_simp
        refine hK _ _ (KE.mk' ((hd.alloc _).ext (fun q => q = V.heap.size))) ?_
        clear hK K
        refine region_any (fuel := 3) (is := [1, 4]) (by kernel_rfl) (by simp) (mem2 ?_ ?_)
        · refine ⟨_, rfl, fun K hK => ?_⟩
          go_simp
          refine (list23_calls _ _ _ _).mono ?_
          rintro e w5 ⟨rfl, rfl⟩
          refine hK _ _ (KE.mk' ((hd.alloc _).ext (fun q => q = V.heap.size))) ?_
          clear hK K
          refine region_fix (i := 4) (fuel := 2) rfl (by kernel_rfl) (fun K hK => ?_)
          go_simp
          refine hK _ _ (KE.mk' (((hd.alloc _).alloc _).ext (fun q => q = V.heap.size))) ?_
          clear hK K
          refine region_fix (i := 5) (fuel := 1) rfl (by kernel_rfl) (fun K hK => ?_)
          go_simp
          refine (gives23_calls _ _ _ _ _ _ _).mono ?_
          rintro e w5 ⟨rfl, rfl⟩
          refine hK _ _ (KE.mk' ((((hd.alloc _).alloc _).alloc _).ext (fun q => q = V.heap.size))) ?_
          clear hK K
          refine region_fixU (i := 6) (fuel := 0) rfl rfl (by kernel_rfl) (fun K hK => ?_)
          go_simp
          refine hK _ _ (KE.mk' (((((((hd.ext (fun q => q = V.heap.size)).setCell (p := ⟨V.heap.size, 0, none⟩) (fun _ => rfl) _).setCell (p := ⟨V.heap.size, 1, none⟩) (fun _ => rfl) _).setCell (p := ⟨V.heap.size, 2, none⟩) (fun _ => rfl) _).alloc _).alloc _).alloc _)) ?_
          clear hK K
          refine region_done (by kernel_rfl) ?_
          have K4 := K4d
          go_wp2
          all_goals (refine bodyPost_ret (by simp [results, Tryz.results163, go_sem, y0, y1, y2, f0, f1, f2, l1, l2, l3, l4] <;> rfl) rfl ?_)
          all_goals (refine RW.mk rfl ?_ ?_)
          all_goals first
            | exact SigAt.nil _
            | exact HsS.out.box3 (Hyb.out _ K4) _ _ _
            | exact SigAt.alloc (HsS.out.box3 (Hyb.out _ K4) _ _ _) _
            | exact HsF.out.box3 (Hyb.out _ K4) _ _ _
            | exact SigAt.alloc (HsF.out.box3 (Hyb.out _ K4) _ _ _) _
            | exact ⟨by first | exact IntsAt.nil _ _ | exact IntsAt.one (by simp [go_sem] <;> rfl) | exact IntsAt.two (by simp [go_sem] <;> rfl) (by simp [go_sem] <;> rfl) | exact IntsAt.three (by simp [go_sem] <;> rfl) (by simp [go_sem] <;> rfl) (by simp [go_sem] <;> rfl), by first | exact IntsAt.nil _ _ | exact IntsAt.one (by simp [go_sem] <;> rfl)⟩
            | (repeat (first | apply Keep.alloc | refine Keep.setCell (p := ⟨V.heap.size, _, none⟩) ?_ hle _)
               first | exact kk.trans K4 | exact kk)
        · refine ⟨_, rfl, fun K hK => ?_⟩
          go_simp
          refine hK _ _ (KE.mk' (((hd.alloc _).alloc _).ext (fun q => q = V.heap.size))) ?_
          clear hK K
          refine region_fix (i := 1) (fuel := 2) rfl (by kernel_rfl) (fun K hK => ?_)
          go_simp
          refine (list23_calls _ _ _ _).mono ?_
          rintro e w5 ⟨rfl, rfl⟩
          refine hK _ _ (KE.mk' (((hd.alloc _).alloc _).ext (fun q => q = V.heap.size))) ?_
          clear hK K
          refine region_fix (i := 5) (fuel := 1) rfl (by kernel_rfl) (fun K hK => ?_)
          go_simp
          refine (gives23_calls _ _ _ _ _ _ _).mono ?_
          rintro e w5 ⟨rfl, rfl⟩
          refine hK _ _ (KE.mk' ((((hd.alloc _).alloc _).alloc _).ext (fun q => q = V.heap.size))) ?_
          clear hK K
          refine region_fixU (i := 6) (fuel := 0) rfl rfl (by kernel_rfl) (fun K hK => ?_)
          go_simp
          refine hK _ _ (KE.mk' (((((((hd.ext (fun q => q = V.heap.size)).setCell (p := ⟨V.heap.size, 0, none⟩) (fun _ => rfl) _).setCell (p := ⟨V.heap.size, 1, none⟩) (fun _ => rfl) _).setCell (p := ⟨V.heap.size, 2, none⟩) (fun _ => rfl) _).alloc _).alloc _).alloc _)) ?_
          clear hK K
          refine region_done (by kernel_rfl) ?_
          have K4 := K4d
          go_wp2
          all_goals (refine bodyPost_ret (by simp [results, Tryz.results163, go_sem, y0, y1, y2, f0, f1, f2, l1, l2, l3, l4] <;> rfl) rfl ?_)
          all_goals (refine RW.mk rfl ?_ ?_)
          all_goals first
            | exact SigAt.nil _
            | exact HsS.out.box3 (Hyb.out _ K4) _ _ _
            | exact SigAt.alloc (HsS.out.box3 (Hyb.out _ K4) _ _ _) _
            | exact HsF.out.box3 (Hyb.out _ K4) _ _ _
            | exact SigAt.alloc (HsF.out.box3 (Hyb.out _ K4) _ _ _) _
            | exact ⟨by first | exact IntsAt.nil _ _ | exact IntsAt.one (by simp [go_sem] <;> rfl) | exact IntsAt.two (by simp [go_sem] <;> rfl) (by simp [go_sem] <;> rfl) | exact IntsAt.three (by simp [go_sem] <;> rfl) (by simp [go_sem] <;> rfl) (by simp [go_sem] <;> rfl), by first | exact IntsAt.nil _ _ | exact IntsAt.one (by simp [go_sem] <;> rfl)⟩
            | (repeat (first | apply Keep.alloc | refine Keep.setCell (p := ⟨V.heap.size, _, none⟩) ?_ hle _)
               first | exact kk.trans K4 | exact kk)
      · refine ⟨_, rfl, fun K hK => ?_⟩
        go_simp
        refine hK _ _ (KE.mk' ((hd.alloc _).ext (fun q => q = V.heap.size))) ?_
        clear hK K
        refine region_fix (i := 0) (fuel := 3) rfl (by kernel_rfl) (fun K hK => ?_)
        go_simp
        refine hK _ _ (KE.mk' (((hd.alloc _).alloc _).ext (fun q => q = V.heap.size))) ?_
        clear hK K
        refine region_fix (i := 1) (fuel := 2) rfl (by kernel_rfl) (fun K hK => ?_)
        go_simp
        refine (list23_calls _ _ _ _).mono ?_
        rintro e w5 ⟨rfl, rfl⟩
        refine hK _ _ (KE.mk' (((hd.alloc _).alloc _).ext (fun q => q = V.heap.size))) ?_
        clear hK K
        refine region_fix (i := 5) (fuel := 1) rfl (by kernel_rfl) (fun K hK => ?_)
        go_simp
        refine (gives23_calls _ _ _ _ _ _ _).mono ?_
        rintro e w5 ⟨rfl, rfl⟩
        refine hK _ _ (KE.mk' ((((hd.alloc _).alloc _).alloc _).ext (fun q => q = V.heap.size))) ?_
        clear hK K
        refine region_fixU (i := 6) (fuel := 0) rfl rfl (by kernel_rfl) (fun K hK => ?_)
        go_simp
        refine hK _ _ (KE.mk' (((((((hd.ext (fun q => q = V.heap.size)).setCell (p := ⟨V.heap.size, 0, none⟩) (fun _ => rfl) _).setCell (p := ⟨V.heap.size, 1, none⟩) (fun _ => rfl) _).setCell (p := ⟨V.heap.size, 2, none⟩) (fun _ => rfl) _).alloc _).alloc _).alloc _)) ?_
        clear hK K
        refine region_done (by kernel_rfl) ?_
        have K4 := K4d
        go_wp2
        all_goals (refine bodyPost_ret (by simp [results, Tryz.results163, go_sem, y0, y1, y2, f0, f1, f2, l1, l2, l3, l4] <;> rfl) rfl ?_)
        all_goals (refine RW.mk rfl ?_ ?_)
        all_goals first
          | exact SigAt.nil _
          | exact HsS.out.box3 (Hyb.out _ K4) _ _ _
          | exact SigAt.alloc (HsS.out.box3 (Hyb.out _ K4) _ _ _) _
          | exact HsF.out.box3 (Hyb.out _ K4) _ _ _
          | exact SigAt.alloc (HsF.out.box3 (Hyb.out _ K4) _ _ _) _
          | exact ⟨by first | exact IntsAt.nil _ _ | exact IntsAt.one (by simp [go_sem] <;> rfl) | exact IntsAt.two (by simp [go_sem] <;> rfl) (by simp [go_sem] <;> rfl) | exact IntsAt.three (by simp [go_sem] <;> rfl) (by simp [go_sem] <;> rfl) (by simp [go_sem] <;> rfl), by first | exact IntsAt.nil _ _ | exact IntsAt.one (by simp [go_sem] <;> rfl)⟩
          | (repeat (first | apply Keep.alloc | refine Keep.setCell (p := ⟨V.heap.size, _, none⟩) ?_ hle _)
             first | exact kk.trans K4 | exact kk)
    · have h37b : (op == 37) = false := by simpa using h37
      go_wp2_with (first
    | (go_at_call 160; refine (list23_calls _ _ _ _).mono ?_; rintro e w5 ⟨rfl, rfl⟩)
    | (go_at_call 159; refine (gives23_calls _ _ _ _ _ _ _).mono ?_; rintro e w5 ⟨rfl, rfl⟩))
      all_goals (refine bodyPost_ret (by simp [results, Tryz.results163, go_sem, y0, y1, y2, f0, f1, f2, l1, l2, l3, l4] <;> rfl) rfl ?_)
      all_goals (refine RW.mk rfl ?_ ?_)
      all_goals first
        | exact SigAt.nil _
        | exact HsS.out.box3 (Hyb.out _ K4) _ _ _
        | exact SigAt.alloc (HsS.out.box3 (Hyb.out _ K4) _ _ _) _
        | exact HsF.out.box3 (Hyb.out _ K4) _ _ _
        | exact SigAt.alloc (HsF.out.box3 (Hyb.out _ K4) _ _ _) _
        | exact ⟨by first | exact IntsAt.nil _ _ | exact IntsAt.one (by simp [go_sem] <;> rfl) | exact IntsAt.two (by simp [go_sem] <;> rfl) (by simp [go_sem] <;> rfl) | exact IntsAt.three (by simp [go_sem] <;> rfl) (by simp [go_sem] <;> rfl) (by simp [go_sem] <;> rfl), by first | exact IntsAt.nil _ _ | exact IntsAt.one (by simp [go_sem] <;> rfl)⟩
        | (repeat (first | apply Keep.alloc | refine Keep.setCell (p := ⟨V.heap.size, _, none⟩) ?_ hle _)
           first | exact kk.trans K4 | exact kk)
end Go.Proofs.YtjpmiejgcnfiiaaGreat
