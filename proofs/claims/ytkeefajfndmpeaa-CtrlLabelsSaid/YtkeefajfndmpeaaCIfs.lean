/-
  The law CtrlIfs returns true.
-/
import Derived.Test.YtkeefajfndmpeaaCDead
namespace Go.Proofs.Ytkeefajfndmpeaa
open Go Go.RowKit

theorem else_twice (s : Stk) (bs : List PB) (b : PB) (res : List Int) (live : Bool) (ho : b.other = true) : (Ctl.mk s (bs ++ [b]) res live 0).els = (⟨s, bs ++ [b], res, live, 0⟩, 16) := by
  unfold Ctl.els
  rw [if_neg (by simp), if_neg (by simp), Ctl.top_snoc, if_pos (.inr ho)]
theorem leave_done (s : Stk) (res : List Int) (live : Bool) : (Ctl.mk s [] res live 0).leave = (⟨s, [], res, live, 0⟩, 16) := by
  unfold Ctl.leave
  rw [if_neg (by simp), if_pos rfl]
theorem leave_broken (s : Stk) (bs : List PB) (res : List Int) (live : Bool) (e : Int) (he : e ≠ 0) : (Ctl.mk s bs res live e).leave = (⟨s, bs, res, live, e⟩, e) := by
  unfold Ctl.leave
  rw [if_pos he]
def Bq (r : List Int) : PB := ⟨0, [], r, false, true⟩
theorem bq_no (r : List Int) : ¬ ((Bq r).kind = 4 ∧ (Bq r).other = false ∧ (Bq r).p ≠ (Bq r).r) := by simp [Bq]

set_option maxHeartbeats 4000000 in
set_option maxRecDepth 100000 in
theorem ctrlIfs_walk (p q : LD) (both : Bool) (w : World) (hp : LOk w p) (hq : LOk w q) :
    Calls Try.prog 8 #[.agg #[.slice p.a p.l.length p.c, .slice q.a q.l.length q.c], .bool both] w fun e w' => e = .returned (.bool true) ∧ Keep w w' := by
  have lp := hp.len
  have lq := hq.len
  unfold maxLen at lp lq
  obtain ⟨wa, hwa⟩ : ∃ wa : World, wa = w.alloc (.cells ([p.v, q.v] : List Value).toArray 56) := ⟨_, rfl⟩
  have hka : Keep w wa := by rw [hwa]; exact (Keep.refl _).alloc _
  have bx : Blk wa w.heap.size 56 [p.v, q.v] := by rw [hwa]; exact Blk.new _ _ _
  have pS := hp.seg.keep hka
  have qS := hq.seg.keep hka
  clear hp hq
  by_cases hsm : p.l.length ≤ 20 ∧ q.l.length ≤ 20
  rotate_left
  · have Ha := Lib.hid (calive_calls wa)
    by_cases g1 : (20 : Int) < p.l.length
    · clear hsm
      go_enter Try.func8, Try.ntmps8
      go_wp2_with fail
      show Calls Try.prog _ _ (w.alloc (.cells ([p.v, q.v] : List Value).toArray 56)) _
      rw [← hwa]
      refine Ha.out.mono ?_
      rintro e w2 ⟨rfl, hk⟩
      go_wp2
      go_ret
      exact ⟨rfl, hka.trans hk⟩
    · have g2 : (20 : Int) < q.l.length := by omega
      clear hsm
      go_enter Try.func8, Try.ntmps8
      go_wp2_with fail
      show Calls Try.prog _ _ (w.alloc (.cells ([p.v, q.v] : List Value).toArray 56)) _
      rw [← hwa]
      refine Ha.out.mono ?_
      rintro e w2 ⟨rfl, hk⟩
      go_wp2
      go_ret
      exact ⟨rfl, hka.trans hk⟩
  · obtain ⟨m1, m2⟩ := hsm
    have g1 : ¬ (20 : Int) < p.l.length := by omega
    have g2 : ¬ (20 : Int) < q.l.length := by omega
    have hpc := ptr_c
    have hps := ptr_s
    have x0 := fun y : KW wa => y.cell (v := .slice p.a p.l.length p.c) (bx.cell 0)
    have x1 := fun y : KW wa => y.cell (v := .slice q.a q.l.length q.c) (bx.cell 1)
    cases both
    · go_enter Try.func8, Try.ntmps8
      go_wp2_with fail
      show Calls Try.prog _ _ (w.alloc (.cells ([p.v, q.v] : List Value).toArray 56)) _
      rw [← hwa]
      clear hwa
      refine (cnew_calls q.l q.a q.c wa qS (by omega)).mono ?_
      rintro e w0 ⟨b, bst, F0, rfl, hc0, hk0, hF0⟩
      have h0 : CLive wa b bst ⟨f0.ov false, [Bq q.l], q.l, true, 0⟩ w0 := ⟨F0, hk0, hc0, hF0⟩
      clear hc0 hF0
      go_wp2_with fail
      refine (h0.read fun F h => cs_stack h).mono ?_
      rintro e w1 ⟨rfl, rfl⟩
      go_wp2_with fail
      refine (h0.read fun F h => cs_stack h).mono ?_
      rintro e w1 ⟨rfl, rfl⟩
      have bc0 : w0.cell? ⟨w.heap.size, 0, none⟩ = some (.slice p.a p.l.length p.c) := (bx.keep h0.keep0).cell 0
      have lbx := (bx.keep h0.keep0).lt
      go_wp2_with fail
      refine (h0.call (R := fun e => ∃ v, e = .returned v) (c' := ⟨(f0.push p.l).ov ((f0.ov false).push p.l).over, [Bq q.l], q.l, true, 0⟩) (fun F h hF => by exact cs_push h p.l p.a p.c (pS.keep h0.keep0) (Sz.tl (by repeat (first | exact Sz.fresh | apply Sz.ov | apply Sz.push | apply Sz.opened | apply Sz.loosen)) (by (try simp only [List.length_cons, List.length_nil]); omega)))).mono ?_
      rintro e w1 ⟨⟨u1, rfl⟩, h1⟩
      generalize ((f0.ov false).push p.l).over = o1 at h1
      clear h0 bc0 lbx
      have h1a := h1.keep ((Keep.refl _).alloc (.cells (([1] : List Int).flatMap valC).toArray 45))
      clear h1
      go_wp2_with fail
      refine (h1a.call (R := fun e => ∃ v, e = .returned v) (c' := ⟨((f0.push p.l).push [1]).ov (((f0.push p.l).ov o1).push [1]).over, [Bq q.l], q.l, true, 0⟩) (fun F h hF => by exact cs_push h [1] (some ⟨w1.heap.size, 0, none⟩) 1 (Seg.of_blk (Blk.new w1 45 (([1] : List Int).flatMap valC))) (Sz.tl (by repeat (first | exact Sz.fresh | apply Sz.ov | apply Sz.push | apply Sz.opened | apply Sz.loosen)) (by simp; omega)))).mono ?_
      rintro e w2 ⟨⟨u2, rfl⟩, h2⟩
      generalize (((f0.push p.l).ov o1).push [1]).over = o2 at h2
      clear h1a
      go_wp2_with fail
      refine region_begin (S := fun w' => ∃ y : KW wa, w' = y.val) (by kernel_rfl) ?_
      refine region_take [0, 1] [] 17 (by kernel_rfl) (by kernel_rfl) (InK.mk' h2.keep0.drew) ?_
      show wpQuiet _ _ _ _ [_, _] _
      repeat (go_big_quiet_step (fail))
      refine wpQuiet_nil ?_
      have h2d := h2.keep ((Keep.refl _).drew)
      refine region_fix (i := 2) (fuel := 16) rfl (by kernel_rfl) (fun K hK => ?_)
      go_simp
      refine (h2d.call (R := fun e => e = .returned (.int .i64 0)) (c' := ⟨(f0.opened.push p.l).ov ((f0.ov o2).opened.push p.l).over, [Bq q.l] ++ [⟨4, p.l, q.l, false, true⟩], q.l, true, 0⟩) (fun F h hF => by have := enter_calls h (((okf0.push p.l).push [1]).ov o2) 4 p q (LD.Ok.old pS h2d.keep0 hF) (LD.Ok.old qS h2d.keep0 hF) (Sz.tl (by repeat (first | exact Sz.fresh | apply Sz.ov | apply Sz.push | apply Sz.opened | apply Sz.loosen)) (by (try simp only [List.length_cons, List.length_nil]); omega)) (Sz.p (by repeat (first | exact Sz.fresh | apply Sz.ov | apply Sz.push | apply Sz.opened | apply Sz.loosen)) (by omega)) (by simp) (by omega) (by omega); rw [Ctl.enter_cond f0 o2 okf0 [Bq q.l] q.l true p.l q.l (by simp)] at this; exact this)).mono ?_
      rintro e w3 ⟨rfl, h3⟩
      generalize ((f0.ov o2).opened.push p.l).over = o3 at h3
      clear h2 h2d
      refine hK _ _ (InK.mk' h3.keep0) ?_
      clear hK K
      refine region_take [3, 4, 5, 7, 8] [0, 1, 2] 11 (by kernel_rfl) (by kernel_rfl) (InK.mk' h3.keep0) ?_
      show wpQuiet _ _ _ _ [_, _, _, _, _] _
      repeat (go_big_quiet_step (fail))
      refine wpQuiet_nil ?_
      refine region_fix (i := 6) (fuel := 10) rfl (by kernel_rfl) (fun K hK => ?_)
      go_simp
      refine (h3.read fun F h => cs_all h (Sz.t (by repeat (first | exact Sz.fresh | apply Sz.ov | apply Sz.push | apply Sz.opened | apply Sz.loosen)) (by omega))).mono ?_
      rintro e w4 ⟨va, rfl, ho, hk_⟩
      have ho2 : Own valC 1 45 w4 w3.heap.size va p.l := ho
      obtain ⟨Aa, ca, rfl, _⟩ := ho2.form
      have h4 := h3.keep hk_
      have Hs := Lib.hid (refSameVals_calls p.l p.l Aa p.a ca p.c w4 ho2.segN.2 (pS.keep h4.keep0) (by omega) (by omega))
      clear h3 ho ho2
      refine hK _ _ (InK.mk' h4.keep0) ?_
      clear hK K
      refine region_fix (i := 9) (fuel := 9) rfl (by kernel_rfl) (fun K hK => ?_)
      go_simp
      refine (Hs.out).mono ?_
      rintro e w5 ⟨rfl, hk_⟩
      rw [show decide (p.l = p.l) = true from decide_eq_true rfl]
      have h5 := h4.keep hk_
      clear h4 Hs
      refine hK _ _ (InK.mk' h5.keep0) ?_
      clear hK K
      refine region_take [10, 11, 12, 13, 14, 15] [0, 1, 2, 3, 4, 5, 7, 8, 6, 9] 3 (by kernel_rfl) (by kernel_rfl) (InK.mk' h5.keep0) ?_
      show wpQuiet _ _ _ _ [_, _, _, _, _, _] _
      repeat (go_big_quiet_step (fail))
      refine wpQuiet_nil ?_
      refine region_fix (i := 16) (fuel := 2) rfl (by kernel_rfl) (fun K hK => ?_)
      go_simp
      refine (h5.call (R := fun e => e = .returned (.int .i64 0)) (c' := ⟨f0.opened.ov o3, [Bq q.l] ++ [⟨4, p.l, q.l, false, true⟩], q.l, true, 0⟩) (fun F h hF => by have := cs_want h ((okf0.opened.push p.l).ov o3) p.l p.a p.c (pS.keep h5.keep0) (Sz.t (by repeat (first | exact Sz.fresh | apply Sz.ov | apply Sz.push | apply Sz.opened | apply Sz.loosen)) (by omega)) (Sz.p (by repeat (first | exact Sz.fresh | apply Sz.ov | apply Sz.push | apply Sz.opened | apply Sz.loosen)) (by omega)) (by omega); rw [Stk.want_pushed f0.opened p.l o3 okf0.opened] at this; exact this)).mono ?_
      rintro e w6 ⟨rfl, h6⟩
      clear h5
      refine hK _ _ (InK.mk' h6.keep0) ?_
      clear hK K
      refine region_take [17, 18] [0, 1, 2, 3, 4, 5, 7, 8, 6, 9, 10, 11, 12, 13, 14, 15, 16] 0 (by kernel_rfl) (by kernel_rfl) (InK.mk' h6.keep0) ?_
      show wpQuiet _ _ _ _ [_, _] _
      repeat (go_big_quiet_step (fail))
      refine wpQuiet_nil ?_
      refine region_done (by kernel_rfl) ?_
      have bc1 : w6.cell? ⟨w.heap.size, 1, none⟩ = some (.slice q.a q.l.length q.c) := (bx.keep h6.keep0).cell 1
      have lbx := (bx.keep h6.keep0).lt
      go_wp2_with fail
      refine (h6.call (R := fun e => ∃ v, e = .returned v) (c' := ⟨(f0.opened.push q.l).ov ((f0.opened.ov o3).push q.l).over, [Bq q.l] ++ [⟨4, p.l, q.l, false, true⟩], q.l, true, 0⟩) (fun F h hF => by exact cs_push h q.l q.a q.c (qS.keep h6.keep0) (Sz.tl (by repeat (first | exact Sz.fresh | apply Sz.ov | apply Sz.push | apply Sz.opened | apply Sz.loosen)) (by (try simp only [List.length_cons, List.length_nil]); omega)))).mono ?_
      rintro e w7 ⟨⟨u7, rfl⟩, h7⟩
      generalize ((f0.opened.ov o3).push q.l).over = o7 at h7
      clear h6 bc1 lbx
      have bc0 : w7.cell? ⟨w.heap.size, 0, none⟩ = some (.slice p.a p.l.length p.c) := (bx.keep h7.keep0).cell 0
      have bc1 : w7.cell? ⟨w.heap.size, 1, none⟩ = some (.slice q.a q.l.length q.c) := (bx.keep h7.keep0).cell 1
      have lbx := (bx.keep h7.keep0).lt
      go_wp2_with fail
      refine (refSameVals_calls p.l q.l p.a q.a p.c q.c w7 (pS.keep h7.keep0) (qS.keep h7.keep0) (by omega) (by omega)).mono ?_
      rintro e w8 ⟨rfl, hk8⟩
      have h8 := h7.keep hk8
      clear h7 bc0 bc1 lbx
      by_cases hpq : p.l = q.l
      · rw [show decide (p.l = q.l) = true from decide_eq_true hpq]
        go_wp2_with fail
        refine (h8.call (R := fun e => e = .returned (.int .i64 0)) (c' := ⟨(f0.push q.l).ov ((f0.ov o7).push q.l).over, [Bq q.l], q.l, true, 0⟩) (fun F h hF => by have := leave_calls h ((okf0.opened.push q.l).ov o7) (Sz.t (by repeat (first | exact Sz.fresh | apply Sz.ov | apply Sz.push | apply Sz.opened | apply Sz.loosen)) (by omega)) (Sz.p (by repeat (first | exact Sz.fresh | apply Sz.ov | apply Sz.push | apply Sz.opened | apply Sz.loosen)) (by omega)) (by simp) (show (p.l).length ≤ 100000 by omega) (show (q.l).length ≤ 100000 by omega); rw [Ctl.leave_pushed f0 o7 okf0 [Bq q.l] ⟨4, p.l, q.l, false, true⟩ q.l true (fun h1 => h1.2.2 hpq)] at this; exact this)).mono ?_
        rintro e w9 ⟨rfl, h9⟩
        generalize ((f0.ov o7).push q.l).over = o9 at h9
        clear h8
        go_wp2_with fail
        refine (h9.read fun F h => done_calls h).mono ?_
        rintro e w10 ⟨rfl, rfl⟩
        rw [show (Ctl.mk ((f0.push q.l).ov o9) [Bq q.l] q.l true 0).done = false from rfl]
        go_wp2_with fail
        refine (h9.call (R := fun e => e = .returned (.int .i64 0)) (c' := ⟨(Stk.fresh.ov o9).push q.l, [], q.l, true, 0⟩) (fun F h hF => by have := leave_calls h ((okf0.push q.l).ov o9) (Sz.t (by repeat (first | exact Sz.fresh | apply Sz.ov | apply Sz.push | apply Sz.opened | apply Sz.loosen)) (by omega)) (Sz.p (by repeat (first | exact Sz.fresh | apply Sz.ov | apply Sz.push | apply Sz.opened | apply Sz.loosen)) (by omega)) (by simp) (show ([] : List Int).length ≤ 100000 by decide) (show (q.l).length ≤ 100000 by omega); rw [show (Ctl.mk ((f0.push q.l).ov o9) [Bq q.l] q.l true 0).leave = (⟨(Stk.fresh.ov o9).push q.l, [], q.l, true, 0⟩, 0) from Ctl.leave_pushed Stk.fresh o9 Stk.Ok.fresh [] (Bq q.l) q.l true (bq_no q.l)] at this; exact this)).mono ?_
        rintro e w10 ⟨rfl, h10⟩
        clear h9
        go_wp2_with fail
        refine (calive_calls w10).mono ?_
        rintro e w11 ⟨rfl, hk11⟩
        have Hk := Lib.hid (hka.trans (h10.keep0.trans hk11))
        clear h10
        go_wp2
        go_ret
        exact ⟨rfl, Hk.out⟩
      · rw [show decide (p.l = q.l) = false from decide_eq_false hpq]
        go_wp2_with fail
        refine (h8.call (R := fun e => e = .returned (.int .i64 12)) (c' := ⟨f0.ov o7, [Bq q.l], q.l, true, 12⟩) (fun F h hF => by have := leave_calls h ((okf0.opened.push q.l).ov o7) (Sz.t (by repeat (first | exact Sz.fresh | apply Sz.ov | apply Sz.push | apply Sz.opened | apply Sz.loosen)) (by omega)) (Sz.p (by repeat (first | exact Sz.fresh | apply Sz.ov | apply Sz.push | apply Sz.opened | apply Sz.loosen)) (by omega)) (by simp) (show (p.l).length ≤ 100000 by omega) (show (q.l).length ≤ 100000 by omega); rw [Ctl.leave_if f0 o7 okf0 [Bq q.l] ⟨4, p.l, q.l, false, true⟩ q.l true ⟨rfl, rfl, hpq⟩] at this; exact this)).mono ?_
        rintro e w9 ⟨rfl, h9⟩
        clear h8
        go_wp2_with fail
        refine (h9.read fun F h => done_calls h).mono ?_
        rintro e w10 ⟨rfl, rfl⟩
        rw [show (Ctl.mk (f0.ov o7) [Bq q.l] q.l true 12).done = false from rfl]
        go_wp2_with fail
        refine (h9.call (R := fun e => e = .returned (.int .i64 12)) (c' := ⟨f0.ov o7, [Bq q.l], q.l, true, 12⟩) (fun F h hF => by have := leave_calls h (okf0.ov o7) (Sz.t (by repeat (first | exact Sz.fresh | apply Sz.ov | apply Sz.push | apply Sz.opened | apply Sz.loosen)) (by omega)) (Sz.p (by repeat (first | exact Sz.fresh | apply Sz.ov | apply Sz.push | apply Sz.opened | apply Sz.loosen)) (by omega)) (by simp) (show ([] : List Int).length ≤ 100000 by decide) (show (q.l).length ≤ 100000 by omega); rw [leave_broken (f0.ov o7) [Bq q.l] q.l true 12 (by decide)] at this; exact this)).mono ?_
        rintro e w10 ⟨rfl, h10⟩
        clear h9
        go_wp2_with fail
        refine (calive_calls w10).mono ?_
        rintro e w11 ⟨rfl, hk11⟩
        have Hk := Lib.hid (hka.trans (h10.keep0.trans hk11))
        clear h10
        go_wp2
        go_ret
        exact ⟨rfl, Hk.out⟩
    · go_enter Try.func8, Try.ntmps8
      go_wp2_with fail
      show Calls Try.prog _ _ (w.alloc (.cells ([p.v, q.v] : List Value).toArray 56)) _
      rw [← hwa]
      clear hwa
      refine (cnew_calls q.l q.a q.c wa qS (by omega)).mono ?_
      rintro e w0 ⟨b, bst, F0, rfl, hc0, hk0, hF0⟩
      have h0 : CLive wa b bst ⟨f0.ov false, [Bq q.l], q.l, true, 0⟩ w0 := ⟨F0, hk0, hc0, hF0⟩
      clear hc0 hF0
      go_wp2_with fail
      refine (h0.read fun F h => cs_stack h).mono ?_
      rintro e w1 ⟨rfl, rfl⟩
      go_wp2_with fail
      refine (h0.read fun F h => cs_stack h).mono ?_
      rintro e w1 ⟨rfl, rfl⟩
      have bc0 : w0.cell? ⟨w.heap.size, 0, none⟩ = some (.slice p.a p.l.length p.c) := (bx.keep h0.keep0).cell 0
      have lbx := (bx.keep h0.keep0).lt
      go_wp2_with fail
      refine (h0.call (R := fun e => ∃ v, e = .returned v) (c' := ⟨(f0.push p.l).ov ((f0.ov false).push p.l).over, [Bq q.l], q.l, true, 0⟩) (fun F h hF => by exact cs_push h p.l p.a p.c (pS.keep h0.keep0) (Sz.tl (by repeat (first | exact Sz.fresh | apply Sz.ov | apply Sz.push | apply Sz.opened | apply Sz.loosen)) (by (try simp only [List.length_cons, List.length_nil]); omega)))).mono ?_
      rintro e w1 ⟨⟨u1, rfl⟩, h1⟩
      generalize ((f0.ov false).push p.l).over = o1 at h1
      clear h0 bc0 lbx
      have h1a := h1.keep ((Keep.refl _).alloc (.cells (([1] : List Int).flatMap valC).toArray 45))
      clear h1
      go_wp2_with fail
      refine (h1a.call (R := fun e => ∃ v, e = .returned v) (c' := ⟨((f0.push p.l).push [1]).ov (((f0.push p.l).ov o1).push [1]).over, [Bq q.l], q.l, true, 0⟩) (fun F h hF => by exact cs_push h [1] (some ⟨w1.heap.size, 0, none⟩) 1 (Seg.of_blk (Blk.new w1 45 (([1] : List Int).flatMap valC))) (Sz.tl (by repeat (first | exact Sz.fresh | apply Sz.ov | apply Sz.push | apply Sz.opened | apply Sz.loosen)) (by simp; omega)))).mono ?_
      rintro e w2 ⟨⟨u2, rfl⟩, h2⟩
      generalize (((f0.push p.l).ov o1).push [1]).over = o2 at h2
      clear h1a
      go_wp2_with fail
      refine region_begin (S := fun w' => ∃ y : KW wa, w' = y.val) (by kernel_rfl) ?_
      refine region_take [0, 1] [] 17 (by kernel_rfl) (by kernel_rfl) (InK.mk' h2.keep0.drew) ?_
      show wpQuiet _ _ _ _ [_, _] _
      repeat (go_big_quiet_step (fail))
      refine wpQuiet_nil ?_
      have h2d := h2.keep ((Keep.refl _).drew)
      refine region_fix (i := 2) (fuel := 16) rfl (by kernel_rfl) (fun K hK => ?_)
      go_simp
      refine (h2d.call (R := fun e => e = .returned (.int .i64 0)) (c' := ⟨(f0.opened.push p.l).ov ((f0.ov o2).opened.push p.l).over, [Bq q.l] ++ [⟨4, p.l, q.l, false, true⟩], q.l, true, 0⟩) (fun F h hF => by have := enter_calls h (((okf0.push p.l).push [1]).ov o2) 4 p q (LD.Ok.old pS h2d.keep0 hF) (LD.Ok.old qS h2d.keep0 hF) (Sz.tl (by repeat (first | exact Sz.fresh | apply Sz.ov | apply Sz.push | apply Sz.opened | apply Sz.loosen)) (by (try simp only [List.length_cons, List.length_nil]); omega)) (Sz.p (by repeat (first | exact Sz.fresh | apply Sz.ov | apply Sz.push | apply Sz.opened | apply Sz.loosen)) (by omega)) (by simp) (by omega) (by omega); rw [Ctl.enter_cond f0 o2 okf0 [Bq q.l] q.l true p.l q.l (by simp)] at this; exact this)).mono ?_
      rintro e w3 ⟨rfl, h3⟩
      generalize ((f0.ov o2).opened.push p.l).over = o3 at h3
      clear h2 h2d
      refine hK _ _ (InK.mk' h3.keep0) ?_
      clear hK K
      refine region_take [3, 4, 5, 7, 8] [0, 1, 2] 11 (by kernel_rfl) (by kernel_rfl) (InK.mk' h3.keep0) ?_
      show wpQuiet _ _ _ _ [_, _, _, _, _] _
      repeat (go_big_quiet_step (fail))
      refine wpQuiet_nil ?_
      refine region_fix (i := 6) (fuel := 10) rfl (by kernel_rfl) (fun K hK => ?_)
      go_simp
      refine (h3.read fun F h => cs_all h (Sz.t (by repeat (first | exact Sz.fresh | apply Sz.ov | apply Sz.push | apply Sz.opened | apply Sz.loosen)) (by omega))).mono ?_
      rintro e w4 ⟨va, rfl, ho, hk_⟩
      have ho2 : Own valC 1 45 w4 w3.heap.size va p.l := ho
      obtain ⟨Aa, ca, rfl, _⟩ := ho2.form
      have h4 := h3.keep hk_
      have Hs := Lib.hid (refSameVals_calls p.l p.l Aa p.a ca p.c w4 ho2.segN.2 (pS.keep h4.keep0) (by omega) (by omega))
      clear h3 ho ho2
      refine hK _ _ (InK.mk' h4.keep0) ?_
      clear hK K
      refine region_fix (i := 9) (fuel := 9) rfl (by kernel_rfl) (fun K hK => ?_)
      go_simp
      refine (Hs.out).mono ?_
      rintro e w5 ⟨rfl, hk_⟩
      rw [show decide (p.l = p.l) = true from decide_eq_true rfl]
      have h5 := h4.keep hk_
      clear h4 Hs
      refine hK _ _ (InK.mk' h5.keep0) ?_
      clear hK K
      refine region_take [10, 11, 12, 13, 14, 15] [0, 1, 2, 3, 4, 5, 7, 8, 6, 9] 3 (by kernel_rfl) (by kernel_rfl) (InK.mk' h5.keep0) ?_
      show wpQuiet _ _ _ _ [_, _, _, _, _, _] _
      repeat (go_big_quiet_step (fail))
      refine wpQuiet_nil ?_
      refine region_fix (i := 16) (fuel := 2) rfl (by kernel_rfl) (fun K hK => ?_)
      go_simp
      refine (h5.call (R := fun e => e = .returned (.int .i64 0)) (c' := ⟨f0.opened.ov o3, [Bq q.l] ++ [⟨4, p.l, q.l, false, true⟩], q.l, true, 0⟩) (fun F h hF => by have := cs_want h ((okf0.opened.push p.l).ov o3) p.l p.a p.c (pS.keep h5.keep0) (Sz.t (by repeat (first | exact Sz.fresh | apply Sz.ov | apply Sz.push | apply Sz.opened | apply Sz.loosen)) (by omega)) (Sz.p (by repeat (first | exact Sz.fresh | apply Sz.ov | apply Sz.push | apply Sz.opened | apply Sz.loosen)) (by omega)) (by omega); rw [Stk.want_pushed f0.opened p.l o3 okf0.opened] at this; exact this)).mono ?_
      rintro e w6 ⟨rfl, h6⟩
      clear h5
      refine hK _ _ (InK.mk' h6.keep0) ?_
      clear hK K
      refine region_take [17, 18] [0, 1, 2, 3, 4, 5, 7, 8, 6, 9, 10, 11, 12, 13, 14, 15, 16] 0 (by kernel_rfl) (by kernel_rfl) (InK.mk' h6.keep0) ?_
      show wpQuiet _ _ _ _ [_, _] _
      repeat (go_big_quiet_step (fail))
      refine wpQuiet_nil ?_
      refine region_done (by kernel_rfl) ?_
      have bc1 : w6.cell? ⟨w.heap.size, 1, none⟩ = some (.slice q.a q.l.length q.c) := (bx.keep h6.keep0).cell 1
      have lbx := (bx.keep h6.keep0).lt
      go_wp2_with fail
      refine (h6.call (R := fun e => ∃ v, e = .returned v) (c' := ⟨(f0.opened.push q.l).ov ((f0.opened.ov o3).push q.l).over, [Bq q.l] ++ [⟨4, p.l, q.l, false, true⟩], q.l, true, 0⟩) (fun F h hF => by exact cs_push h q.l q.a q.c (qS.keep h6.keep0) (Sz.tl (by repeat (first | exact Sz.fresh | apply Sz.ov | apply Sz.push | apply Sz.opened | apply Sz.loosen)) (by (try simp only [List.length_cons, List.length_nil]); omega)))).mono ?_
      rintro e w7 ⟨⟨u7, rfl⟩, h7⟩
      generalize ((f0.opened.ov o3).push q.l).over = o7 at h7
      clear h6 bc1 lbx
      go_wp2_with fail
      refine region_begin (S := fun w' => ∃ y : KW wa, w' = y.val) (by kernel_rfl) ?_
      refine region_take [0] [] 22 (by kernel_rfl) (by kernel_rfl) (InK.mk' h7.keep0.drew) ?_
      show wpQuiet _ _ _ _ [_] _
      repeat (go_big_quiet_step (fail))
      refine wpQuiet_nil ?_
      have h7d := h7.keep ((Keep.refl _).drew)
      refine region_fix (i := 1) (fuel := 21) rfl (by kernel_rfl) (fun K hK => ?_)
      go_simp
      refine (h7d.call (R := fun e => e = .returned (.int .i64 0)) (c' := ⟨(f0.opened.push p.l).ov ((f0.ov o7).opened.push p.l).over, [Bq q.l] ++ [⟨4, p.l, q.l, true, true⟩], q.l, true, 0⟩) (fun F h hF => by have := else_calls h ((okf0.opened.push q.l).ov o7) (Sz.t (by repeat (first | exact Sz.fresh | apply Sz.ov | apply Sz.push | apply Sz.opened | apply Sz.loosen)) (by omega)) (Sz.p (by repeat (first | exact Sz.fresh | apply Sz.ov | apply Sz.push | apply Sz.opened | apply Sz.loosen)) (by omega)) (by simp) (show (p.l).length ≤ 100000 by omega) (show (q.l).length ≤ 100000 by omega); rw [Ctl.else_pushed f0 o7 okf0 [Bq q.l] ⟨4, p.l, q.l, false, true⟩ q.l true rfl rfl] at this; exact this)).mono ?_
      rintro e w8 ⟨rfl, h8⟩
      generalize ((f0.ov o7).opened.push p.l).over = o8 at h8
      clear h7 h7d
      refine hK _ _ (InK.mk' h8.keep0) ?_
      clear hK K
      refine region_take [2, 3, 4, 6, 7] [0, 1] 16 (by kernel_rfl) (by kernel_rfl) (InK.mk' h8.keep0) ?_
      show wpQuiet _ _ _ _ [_, _, _, _, _] _
      repeat (go_big_quiet_step (fail))
      refine wpQuiet_nil ?_
      refine region_fix (i := 5) (fuel := 15) rfl (by kernel_rfl) (fun K hK => ?_)
      go_simp
      refine (h8.read fun F h => cs_all h (Sz.t (by repeat (first | exact Sz.fresh | apply Sz.ov | apply Sz.push | apply Sz.opened | apply Sz.loosen)) (by omega))).mono ?_
      rintro e w9 ⟨va, rfl, ho, hk_⟩
      have ho2 : Own valC 1 45 w9 w8.heap.size va p.l := ho
      obtain ⟨Aa, ca, rfl, _⟩ := ho2.form
      have h9 := h8.keep hk_
      have Hs := Lib.hid (refSameVals_calls p.l p.l Aa p.a ca p.c w9 ho2.segN.2 (pS.keep h9.keep0) (by omega) (by omega))
      clear h8 ho ho2
      refine hK _ _ (InK.mk' h9.keep0) ?_
      clear hK K
      refine region_fix (i := 8) (fuel := 14) rfl (by kernel_rfl) (fun K hK => ?_)
      go_simp
      refine (Hs.out).mono ?_
      rintro e w10 ⟨rfl, hk_⟩
      rw [show decide (p.l = p.l) = true from decide_eq_true rfl]
      have h10 := h9.keep hk_
      clear h9 Hs
      refine hK _ _ (InK.mk' h10.keep0) ?_
      clear hK K
      refine region_take [9, 10, 11, 12] [0, 1, 2, 3, 4, 6, 7, 5, 8] 10 (by kernel_rfl) (by kernel_rfl) (InK.mk' h10.keep0) ?_
      show wpQuiet _ _ _ _ [_, _, _, _] _
      repeat (go_big_quiet_step (fail))
      refine wpQuiet_nil ?_
      refine region_fix (i := 13) (fuel := 9) rfl (by kernel_rfl) (fun K hK => ?_)
      go_simp
      refine (h10.call (R := fun e => e = .returned (.int .i64 16)) (c' := ⟨(f0.opened.push p.l).ov o8, [Bq q.l] ++ [⟨4, p.l, q.l, true, true⟩], q.l, true, 0⟩) (fun F h hF => by have := else_calls h ((okf0.opened.push p.l).ov o8) (Sz.t (by repeat (first | exact Sz.fresh | apply Sz.ov | apply Sz.push | apply Sz.opened | apply Sz.loosen)) (by omega)) (Sz.p (by repeat (first | exact Sz.fresh | apply Sz.ov | apply Sz.push | apply Sz.opened | apply Sz.loosen)) (by omega)) (by simp) (show (p.l).length ≤ 100000 by omega) (show (q.l).length ≤ 100000 by omega); rw [else_twice ((f0.opened.push p.l).ov o8) [Bq q.l] ⟨4, p.l, q.l, true, true⟩ q.l true rfl] at this; exact this)).mono ?_
      rintro e w11 ⟨rfl, h11⟩
      clear h10
      refine hK _ _ (InK.mk' h11.keep0) ?_
      clear hK K
      refine region_take [14, 15, 16, 17, 18, 19] [0, 1, 2, 3, 4, 6, 7, 5, 8, 9, 10, 11, 12, 13] 3 (by kernel_rfl) (by kernel_rfl) (InK.mk' h11.keep0) ?_
      show wpQuiet _ _ _ _ [_, _, _, _, _, _] _
      repeat (go_big_quiet_step (fail))
      refine wpQuiet_nil ?_
      refine region_fix (i := 20) (fuel := 2) rfl (by kernel_rfl) (fun K hK => ?_)
      go_simp
      refine (h11.call (R := fun e => e = .returned (.int .i64 0)) (c' := ⟨f0.opened.ov o8, [Bq q.l] ++ [⟨4, p.l, q.l, true, true⟩], q.l, true, 0⟩) (fun F h hF => by have := cs_want h ((okf0.opened.push p.l).ov o8) p.l p.a p.c (pS.keep h11.keep0) (Sz.t (by repeat (first | exact Sz.fresh | apply Sz.ov | apply Sz.push | apply Sz.opened | apply Sz.loosen)) (by omega)) (Sz.p (by repeat (first | exact Sz.fresh | apply Sz.ov | apply Sz.push | apply Sz.opened | apply Sz.loosen)) (by omega)) (by omega); rw [Stk.want_pushed f0.opened p.l o8 okf0.opened] at this; exact this)).mono ?_
      rintro e w12 ⟨rfl, h12⟩
      clear h11
      refine hK _ _ (InK.mk' h12.keep0) ?_
      clear hK K
      refine region_take [21, 22] [0, 1, 2, 3, 4, 6, 7, 5, 8, 9, 10, 11, 12, 13, 14, 15, 16, 17, 18, 19, 20] 0 (by kernel_rfl) (by kernel_rfl) (InK.mk' h12.keep0) ?_
      show wpQuiet _ _ _ _ [_, _] _
      repeat (go_big_quiet_step (fail))
      refine wpQuiet_nil ?_
      refine region_done (by kernel_rfl) ?_
      have bc1 : w12.cell? ⟨w.heap.size, 1, none⟩ = some (.slice q.a q.l.length q.c) := (bx.keep h12.keep0).cell 1
      have lbx := (bx.keep h12.keep0).lt
      go_wp2_with fail
      refine (h12.call (R := fun e => ∃ v, e = .returned v) (c' := ⟨(f0.opened.push q.l).ov ((f0.opened.ov o8).push q.l).over, [Bq q.l] ++ [⟨4, p.l, q.l, true, true⟩], q.l, true, 0⟩) (fun F h hF => by exact cs_push h q.l q.a q.c (qS.keep h12.keep0) (Sz.tl (by repeat (first | exact Sz.fresh | apply Sz.ov | apply Sz.push | apply Sz.opened | apply Sz.loosen)) (by (try simp only [List.length_cons, List.length_nil]); omega)))).mono ?_
      rintro e w13 ⟨⟨u13, rfl⟩, h13⟩
      generalize ((f0.opened.ov o8).push q.l).over = o13 at h13
      clear h12 bc1 lbx
      go_wp2_with fail
      refine region_begin (S := fun w' => ∃ y : KW wa, w' = y.val) (by kernel_rfl) ?_
      refine region_take [0] [] 27 (by kernel_rfl) (by kernel_rfl) (InK.mk' h13.keep0.drew) ?_
      show wpQuiet _ _ _ _ [_] _
      repeat (go_big_quiet_step (fail))
      refine wpQuiet_nil ?_
      have h13d := h13.keep ((Keep.refl _).drew)
      refine region_fix (i := 1) (fuel := 26) rfl (by kernel_rfl) (fun K hK => ?_)
      go_simp
      refine (h13d.call (R := fun e => e = .returned (.int .i64 0)) (c' := ⟨(f0.push q.l).ov ((f0.ov o13).push q.l).over, [Bq q.l], q.l, true, 0⟩) (fun F h hF => by have := leave_calls h ((okf0.opened.push q.l).ov o13) (Sz.t (by repeat (first | exact Sz.fresh | apply Sz.ov | apply Sz.push | apply Sz.opened | apply Sz.loosen)) (by omega)) (Sz.p (by repeat (first | exact Sz.fresh | apply Sz.ov | apply Sz.push | apply Sz.opened | apply Sz.loosen)) (by omega)) (by simp) (show (p.l).length ≤ 100000 by omega) (show (q.l).length ≤ 100000 by omega); rw [Ctl.leave_pushed f0 o13 okf0 [Bq q.l] ⟨4, p.l, q.l, true, true⟩ q.l true (by simp)] at this; exact this)).mono ?_
      rintro e w14 ⟨rfl, h14⟩
      generalize ((f0.ov o13).push q.l).over = o14 at h14
      clear h13 h13d
      refine hK _ _ (InK.mk' h14.keep0) ?_
      clear hK K
      refine region_take [2, 3, 4] [0, 1] 23 (by kernel_rfl) (by kernel_rfl) (InK.mk' h14.keep0) ?_
      show wpQuiet _ _ _ _ [_, _, _] _
      repeat (go_big_quiet_step (fail))
      refine wpQuiet_nil ?_
      refine region_fix (i := 5) (fuel := 22) rfl (by kernel_rfl) (fun K hK => ?_)
      go_simp
      refine (h14.call (R := fun e => e = .returned (.int .i64 0)) (c' := ⟨(Stk.fresh.push q.l).ov ((Stk.fresh.ov o14).push q.l).over, [], q.l, true, 0⟩) (fun F h hF => by have := leave_calls h ((okf0.push q.l).ov o14) (Sz.t (by repeat (first | exact Sz.fresh | apply Sz.ov | apply Sz.push | apply Sz.opened | apply Sz.loosen)) (by omega)) (Sz.p (by repeat (first | exact Sz.fresh | apply Sz.ov | apply Sz.push | apply Sz.opened | apply Sz.loosen)) (by omega)) (by simp) (show ([] : List Int).length ≤ 100000 by decide) (show (q.l).length ≤ 100000 by omega); rw [show (Ctl.mk ((f0.push q.l).ov o14) [Bq q.l] q.l true 0).leave = (⟨(Stk.fresh.ov o14).push q.l, [], q.l, true, 0⟩, 0) from Ctl.leave_pushed Stk.fresh o14 Stk.Ok.fresh [] (Bq q.l) q.l true (bq_no q.l)] at this; exact this)).mono ?_
      rintro e w15 ⟨rfl, h15⟩
      generalize ((Stk.fresh.ov o14).push q.l).over = o15 at h15
      clear h14
      refine hK _ _ (InK.mk' h15.keep0) ?_
      clear hK K
      refine region_take [6, 7, 8, 9] [0, 1, 2, 3, 4, 5] 18 (by kernel_rfl) (by kernel_rfl) (InK.mk' h15.keep0) ?_
      show wpQuiet _ _ _ _ [_, _, _, _] _
      repeat (go_big_quiet_step (fail))
      refine wpQuiet_nil ?_
      refine region_fix (i := 10) (fuel := 17) rfl (by kernel_rfl) (fun K hK => ?_)
      go_simp
      refine (h15.read fun F h => done_calls h).mono ?_
      rintro e w16 ⟨rfl, rfl⟩
      rw [show (Ctl.mk ((Stk.fresh.push q.l).ov o15) [] q.l true 0).done = true from rfl]
      refine hK _ _ (InK.mk' h15.keep0) ?_
      clear hK K
      refine region_take [11, 12, 13] [0, 1, 2, 3, 4, 5, 6, 7, 8, 9, 10] 14 (by kernel_rfl) (by kernel_rfl) (InK.mk' h15.keep0) ?_
      show wpQuiet _ _ _ _ [_, _, _] _
      repeat (go_big_quiet_step (fail))
      refine wpQuiet_nil ?_
      refine region_fix (i := 14) (fuel := 13) rfl (by kernel_rfl) (fun K hK => ?_)
      go_simp
      refine (h15.call (R := fun e => e = .returned (.int .i64 16)) (c' := ⟨(Stk.fresh.push q.l).ov o15, [], q.l, true, 0⟩) (fun F h hF => by have := leave_calls h ((Stk.Ok.fresh.push q.l).ov o15) (Sz.t (by repeat (first | exact Sz.fresh | apply Sz.ov | apply Sz.push | apply Sz.opened | apply Sz.loosen)) (by omega)) (Sz.p (by repeat (first | exact Sz.fresh | apply Sz.ov | apply Sz.push | apply Sz.opened | apply Sz.loosen)) (by omega)) (by simp) (show ([] : List Int).length ≤ 100000 by decide) (show ([] : List Int).length ≤ 100000 by decide); rw [leave_done ((Stk.fresh.push q.l).ov o15) q.l true] at this; exact this)).mono ?_
      rintro e w16 ⟨rfl, h16⟩
      clear h15
      refine hK _ _ (InK.mk' h16.keep0) ?_
      clear hK K
      refine region_take [15, 16, 17, 18, 20, 21] [0, 1, 2, 3, 4, 5, 6, 7, 8, 9, 10, 11, 12, 13, 14] 7 (by kernel_rfl) (by kernel_rfl) (InK.mk' h16.keep0) ?_
      show wpQuiet _ _ _ _ [_, _, _, _, _, _] _
      repeat (go_big_quiet_step (fail))
      refine wpQuiet_nil ?_
      refine region_fix (i := 19) (fuel := 6) rfl (by kernel_rfl) (fun K hK => ?_)
      go_simp
      refine (h16.read fun F h => cs_all h (Sz.t (by repeat (first | exact Sz.fresh | apply Sz.ov | apply Sz.push | apply Sz.opened | apply Sz.loosen)) (by omega))).mono ?_
      rintro e w17 ⟨va, rfl, ho, hk_⟩
      have ho2 : Own valC 1 45 w17 w16.heap.size va q.l := ho
      obtain ⟨Aa, ca, rfl, _⟩ := ho2.form
      have h17 := h16.keep hk_
      have Hs := Lib.hid (refSameVals_calls q.l q.l Aa q.a ca q.c w17 ho2.segN.2 (qS.keep h17.keep0) (by omega) (by omega))
      clear h16 ho ho2
      refine hK _ _ (InK.mk' h17.keep0) ?_
      clear hK K
      refine region_fix (i := 22) (fuel := 5) rfl (by kernel_rfl) (fun K hK => ?_)
      go_simp
      refine (Hs.out).mono ?_
      rintro e w18 ⟨rfl, hk_⟩
      rw [show decide (q.l = q.l) = true from decide_eq_true rfl]
      have h18 := h17.keep hk_
      clear h17 Hs
      refine hK _ _ (InK.mk' h18.keep0) ?_
      clear hK K
      refine region_take [23, 24] [0, 1, 2, 3, 4, 5, 6, 7, 8, 9, 10, 11, 12, 13, 14, 15, 16, 17, 18, 20, 21, 19, 22] 3 (by kernel_rfl) (by kernel_rfl) (InK.mk' h18.keep0) ?_
      show wpQuiet _ _ _ _ [_, _] _
      repeat (go_big_quiet_step (fail))
      refine wpQuiet_nil ?_
      refine region_fix (i := 25) (fuel := 2) rfl (by kernel_rfl) (fun K hK => ?_)
      go_simp
      refine (calive_calls w18).mono ?_
      rintro e w19 ⟨rfl, hk19⟩
      have hk := h18.keep0.trans hk19
      refine hK _ _ (InK.mk' hk) ?_
      clear hK K
      refine region_take [26, 27] [0, 1, 2, 3, 4, 5, 6, 7, 8, 9, 10, 11, 12, 13, 14, 15, 16, 17, 18, 20, 21, 19, 22, 23, 24, 25] 0 (by kernel_rfl) (by kernel_rfl) (InK.mk' hk) ?_
      show wpQuiet _ _ _ _ [_, _] _
      repeat (go_big_quiet_step (fail))
      refine wpQuiet_nil ?_
      refine region_done (by kernel_rfl) ?_
      have Hk := Lib.hid (hka.trans hk)
      go_wp2
      go_ret
      exact ⟨rfl, Hk.out⟩
end Go.Proofs.Ytkeefajfndmpeaa
