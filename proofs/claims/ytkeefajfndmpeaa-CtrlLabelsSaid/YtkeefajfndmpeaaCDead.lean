/-
  The law CtrlDead returns true.
-/
import Derived.Test.YtkeefajfndmpeaaCAlive
import Derived.Test.YtkeefajfndmpeaaCFrame
namespace Go.Proofs.Ytkeefajfndmpeaa
open Go Go.RowKit

abbrev f0 : Stk := Stk.fresh.opened
theorem okf0 : f0.Ok := Stk.Ok.fresh.opened
def B0 : PB := ⟨0, [], [], false, true⟩
theorem fresh_nil : Ctl.fresh [] = ⟨f0.ov false, [B0], [], true, 0⟩ := rfl
theorem dead_pushed (t : Stk) (p : List Int) (o : Bool) (bs : List PB) (res : List Int) (live : Bool) (h : bs ≠ []) : (Ctl.mk ((t.opened.push p).ov o) bs res live 0).dead = ⟨t.opened.loosen.ov o, bs, res, false, 0⟩ := by
  unfold Ctl.dead
  rw [if_neg (by simp [h])]
  simp only [Stk.loosen_pushed]
/-- A new State is not nil, nor is its operand stack. -/
theorem ptr_c (p : Nat) (w : World) : (binOp .eql 57 (.pointer (some ⟨p, 0, none⟩)) (.pointer none)).run Try.prog w = .ok (.bool false) w := by kernel_rfl
theorem ptr_s (p : Nat) (w : World) : (binOp .eql 26 (.pointer (some ⟨p, 0, none⟩)) (.pointer none)).run Try.prog w = .ok (.bool false) w := by kernel_rfl

/-- Two function types in their boxes. -/
theorem fn_boxes (w : World) (cs ds : List Value) {wa : World} (hwa : wa = (w.alloc (.cells cs.toArray 56)).alloc (.cells ds.toArray 56)) :
    Keep w wa ∧ Blk wa w.heap.size 56 cs ∧ Blk wa (w.heap.size + 1) 56 ds := by
  refine ⟨by rw [hwa]; exact ((Keep.refl _).alloc _).alloc _, by rw [hwa]; exact (Blk.new w _ _).keep ((Keep.refl _).alloc _), ?_⟩
  rw [hwa]
  have := Blk.new (w.alloc (.cells cs.toArray 56)) 56 ds
  simpa using this

set_option maxHeartbeats 4000000 in
set_option maxRecDepth 100000 in
theorem ctrlDead_walk (p q p' q' : LD) (w : World) (hp : LOk w p) (hq : LOk w q) (hp' : LOk w p') (hq' : LOk w q') :
    Calls Try.prog 7 #[.agg #[.slice p.a p.l.length p.c, .slice q.a q.l.length q.c], .agg #[.slice p'.a p'.l.length p'.c, .slice q'.a q'.l.length q'.c]] w fun e w' => e = .returned (.bool true) ∧ Keep w w' := by
  have lp := hp.len
  have lq := hq.len
  have lp' := hp'.len
  have lq' := hq'.len
  unfold maxLen at lp lq lp' lq'
  obtain ⟨wa, hwa⟩ : ∃ wa : World, wa = (w.alloc (.cells ([p.v, q.v] : List Value).toArray 56)).alloc (.cells ([p'.v, q'.v] : List Value).toArray 56) := ⟨_, rfl⟩
  obtain ⟨hka, bx, by_⟩ := fn_boxes w _ _ hwa
  have pS := hp.seg.keep hka
  have qS := hq.seg.keep hka
  have p'S := hp'.seg.keep hka
  have q'S := hq'.seg.keep hka
  clear hp hq hp' hq'
  by_cases hsm : q.l.length ≤ 20 ∧ p.l.length ≤ 20 ∧ p'.l.length ≤ 20 ∧ q'.l.length ≤ 20
  rotate_left
  · have Ha := Lib.hid (calive_calls wa)
    have hor : (20 : Int) < q.l.length ∨ (20 : Int) < p.l.length ∨ (20 : Int) < p'.l.length ∨ (20 : Int) < q'.l.length := by omega
    clear hsm
    by_cases g1 : (20 : Int) < q.l.length
    · clear hor
      go_enter Try.func7, Try.ntmps7
      go_wp2_with fail
      show Calls Try.prog _ _ ((w.alloc (.cells ([p.v, q.v] : List Value).toArray 56)).alloc (.cells ([p'.v, q'.v] : List Value).toArray 56)) _
      rw [← hwa]
      refine Ha.out.mono ?_
      rintro e w2 ⟨rfl, hk⟩
      go_wp2
      go_ret
      exact ⟨rfl, hka.trans hk⟩
    by_cases g2 : (20 : Int) < p.l.length
    · clear hor
      go_enter Try.func7, Try.ntmps7
      go_wp2_with fail
      show Calls Try.prog _ _ ((w.alloc (.cells ([p.v, q.v] : List Value).toArray 56)).alloc (.cells ([p'.v, q'.v] : List Value).toArray 56)) _
      rw [← hwa]
      refine Ha.out.mono ?_
      rintro e w2 ⟨rfl, hk⟩
      go_wp2
      go_ret
      exact ⟨rfl, hka.trans hk⟩
    by_cases g3 : (20 : Int) < p'.l.length
    · clear hor
      go_enter Try.func7, Try.ntmps7
      go_wp2_with fail
      show Calls Try.prog _ _ ((w.alloc (.cells ([p.v, q.v] : List Value).toArray 56)).alloc (.cells ([p'.v, q'.v] : List Value).toArray 56)) _
      rw [← hwa]
      refine Ha.out.mono ?_
      rintro e w2 ⟨rfl, hk⟩
      go_wp2
      go_ret
      exact ⟨rfl, hka.trans hk⟩
    · have g4 : (20 : Int) < q'.l.length := by omega
      clear hor
      go_enter Try.func7, Try.ntmps7
      go_wp2_with fail
      show Calls Try.prog _ _ ((w.alloc (.cells ([p.v, q.v] : List Value).toArray 56)).alloc (.cells ([p'.v, q'.v] : List Value).toArray 56)) _
      rw [← hwa]
      refine Ha.out.mono ?_
      rintro e w2 ⟨rfl, hk⟩
      go_wp2
      go_ret
      exact ⟨rfl, hka.trans hk⟩
  · obtain ⟨m1, m2, m3, m4⟩ := hsm
    have g1 : ¬ (20 : Int) < q.l.length := by omega
    have g2 : ¬ (20 : Int) < p.l.length := by omega
    have g3 : ¬ (20 : Int) < p'.l.length := by omega
    have g4 : ¬ (20 : Int) < q'.l.length := by omega
    have hpc := ptr_c
    have hps := ptr_s
    have x0 := fun y : KW wa => y.cell (v := .slice p.a p.l.length p.c) (bx.cell 0)
    have x1 := fun y : KW wa => y.cell (v := .slice q.a q.l.length q.c) (bx.cell 1)
    have y0 := fun y : KW wa => y.cell (v := .slice p'.a p'.l.length p'.c) (by_.cell 0)
    have y1 := fun y : KW wa => y.cell (v := .slice q'.a q'.l.length q'.c) (by_.cell 1)
    go_enter Try.func7, Try.ntmps7
    go_wp2_with fail
    show Calls Try.prog _ _ ((w.alloc (.cells ([p.v, q.v] : List Value).toArray 56)).alloc (.cells ([p'.v, q'.v] : List Value).toArray 56)) _
    rw [← hwa]
    clear hwa
    refine (cnew_calls [] none 0 wa (Seg.nil _ _) (by decide)).mono ?_
    rintro e w0 ⟨b, bst, F0, rfl, hc0, hk0, hF0⟩
    have h0 : CLive wa b bst ⟨f0.ov false, [B0], [], true, 0⟩ w0 := ⟨F0, hk0, hc0, hF0⟩
    clear hc0 hF0
    go_wp2_with fail
    refine (h0.read fun F h => cs_stack h).mono ?_
    rintro e w1 ⟨rfl, rfl⟩
    go_wp2_with fail
    refine region_begin (S := fun w' => ∃ y : KW wa, w' = y.val) (by kernel_rfl) ?_
    refine region_take [0, 2, 3] [] 2 (by kernel_rfl) (by kernel_rfl) (InK.mk' h0.keep0.drew) ?_
    show wpQuiet _ _ _ _ [_, _, _] _
    repeat (go_big_quiet_step (fail))
    refine wpQuiet_nil ?_
    have h0d := h0.keep ((Keep.refl _).drew)
    refine region_fix (i := 1) (fuel := 1) rfl (by kernel_rfl) (fun K hK => ?_)
    go_simp
    refine (h0d.read fun F h => cs_stack h).mono ?_
    rintro e w1 ⟨rfl, rfl⟩
    refine hK _ _ (InK.mk' h0d.keep0) ?_
    clear hK K
    refine region_fix (i := 4) (fuel := 0) rfl (by kernel_rfl) (fun K hK => ?_)
    go_simp
    refine (h0d.call (R := fun e => ∃ v, e = .returned v) (c' := ⟨(f0.push p.l).ov ((f0.ov false).push p.l).over, [B0], [], true, 0⟩) (fun F h hF => by exact cs_push h p.l p.a p.c (pS.keep h0d.keep0) (Sz.tl (by repeat (first | exact Sz.fresh | apply Sz.ov | apply Sz.push | apply Sz.opened | apply Sz.loosen)) (by (try simp only [List.length_cons, List.length_nil]); omega)))).mono ?_
    rintro e w1 ⟨⟨u1, rfl⟩, h1⟩
    generalize ((f0.ov false).push p.l).over = o1 at h1
    clear h0 h0d
    refine hK _ _ (InK.mk' h1.keep0) ?_
    clear hK K
    refine region_done (by kernel_rfl) ?_
    have b0 : w1.cell? ⟨w.heap.size, 0, none⟩ = some (.slice p.a p.l.length p.c) := (bx.keep h1.keep0).cell 0
    have b1 : w1.cell? ⟨w.heap.size, 1, none⟩ = some (.slice q.a q.l.length q.c) := (bx.keep h1.keep0).cell 1
    have lbx := (bx.keep h1.keep0).lt
    go_wp2_with fail
    refine (h1.call (R := fun e => e = .returned (.int .i64 0)) (c' := ⟨(f0.opened.push p.l).ov ((f0.ov o1).opened.push p.l).over, [B0] ++ [⟨2, p.l, q.l, false, true⟩], [], true, 0⟩) (fun F h hF => by have := enter_calls h ((okf0.push p.l).ov o1) 2 p q (LD.Ok.old pS h1.keep0 hF) (LD.Ok.old qS h1.keep0 hF) (Sz.tl (by repeat (first | exact Sz.fresh | apply Sz.ov | apply Sz.push | apply Sz.opened | apply Sz.loosen)) (by (try simp only [List.length_cons, List.length_nil]); omega)) (Sz.p (by repeat (first | exact Sz.fresh | apply Sz.ov | apply Sz.push | apply Sz.opened | apply Sz.loosen)) (by omega)) (by simp) (by omega) (by omega); rw [Ctl.enter_pushed f0 o1 okf0 [B0] [] true 2 p.l q.l (.inl rfl) (by simp)] at this; exact this)).mono ?_
    rintro e w2 ⟨rfl, h2⟩
    generalize ((f0.ov o1).opened.push p.l).over = o2 at h2
    clear h1 b0 b1 lbx
    go_wp2_with fail
    refine (h2.read fun F h => live_calls h).mono ?_
    rintro e w3 ⟨rfl, rfl⟩
    rw [show (Ctl.mk ((f0.opened.push p.l).ov o2) ([B0] ++ [⟨2, p.l, q.l, false, true⟩]) [] true 0).isLive = true from rfl]
    go_wp2_with fail
    refine (h2.call (R := fun e => ∃ v, e = .returned v) (c' := ⟨f0.opened.loosen.ov o2, [B0] ++ [⟨2, p.l, q.l, false, true⟩], [], false, 0⟩) (fun F h hF => by have := dead_calls h ((okf0.opened.push p.l).ov o2) (Sz.t (by repeat (first | exact Sz.fresh | apply Sz.ov | apply Sz.push | apply Sz.opened | apply Sz.loosen)) (by omega)) (Sz.p (by repeat (first | exact Sz.fresh | apply Sz.ov | apply Sz.push | apply Sz.opened | apply Sz.loosen)) (by omega)); rw [dead_pushed f0 p.l o2 _ _ _ (by simp)] at this; exact this)).mono ?_
    rintro e w3 ⟨⟨u3, rfl⟩, h3⟩
    clear h2
    go_wp2_with fail
    refine region_begin (S := fun w' => ∃ y : KW wa, w' = y.val) (by kernel_rfl) ?_
    refine region_take [0] [] 19 (by kernel_rfl) (by kernel_rfl) (InK.mk' h3.keep0.drew) ?_
    show wpQuiet _ _ _ _ [_] _
    repeat (go_big_quiet_step (fail))
    refine wpQuiet_nil ?_
    have h3d := h3.keep ((Keep.refl _).drew)
    refine region_fix (i := 1) (fuel := 18) rfl (by kernel_rfl) (fun K hK => ?_)
    go_simp
    refine (h3d.read fun F h => live_calls h).mono ?_
    rintro e w4 ⟨rfl, rfl⟩
    rw [show (Ctl.mk (f0.opened.loosen.ov o2) ([B0] ++ [⟨2, p.l, q.l, false, true⟩]) [] false 0).isLive = false from rfl]
    refine hK _ _ (InK.mk' h3d.keep0) ?_
    clear hK K
    refine region_take [2, 3, 4] [0, 1] 15 (by kernel_rfl) (by kernel_rfl) (InK.mk' h3d.keep0) ?_
    show wpQuiet _ _ _ _ [_, _, _] _
    repeat (go_big_quiet_step (fail))
    refine wpQuiet_nil ?_
    refine region_fix (i := 5) (fuel := 14) rfl (by kernel_rfl) (fun K hK => ?_)
    go_simp
    refine (h3d.call (R := fun e => e = .returned (.int .i64 0)) (c' := ⟨(f0.opened.loosen.opened.push p'.l).ov ((f0.opened.loosen.ov o2).opened.push p'.l).over, [B0] ++ [⟨2, p.l, q.l, false, true⟩] ++ [⟨3, p'.l, q'.l, false, false⟩], [], false, 0⟩) (fun F h hF => by have := enter_calls h (okf0.opened.loosen.ov o2) 3 p' q' (LD.Ok.old p'S h3d.keep0 hF) (LD.Ok.old q'S h3d.keep0 hF) (Sz.tl (by repeat (first | exact Sz.fresh | apply Sz.ov | apply Sz.push | apply Sz.opened | apply Sz.loosen)) (by (try simp only [List.length_cons, List.length_nil]); omega)) (Sz.p (by repeat (first | exact Sz.fresh | apply Sz.ov | apply Sz.push | apply Sz.opened | apply Sz.loosen)) (by omega)) (by simp) (by omega) (by omega); rw [Ctl.enter_loosen f0.opened o2 okf0.opened _ [] false 3 p'.l q'.l (.inr rfl) (by simp)] at this; exact this)).mono ?_
    rintro e w4 ⟨rfl, h4⟩
    generalize ((f0.opened.loosen.ov o2).opened.push p'.l).over = o4 at h4
    clear h3 h3d
    refine hK _ _ (InK.mk' h4.keep0) ?_
    clear hK K
    refine region_take [6, 7, 8, 9] [0, 1, 2, 3, 4, 5] 10 (by kernel_rfl) (by kernel_rfl) (InK.mk' h4.keep0) ?_
    show wpQuiet _ _ _ _ [_, _, _, _] _
    repeat (go_big_quiet_step (fail))
    refine wpQuiet_nil ?_
    refine region_fix (i := 10) (fuel := 9) rfl (by kernel_rfl) (fun K hK => ?_)
    go_simp
    refine (h4.read fun F h => live_calls h).mono ?_
    rintro e w5 ⟨rfl, rfl⟩
    rw [show (Ctl.mk ((f0.opened.loosen.opened.push p'.l).ov o4) ([B0] ++ [⟨2, p.l, q.l, false, true⟩] ++ [⟨3, p'.l, q'.l, false, false⟩]) [] false 0).isLive = false from rfl]
    refine hK _ _ (InK.mk' h4.keep0) ?_
    clear hK K
    refine region_take [11, 12, 13, 15, 16] [0, 1, 2, 3, 4, 5, 6, 7, 8, 9, 10] 4 (by kernel_rfl) (by kernel_rfl) (InK.mk' h4.keep0) ?_
    show wpQuiet _ _ _ _ [_, _, _, _, _] _
    repeat (go_big_quiet_step (fail))
    refine wpQuiet_nil ?_
    refine region_fix (i := 14) (fuel := 3) rfl (by kernel_rfl) (fun K hK => ?_)
    go_simp
    refine (h4.read fun F h => cs_stack h).mono ?_
    rintro e w5 ⟨rfl, rfl⟩
    refine hK _ _ (InK.mk' h4.keep0) ?_
    clear hK K
    refine region_fix (i := 17) (fuel := 2) rfl (by kernel_rfl) (fun K hK => ?_)
    go_simp
    refine (h4.call (R := fun e => e = .returned (.int .i64 0)) (c' := ⟨f0.opened.loosen.opened.ov o4, [B0] ++ [⟨2, p.l, q.l, false, true⟩] ++ [⟨3, p'.l, q'.l, false, false⟩], [], false, 0⟩) (fun F h hF => by have := cs_want h ((okf0.opened.loosen.opened.push p'.l).ov o4) p'.l p'.a p'.c (p'S.keep h4.keep0) (Sz.t (by repeat (first | exact Sz.fresh | apply Sz.ov | apply Sz.push | apply Sz.opened | apply Sz.loosen)) (by omega)) (Sz.p (by repeat (first | exact Sz.fresh | apply Sz.ov | apply Sz.push | apply Sz.opened | apply Sz.loosen)) (by omega)) (by omega); rw [Stk.want_pushed f0.opened.loosen.opened p'.l o4 okf0.opened.loosen.opened] at this; exact this)).mono ?_
    rintro e w5 ⟨rfl, h5⟩
    clear h4
    refine hK _ _ (InK.mk' h5.keep0) ?_
    clear hK K
    refine region_take [18, 19] [0, 1, 2, 3, 4, 5, 6, 7, 8, 9, 10, 11, 12, 13, 15, 16, 14, 17] 0 (by kernel_rfl) (by kernel_rfl) (InK.mk' h5.keep0) ?_
    show wpQuiet _ _ _ _ [_, _] _
    repeat (go_big_quiet_step (fail))
    refine wpQuiet_nil ?_
    refine region_done (by kernel_rfl) ?_
    go_wp2_with fail
    refine region_begin (S := fun w' => ∃ y : KW wa, w' = y.val) (by kernel_rfl) ?_
    refine region_take [0, 2, 3] [] 2 (by kernel_rfl) (by kernel_rfl) (InK.mk' h5.keep0.drew) ?_
    show wpQuiet _ _ _ _ [_, _, _] _
    repeat (go_big_quiet_step (fail))
    refine wpQuiet_nil ?_
    have h5d := h5.keep ((Keep.refl _).drew)
    refine region_fix (i := 1) (fuel := 1) rfl (by kernel_rfl) (fun K hK => ?_)
    go_simp
    refine (h5d.read fun F h => cs_stack h).mono ?_
    rintro e w6 ⟨rfl, rfl⟩
    refine hK _ _ (InK.mk' h5d.keep0) ?_
    clear hK K
    refine region_fix (i := 4) (fuel := 0) rfl (by kernel_rfl) (fun K hK => ?_)
    go_simp
    refine (h5d.call (R := fun e => ∃ v, e = .returned v) (c' := ⟨(f0.opened.loosen.opened.push q'.l).ov ((f0.opened.loosen.opened.ov o4).push q'.l).over, [B0] ++ [⟨2, p.l, q.l, false, true⟩] ++ [⟨3, p'.l, q'.l, false, false⟩], [], false, 0⟩) (fun F h hF => by exact cs_push h q'.l q'.a q'.c (q'S.keep h5d.keep0) (Sz.tl (by repeat (first | exact Sz.fresh | apply Sz.ov | apply Sz.push | apply Sz.opened | apply Sz.loosen)) (by (try simp only [List.length_cons, List.length_nil]); omega)))).mono ?_
    rintro e w6 ⟨⟨u6, rfl⟩, h6⟩
    generalize ((f0.opened.loosen.opened.ov o4).push q'.l).over = o6 at h6
    clear h5 h5d
    refine hK _ _ (InK.mk' h6.keep0) ?_
    clear hK K
    refine region_done (by kernel_rfl) ?_
    go_wp2_with fail
    refine region_begin (S := fun w' => ∃ y : KW wa, w' = y.val) (by kernel_rfl) ?_
    refine region_take [0] [] 14 (by kernel_rfl) (by kernel_rfl) (InK.mk' h6.keep0.drew) ?_
    show wpQuiet _ _ _ _ [_] _
    repeat (go_big_quiet_step (fail))
    refine wpQuiet_nil ?_
    have h6d := h6.keep ((Keep.refl _).drew)
    refine region_fix (i := 1) (fuel := 13) rfl (by kernel_rfl) (fun K hK => ?_)
    go_simp
    refine (h6d.call (R := fun e => e = .returned (.int .i64 0)) (c' := ⟨(f0.opened.loosen.push q'.l).ov ((f0.opened.loosen.ov o6).push q'.l).over, [B0] ++ [⟨2, p.l, q.l, false, true⟩], [], false, 0⟩) (fun F h hF => by have := leave_calls h ((okf0.opened.loosen.opened.push q'.l).ov o6) (Sz.t (by repeat (first | exact Sz.fresh | apply Sz.ov | apply Sz.push | apply Sz.opened | apply Sz.loosen)) (by omega)) (Sz.p (by repeat (first | exact Sz.fresh | apply Sz.ov | apply Sz.push | apply Sz.opened | apply Sz.loosen)) (by omega)) (by simp) (show (p'.l).length ≤ 100000 by omega) (show (q'.l).length ≤ 100000 by omega); rw [Ctl.leave_pushed f0.opened.loosen o6 okf0.opened.loosen _ ⟨3, p'.l, q'.l, false, false⟩ [] false (by simp)] at this; exact this)).mono ?_
    rintro e w7 ⟨rfl, h7⟩
    generalize ((f0.opened.loosen.ov o6).push q'.l).over = o7 at h7
    clear h6 h6d
    refine hK _ _ (InK.mk' h7.keep0) ?_
    clear hK K
    refine region_take [2, 3, 4] [0, 1] 10 (by kernel_rfl) (by kernel_rfl) (InK.mk' h7.keep0) ?_
    show wpQuiet _ _ _ _ [_, _, _] _
    repeat (go_big_quiet_step (fail))
    refine wpQuiet_nil ?_
    refine region_fix (i := 5) (fuel := 9) rfl (by kernel_rfl) (fun K hK => ?_)
    go_simp
    refine (h7.read fun F h => live_calls h).mono ?_
    rintro e w8 ⟨rfl, rfl⟩
    rw [show (Ctl.mk ((f0.opened.loosen.push q'.l).ov o7) ([B0] ++ [⟨2, p.l, q.l, false, true⟩]) [] false 0).isLive = false from rfl]
    refine hK _ _ (InK.mk' h7.keep0) ?_
    clear hK K
    refine region_take [6, 7, 8, 10, 11] [0, 1, 2, 3, 4, 5] 4 (by kernel_rfl) (by kernel_rfl) (InK.mk' h7.keep0) ?_
    show wpQuiet _ _ _ _ [_, _, _, _, _] _
    repeat (go_big_quiet_step (fail))
    refine wpQuiet_nil ?_
    refine region_fix (i := 9) (fuel := 3) rfl (by kernel_rfl) (fun K hK => ?_)
    go_simp
    refine (h7.read fun F h => cs_stack h).mono ?_
    rintro e w8 ⟨rfl, rfl⟩
    refine hK _ _ (InK.mk' h7.keep0) ?_
    clear hK K
    refine region_fix (i := 12) (fuel := 2) rfl (by kernel_rfl) (fun K hK => ?_)
    go_simp
    refine (h7.call (R := fun e => e = .returned (.int .i64 0)) (c' := ⟨f0.opened.loosen.ov o7, [B0] ++ [⟨2, p.l, q.l, false, true⟩], [], false, 0⟩) (fun F h hF => by have := cs_want h ((okf0.opened.loosen.push q'.l).ov o7) q'.l q'.a q'.c (q'S.keep h7.keep0) (Sz.t (by repeat (first | exact Sz.fresh | apply Sz.ov | apply Sz.push | apply Sz.opened | apply Sz.loosen)) (by omega)) (Sz.p (by repeat (first | exact Sz.fresh | apply Sz.ov | apply Sz.push | apply Sz.opened | apply Sz.loosen)) (by omega)) (by omega); rw [Stk.want_pushed f0.opened.loosen q'.l o7 okf0.opened.loosen] at this; exact this)).mono ?_
    rintro e w8 ⟨rfl, h8⟩
    clear h7
    refine hK _ _ (InK.mk' h8.keep0) ?_
    clear hK K
    refine region_take [13, 14] [0, 1, 2, 3, 4, 5, 6, 7, 8, 10, 11, 9, 12] 0 (by kernel_rfl) (by kernel_rfl) (InK.mk' h8.keep0) ?_
    show wpQuiet _ _ _ _ [_, _] _
    repeat (go_big_quiet_step (fail))
    refine wpQuiet_nil ?_
    refine region_done (by kernel_rfl) ?_
    go_wp2_with fail
    refine region_begin (S := fun w' => ∃ y : KW wa, w' = y.val) (by kernel_rfl) ?_
    refine region_take [0] [] 18 (by kernel_rfl) (by kernel_rfl) (InK.mk' h8.keep0.drew) ?_
    show wpQuiet _ _ _ _ [_] _
    repeat (go_big_quiet_step (fail))
    refine wpQuiet_nil ?_
    have h8d := h8.keep ((Keep.refl _).drew)
    refine region_fix (i := 1) (fuel := 17) rfl (by kernel_rfl) (fun K hK => ?_)
    go_simp
    refine (h8d.call (R := fun e => e = .returned (.int .i64 0)) (c' := ⟨(f0.push q.l).ov ((f0.ov o7).push q.l).over, [B0], [], true, 0⟩) (fun F h hF => by have := leave_calls h (okf0.opened.loosen.ov o7) (Sz.t (by repeat (first | exact Sz.fresh | apply Sz.ov | apply Sz.push | apply Sz.opened | apply Sz.loosen)) (by omega)) (Sz.p (by repeat (first | exact Sz.fresh | apply Sz.ov | apply Sz.push | apply Sz.opened | apply Sz.loosen)) (by omega)) (by simp) (show (p.l).length ≤ 100000 by omega) (show (q.l).length ≤ 100000 by omega); rw [Ctl.leave_loosen f0 o7 okf0 [B0] ⟨2, p.l, q.l, false, true⟩ [] false (by simp)] at this; exact this)).mono ?_
    rintro e w9 ⟨rfl, h9⟩
    generalize ((f0.ov o7).push q.l).over = o9 at h9
    clear h8 h8d
    refine hK _ _ (InK.mk' h9.keep0) ?_
    clear hK K
    refine region_take [2, 3, 4] [0, 1] 14 (by kernel_rfl) (by kernel_rfl) (InK.mk' h9.keep0) ?_
    show wpQuiet _ _ _ _ [_, _, _] _
    repeat (go_big_quiet_step (fail))
    refine wpQuiet_nil ?_
    refine region_fix (i := 5) (fuel := 13) rfl (by kernel_rfl) (fun K hK => ?_)
    go_simp
    refine (h9.read fun F h => live_calls h).mono ?_
    rintro e w10 ⟨rfl, rfl⟩
    rw [show (Ctl.mk ((f0.push q.l).ov o9) [B0] [] true 0).isLive = true from rfl]
    refine hK _ _ (InK.mk' h9.keep0) ?_
    clear hK K
    refine region_take [6, 7, 8, 11, 12] [0, 1, 2, 3, 4, 5] 8 (by kernel_rfl) (by kernel_rfl) (InK.mk' h9.keep0) ?_
    show wpQuiet _ _ _ _ [_, _, _, _, _] _
    repeat (go_big_quiet_step (fail))
    refine wpQuiet_nil ?_
    refine region_fix (i := 9) (fuel := 7) rfl (by kernel_rfl) (fun K hK => ?_)
    go_simp
    refine (h9.read fun F h => cs_stack h).mono ?_
    rintro e w10 ⟨rfl, rfl⟩
    refine hK _ _ (InK.mk' h9.keep0) ?_
    clear hK K
    refine region_fix (i := 10) (fuel := 6) rfl (by kernel_rfl) (fun K hK => ?_)
    go_simp
    refine (h9.read fun F h => cs_all h (Sz.t (by repeat (first | exact Sz.fresh | apply Sz.ov | apply Sz.push | apply Sz.opened | apply Sz.loosen)) (by omega))).mono ?_
    rintro e w10 ⟨va, rfl, ho, hk10⟩
    have ho2 : Own valC 1 45 w10 w9.heap.size va q.l := ho
    obtain ⟨Aa, ca, rfl, _⟩ := ho2.form
    have h10 := h9.keep hk10
    clear h9 ho
    refine hK _ _ (InK.mk' h10.keep0) ?_
    clear hK K
    refine region_fix (i := 13) (fuel := 5) rfl (by kernel_rfl) (fun K hK => ?_)
    go_simp
    refine (refSameVals_calls q.l q.l Aa q.a ca q.c w10 ho2.segN.2 (qS.keep h10.keep0) (by omega) (by omega)).mono ?_
    rintro e w11 ⟨rfl, hk11⟩
    rw [show decide (q.l = q.l) = true from decide_eq_true rfl]
    have h11 := h10.keep hk11
    clear h10 ho2
    refine hK _ _ (InK.mk' h11.keep0) ?_
    clear hK K
    refine region_take [14, 15] [0, 1, 2, 3, 4, 5, 6, 7, 8, 11, 12, 9, 10, 13] 3 (by kernel_rfl) (by kernel_rfl) (InK.mk' h11.keep0) ?_
    show wpQuiet _ _ _ _ [_, _] _
    repeat (go_big_quiet_step (fail))
    refine wpQuiet_nil ?_
    refine region_fix (i := 16) (fuel := 2) rfl (by kernel_rfl) (fun K hK => ?_)
    go_simp
    refine (calive_calls w11).mono ?_
    rintro e w12 ⟨rfl, hk12⟩
    have hk := h11.keep0.trans hk12
    refine hK _ _ (InK.mk' hk) ?_
    clear hK K
    refine region_take [17, 18] [0, 1, 2, 3, 4, 5, 6, 7, 8, 11, 12, 9, 10, 13, 14, 15, 16] 0 (by kernel_rfl) (by kernel_rfl) (InK.mk' hk) ?_
    show wpQuiet _ _ _ _ [_, _] _
    repeat (go_big_quiet_step (fail))
    refine wpQuiet_nil ?_
    refine region_done (by kernel_rfl) ?_
    have Hk := Lib.hid (hka.trans hk)
    go_wp2
    go_ret
    exact ⟨rfl, Hk.out⟩
end Go.Proofs.Ytkeefajfndmpeaa
