/-
  The law CtrlPairs returns true.
-/
import Derived.Test.YtkeefajfndmpeaaCDead
namespace Go.Proofs.Ytkeefajfndmpeaa
open Go Go.RowKit

theorem same_true_p (l : List Int) (A B : Option Addr) (c d : Nat) (w : World) (hs : Seg w A (l.flatMap valC)) (ht : Seg w B (l.flatMap valC)) (hl : l.length ≤ 1000000) :
    Calls Try.prog 39 #[.slice A l.length c, .slice B l.length d] w fun e w' => e = .returned (.bool true) ∧ Keep w w' :=
  (refSameVals_calls l l A B c d w hs ht hl hl).mono fun e w' ⟨h1, h2⟩ => ⟨by rw [h1, decide_eq_true rfl], h2⟩
theorem at_pushed (u p : List Int) (o : Bool) : (((f0.push u).opened.push p).ov o).at_ = u.length := by simp [Stk.ov, Stk.push, Stk.opened, Stk.fresh]
theorem len_pushed (u p : List Int) (o : Bool) : ((((f0.push u).opened.push p).ov o).T.length : Int) = (u.length : Int) + (p.length : Int) := by simp [Stk.ov, Stk.push, Stk.opened, Stk.fresh]
theorem pop_opened (t : Stk) (o : Bool) (hl : t.loose = t.loose) : (t.opened.ov o).pop = (t.opened.ov o, 0, 13) := by
  unfold Stk.pop
  rw [if_neg (by show ¬ t.T.length < t.T.length; omega), if_neg (by show ¬ false = true; simp)]

set_option maxHeartbeats 4000000 in
set_option maxRecDepth 100000 in
theorem ctrlPairs_walk (u p q : LD) (loop : Bool) (w : World) (hu : LOk w u) (hp : LOk w p) (hq : LOk w q) :
    Calls Try.prog 10 #[.slice u.a u.l.length u.c, .agg #[.slice p.a p.l.length p.c, .slice q.a q.l.length q.c], .bool loop] w fun e w' => e = .returned (.bool true) ∧ Keep w w' := by
  have lu := hu.len
  have lp := hp.len
  have lq := hq.len
  unfold maxLen at lu lp lq
  obtain ⟨wa, hwa⟩ : ∃ wa : World, wa = w.alloc (.cells ([p.v, q.v] : List Value).toArray 56) := ⟨_, rfl⟩
  have hka : Keep w wa := by rw [hwa]; exact (Keep.refl _).alloc _
  have bx : Blk wa w.heap.size 56 [p.v, q.v] := by rw [hwa]; exact Blk.new _ _ _
  have uS := hu.seg.keep hka
  have pS := hp.seg.keep hka
  have qS := hq.seg.keep hka
  clear hu hp hq
  by_cases hsm : u.l.length ≤ 20 ∧ p.l.length ≤ 20 ∧ q.l.length ≤ 20
  rotate_left
  · have Ha := Lib.hid (calive_calls wa)
    by_cases g1 : (20 : Int) < u.l.length
    · clear hsm
      go_enter Try.func10, Try.ntmps10
      go_wp2_with fail
      show Calls Try.prog _ _ (w.alloc (.cells ([p.v, q.v] : List Value).toArray 56)) _
      rw [← hwa]
      refine Ha.out.mono ?_
      rintro e w2 ⟨rfl, hk⟩
      go_wp2
      go_ret
      exact ⟨rfl, hka.trans hk⟩
    by_cases g2 : (20 : Int) < p.l.length
    · clear hsm
      go_enter Try.func10, Try.ntmps10
      go_wp2_with fail
      show Calls Try.prog _ _ (w.alloc (.cells ([p.v, q.v] : List Value).toArray 56)) _
      rw [← hwa]
      refine Ha.out.mono ?_
      rintro e w2 ⟨rfl, hk⟩
      go_wp2
      go_ret
      exact ⟨rfl, hka.trans hk⟩
    · have g3 : (20 : Int) < q.l.length := by omega
      clear hsm
      go_enter Try.func10, Try.ntmps10
      go_wp2_with fail
      show Calls Try.prog _ _ (w.alloc (.cells ([p.v, q.v] : List Value).toArray 56)) _
      rw [← hwa]
      refine Ha.out.mono ?_
      rintro e w2 ⟨rfl, hk⟩
      go_wp2
      go_ret
      exact ⟨rfl, hka.trans hk⟩
  · obtain ⟨m1, m2, m3⟩ := hsm
    have g1 : ¬ (20 : Int) < u.l.length := by omega
    have g2 : ¬ (20 : Int) < p.l.length := by omega
    have g3 : ¬ (20 : Int) < q.l.length := by omega
    have hpc := ptr_c
    have hps := ptr_s
    have x0 := fun y : KW wa => y.cell (v := .slice p.a p.l.length p.c) (bx.cell 0)
    have x1 := fun y : KW wa => y.cell (v := .slice q.a q.l.length q.c) (bx.cell 1)
    obtain ⟨op, hop⟩ : ∃ op : Int, op = if loop then 3 else 2 := ⟨_, rfl⟩
    have hop' : op = 2 ∨ op = 3 := by rw [hop]; cases loop <;> simp
    have hb4 : op ≠ 4 := by omega
    have hus : IntKind.i64.wrap ((u.l.length : Int) + (p.l.length : Int)) = (u.l.length : Int) + (p.l.length : Int) := IntWalk.i64_in _ (by omega)
    have hen : ((((u.l.length : Int) + (p.l.length : Int)) != ((u.l.length : Int) + (p.l.length : Int)))) = false := by simp
    have huu : ((u.l.length : Int) != (u.l.length : Int)) = false := by simp
    cases loop
    · obtain rfl : op = 2 := hop
      clear hop' hb4
      go_enter Try.func10, Try.ntmps10
      go_wp2_with fail
      show Calls Try.prog _ _ (w.alloc (.cells ([p.v, q.v] : List Value).toArray 56)) _
      rw [← hwa]
      clear hwa
      refine (cnew_calls [] none 0 wa (Seg.nil _ _) (by decide)).mono ?_
      rintro e w0 ⟨b, bst, F0, rfl, hc0, hk0, hF0⟩
      have h0 : CLive wa b bst ⟨f0.ov false, [B0], [], true, 0⟩ w0 := ⟨F0, hk0, hc0, hF0⟩
      clear hc0 hF0
      go_wp2_with fail
      refine (h0.read fun F h => cs_stack h).mono ?_
      rintro e w1 ⟨rfl, rfl⟩
      go_wp2_with fail
      refine (h0.read fun F h => cs_stack h).mono ?_
      rintro e w1 ⟨rfl, rfl⟩
      go_wp2_with fail
      refine (h0.call (R := fun e => ∃ v, e = .returned v) (c' := ⟨(f0.push u.l).ov ((f0.ov false).push u.l).over, [B0], [], true, 0⟩) (fun F h hF => by exact cs_push h u.l u.a u.c (uS.keep h0.keep0) (Sz.tl (by repeat (first | exact Sz.fresh | apply Sz.ov | apply Sz.push | apply Sz.opened | apply Sz.loosen)) (by (try simp only [List.length_cons, List.length_nil]); omega)))).mono ?_
      rintro e w1 ⟨⟨u1, rfl⟩, h1⟩
      generalize ((f0.ov false).push u.l).over = o1 at h1
      clear h0
      have b0 : w1.cell? ⟨w.heap.size, 0, none⟩ = some (.slice p.a p.l.length p.c) := (bx.keep h1.keep0).cell 0
      have lbx := (bx.keep h1.keep0).lt
      go_wp2_with fail
      refine (h1.call (R := fun e => ∃ v, e = .returned v) (c' := ⟨((f0.push u.l).push p.l).ov (((f0.push u.l).ov o1).push p.l).over, [B0], [], true, 0⟩) (fun F h hF => by exact cs_push h p.l p.a p.c (pS.keep h1.keep0) (Sz.tl (by repeat (first | exact Sz.fresh | apply Sz.ov | apply Sz.push | apply Sz.opened | apply Sz.loosen)) (by (try simp only [List.length_cons, List.length_nil]); omega)))).mono ?_
      rintro e w2 ⟨⟨u2, rfl⟩, h2⟩
      generalize (((f0.push u.l).ov o1).push p.l).over = o2 at h2
      clear h1 b0 lbx
      go_wp2_with fail
      refine region_begin (S := fun w' => ∃ y : KW wa, w' = y.val) (by kernel_rfl) ?_
      refine region_take [0, 1, 2] [] 32 (by kernel_rfl) (by kernel_rfl) (InK.mk' h2.keep0.drew) ?_
      show wpQuiet _ _ _ _ [_, _, _] _
      repeat (go_big_quiet_step (fail))
      refine wpQuiet_nil ?_
      have h2d := h2.keep ((Keep.refl _).drew)
      refine region_fix (i := 3) (fuel := 31) rfl (by kernel_rfl) (fun K hK => ?_)
      go_simp
      refine (h2d.call (R := fun e => e = .returned (.int .i64 0)) (c' := ⟨((f0.push u.l).opened.push p.l).ov (((f0.push u.l).ov o2).opened.push p.l).over, [B0] ++ [⟨2, p.l, q.l, false, true⟩], [], true, 0⟩) (fun F h hF => by have := enter_calls h (((okf0.push u.l).push p.l).ov o2) 2 p q (LD.Ok.old pS h2d.keep0 hF) (LD.Ok.old qS h2d.keep0 hF) (Sz.tl (by repeat (first | exact Sz.fresh | apply Sz.ov | apply Sz.push | apply Sz.opened | apply Sz.loosen)) (by (try simp only [List.length_cons, List.length_nil]); omega)) (Sz.p (by repeat (first | exact Sz.fresh | apply Sz.ov | apply Sz.push | apply Sz.opened | apply Sz.loosen)) (by omega)) (by simp) (by omega) (by omega); rw [Ctl.enter_pushed (f0.push u.l) o2 (okf0.push u.l) [B0] [] true 2 p.l q.l (.inl rfl) (by simp)] at this; exact this)).mono ?_
      rintro e w3 ⟨rfl, h3⟩
      generalize (((f0.push u.l).ov o2).opened.push p.l).over = o3 at h3
      clear h2 h2d
      refine hK _ _ (InK.mk' h3.keep0) ?_
      clear hK K
      refine region_take [4, 5, 6] [0, 1, 2, 3] 28 (by kernel_rfl) (by kernel_rfl) (InK.mk' h3.keep0) ?_
      show wpQuiet _ _ _ _ [_, _, _] _
      repeat (go_big_quiet_step (fail))
      refine wpQuiet_nil ?_
      refine region_fix (i := 7) (fuel := 27) rfl (by kernel_rfl) (fun K hK => ?_)
      go_simp
      refine (h3.read fun F h => depth_calls h).mono ?_
      rintro e w4 ⟨rfl, rfl⟩
      rw [show (Ctl.mk (((f0.push u.l).opened.push p.l).ov o3) ([B0] ++ [⟨2, p.l, q.l, false, true⟩]) [] true 0).depth = 2 from rfl]
      refine hK _ _ (InK.mk' h3.keep0) ?_
      clear hK K
      refine region_take [8, 9, 10, 11, 13, 14] [0, 1, 2, 3, 4, 5, 6, 7] 21 (by kernel_rfl) (by kernel_rfl) (InK.mk' h3.keep0) ?_
      show wpQuiet _ _ _ _ [_, _, _, _, _, _] _
      repeat (go_big_quiet_step (fail))
      refine wpQuiet_nil ?_
      refine region_fix (i := 12) (fuel := 20) rfl (by kernel_rfl) (fun K hK => ?_)
      go_simp
      refine (h3.read fun F h => cs_mark h (Sz.p (by repeat (first | exact Sz.fresh | apply Sz.ov | apply Sz.push | apply Sz.opened | apply Sz.loosen)) (by omega))).mono ?_
      rintro e w4 ⟨rfl, hk4⟩
      rw [show (((f0.push u.l).opened.push p.l).ov o3).at_ = u.l.length from at_pushed u.l p.l o3]
      have h4 := h3.keep hk4
      clear h3
      refine hK _ _ (InK.mk' h4.keep0) ?_
      clear hK K
      refine region_take [15, 16, 17, 18, 20, 21, 22, 23, 24, 25] [0, 1, 2, 3, 4, 5, 6, 7, 8, 9, 10, 11, 13, 14, 12] 10 (by kernel_rfl) (by kernel_rfl) (InK.mk' h4.keep0) ?_
      show wpQuiet _ _ _ _ [_, _, _, _, _, _, _, _, _, _] _
      repeat (go_big_quiet_step (fail))
      refine wpQuiet_nil ?_
      refine region_fix (i := 19) (fuel := 9) rfl (by kernel_rfl) (fun K hK => ?_)
      go_simp
      refine (h4.read fun F h => cs_len h).mono ?_
      rintro e w5 ⟨rfl, rfl⟩
      rw [show ((((f0.push u.l).opened.push p.l).ov o3).T.length : Int) = (u.l.length : Int) + (p.l.length : Int) from len_pushed u.l p.l o3]
      refine hK _ _ (InK.mk' h4.keep0) ?_
      clear hK K
      refine region_take [26, 27, 28, 29, 30, 31] [0, 1, 2, 3, 4, 5, 6, 7, 8, 9, 10, 11, 13, 14, 12, 15, 16, 17, 18, 20, 21, 22, 23, 24, 25, 19] 3 (by kernel_rfl) (by kernel_rfl) (InK.mk' h4.keep0) ?_
      show wpQuiet _ _ _ _ [_, _, _, _, _, _] _
      repeat (go_big_quiet_step (fail))
      refine wpQuiet_nil ?_
      refine region_fix (i := 32) (fuel := 2) rfl (by kernel_rfl) (fun K hK => ?_)
      go_simp
      refine (h4.call (R := fun e => e = .returned (.int .i64 0)) (c' := ⟨(f0.push u.l).opened.ov o3, [B0] ++ [⟨2, p.l, q.l, false, true⟩], [], true, 0⟩) (fun F h hF => by have := cs_want h (((okf0.push u.l).opened.push p.l).ov o3) p.l p.a p.c (pS.keep h4.keep0) (Sz.t (by repeat (first | exact Sz.fresh | apply Sz.ov | apply Sz.push | apply Sz.opened | apply Sz.loosen)) (by omega)) (Sz.p (by repeat (first | exact Sz.fresh | apply Sz.ov | apply Sz.push | apply Sz.opened | apply Sz.loosen)) (by omega)) (by omega); rw [Stk.want_pushed (f0.push u.l).opened p.l o3 (okf0.push u.l).opened] at this; exact this)).mono ?_
      rintro e w5 ⟨rfl, h5⟩
      clear h4
      refine hK _ _ (InK.mk' h5.keep0) ?_
      clear hK K
      refine region_take [33, 34] [0, 1, 2, 3, 4, 5, 6, 7, 8, 9, 10, 11, 13, 14, 12, 15, 16, 17, 18, 20, 21, 22, 23, 24, 25, 19, 26, 27, 28, 29, 30, 31, 32] 0 (by kernel_rfl) (by kernel_rfl) (InK.mk' h5.keep0) ?_
      show wpQuiet _ _ _ _ [_, _] _
      repeat (go_big_quiet_step (fail))
      refine wpQuiet_nil ?_
      refine region_done (by kernel_rfl) ?_
      go_wp2_with fail
      refine (h5.call (R := fun e => e = .returned (.tuple #[.int .i64 0, .int .i64 13])) (c' := ⟨(f0.push u.l).opened.ov o3, [B0] ++ [⟨2, p.l, q.l, false, true⟩], [], true, 0⟩) (fun F h hF => by have := cs_pop h ((okf0.push u.l).opened.ov o3) (Sz.t (by repeat (first | exact Sz.fresh | apply Sz.ov | apply Sz.push | apply Sz.opened | apply Sz.loosen)) (by omega)) (Sz.p (by repeat (first | exact Sz.fresh | apply Sz.ov | apply Sz.push | apply Sz.opened | apply Sz.loosen)) (by omega)); rw [pop_opened (f0.push u.l) o3 rfl] at this; exact this)).mono ?_
      rintro e w6 ⟨rfl, h6⟩
      clear h5
      have b1 : w6.cell? ⟨w.heap.size, 1, none⟩ = some (.slice q.a q.l.length q.c) := (bx.keep h6.keep0).cell 1
      have lbx := (bx.keep h6.keep0).lt
      go_wp2_with fail
      refine (h6.call (R := fun e => ∃ v, e = .returned v) (c' := ⟨((f0.push u.l).opened.push q.l).ov (((f0.push u.l).opened.ov o3).push q.l).over, [B0] ++ [⟨2, p.l, q.l, false, true⟩], [], true, 0⟩) (fun F h hF => by exact cs_push h q.l q.a q.c (qS.keep h6.keep0) (Sz.tl (by repeat (first | exact Sz.fresh | apply Sz.ov | apply Sz.push | apply Sz.opened | apply Sz.loosen)) (by (try simp only [List.length_cons, List.length_nil]); omega)))).mono ?_
      rintro e w7 ⟨⟨u7, rfl⟩, h7⟩
      generalize (((f0.push u.l).opened.ov o3).push q.l).over = o7 at h7
      clear h6 b1 lbx
      go_wp2_with fail
      have hk7 := h7.keep0
      have hkd : Keep w7 w7.drew := (Keep.refl _).drew
      obtain ⟨v8, w8, ha8, ho8, hg8, _⟩ := append_run (ys := u.l) elV (Own.empty valC 1 45 w7.drew (Nat.le_refl _)) ((uS.keep (hk7.trans hkd)).keep ((Keep.refl w7.drew).alloc (.cells #[] 45))) u.c 23 (by simp [maxLen]; omega) (by simp; omega) (by simp)
      have hk8 : Keep w7.drew w8 := ((Keep.refl w7.drew).alloc _).grown hg8 (fun j hj => by simp [Value.ownBlock] at hj; subst hj; exact Nat.le_refl _)
      rw [List.nil_append] at ho8
      obtain ⟨v9, w9, ha9, ho9, hg9, _⟩ := append_run (ys := q.l) elV ho8 (qS.keep ((hk7.trans hkd).trans hk8)) q.c 23 (by simp [maxLen]; omega) (by omega) hk8.size
      obtain ⟨uq, huq⟩ : ∃ uq, uq = u.l ++ q.l := ⟨_, rfl⟩
      have hul : uq.length ≤ 1000000 := by rw [huq, List.length_append]; omega
      rw [← huq] at ho9
      have hk9 : Keep w7.drew w9 := hk8.grown hg9 (fun j hj => (ho8.lt j hj).1)
      obtain ⟨A9, c9, rfl, _⟩ := ho9.form
      have Ho9 := Lib.hid ho9
      have Huq := Lib.hid huq
      clear huq
      obtain ⟨F7, k7, c7, f7⟩ := h7
      have hc9 := (c7.keep hkd).keep hk9
      have hk09 := (hk7.trans hkd).trans hk9
      have hq9 : Seg w9 A9 (uq.flatMap valC) := Ho9.out.segN.2
      have hout : Out F7 A9 uq.length := fun _ ad ha hf => by subst ha; have h1 := (Ho9.out.lt ad.block rfl).1; have h2 := c7.lt _ hf; have e : w7.drew.heap.size = w7.heap.size := rfl; omega
      clear ho8 hg8 ho9 hg9
      refine region_begin (S := fun w' => ∃ y : KW wa, w' = y.val) (by kernel_rfl) ?_
      refine region_take [1, 3, 4] [] 4 (by kernel_rfl) (by kernel_rfl) (InK.mk' hk7.drew) ?_
      show wpQuiet _ _ _ _ [_, _, _] _
      repeat (go_big_quiet_step (fail))
      refine wpQuiet_nil ?_
      refine region_fixU (i := 0) (fuel := 3) rfl rfl (by kernel_rfl) (fun K hK => ?_)
      refine wp_buildSlice0 _ _ rfl elV.slice elV.info.choose_spec.choose_spec.1 ?_
      refine hK _ _ (InK.mk' ((hk7.trans hkd).alloc _)) ?_
      clear hK K
      simp only [Act.put, List.setIfInBounds_toArray, List.set_cons_succ, List.set_cons_zero]
      refine region_fixU (i := 2) (fuel := 2) rfl rfl (by kernel_rfl) (fun K hK => ?_)
      refine wp_append_eq _ _ _ rfl _ _ rfl rfl _ _ ha8 ?_
      refine hK _ _ (InK.mk' ((hk7.trans hkd).trans hk8)) ?_
      clear hK K
      simp only [Act.put, List.setIfInBounds_toArray, List.set_cons_succ, List.set_cons_zero]
      refine region_fixU (i := 5) (fuel := 1) rfl rfl (by kernel_rfl) (fun K hK => ?_)
      refine wp_append_eq _ _ _ rfl _ _ rfl rfl _ _ ha9 ?_
      refine hK _ _ (InK.mk' ((hk7.trans hkd).trans hk9)) ?_
      clear hK K
      simp only [Act.put, List.setIfInBounds_toArray, List.set_cons_succ, List.set_cons_zero]
      refine region_take [6] [1, 3, 4, 0, 2, 5] 0 (by kernel_rfl) (by kernel_rfl) (InK.mk' ((hk7.trans hkd).trans hk9)) ?_
      show wpQuiet _ _ _ _ [_] _
      repeat (go_big_quiet_step (fail))
      refine wpQuiet_nil ?_
      refine region_done (by kernel_rfl) ?_
      clear ha8 ha9 hk8 hk9 hkd hk7 c7 k7
      go_wp2_with fail
      have hcl := leave_calls hc9 (((okf0.push u.l).opened.push q.l).ov o7) (Sz.t (by repeat (first | exact Sz.fresh | apply Sz.ov | apply Sz.push | apply Sz.opened | apply Sz.loosen)) (by omega)) (Sz.p (by repeat (first | exact Sz.fresh | apply Sz.ov | apply Sz.push | apply Sz.opened | apply Sz.loosen)) (by omega)) (by simp) (show (p.l).length ≤ 100000 by omega) (show (q.l).length ≤ 100000 by omega)
      rw [Ctl.leave_pushed (f0.push u.l) o7 (okf0.push u.l) [B0] ⟨2, p.l, q.l, false, true⟩ [] true (by simp)] at hcl
      refine hcl.mono ?_
      clear hcl
      rintro e w10 ⟨rfl, hl10⟩
      have h10 : CLive wa b bst ⟨((f0.push u.l).push q.l).ov (((f0.push u.l).ov o7).push q.l).over, [B0], [], true, 0⟩ w10 := CLive.left hk09 f7 hl10
      have Hq := Lib.hid (hq9.out hl10.1 hout)
      generalize (((f0.push u.l).ov o7).push q.l).over = o10 at h10
      clear hl10 hc9 hq9 hout
      go_wp2_with fail
      refine (h10.read fun F h => depth_calls h).mono ?_
      rintro e w11 ⟨rfl, rfl⟩
      rw [show (Ctl.mk (((f0.push u.l).push q.l).ov o10) [B0] [] true 0).depth = 1 from rfl]
      go_wp2_with fail
      refine (h10.read fun F h => cs_all h (Sz.t (by repeat (first | exact Sz.fresh | apply Sz.ov | apply Sz.push | apply Sz.opened | apply Sz.loosen)) (by omega))).mono ?_
      rintro e w11 ⟨va, rfl, ho, hk11⟩
      have ho2 : Own valC 1 45 w11 w10.heap.size va uq := by rw [Huq.out]; exact ho
      obtain ⟨Aa, ca, rfl, _⟩ := ho2.form
      have h11 := h10.keep hk11
      have Hs := Lib.hid (same_true_p uq Aa A9 ca c9 w11 ho2.segN.2 (Hq.out.keep hk11) hul)
      clear h10 ho ho2
      go_wp2_with fail
      refine (Hs.out).mono ?_
      rintro e w12 ⟨rfl, hk12⟩
      have h12 := h11.keep hk12
      clear h11 Hs
      go_wp2_with fail
      refine (h12.read fun F h => live_calls h).mono ?_
      rintro e w13 ⟨rfl, rfl⟩
      rw [show (Ctl.mk (((f0.push u.l).push q.l).ov o10) [B0] [] true 0).isLive = true from rfl]
      go_wp2_with fail
      refine (calive_calls w12).mono ?_
      rintro e w13 ⟨rfl, hk13⟩
      have Hk := Lib.hid (hka.trans (h12.keep0.trans hk13))
      clear h12
      go_wp2
      go_ret
      exact ⟨rfl, Hk.out⟩
    · obtain rfl : op = 3 := hop
      clear hop' hb4
      go_enter Try.func10, Try.ntmps10
      go_wp2_with fail
      show Calls Try.prog _ _ (w.alloc (.cells ([p.v, q.v] : List Value).toArray 56)) _
      rw [← hwa]
      clear hwa
      refine (cnew_calls [] none 0 wa (Seg.nil _ _) (by decide)).mono ?_
      rintro e w0 ⟨b, bst, F0, rfl, hc0, hk0, hF0⟩
      have h0 : CLive wa b bst ⟨f0.ov false, [B0], [], true, 0⟩ w0 := ⟨F0, hk0, hc0, hF0⟩
      clear hc0 hF0
      go_wp2_with fail
      refine (h0.read fun F h => cs_stack h).mono ?_
      rintro e w1 ⟨rfl, rfl⟩
      go_wp2_with fail
      refine (h0.read fun F h => cs_stack h).mono ?_
      rintro e w1 ⟨rfl, rfl⟩
      go_wp2_with fail
      refine (h0.call (R := fun e => ∃ v, e = .returned v) (c' := ⟨(f0.push u.l).ov ((f0.ov false).push u.l).over, [B0], [], true, 0⟩) (fun F h hF => by exact cs_push h u.l u.a u.c (uS.keep h0.keep0) (Sz.tl (by repeat (first | exact Sz.fresh | apply Sz.ov | apply Sz.push | apply Sz.opened | apply Sz.loosen)) (by (try simp only [List.length_cons, List.length_nil]); omega)))).mono ?_
      rintro e w1 ⟨⟨u1, rfl⟩, h1⟩
      generalize ((f0.ov false).push u.l).over = o1 at h1
      clear h0
      have b0 : w1.cell? ⟨w.heap.size, 0, none⟩ = some (.slice p.a p.l.length p.c) := (bx.keep h1.keep0).cell 0
      have lbx := (bx.keep h1.keep0).lt
      go_wp2_with fail
      refine (h1.call (R := fun e => ∃ v, e = .returned v) (c' := ⟨((f0.push u.l).push p.l).ov (((f0.push u.l).ov o1).push p.l).over, [B0], [], true, 0⟩) (fun F h hF => by exact cs_push h p.l p.a p.c (pS.keep h1.keep0) (Sz.tl (by repeat (first | exact Sz.fresh | apply Sz.ov | apply Sz.push | apply Sz.opened | apply Sz.loosen)) (by (try simp only [List.length_cons, List.length_nil]); omega)))).mono ?_
      rintro e w2 ⟨⟨u2, rfl⟩, h2⟩
      generalize (((f0.push u.l).ov o1).push p.l).over = o2 at h2
      clear h1 b0 lbx
      go_wp2_with fail
      refine region_begin (S := fun w' => ∃ y : KW wa, w' = y.val) (by kernel_rfl) ?_
      refine region_take [0, 1, 2] [] 32 (by kernel_rfl) (by kernel_rfl) (InK.mk' h2.keep0.drew) ?_
      show wpQuiet _ _ _ _ [_, _, _] _
      repeat (go_big_quiet_step (fail))
      refine wpQuiet_nil ?_
      have h2d := h2.keep ((Keep.refl _).drew)
      refine region_fix (i := 3) (fuel := 31) rfl (by kernel_rfl) (fun K hK => ?_)
      go_simp
      refine (h2d.call (R := fun e => e = .returned (.int .i64 0)) (c' := ⟨((f0.push u.l).opened.push p.l).ov (((f0.push u.l).ov o2).opened.push p.l).over, [B0] ++ [⟨3, p.l, q.l, false, true⟩], [], true, 0⟩) (fun F h hF => by have := enter_calls h (((okf0.push u.l).push p.l).ov o2) 3 p q (LD.Ok.old pS h2d.keep0 hF) (LD.Ok.old qS h2d.keep0 hF) (Sz.tl (by repeat (first | exact Sz.fresh | apply Sz.ov | apply Sz.push | apply Sz.opened | apply Sz.loosen)) (by (try simp only [List.length_cons, List.length_nil]); omega)) (Sz.p (by repeat (first | exact Sz.fresh | apply Sz.ov | apply Sz.push | apply Sz.opened | apply Sz.loosen)) (by omega)) (by simp) (by omega) (by omega); rw [Ctl.enter_pushed (f0.push u.l) o2 (okf0.push u.l) [B0] [] true 3 p.l q.l (.inr rfl) (by simp)] at this; exact this)).mono ?_
      rintro e w3 ⟨rfl, h3⟩
      generalize (((f0.push u.l).ov o2).opened.push p.l).over = o3 at h3
      clear h2 h2d
      refine hK _ _ (InK.mk' h3.keep0) ?_
      clear hK K
      refine region_take [4, 5, 6] [0, 1, 2, 3] 28 (by kernel_rfl) (by kernel_rfl) (InK.mk' h3.keep0) ?_
      show wpQuiet _ _ _ _ [_, _, _] _
      repeat (go_big_quiet_step (fail))
      refine wpQuiet_nil ?_
      refine region_fix (i := 7) (fuel := 27) rfl (by kernel_rfl) (fun K hK => ?_)
      go_simp
      refine (h3.read fun F h => depth_calls h).mono ?_
      rintro e w4 ⟨rfl, rfl⟩
      rw [show (Ctl.mk (((f0.push u.l).opened.push p.l).ov o3) ([B0] ++ [⟨3, p.l, q.l, false, true⟩]) [] true 0).depth = 2 from rfl]
      refine hK _ _ (InK.mk' h3.keep0) ?_
      clear hK K
      refine region_take [8, 9, 10, 11, 13, 14] [0, 1, 2, 3, 4, 5, 6, 7] 21 (by kernel_rfl) (by kernel_rfl) (InK.mk' h3.keep0) ?_
      show wpQuiet _ _ _ _ [_, _, _, _, _, _] _
      repeat (go_big_quiet_step (fail))
      refine wpQuiet_nil ?_
      refine region_fix (i := 12) (fuel := 20) rfl (by kernel_rfl) (fun K hK => ?_)
      go_simp
      refine (h3.read fun F h => cs_mark h (Sz.p (by repeat (first | exact Sz.fresh | apply Sz.ov | apply Sz.push | apply Sz.opened | apply Sz.loosen)) (by omega))).mono ?_
      rintro e w4 ⟨rfl, hk4⟩
      rw [show (((f0.push u.l).opened.push p.l).ov o3).at_ = u.l.length from at_pushed u.l p.l o3]
      have h4 := h3.keep hk4
      clear h3
      refine hK _ _ (InK.mk' h4.keep0) ?_
      clear hK K
      refine region_take [15, 16, 17, 18, 20, 21, 22, 23, 24, 25] [0, 1, 2, 3, 4, 5, 6, 7, 8, 9, 10, 11, 13, 14, 12] 10 (by kernel_rfl) (by kernel_rfl) (InK.mk' h4.keep0) ?_
      show wpQuiet _ _ _ _ [_, _, _, _, _, _, _, _, _, _] _
      repeat (go_big_quiet_step (fail))
      refine wpQuiet_nil ?_
      refine region_fix (i := 19) (fuel := 9) rfl (by kernel_rfl) (fun K hK => ?_)
      go_simp
      refine (h4.read fun F h => cs_len h).mono ?_
      rintro e w5 ⟨rfl, rfl⟩
      rw [show ((((f0.push u.l).opened.push p.l).ov o3).T.length : Int) = (u.l.length : Int) + (p.l.length : Int) from len_pushed u.l p.l o3]
      refine hK _ _ (InK.mk' h4.keep0) ?_
      clear hK K
      refine region_take [26, 27, 28, 29, 30, 31] [0, 1, 2, 3, 4, 5, 6, 7, 8, 9, 10, 11, 13, 14, 12, 15, 16, 17, 18, 20, 21, 22, 23, 24, 25, 19] 3 (by kernel_rfl) (by kernel_rfl) (InK.mk' h4.keep0) ?_
      show wpQuiet _ _ _ _ [_, _, _, _, _, _] _
      repeat (go_big_quiet_step (fail))
      refine wpQuiet_nil ?_
      refine region_fix (i := 32) (fuel := 2) rfl (by kernel_rfl) (fun K hK => ?_)
      go_simp
      refine (h4.call (R := fun e => e = .returned (.int .i64 0)) (c' := ⟨(f0.push u.l).opened.ov o3, [B0] ++ [⟨3, p.l, q.l, false, true⟩], [], true, 0⟩) (fun F h hF => by have := cs_want h (((okf0.push u.l).opened.push p.l).ov o3) p.l p.a p.c (pS.keep h4.keep0) (Sz.t (by repeat (first | exact Sz.fresh | apply Sz.ov | apply Sz.push | apply Sz.opened | apply Sz.loosen)) (by omega)) (Sz.p (by repeat (first | exact Sz.fresh | apply Sz.ov | apply Sz.push | apply Sz.opened | apply Sz.loosen)) (by omega)) (by omega); rw [Stk.want_pushed (f0.push u.l).opened p.l o3 (okf0.push u.l).opened] at this; exact this)).mono ?_
      rintro e w5 ⟨rfl, h5⟩
      clear h4
      refine hK _ _ (InK.mk' h5.keep0) ?_
      clear hK K
      refine region_take [33, 34] [0, 1, 2, 3, 4, 5, 6, 7, 8, 9, 10, 11, 13, 14, 12, 15, 16, 17, 18, 20, 21, 22, 23, 24, 25, 19, 26, 27, 28, 29, 30, 31, 32] 0 (by kernel_rfl) (by kernel_rfl) (InK.mk' h5.keep0) ?_
      show wpQuiet _ _ _ _ [_, _] _
      repeat (go_big_quiet_step (fail))
      refine wpQuiet_nil ?_
      refine region_done (by kernel_rfl) ?_
      go_wp2_with fail
      refine (h5.call (R := fun e => e = .returned (.tuple #[.int .i64 0, .int .i64 13])) (c' := ⟨(f0.push u.l).opened.ov o3, [B0] ++ [⟨3, p.l, q.l, false, true⟩], [], true, 0⟩) (fun F h hF => by have := cs_pop h ((okf0.push u.l).opened.ov o3) (Sz.t (by repeat (first | exact Sz.fresh | apply Sz.ov | apply Sz.push | apply Sz.opened | apply Sz.loosen)) (by omega)) (Sz.p (by repeat (first | exact Sz.fresh | apply Sz.ov | apply Sz.push | apply Sz.opened | apply Sz.loosen)) (by omega)); rw [pop_opened (f0.push u.l) o3 rfl] at this; exact this)).mono ?_
      rintro e w6 ⟨rfl, h6⟩
      clear h5
      have b1 : w6.cell? ⟨w.heap.size, 1, none⟩ = some (.slice q.a q.l.length q.c) := (bx.keep h6.keep0).cell 1
      have lbx := (bx.keep h6.keep0).lt
      go_wp2_with fail
      refine (h6.call (R := fun e => ∃ v, e = .returned v) (c' := ⟨((f0.push u.l).opened.push q.l).ov (((f0.push u.l).opened.ov o3).push q.l).over, [B0] ++ [⟨3, p.l, q.l, false, true⟩], [], true, 0⟩) (fun F h hF => by exact cs_push h q.l q.a q.c (qS.keep h6.keep0) (Sz.tl (by repeat (first | exact Sz.fresh | apply Sz.ov | apply Sz.push | apply Sz.opened | apply Sz.loosen)) (by (try simp only [List.length_cons, List.length_nil]); omega)))).mono ?_
      rintro e w7 ⟨⟨u7, rfl⟩, h7⟩
      generalize (((f0.push u.l).opened.ov o3).push q.l).over = o7 at h7
      clear h6 b1 lbx
      go_wp2_with fail
      have hk7 := h7.keep0
      have hkd : Keep w7 w7.drew := (Keep.refl _).drew
      obtain ⟨v8, w8, ha8, ho8, hg8, _⟩ := append_run (ys := u.l) elV (Own.empty valC 1 45 w7.drew (Nat.le_refl _)) ((uS.keep (hk7.trans hkd)).keep ((Keep.refl w7.drew).alloc (.cells #[] 45))) u.c 23 (by simp [maxLen]; omega) (by simp; omega) (by simp)
      have hk8 : Keep w7.drew w8 := ((Keep.refl w7.drew).alloc _).grown hg8 (fun j hj => by simp [Value.ownBlock] at hj; subst hj; exact Nat.le_refl _)
      rw [List.nil_append] at ho8
      obtain ⟨v9, w9, ha9, ho9, hg9, _⟩ := append_run (ys := q.l) elV ho8 (qS.keep ((hk7.trans hkd).trans hk8)) q.c 23 (by simp [maxLen]; omega) (by omega) hk8.size
      obtain ⟨uq, huq⟩ : ∃ uq, uq = u.l ++ q.l := ⟨_, rfl⟩
      have hul : uq.length ≤ 1000000 := by rw [huq, List.length_append]; omega
      rw [← huq] at ho9
      have hk9 : Keep w7.drew w9 := hk8.grown hg9 (fun j hj => (ho8.lt j hj).1)
      obtain ⟨A9, c9, rfl, _⟩ := ho9.form
      have Ho9 := Lib.hid ho9
      have Huq := Lib.hid huq
      clear huq
      obtain ⟨F7, k7, c7, f7⟩ := h7
      have hc9 := (c7.keep hkd).keep hk9
      have hk09 := (hk7.trans hkd).trans hk9
      have hq9 : Seg w9 A9 (uq.flatMap valC) := Ho9.out.segN.2
      have hout : Out F7 A9 uq.length := fun _ ad ha hf => by subst ha; have h1 := (Ho9.out.lt ad.block rfl).1; have h2 := c7.lt _ hf; have e : w7.drew.heap.size = w7.heap.size := rfl; omega
      clear ho8 hg8 ho9 hg9
      refine region_begin (S := fun w' => ∃ y : KW wa, w' = y.val) (by kernel_rfl) ?_
      refine region_take [1, 3, 4] [] 4 (by kernel_rfl) (by kernel_rfl) (InK.mk' hk7.drew) ?_
      show wpQuiet _ _ _ _ [_, _, _] _
      repeat (go_big_quiet_step (fail))
      refine wpQuiet_nil ?_
      refine region_fixU (i := 0) (fuel := 3) rfl rfl (by kernel_rfl) (fun K hK => ?_)
      refine wp_buildSlice0 _ _ rfl elV.slice elV.info.choose_spec.choose_spec.1 ?_
      refine hK _ _ (InK.mk' ((hk7.trans hkd).alloc _)) ?_
      clear hK K
      simp only [Act.put, List.setIfInBounds_toArray, List.set_cons_succ, List.set_cons_zero]
      refine region_fixU (i := 2) (fuel := 2) rfl rfl (by kernel_rfl) (fun K hK => ?_)
      refine wp_append_eq _ _ _ rfl _ _ rfl rfl _ _ ha8 ?_
      refine hK _ _ (InK.mk' ((hk7.trans hkd).trans hk8)) ?_
      clear hK K
      simp only [Act.put, List.setIfInBounds_toArray, List.set_cons_succ, List.set_cons_zero]
      refine region_fixU (i := 5) (fuel := 1) rfl rfl (by kernel_rfl) (fun K hK => ?_)
      refine wp_append_eq _ _ _ rfl _ _ rfl rfl _ _ ha9 ?_
      refine hK _ _ (InK.mk' ((hk7.trans hkd).trans hk9)) ?_
      clear hK K
      simp only [Act.put, List.setIfInBounds_toArray, List.set_cons_succ, List.set_cons_zero]
      refine region_take [6] [1, 3, 4, 0, 2, 5] 0 (by kernel_rfl) (by kernel_rfl) (InK.mk' ((hk7.trans hkd).trans hk9)) ?_
      show wpQuiet _ _ _ _ [_] _
      repeat (go_big_quiet_step (fail))
      refine wpQuiet_nil ?_
      refine region_done (by kernel_rfl) ?_
      clear ha8 ha9 hk8 hk9 hkd hk7 c7 k7
      go_wp2_with fail
      have hcl := leave_calls hc9 (((okf0.push u.l).opened.push q.l).ov o7) (Sz.t (by repeat (first | exact Sz.fresh | apply Sz.ov | apply Sz.push | apply Sz.opened | apply Sz.loosen)) (by omega)) (Sz.p (by repeat (first | exact Sz.fresh | apply Sz.ov | apply Sz.push | apply Sz.opened | apply Sz.loosen)) (by omega)) (by simp) (show (p.l).length ≤ 100000 by omega) (show (q.l).length ≤ 100000 by omega)
      rw [Ctl.leave_pushed (f0.push u.l) o7 (okf0.push u.l) [B0] ⟨3, p.l, q.l, false, true⟩ [] true (by simp)] at hcl
      refine hcl.mono ?_
      clear hcl
      rintro e w10 ⟨rfl, hl10⟩
      have h10 : CLive wa b bst ⟨((f0.push u.l).push q.l).ov (((f0.push u.l).ov o7).push q.l).over, [B0], [], true, 0⟩ w10 := CLive.left hk09 f7 hl10
      have Hq := Lib.hid (hq9.out hl10.1 hout)
      generalize (((f0.push u.l).ov o7).push q.l).over = o10 at h10
      clear hl10 hc9 hq9 hout
      go_wp2_with fail
      refine (h10.read fun F h => depth_calls h).mono ?_
      rintro e w11 ⟨rfl, rfl⟩
      rw [show (Ctl.mk (((f0.push u.l).push q.l).ov o10) [B0] [] true 0).depth = 1 from rfl]
      go_wp2_with fail
      refine (h10.read fun F h => cs_all h (Sz.t (by repeat (first | exact Sz.fresh | apply Sz.ov | apply Sz.push | apply Sz.opened | apply Sz.loosen)) (by omega))).mono ?_
      rintro e w11 ⟨va, rfl, ho, hk11⟩
      have ho2 : Own valC 1 45 w11 w10.heap.size va uq := by rw [Huq.out]; exact ho
      obtain ⟨Aa, ca, rfl, _⟩ := ho2.form
      have h11 := h10.keep hk11
      have Hs := Lib.hid (same_true_p uq Aa A9 ca c9 w11 ho2.segN.2 (Hq.out.keep hk11) hul)
      clear h10 ho ho2
      go_wp2_with fail
      refine (Hs.out).mono ?_
      rintro e w12 ⟨rfl, hk12⟩
      have h12 := h11.keep hk12
      clear h11 Hs
      go_wp2_with fail
      refine (h12.read fun F h => live_calls h).mono ?_
      rintro e w13 ⟨rfl, rfl⟩
      rw [show (Ctl.mk (((f0.push u.l).push q.l).ov o10) [B0] [] true 0).isLive = true from rfl]
      go_wp2_with fail
      refine (calive_calls w12).mono ?_
      rintro e w13 ⟨rfl, hk13⟩
      have Hk := Lib.hid (hka.trans (h12.keep0.trans hk13))
      clear h12
      go_wp2
      go_ret
      exact ⟨rfl, Hk.out⟩
end Go.Proofs.Ytkeefajfndmpeaa
