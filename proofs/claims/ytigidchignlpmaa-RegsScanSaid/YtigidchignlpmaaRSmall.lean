/-
  The small functions of the program: comparing, laps, meet.
-/
import Derived.Test.YtigidchignlpmaaRBase
namespace Go.Proofs.Ytigidchignlpmaa
open Go Go.RowKit Rg

def cmp3 (x y : Int) : Int := if x < y then -1 else if y < x then 1 else 0

theorem isNaN_calls (x : Int) (w : World) : Calls Try.prog 37 #[.int .i64 x] w fun e w' => e = .returned (.bool false) ∧ w = w' := by
  have hx : (x != x) = false := by simp
  go_enter Try.func37, Try.ntmps37
  go_wp2
  go_ret
  exact ⟨rfl, rfl⟩
theorem compare_calls (x y : Int) (w : World) : Calls Try.prog 27 #[.int .i64 x, .int .i64 y] w fun e w' => e = .returned (.int .i64 (cmp3 x y)) ∧ w = w' := by
  by_cases h : x < y
  · have Hc := Lib.hid (show cmp3 x y = -1 by unfold cmp3; rw [if_pos h])
    go_enter Try.func27, Try.ntmps27
    go_wp2_with fail
    refine (isNaN_calls x w).mono ?_
    rintro e w1 ⟨rfl, rfl⟩
    go_wp2_with fail
    refine (isNaN_calls y w).mono ?_
    rintro e w1 ⟨rfl, rfl⟩
    go_wp2
    go_ret
    exact ⟨by rw [Hc.out]; rfl, rfl⟩
  · by_cases h' : y < x
    · have Hc := Lib.hid (show cmp3 x y = 1 by unfold cmp3; rw [if_neg h, if_pos h'])
      go_enter Try.func27, Try.ntmps27
      go_wp2_with fail
      refine (isNaN_calls x w).mono ?_
      rintro e w1 ⟨rfl, rfl⟩
      go_wp2_with fail
      refine (isNaN_calls y w).mono ?_
      rintro e w1 ⟨rfl, rfl⟩
      go_wp2
      go_ret
      exact ⟨by rw [Hc.out]; rfl, rfl⟩
    · have Hc := Lib.hid (show cmp3 x y = 0 by unfold cmp3; rw [if_neg h, if_neg h'])
      go_enter Try.func27, Try.ntmps27
      go_wp2_with fail
      refine (isNaN_calls x w).mono ?_
      rintro e w1 ⟨rfl, rfl⟩
      go_wp2_with fail
      refine (isNaN_calls y w).mono ?_
      rintro e w1 ⟨rfl, rfl⟩
      go_wp2
      go_ret
      exact ⟨by rw [Hc.out]; rfl, rfl⟩

/-- Two boxes of live ranges. -/
theorem two_lives (w : World) (cs ds : List Value) {wa : World} (hwa : wa = (w.alloc (.cells cs.toArray 45)).alloc (.cells ds.toArray 45)) :
    Keep w wa ∧ Blk wa w.heap.size 45 cs ∧ Blk wa (w.heap.size + 1) 45 ds := by
  refine ⟨by rw [hwa]; exact ((Keep.refl _).alloc _).alloc _, by rw [hwa]; exact (Blk.new w _ _).keep ((Keep.refl _).alloc _), ?_⟩
  rw [hwa]
  have := Blk.new (w.alloc (.cells cs.toArray 45)) 45 ds
  simpa using this

set_option maxHeartbeats 1000000 in
theorem laps_calls (u1 u2 : Int) (A1 A2 : Option Addr) (l1 l2 : List Rng) (c1 c2 : Nat) (w : World) (hs1 : Seg w A1 (l1.flatMap rngC)) (hs2 : Seg w A2 (l2.flatMap rngC)) (h1 : 0 < l1.length) (h2 : 0 < l2.length) (hm1 : l1.length ≤ maxLen) (hm2 : l2.length ≤ maxLen) :
    Calls Try.prog 46 #[.agg #[.int .i64 u1, .slice A1 l1.length c1], .agg #[.int .i64 u2, .slice A2 l2.length c2]] w fun e w' => e = .returned (.bool (lapsB (bgn l1) (fin l1) (bgn l2) (fin l2))) ∧ Keep w w' := by
  obtain ⟨wa, hwa⟩ : ∃ wa : World, wa = (w.alloc (.cells #[.int .i64 u1, .slice A1 l1.length c1] 45)).alloc (.cells #[.int .i64 u2, .slice A2 l2.length c2] 45) := ⟨_, rfl⟩
  obtain ⟨hka, b1, b2⟩ := two_lives w [.int .i64 u1, .slice A1 l1.length c1] [.int .i64 u2, .slice A2 l2.length c2] hwa
  have Hb1 := Lib.hid (fun (wx : World) (hk : Keep wa wx) => begin_calls u1 A1 l1 c1 wx (hs1.keep (hka.trans hk)) h1)
  have Hb2 := Lib.hid (fun (wx : World) (hk : Keep wa wx) => begin_calls u2 A2 l2 c2 wx (hs2.keep (hka.trans hk)) h2)
  have He1 := Lib.hid (fun (wx : World) (hk : Keep wa wx) => end_calls u1 A1 l1 c1 wx (hs1.keep (hka.trans hk)) h1 hm1)
  have He2 := Lib.hid (fun (wx : World) (hk : Keep wa wx) => end_calls u2 A2 l2 c2 wx (hs2.keep (hka.trans hk)) h2 hm2)
  have x0 := fun y : KW wa => y.cell (v := .int .i64 u1) (b1.cell 0)
  have x1 := fun y : KW wa => y.cell (v := .slice A1 l1.length c1) (b1.cell 1)
  have y0 := fun y : KW wa => y.cell (v := .int .i64 u2) (b2.cell 0)
  have y1 := fun y : KW wa => y.cell (v := .slice A2 l2.length c2) (b2.cell 1)
  have hd : Keep wa wa.drew := (Keep.refl _).drew
  have Hka := Lib.hid hka
  clear hka b1 b2 hs1 hs2 h1 h2 hm1 hm2
  cases hc : decide (bgn l1 < fin l2)
  all_goals
    have Hl := Lib.hid (show lapsB (bgn l1) (fin l1) (bgn l2) (fin l2) = (decide (bgn l1 < fin l2) && decide (bgn l2 < fin l1)) from rfl)
    rw [Hl.out, hc]
    go_enter Try.func46, Try.ntmps46
    go_wp2_with fail
    rw [← hwa]
    clear hwa
    refine region_begin (S := fun w' => ∃ y : KW wa, w' = y.val) (by kernel_rfl) ?_
    refine region_take [0, 2] [] 11 (by kernel_rfl) (by kernel_rfl) (InK.mk' hd) ?_
    show wpQuiet _ _ _ _ [_, _] _
    repeat (go_big_quiet_step (fail))
    refine wpQuiet_nil ?_
    refine region_fix (i := 1) (fuel := 10) rfl (by kernel_rfl) (fun K hK => ?_)
    go_simp
    refine (Hb1.out _ hd).mono ?_
    rintro e w1 ⟨rfl, k1'⟩
    have k1 := hd.trans k1'
    refine hK _ _ (InK.mk' k1) ?_
    clear hK K
    refine region_fix (i := 3) (fuel := 9) rfl (by kernel_rfl) (fun K hK => ?_)
    go_simp
    refine (He2.out _ k1).mono ?_
    rintro e w2 ⟨rfl, k2'⟩
    have k2 := k1.trans k2'
    refine hK _ _ (InK.mk' k2) ?_
    clear hK K
    refine region_take [4, 5, 6, 8] [0, 2, 1, 3] 5 (by kernel_rfl) (by kernel_rfl) (InK.mk' k2) ?_
    show wpQuiet _ _ _ _ [_, _, _, _] _
    repeat (go_big_quiet_step (fail))
    refine wpQuiet_nil ?_
    refine region_fix (i := 7) (fuel := 4) rfl (by kernel_rfl) (fun K hK => ?_)
    go_simp
    first
    | (refine (Hb2.out _ k2).mono ?_
       rintro e w3 ⟨rfl, k3'⟩
       have k3 := k2.trans k3'
       refine hK _ _ (InK.mk' k3) ?_
       clear hK K
       refine region_fix (i := 9) (fuel := 3) rfl (by kernel_rfl) (fun K hK => ?_)
       go_simp
       refine (He1.out _ k3).mono ?_
       rintro e w4 ⟨rfl, k4'⟩
       have k4 := k3.trans k4'
       refine hK _ _ (InK.mk' k4) ?_
       clear hK K
       refine region_take [10, 11, 12] [0, 2, 1, 3, 4, 5, 6, 8, 7, 9] 0 (by kernel_rfl) (by kernel_rfl) (InK.mk' k4) ?_
       show wpQuiet _ _ _ _ [_, _, _] _
       repeat (go_big_quiet_step (fail))
       refine wpQuiet_nil ?_
       refine region_done (by kernel_rfl) ?_
       go_wp2
       go_ret
       exact ⟨rfl, Hka.out.trans k4⟩)
    | (refine hK _ _ (InK.mk' k2) ?_
       clear hK K
       refine region_fix (i := 9) (fuel := 3) rfl (by kernel_rfl) (fun K hK => ?_)
       go_simp
       refine hK _ _ (InK.mk' k2) ?_
       clear hK K
       refine region_take [10, 11, 12] [0, 2, 1, 3, 4, 5, 6, 8, 7, 9] 0 (by kernel_rfl) (by kernel_rfl) (InK.mk' k2) ?_
       show wpQuiet _ _ _ _ [_, _, _] _
       repeat (go_big_quiet_step (fail))
       refine wpQuiet_nil ?_
       refine region_done (by kernel_rfl) ?_
       go_wp2
       go_ret
       exact ⟨rfl, Hka.out.trans k2⟩)
end Go.Proofs.Ytigidchignlpmaa
