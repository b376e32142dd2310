/-
  The reference's Laps and meet.
-/
import Derived.Test.YtigidchignlpmaaRRef1
namespace Go.Proofs.Ytigidchignlpmaa
open Go Go.RowKit Rg

set_option maxHeartbeats 1000000 in
theorem rLaps_calls (u1 u2 : Int) (A1 A2 : Option Addr) (l1 l2 : List Rng) (c1 c2 : Nat) (w : World) (hs1 : Seg w A1 (l1.flatMap rngC)) (hs2 : Seg w A2 (l2.flatMap rngC)) (h1 : 0 < l1.length) (h2 : 0 < l2.length) (hm1 : l1.length ≤ maxLen) (hm2 : l2.length ≤ maxLen) :
    Calls Try.prog 51 #[.agg #[.int .i64 u1, .slice A1 l1.length c1], .agg #[.int .i64 u2, .slice A2 l2.length c2]] w fun e w' => e = .returned (.bool (lapsB (bgn l1) (fin l1) (bgn l2) (fin l2))) ∧ Keep w w' := by
  obtain ⟨wa, hwa⟩ : ∃ wa : World, wa = (w.alloc (.cells #[.int .i64 u1, .slice A1 l1.length c1] 45)).alloc (.cells #[.int .i64 u2, .slice A2 l2.length c2] 45) := ⟨_, rfl⟩
  obtain ⟨hka, b1, b2⟩ := two_lives w [.int .i64 u1, .slice A1 l1.length c1] [.int .i64 u2, .slice A2 l2.length c2] hwa
  have Hb1 := Lib.hid (fun (wx : World) (hk : Keep wa wx) => rBegin_calls u1 A1 l1 c1 wx (hs1.keep (hka.trans hk)) h1)
  have Hb2 := Lib.hid (fun (wx : World) (hk : Keep wa wx) => rBegin_calls u2 A2 l2 c2 wx (hs2.keep (hka.trans hk)) h2)
  have He1 := Lib.hid (fun (wx : World) (hk : Keep wa wx) => rEnd_calls u1 A1 l1 c1 wx (hs1.keep (hka.trans hk)) h1 hm1)
  have He2 := Lib.hid (fun (wx : World) (hk : Keep wa wx) => rEnd_calls u2 A2 l2 c2 wx (hs2.keep (hka.trans hk)) h2 hm2)
  have x0 := fun y : KW wa => y.cell (v := .int .i64 u1) (b1.cell 0)
  have x1 := fun y : KW wa => y.cell (v := .slice A1 l1.length c1) (b1.cell 1)
  have y0 := fun y : KW wa => y.cell (v := .int .i64 u2) (b2.cell 0)
  have y1 := fun y : KW wa => y.cell (v := .slice A2 l2.length c2) (b2.cell 1)
  have hd : Keep wa wa.drew := (Keep.refl _).drew
  have Hka := Lib.hid hka
  clear hka b1 b2 hs1 hs2 h1 h2 hm1 hm2
  cases hc : decide (bgn l1 < fin l2)
  all_goals
    have Hl := Lib.hid (show lapsB (bgn l1) (fin l1) (bgn l2) (fin l2) = (decide (bgn l1 < fin l2) && decide (bgn l2 < fin l1)) from rfl)
    rw [Hl.out, hc]
    go_enter Try.func51, Try.ntmps51
    go_wp2_with fail
    rw [← hwa]
    clear hwa
    refine region_begin (S := fun w' => ∃ y : KW wa, w' = y.val) (by kernel_rfl) ?_
    refine region_take [0, 2] [] 11 (by kernel_rfl) (by kernel_rfl) (InK.mk' hd) ?_
    show wpQuiet _ _ _ _ [_, _] _
    repeat (go_big_quiet_step (fail))
    refine wpQuiet_nil ?_
    refine region_fix (i := 1) (fuel := 10) rfl (by kernel_rfl) (fun K hK => ?_)
    go_simp
    refine (Hb1.out _ hd).mono ?_
    rintro e w1 ⟨rfl, k1'⟩
    have k1 := hd.trans k1'
    refine hK _ _ (InK.mk' k1) ?_
    clear hK K
    refine region_fix (i := 3) (fuel := 9) rfl (by kernel_rfl) (fun K hK => ?_)
    go_simp
    refine (He2.out _ k1).mono ?_
    rintro e w2 ⟨rfl, k2'⟩
    have k2 := k1.trans k2'
    refine hK _ _ (InK.mk' k2) ?_
    clear hK K
    refine region_take [4, 5, 6, 8] [0, 2, 1, 3] 5 (by kernel_rfl) (by kernel_rfl) (InK.mk' k2) ?_
    show wpQuiet _ _ _ _ [_, _, _, _] _
    repeat (go_big_quiet_step (fail))
    refine wpQuiet_nil ?_
    refine region_fix (i := 7) (fuel := 4) rfl (by kernel_rfl) (fun K hK => ?_)
    go_simp
    first
    | (refine (Hb2.out _ k2).mono ?_
       rintro e w3 ⟨rfl, k3'⟩
       have k3 := k2.trans k3'
       refine hK _ _ (InK.mk' k3) ?_
       clear hK K
       refine region_fix (i := 9) (fuel := 3) rfl (by kernel_rfl) (fun K hK => ?_)
       go_simp
       refine (He1.out _ k3).mono ?_
       rintro e w4 ⟨rfl, k4'⟩
       have k4 := k3.trans k4'
       refine hK _ _ (InK.mk' k4) ?_
       clear hK K
       refine region_take [10, 11, 12] [0, 2, 1, 3, 4, 5, 6, 8, 7, 9] 0 (by kernel_rfl) (by kernel_rfl) (InK.mk' k4) ?_
       show wpQuiet _ _ _ _ [_, _, _] _
       repeat (go_big_quiet_step (fail))
       refine wpQuiet_nil ?_
       refine region_done (by kernel_rfl) ?_
       go_wp2
       go_ret
       exact ⟨rfl, Hka.out.trans k4⟩)
    | (refine hK _ _ (InK.mk' k2) ?_
       clear hK K
       refine region_fix (i := 9) (fuel := 3) rfl (by kernel_rfl) (fun K hK => ?_)
       go_simp
       refine hK _ _ (InK.mk' k2) ?_
       clear hK K
       refine region_take [10, 11, 12] [0, 2, 1, 3, 4, 5, 6, 8, 7, 9] 0 (by kernel_rfl) (by kernel_rfl) (InK.mk' k2) ?_
       show wpQuiet _ _ _ _ [_, _, _] _
       repeat (go_big_quiet_step (fail))
       refine wpQuiet_nil ?_
       refine region_done (by kernel_rfl) ?_
       go_wp2
       go_ret
       exact ⟨rfl, Hka.out.trans k2⟩)

set_option maxHeartbeats 4000000 in
theorem rMeet_calls (u1 u2 : Int) (A1 A2 : Option Addr) (l1 l2 : List Rng) (c1 c2 : Nat) (w : World) (hs1 : Seg w A1 (l1.flatMap rngC)) (hs2 : Seg w A2 (l2.flatMap rngC)) (hm1 : l1.length ≤ maxLen) (hm2 : l2.length ≤ maxLen) :
    Calls Try.prog 34 #[.agg #[.int .i64 u1, .slice A1 l1.length c1], .agg #[.int .i64 u2, .slice A2 l2.length c2]] w fun e w' => e = .returned (.bool (meets l1 l2)) ∧ Keep w w' := by
  unfold maxLen at hm1 hm2
  obtain ⟨wa, hwa⟩ : ∃ wa : World, wa = (w.alloc (.cells #[.int .i64 u1, .slice A1 l1.length c1] 45)).alloc (.cells #[.int .i64 u2, .slice A2 l2.length c2] 45) := ⟨_, rfl⟩
  obtain ⟨hka, b1, b2⟩ := two_lives w [.int .i64 u1, .slice A1 l1.length c1] [.int .i64 u2, .slice A2 l2.length c2] hwa
  have x1 : wa.cell? ⟨w.heap.size, 1, none⟩ = some (.slice A1 l1.length c1) := b1.cell 1
  have y1 : wa.cell? ⟨w.heap.size + 1, 1, none⟩ = some (.slice A2 l2.length c2) := b2.cell 1
  have bl1 := b1.lt
  have bl2 := b2.lt
  clear b1 b2
  go_enter Try.func34, Try.ntmps34
  go_wp2_with fail
  rw [← hwa]
  clear hwa
  go_wp2
  go_loopw [5] (fun i wr => ∃ k : Nat, k ≤ l1.length ∧ i = .int .i64 k ∧ Hid (meets (l1.take k) l2 = false) ∧ Keep wa wr) (fun i _ => l1.length - (intOf i).toNat)
  case atStart => exact ⟨0, Nat.zero_le _, rfl, Lib.hid rfl, Keep.refl _⟩
  case round =>
    obtain ⟨k, hk, rfl, hmeet, hkeep⟩ := hrel
    have x1r := hkeep.cell x1
    have l1r := Nat.lt_of_lt_of_le bl1 hkeep.size
    by_cases hlt : k < l1.length
    · obtain ⟨r, hr⟩ := get_some hlt
      have hkk : (k : Int) < (l1.length : Int) := by omega
      have hk0 : (0 : Int) ≤ (k : Int) := by omega
      have Hn := Lib.hid (meets_take (l2 := l2) hr)
      have Hr := Lib.hid hr
      have Hpre := Lib.hid hmeet
      have hkO := hkeep
      clear hr hmeet hkeep
      go_wp2
      go_loopw [6] (fun i wr => ∃ j : Nat, j ≤ l2.length ∧ i = .int .i64 j ∧ Hid (meet1 r (l2.take j) = false) ∧ Keep wa wr) (fun i _ => l2.length - (intOf i).toNat)
      case atStart => exact ⟨0, Nat.zero_le _, rfl, Lib.hid rfl, hkO⟩
      case round =>
        obtain ⟨j, hj, rfl, hone, hkz⟩ := hrel
        have y1r := hkz.cell y1
        have l2r := Nat.lt_of_lt_of_le bl2 hkz.size
        by_cases hjl : j < l2.length
        · obtain ⟨s, hs⟩ := get_some hjl
          obtain ⟨b, off, rfl, hb, p0, p1⟩ := rng_get hs1 (hka.trans hkz) Hr.out
          obtain ⟨b', off', rfl, hb', s0, s1⟩ := rng_get hs2 (hka.trans hkz) hs
          have hjj : (j : Int) < (l2.length : Int) := by omega
          have hj0 : (0 : Int) ≤ (j : Int) := by omega
          have Hn' := Lib.hid (meet1_take (r := r) hs)
          have Hs := Lib.hid (List.mem_of_getElem? hs)
          have Hone := Lib.hid hone
          have hd : Keep wr wr.drew := (Keep.refl _).drew
          have kx1 := fun z : KW wr => z.cell (hkz.cell x1)
          have ky1 := fun z : KW wr => z.cell y1r
          have kp0 := fun z : KW wr => z.cell p0
          have kp1 := fun z : KW wr => z.cell p1
          have ks0 := fun z : KW wr => z.cell s0
          have ks1 := fun z : KW wr => z.cell s1
          clear hs hone
          obtain ⟨mx, hmx⟩ : ∃ mx, (if r.1 < s.1 then s.1 else r.1) = mx := ⟨_, rfl⟩
          obtain ⟨mn, hmn⟩ : ∃ mn, (if s.2 < r.2 then s.2 else r.2) = mn := ⟨_, rfl⟩
          have Ed := Lib.hid (show decide (max r.1 s.1 < min r.2 s.2) = decide (mx < mn) by
            rw [← hmx, ← hmn, decide_eq_decide]
            split <;> split <;> omega)
          go_wp2_with fail
          refine region_begin (S := fun w' => ∃ z : KW wr, w' = z.val) (by kernel_rfl) ?_
          refine region_take [0, 1, 2, 3, 4, 5, 6, 7, 8, 9, 10, 11, 12, 13, 14, 15, 16, 17, 18, 19, 20, 21, 22, 23, 24, 25, 26] [] 0 (by kernel_rfl) (by kernel_rfl) (InK.mk' hd) ?_
          show wpQuiet _ _ _ _ [_, _, _, _, _, _, _, _, _, _, _, _, _, _, _, _, _, _, _, _, _, _, _, _, _, _, _] _
          repeat (go_big_quiet_step (fail))
          refine wpQuiet_nil ?_
          refine region_done (by kernel_rfl) ?_
          clear kx1 ky1 kp0 kp1 ks0 ks1
          cases d : decide (mx < mn)
          · have Hd := Lib.hid (show meet1 r (l2.take (j + 1)) = false by rw [Hn'.out, Hone.out.out, Ed.out, d]; rfl)
            go_wp2
            go_roundw
            case rel => exact ⟨j + 1, hjl, by go_num, Hd, hkz.trans hd⟩
            case measure => simp [intOf]; omega
          · have Hd := Lib.hid (meets_of (List.mem_of_getElem? Hr.out) Hs.out (of_decide_eq_true (Ed.out.trans d)))
            go_wp2
            go_ret
            exact ⟨by rw [Hd.out]; rfl, hka.trans (hkz.trans hd)⟩
        · have hjl2 : j = l2.length := by omega
          have Hd := Lib.hid (show meets (l1.take (k + 1)) l2 = false by
            have := hone.out
            rw [hjl2, List.take_length] at this
            rw [Hn.out, Hpre.out.out, this]; rfl)
          clear hjl2 hone
          go_wp2
          go_roundw
          case rel => exact ⟨k + 1, hlt, by go_num, Hd, hkz⟩
          case measure => simp [intOf]; omega
    · have hkl : k = l1.length := by omega
      have Hy := Lib.hid (show meets l1 l2 = false by
        have := hmeet.out
        rwa [hkl, List.take_length] at this)
      clear hkl hmeet
      go_wp2
      go_ret
      exact ⟨by rw [Hy.out]; rfl, hka.trans hkeep⟩
end Go.Proofs.Ytigidchignlpmaa
