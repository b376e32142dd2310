/-
  The reference's small functions: Begin, End, May.
-/
import Derived.Test.YtigidchignlpmaaRMeet
namespace Go.Proofs.Ytigidchignlpmaa
open Go Go.RowKit Rg

theorem rBegin_calls (val : Int) (A : Option Addr) (l : List Rng) (c : Nat) (w : World) (hs : Seg w A (l.flatMap rngC)) (h0 : 0 < l.length) :
    Calls Try.prog 19 #[.agg #[.int .i64 val, .slice A l.length c]] w fun e w' => e = .returned (.int .i64 (bgn l)) ∧ Keep w w' := by
  obtain ⟨r, hr⟩ := get_some h0
  obtain ⟨b, off, rfl, hb, c0, _⟩ := rng_get hs ((Keep.refl w).alloc (.cells #[.int .i64 val, .slice A l.length c] 45)) hr
  have Hb := Lib.hid (bgn_get hr)
  rw [Hb.out]
  have hi : (0 : Int) < (l.length : Int) := by omega
  simp only [Nat.zero_mul, Nat.add_zero] at c0
  clear hs h0 hr
  go_enter Try.func19, Try.ntmps19
  go_wp2
  go_ret
  exact ⟨rfl, (Keep.refl _).alloc _⟩
theorem rEnd_calls (val : Int) (A : Option Addr) (l : List Rng) (c : Nat) (w : World) (hs : Seg w A (l.flatMap rngC)) (h0 : 0 < l.length) (hm : l.length ≤ maxLen) :
    Calls Try.prog 20 #[.agg #[.int .i64 val, .slice A l.length c]] w fun e w' => e = .returned (.int .i64 (fin l)) ∧ Keep w w' := by
  unfold maxLen at hm
  obtain ⟨k, hk⟩ : ∃ k, k + 1 = l.length := ⟨l.length - 1, by omega⟩
  obtain ⟨r, hr⟩ := get_some (l := l) (k := k) (by omega)
  obtain ⟨b, off, rfl, hb, _, c0⟩ := rng_get hs ((Keep.refl w).alloc (.cells #[.int .i64 val, .slice A l.length c] 45)) hr
  have Hb := Lib.hid (fin_get hr hk)
  rw [Hb.out]
  have hm1 : (l.length : Int) - 1 = (k : Int) := by omega
  have hw : IntKind.i64.wrap ((l.length : Int) - 1) = (k : Int) := by rw [hm1]; exact IntWalk.i64_in _ (by omega)
  have k0 : (0 : Int) ≤ (k : Int) := by omega
  have k1 : (k : Int) < (l.length : Int) := by omega
  clear hs h0 hr hm1 hk hm
  go_enter Try.func20, Try.ntmps20
  go_wp2
  go_ret
  exact ⟨rfl, (Keep.refl _).alloc _⟩

set_option maxHeartbeats 2000000 in
theorem rMay_calls (val : Int) (A : Option Addr) (l : List Rng) (c : Nat) (w : World) (hs : Seg w A (l.flatMap rngC)) (hm : l.length ≤ maxLen) :
    Calls Try.prog 17 #[.agg #[.int .i64 val, .slice A l.length c]] w fun e w' => e = .returned (.bool (may l)) ∧ Keep w w' := by
  unfold maxLen at hm
  obtain ⟨wa, hwa⟩ : ∃ wa : World, wa = w.alloc (.cells #[.int .i64 val, .slice A l.length c] 45) := ⟨_, rfl⟩
  have hka : Keep w wa := by rw [hwa]; exact (Keep.refl _).alloc _
  have ba : Blk wa w.heap.size 45 [.int .i64 val, .slice A l.length c] := by rw [hwa]; exact Blk.new w _ _
  have c1 : wa.cell? ⟨w.heap.size, 1, none⟩ = some (.slice A l.length c) := ba.cell 1
  have lt := ba.lt
  go_enter Try.func17, Try.ntmps17
  go_wp2
  rw [← hwa]
  clear hwa
  go_loopw [3, 4] (fun a i wr => ∃ k : Nat, k ≤ l.length ∧ i = .int .i64 k ∧ a = .int .i64 (endK l k) ∧ mayL 0 (l.take k) = true ∧ Keep wa wr) (fun _ i _ => l.length - (intOf i).toNat)
  case atStart => exact ⟨0, Nat.zero_le _, rfl, rfl, rfl, Keep.refl _⟩
  case round =>
    obtain ⟨k, hk, rfl, rfl, hmay, hkeep⟩ := hrel
    have d1 := hkeep.cell c1
    have lt' := Nat.lt_of_lt_of_le lt hkeep.size
    by_cases hlt : k < l.length
    · obtain ⟨r, hr⟩ := get_some hlt
      obtain ⟨b, off, rfl, hb, p0, p1⟩ := rng_get hs (hka.trans hkeep) hr
      have hkk : (k : Int) < (l.length : Int) := by omega
      have hk0 : (0 : Int) ≤ (k : Int) := by omega
      have Hn := Lib.hid (mayL_take' hr)
      have He := Lib.hid (endK_succ hr)
      have Hmay := Lib.hid hmay
      have Hbad : (decide (r.1 < endK l k) = true ∨ decide (r.2 ≤ r.1) = true) → Hid (may l = false) := fun h => Lib.hid (by
        unfold may
        rw [Bool.and_eq_false_iff]; left
        refine mayL_pre (k := k + 1) ?_
        rw [Hn.out]
        rcases h with h | h <;> simp [h])
      have hd : Keep wr wr.drew := (Keep.refl _).drew
      have k1 := fun z : KW wr => z.cell d1
      have kp0 := fun z : KW wr => z.cell p0
      have kp1 := fun z : KW wr => z.cell p1
      have p1d := hd.cell p1
      have d1d := hd.cell d1
      have ltd := Nat.lt_of_lt_of_le lt' hd.size
      obtain ⟨e0, he0⟩ : ∃ e0, endK l k = e0 := ⟨_, rfl⟩
      rw [he0] at Hn Hbad
      rw [he0]
      clear hmay hr hs he0
      by_cases g1 : r.1 < e0
      · have Hb := Hbad (.inl (decide_eq_true g1))
        clear Hbad Hn
        go_wp2_with fail
        refine region_begin (S := fun w' => ∃ z : KW wr, w' = z.val) (by kernel_rfl) ?_
        refine region_take [0, 1, 2, 3, 4, 5, 6, 7, 8, 9, 10, 11, 12, 13, 14, 15, 16, 17, 18, 19, 20, 21, 22] [] 0 (by kernel_rfl) (by kernel_rfl) (InK.mk' hd) ?_
        show wpQuiet _ _ _ _ [_, _, _, _, _, _, _, _, _, _, _, _, _, _, _, _, _, _, _, _, _, _, _] _
        repeat (go_big_quiet_step (fail))
        refine wpQuiet_nil ?_
        refine region_done (by kernel_rfl) ?_
        go_wp2
        go_ret
        exact ⟨by rw [Hb.out]; rfl, hka.trans (hkeep.trans hd)⟩
      · have b1 : decide (r.1 < e0) = false := decide_eq_false g1
        by_cases g2 : r.2 ≤ r.1
        · have Hb := Hbad (.inr (decide_eq_true g2))
          clear Hbad Hn
          go_wp2_with fail
          refine region_begin (S := fun w' => ∃ z : KW wr, w' = z.val) (by kernel_rfl) ?_
          refine region_take [0, 1, 2, 3, 4, 5, 6, 7, 8, 9, 10, 11, 12, 13, 14, 15, 16, 17, 18, 19, 20, 21, 22] [] 0 (by kernel_rfl) (by kernel_rfl) (InK.mk' hd) ?_
          show wpQuiet _ _ _ _ [_, _, _, _, _, _, _, _, _, _, _, _, _, _, _, _, _, _, _, _, _, _, _] _
          repeat (go_big_quiet_step (fail))
          refine wpQuiet_nil ?_
          refine region_done (by kernel_rfl) ?_
          go_wp2
          go_ret
          exact ⟨by rw [Hb.out]; rfl, hka.trans (hkeep.trans hd)⟩
        · have b2 : decide (r.2 ≤ r.1) = false := decide_eq_false g2
          have Hy := Lib.hid (show mayL 0 (l.take (k + 1)) = true by rw [Hn.out, Hmay.out, decide_eq_false g1, decide_eq_false g2]; rfl)
          clear Hbad Hn
          go_wp2_with fail
          refine region_begin (S := fun w' => ∃ z : KW wr, w' = z.val) (by kernel_rfl) ?_
          refine region_take [0, 1, 2, 3, 4, 5, 6, 7, 8, 9, 10, 11, 12, 13, 14, 15, 16, 17, 18, 19, 20, 21, 22] [] 0 (by kernel_rfl) (by kernel_rfl) (InK.mk' hd) ?_
          show wpQuiet _ _ _ _ [_, _, _, _, _, _, _, _, _, _, _, _, _, _, _, _, _, _, _, _, _, _, _] _
          repeat (go_big_quiet_step (fail))
          refine wpQuiet_nil ?_
          refine region_done (by kernel_rfl) ?_
          clear k1 kp0 kp1
          go_wp2
          go_roundw
          case rel => exact ⟨k + 1, hlt, by go_num, by rw [He.out], Hy.out, hkeep.trans hd⟩
          case measure => simp [intOf]; omega
    · have hkl : k = l.length := by omega
      have Hy := Lib.hid (show may l = decide (0 < l.length) by
        rw [hkl, List.take_length] at hmay
        unfold may; rw [hmay]; rfl)
      clear hkl hmay hs
      go_wp2
      go_ret
      refine ⟨?_, hka.trans hkeep⟩
      rw [Hy.out]
      refine congrArg (fun b => Ending.returned (Value.bool b)) (decide_eq_decide.2 ?_)
      omega
end Go.Proofs.Ytigidchignlpmaa
