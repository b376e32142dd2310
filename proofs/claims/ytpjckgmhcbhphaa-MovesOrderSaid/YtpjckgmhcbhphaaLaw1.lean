/-
  The law MovesOrder returns true, whatever the moves.
-/
import Derived.Test.YtpjckgmhcbhphaaAlive
import Derived.Test.YtpjckgmhcbhphaaRef3
namespace Go.Proofs.Ytpjckgmhcbhphaa
open Go Go.RowKit

theorem movesOrder_walk (l : List Mv) (A : Option Addr) (c : Nat) (free : Plc) (w : World) (hs : Seg w A (l.flatMap mvC)) (hwf : ∀ m ∈ l, MvOk m) (hm : l.length ≤ maxLen) :
    Calls Try.prog 3 #[.slice A l.length c, .agg #[.bool free.1, .int .i64 free.2]] w fun e w' => e = .returned (.bool true) ∧ Keep w w' := by
  by_cases hn : l.length ≤ 25
  rotate_left
  · have Hf := Lib.hid (few_no A none none l.length 0 0 c 0 0 (w.alloc (.cells #[.bool free.1, .int .i64 free.2] 24)) hm (by simp [maxLen]) (by simp [maxLen]) (fun h => hn h.1))
    have Ha := Lib.hid (alive_calls (w.alloc (.cells #[.bool free.1, .int .i64 free.2] 24)))
    clear hn
    go_enter Try.func3, Try.ntmps3
    go_wp2_with fail
    refine Hf.out.mono ?_
    rintro e w1 ⟨rfl, rfl⟩
    go_wp2_with fail
    refine Ha.out.mono ?_
    rintro e w2 ⟨rfl, hk⟩
    go_wp2
    go_ret
    exact ⟨rfl, ((Keep.refl _).alloc _).trans hk⟩
  · have Hf := Lib.hid (few_yes A none none l.length 0 0 c 0 0 (w.alloc (.cells #[.bool free.1, .int .i64 free.2] 24)) hn (by omega) (by omega))
    have hblk := Blk.new w 24 [.bool free.1, .int .i64 free.2]
    have hsl : (orderSpec l free).length ≤ 1000000 := by
      have := order_len l free; omega
    go_enter Try.func3, Try.ntmps3
    go_wp2_with fail
    refine Hf.out.mono ?_
    rintro e w1 ⟨rfl, rfl⟩
    go_wp2_with fail
    obtain ⟨w0, hw0⟩ : ∃ w0 : World, w0 = w.alloc (.cells #[.bool free.1, .int .i64 free.2] 24) := ⟨_, rfl⟩
    have hk00 : Keep w w0 := by rw [hw0]; exact (Keep.refl _).alloc _
    have hblk0 : Blk w0 w.heap.size 24 [.bool free.1, .int .i64 free.2] := by rw [hw0]; exact hblk
    rw [← hw0]
    clear hw0 hblk Hf
    have hs0 := hs.keep hk00
    have x0 := fun x : KW w0 => x.cell (v := .bool free.1) (hblk0.cell 0)
    have x1 := fun x : KW w0 => x.cell (v := .int .i64 free.2) (hblk0.cell 1)
    have hkd : Keep w0 w0.drew := Keep.drew (Keep.refl _)
    refine region_begin (S := fun w' => ∃ x : KW w0, w' = x.val) (by kernel_rfl) ?_
    refine region_take [0, 2] [] 16 (by kernel_rfl) (by kernel_rfl) (InK.mk' hkd) ?_
    show wpQuiet _ _ _ _ (_ :: _ :: []) _
    repeat (go_big_quiet_step (fail))
    refine wpQuiet_nil ?_
    refine region_fix (i := 1) (fuel := 15) rfl (by kernel_rfl) (fun K hK => ?_)
    go_simp
    refine (right_calls l A c w0.drew (hs0.keep hkd) hwf (by omega)).mono ?_
    rintro e w1 ⟨rfl, hk1⟩
    have hk01 := hkd.trans hk1
    refine hK _ _ (InK.mk' hk01) ?_
    clear hK K
    refine region_fix (i := 3) (fuel := 14) rfl (by kernel_rfl) (fun K hK => ?_)
    go_simp
    refine (refRight_calls l A c w1 (hs0.keep hk01) (by omega)).mono ?_
    rintro e w2 ⟨rfl, hk2⟩
    have hk02 := hk01.trans hk2
    refine hK _ _ (InK.mk' hk02) ?_
    clear hK K
    refine region_take [4, 5, 6, 7, 9, 10] _ 8 (by kernel_rfl) (by kernel_rfl) (InK.mk' hk02) ?_
    show wpQuiet _ _ _ _ (_ :: _ :: _ :: _ :: _ :: _ :: []) _
    repeat (go_big_quiet_step (fail))
    refine wpQuiet_nil ?_
    refine region_fix (i := 8) (fuel := 7) rfl (by kernel_rfl) (fun K hK => ?_)
    go_simp
    refine (order_calls l A c free w2 (hs0.keep hk02) hwf (by omega)).mono ?_
    rintro e w3 ⟨v3, rfl, hown3, hk3⟩
    have hk03 := hk02.trans hk3
    obtain ⟨A3, c3, rfl, _⟩ := hown3.form
    refine hK _ _ (InK.mk' hk03) ?_
    clear hK K
    refine region_fix (i := 11) (fuel := 6) rfl (by kernel_rfl) (fun K hK => ?_)
    go_simp
    refine (refOrder_calls l A c free w3 (hs0.keep hk03) (by omega)).mono ?_
    rintro e w4 ⟨v4, rfl, hown4, hk4⟩
    have hk04 := hk03.trans hk4
    obtain ⟨A4, c4, rfl, _⟩ := hown4.form
    refine hK _ _ (InK.mk' hk04) ?_
    clear hK K
    have hcs := refSame_calls (orderSpec l free) (orderSpec l free) A3 A4 c3 c4 w4 (hown3.seg.keep hk4) hown4.seg hsl hsl
    rw [show decide (orderSpec l free = orderSpec l free) = true from decide_eq_true rfl] at hcs
    refine region_fix (i := 12) (fuel := 5) rfl (by kernel_rfl) (fun K hK => ?_)
    go_simp
    refine hcs.mono ?_
    rintro e w5 ⟨rfl, hk5⟩
    have hk05 := hk04.trans hk5
    refine hK _ _ (InK.mk' hk05) ?_
    clear hK K
    refine region_take [13, 14] _ 3 (by kernel_rfl) (by kernel_rfl) (InK.mk' hk05) ?_
    show wpQuiet _ _ _ _ (_ :: _ :: []) _
    repeat (go_big_quiet_step (fail))
    refine wpQuiet_nil ?_
    refine region_fix (i := 15) (fuel := 2) rfl (by kernel_rfl) (fun K hK => ?_)
    go_simp
    refine (alive_calls w5).mono ?_
    rintro e w6 ⟨rfl, hk6⟩
    have hk06 := hk05.trans hk6
    refine hK _ _ (InK.mk' hk06) ?_
    clear hK K
    refine region_take [16, 17] _ 0 (by kernel_rfl) (by kernel_rfl) (InK.mk' hk06) ?_
    show wpQuiet _ _ _ _ (_ :: _ :: []) _
    repeat (go_big_quiet_step (fail))
    refine wpQuiet_nil ?_
    refine region_done (by kernel_rfl) ?_
    go_wp2
    go_ret
    exact ⟨rfl, hk00.trans hk06⟩
end Go.Proofs.Ytpjckgmhcbhphaa
