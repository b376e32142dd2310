/-
  The law MovesBoth returns true, whatever the move.
-/
import Derived.Test.YtpjckgmhcbhphaaAlive
import Derived.Test.YtpjckgmhcbhphaaDo
import Derived.Test.YtpjckgmhcbhphaaSame
namespace Go.Proofs.Ytpjckgmhcbhphaa
open Go Go.RowKit

theorem one_both (x : Mv) (at_ : List Plc) (vals : List Int) : atOnceSpec [x] at_ vals = oneByOneSpec [x] at_ vals := by
  unfold atOnceSpec oneByOneSpec
  refine List.map_congr_left fun p _ => ?_
  simp only [parS, seqS, List.foldl_cons, List.foldl_nil, upd]
  by_cases h : x.2 = p
  · rw [if_pos h, if_pos h.symm]
  · rw [if_neg h, if_neg (fun h' => h h'.symm)]
theorem none_both (at_ : List Plc) (vals : List Int) : atOnceSpec [] at_ vals = oneByOneSpec [] at_ vals := rfl
theorem oneByOne_len (l : List Mv) (at_ : List Plc) (vals : List Int) : (oneByOneSpec l at_ vals).length = at_.length := by simp [oneByOneSpec]
theorem atOnce_len (l : List Mv) (at_ : List Plc) (vals : List Int) : (atOnceSpec l at_ vals).length = at_.length := by simp [atOnceSpec]

theorem movesBoth_walk (x : Mv) (at_ : List Plc) (vals : List Int) (A1 A2 : Option Addr) (c1 c2 : Nat) (w : World) (ha : Seg w A1 (at_.flatMap plcC)) (hv : Seg w A2 (vals.flatMap u64C))
    (hx : MvOk x) (hok : ∀ p ∈ at_, PlOk p) (hm1 : at_.length ≤ maxLen) (hm2 : vals.length ≤ maxLen) :
    Calls Try.prog 7 #[.agg #[.bool x.1.1, .int .i64 x.1.2, .bool x.2.1, .int .i64 x.2.2], .slice A1 at_.length c1, .slice A2 vals.length c2] w fun e w' => e = .returned (.bool true) ∧ Keep w w' := by
  obtain ⟨w0, hw0⟩ : ∃ w0 : World, w0 = w.alloc (.cells (mvC x).toArray 32) := ⟨_, rfl⟩
  have hk0 : Keep w w0 := by rw [hw0]; exact (Keep.refl _).alloc _
  have hb0 : Blk w0 w.heap.size 32 (mvC x) := by rw [hw0]; exact Blk.new _ _ _
  by_cases hn : at_.length ≤ 40 ∧ vals.length ≤ 60
  rotate_left
  · have Hf := Lib.hid (few_no none A1 A2 0 at_.length vals.length 0 c1 c2 w0 (by simp [maxLen]) hm1 hm2 (fun h => hn h.2))
    have Ha := Lib.hid (alive_calls w0)
    clear hn
    go_enter Try.func7, Try.ntmps7
    go_wp2_with fail
    show Calls Try.prog _ _ (w.alloc (.cells (mvC x).toArray 32)) _
    rw [← hw0]
    clear hw0
    refine Hf.out.mono ?_
    rintro e w1 ⟨rfl, rfl⟩
    go_wp2_with fail
    refine Ha.out.mono ?_
    rintro e w2 ⟨rfl, hk⟩
    go_wp2
    go_ret
    exact ⟨rfl, hk0.trans hk⟩
  · obtain ⟨hn1, hn2⟩ := hn
    have Hf := Lib.hid (few_yes none A1 A2 0 at_.length vals.length 0 c1 c2 w0 (by omega) hn1 hn2)
    have x0 : w0.cell? ⟨w.heap.size, 0, none⟩ = some (.bool x.1.1) := hb0.cell 0
    have x1 : w0.cell? ⟨w.heap.size, 1, none⟩ = some (.int .i64 x.1.2) := hb0.cell 1
    have x2 : w0.cell? ⟨w.heap.size, 2, none⟩ = some (.bool x.2.1) := hb0.cell 2
    have x3 : w0.cell? ⟨w.heap.size, 3, none⟩ = some (.int .i64 x.2.2) := hb0.cell 3
    have ha0 := ha.keep hk0
    have hv0 := hv.keep hk0
    have hll : ((at_.length : Int) != (at_.length : Int)) = false := by simp
    have hlo := oneByOne_len [] at_ vals
    have hla := atOnce_len [] at_ vals
    have hlo1 := oneByOne_len [x] at_ vals
    have hla1 := atOnce_len [x] at_ vals
    go_enter Try.func7, Try.ntmps7
    go_wp2_with fail
    show Calls Try.prog _ _ (w.alloc (.cells (mvC x).toArray 32)) _
    rw [← hw0]
    refine Hf.out.mono ?_
    rintro e w1 ⟨rfl, rfl⟩
    clear Hf hw0
    go_wp2_with fail
    obtain ⟨w1, hw1⟩ : ∃ w1 : World, w1 = w0.alloc (.cells (([x] : List Mv).flatMap mvC).toArray 32) := ⟨_, rfl⟩
    have hk1 : Keep w0 w1 := by rw [hw1]; exact (Keep.refl _).alloc _
    have bl : Blk w1 w0.heap.size 32 (([x] : List Mv).flatMap mvC) := by rw [hw1]; exact Blk.new _ _ _
    show Calls Try.prog 18 _ (w0.alloc (.cells (([x] : List Mv).flatMap mvC).toArray 32)) _
    rw [← hw1]
    clear hw1
    have ha1 := ha0.keep hk1
    have hv1 := hv0.keep hk1
    refine (atOnce_calls [] at_ vals none A1 A2 0 c1 c2 w1 (Seg.nil _ _) ha1 hv1 (by simp) hok (by simp) (by omega) (by omega)).mono ?_
    rintro e w2 ⟨v2, rfl, hown2, hk2⟩
    obtain ⟨A3, c3, rfl, _⟩ := hown2.form
    have hs2 := hown2.seg
    rw [hla]
    clear hown2
    go_wp2_with fail
    have hk12 := hk2
    refine (oneByOne_calls [] at_ vals none A1 A2 0 c1 c2 w2 (Seg.nil _ _) (ha1.keep hk12) (hv1.keep hk12) (by simp) hok (by simp) (by omega) (by omega)).mono ?_
    rintro e w3 ⟨v3, rfl, hown3, hk3⟩
    obtain ⟨A4, c4, rfl, _⟩ := hown3.form
    have hk13 := hk12.trans hk3
    have hsame := same_calls (oneByOneSpec [] at_ vals) A3 A4 c3 c4 w3 (by rw [← none_both]; exact hs2.keep hk3) hown3.seg (by omega)
    rw [hlo] at hsame ⊢
    clear hown3
    go_wp2_with fail
    refine hsame.mono ?_
    rintro e w4 ⟨rfl, hk4⟩
    have hk14 := hk13.trans hk4
    clear hsame
    go_wp2_with fail
    refine (oneByOne_calls [x] at_ vals (some ⟨w0.heap.size, 0, none⟩) A1 A2 1 c1 c2 w4 ((Seg.of_blk bl).keep hk14) (ha1.keep hk14) (hv1.keep hk14) (by simpa using hx) hok (by simp) (by omega) (by omega)).mono ?_
    rintro e w5 ⟨v5, rfl, hown5, hk5⟩
    obtain ⟨A5, c5, rfl, _⟩ := hown5.form
    have hk15 := hk14.trans hk5
    go_wp2_with fail
    refine (atOnce_calls [x] at_ vals (some ⟨w0.heap.size, 0, none⟩) A1 A2 1 c1 c2 w5 ((Seg.of_blk bl).keep hk15) (ha1.keep hk15) (hv1.keep hk15) (by simpa using hx) hok (by simp) (by omega) (by omega)).mono ?_
    rintro e w6 ⟨v6, rfl, hown6, hk6⟩
    obtain ⟨A6, c6, rfl, _⟩ := hown6.form
    have hk16 := hk15.trans hk6
    have hsame := same_calls (oneByOneSpec [x] at_ vals) A5 A6 c5 c6 w6 (hown5.seg.keep hk6) (by rw [← one_both]; exact hown6.seg) (by omega)
    rw [hlo1] at hsame
    rw [hla1]
    clear hown5 hown6
    go_wp2_with fail
    refine hsame.mono ?_
    rintro e w7 ⟨rfl, hk7⟩
    have hk17 := hk16.trans hk7
    clear hsame
    go_wp2_with fail
    refine (alive_calls w7).mono ?_
    rintro e w8 ⟨rfl, hk8⟩
    go_wp2
    go_ret
    exact ⟨rfl, ((hk0.trans hk1).trans hk17).trans hk8⟩
end Go.Proofs.Ytpjckgmhcbhphaa
