/-
  millwrightlaw49.few and alive.
-/
import Derived.Test.YtpjckgmhcbhphaaOrder
import Derived.Test.YtpjckgmhcbhphaaDo
namespace Go.Proofs.Ytpjckgmhcbhphaa
open Go Go.RowKit

theorem few_yes (A A1 A2 : Option Addr) (n n1 n2 c c1 c2 : Nat) (w : World) (h : n ≤ 25) (h1 : n1 ≤ 40) (h2 : n2 ≤ 60) :
    Calls Try.prog 8 #[.slice A n c, .slice A1 n1 c1, .slice A2 n2 c2] w fun e w' => e = .returned (.bool true) ∧ w = w' := by
  have d2 : decide ((n2 : Int) ≤ 60) = true := decide_eq_true (by omega)
  go_enter Try.func8, Try.ntmps8
  go_wp2
  go_ret
  exact ⟨rfl, rfl⟩

theorem few_no (A A1 A2 : Option Addr) (n n1 n2 c c1 c2 : Nat) (w : World) (hm : n ≤ maxLen) (hm1 : n1 ≤ maxLen) (hm2 : n2 ≤ maxLen) (h : ¬ (n ≤ 25 ∧ n1 ≤ 40 ∧ n2 ≤ 60)) :
    Calls Try.prog 8 #[.slice A n c, .slice A1 n1 c1, .slice A2 n2 c2] w fun e w' => e = .returned (.bool false) ∧ w = w' := by
  unfold maxLen at hm hm1 hm2
  by_cases h0 : n ≤ 25
  · by_cases h1 : n1 ≤ 40
    · have h2 : ¬ n2 ≤ 60 := fun h2 => h ⟨h0, h1, h2⟩
      have d2 : decide ((n2 : Int) ≤ 60) = false := decide_eq_false (by omega)
      clear h
      go_enter Try.func8, Try.ntmps8
      go_wp2
      go_ret
      exact ⟨rfl, rfl⟩
    · have d1 : decide (n1 ≤ 40) = false := decide_eq_false h1
      clear h
      go_enter Try.func8, Try.ntmps8
      go_wp2
      go_ret
      exact ⟨rfl, rfl⟩
  · have d0 : decide (n ≤ 25) = false := decide_eq_false h0
    clear h
    go_enter Try.func8, Try.ntmps8
    go_wp2
    go_ret
    exact ⟨rfl, rfl⟩

def exA : Plc := (false, 0)
def exB : Plc := (false, 1)
def exF : Plc := (true, 0)
def exL : List Mv := [(exA, exB), (exB, exA)]

theorem ex_order : orderSpec exL exF = [(exA, exF), (exB, exA), (exF, exB)] := by decide
theorem ex_one : oneByOneSpec [(exA, exF), (exB, exA), (exF, exB)] [exA, exB] [5, 7] = [7, 5] := by decide
theorem ex_right : rightB exL = true := by decide

theorem alive_calls (w : World) : Calls Try.prog 9 #[] w fun e w' => e = .returned (.bool true) ∧ Keep w w' := by
  go_enter Try.func9, Try.ntmps9
  go_wp2_with fail
  obtain ⟨w3, hw3⟩ : ∃ w3 : World, w3 = ((w.alloc (.cells #[.bool false, .int .i64 0] 24)).alloc (.cells #[.bool false, .int .i64 1] 24)).alloc (.cells #[.bool true, .int .i64 0] 24) := ⟨_, rfl⟩
  have hz3 : w3.heap.size = w.heap.size + 1 + 1 + 1 := by rw [hw3]; simp
  have hkw3 : Keep w w3 := by rw [hw3]; exact (((Keep.refl _).alloc _).alloc _).alloc _
  have ba : Blk w3 w.heap.size 24 [.bool false, .int .i64 0] := by
    rw [hw3]; exact (Blk.new w _ _).keep (((Keep.refl _).alloc _).alloc _)
  have bb : Blk w3 (w.heap.size + 1) 24 [.bool false, .int .i64 1] := by
    rw [hw3]
    have := (Blk.new (w.alloc (.cells #[.bool false, .int .i64 0] 24)) 24 [.bool false, .int .i64 1]).keep ((Keep.refl _).alloc (.cells #[.bool true, .int .i64 0] 24))
    simpa using this
  have bf : Blk w3 (w.heap.size + 1 + 1) 24 [.bool true, .int .i64 0] := by
    rw [hw3]
    have := Blk.new ((w.alloc (.cells #[.bool false, .int .i64 0] 24)).alloc (.cells #[.bool false, .int .i64 1] 24)) 24 [.bool true, .int .i64 0]
    simpa using this
  rw [← hw3, ← hz3]
  clear hw3
  obtain ⟨w4, hw4⟩ : ∃ w4 : World, w4 = w3.alloc (.cells (exL.flatMap mvC).toArray 32) := ⟨_, rfl⟩
  have bl : Blk w4 w3.heap.size 32 (exL.flatMap mvC) := by rw [hw4]; exact Blk.new _ _ _
  have hk34 : Keep w3 w4 := by rw [hw4]; exact (Keep.refl _).alloc _
  have hokL : ∀ m ∈ exL, MvOk m := by intro m hm; simp [exL, exA, exB] at hm; rcases hm with rfl | rfl <;> exact ⟨by decide, by decide⟩
  have hco := order_calls exL (some ⟨w3.heap.size, 0, none⟩) 2 exF w4 (Seg.of_blk bl) hokL (by decide)
  rw [ex_order] at hco
  show Calls Try.prog 13 _ (w3.alloc (.cells (exL.flatMap mvC).toArray 32)) _
  rw [← hw4]
  refine hco.mono ?_
  rintro e w5 ⟨v, rfl, hown, hk45⟩
  obtain ⟨g, c, rfl, hgl, _, hcell⟩ := own_at hown (by decide)
  have hk35 := hk34.trans hk45
  have ba5 := ba.keep hk35
  have bb5 := bb.keep hk35
  have bf5 := bf.keep hk35
  have bl5 := bl.keep hk45
  have a0 : w5.cell? ⟨w.heap.size, 0, none⟩ = some (.bool false) := ba5.cell 0
  have a1 : w5.cell? ⟨w.heap.size, 1, none⟩ = some (.int .i64 0) := ba5.cell 1
  have b0 : w5.cell? ⟨w.heap.size + 1, 0, none⟩ = some (.bool false) := bb5.cell 0
  have b1 : w5.cell? ⟨w.heap.size + 1, 1, none⟩ = some (.int .i64 1) := bb5.cell 1
  have la := ba5.lt
  have lb := bb5.lt
  clear hco hw4 hz3 bl ba bb bf
  go_wp2_with fail
  obtain ⟨w6, hw6⟩ : ∃ w6 : World, w6 = w5.alloc (.cells (([exA, exB] : List Plc).flatMap plcC).toArray 24) := ⟨_, rfl⟩
  have bp : Blk w6 w5.heap.size 24 (([exA, exB] : List Plc).flatMap plcC) := by rw [hw6]; exact Blk.new _ _ _
  have hk56 : Keep w5 w6 := by rw [hw6]; exact (Keep.refl _).alloc _
  have hz6 : w6.heap.size = w5.heap.size + 1 := by rw [hw6]; simp
  obtain ⟨w7, hw7⟩ : ∃ w7 : World, w7 = w6.alloc (.cells (([5, 7] : List Int).flatMap u64C).toArray 39) := ⟨_, rfl⟩
  have bv : Blk w7 w6.heap.size 39 (([5, 7] : List Int).flatMap u64C) := by rw [hw7]; exact Blk.new _ _ _
  have hk67 : Keep w6 w7 := by rw [hw7]; exact (Keep.refl _).alloc _
  have hk57 := hk56.trans hk67
  have hc1 := oneByOne_calls [(exA, exF), (exB, exA), (exF, exB)] [exA, exB] [5, 7] (some ⟨g, 0, none⟩) (some ⟨w5.heap.size, 0, none⟩) (some ⟨w6.heap.size, 0, none⟩) c 2 2 w7
    ((Own.seg hown).keep hk57) ((Seg.of_blk bp).keep hk67) (Seg.of_blk bv)
    (by intro m hm; simp [exA, exB, exF] at hm; rcases hm with rfl | rfl | rfl <;> exact ⟨by decide, by decide⟩) (by intro m hm; simp [exA, exB] at hm; rcases hm with rfl | rfl <;> (show W64 _; decide)) (by decide) (by decide) (by decide)
  rw [ex_one, hz6] at hc1
  show Calls Try.prog 16 _ ((w5.alloc (.cells (([exA, exB] : List Plc).flatMap plcC).toArray 24)).alloc (.cells (([5, 7] : List Int).flatMap u64C).toArray 39)) _
  rw [← hw6, ← hw7]
  refine hc1.mono ?_
  rintro e w8 ⟨v8, rfl, hown8, hk78⟩
  obtain ⟨g8, c8, rfl, hgl8, _, hcell8⟩ := own_at hown8 (by decide)
  have hk58 := hk57.trans hk78
  clear hc1 hw6 hw7 hz6 bp bv a0 a1 b0 b1
  go_wp2_with fail
  have x0 := fun x : KW w8 => x.cell (v := .bool false) (hk58.cell (ba5.cell 0))
  have x1 := fun x : KW w8 => x.cell (v := .int .i64 0) (hk58.cell (ba5.cell 1))
  have x2 := fun x : KW w8 => x.cell (v := .bool false) (hk58.cell (bb5.cell 0))
  have x3 := fun x : KW w8 => x.cell (v := .int .i64 1) (hk58.cell (bb5.cell 1))
  have x4 := fun x : KW w8 => x.cell (v := .bool true) (hk58.cell (bf5.cell 0))
  have x5 := fun x : KW w8 => x.cell (v := .int .i64 0) (hk58.cell (bf5.cell 1))
  have y0 := fun x : KW w8 => x.cell (v := .bool false) (hk58.cell (hcell 0 _ rfl))
  have y1 := fun x : KW w8 => x.cell (v := .int .i64 0) (hk58.cell (hcell 1 _ rfl))
  have y2 := fun x : KW w8 => x.cell (v := .bool true) (hk58.cell (hcell 2 _ rfl))
  have y3 := fun x : KW w8 => x.cell (v := .int .i64 0) (hk58.cell (hcell 3 _ rfl))
  have y8 := fun x : KW w8 => x.cell (v := .bool true) (hk58.cell (hcell 8 _ rfl))
  have y9 := fun x : KW w8 => x.cell (v := .int .i64 0) (hk58.cell (hcell 9 _ rfl))
  have y10 := fun x : KW w8 => x.cell (v := .bool false) (hk58.cell (hcell 10 _ rfl))
  have y11 := fun x : KW w8 => x.cell (v := .int .i64 1) (hk58.cell (hcell 11 _ rfl))
  have z0 := fun x : KW w8 => x.cell (v := .int .u64 7) (hcell8 0 _ rfl)
  have z1 := fun x : KW w8 => x.cell (v := .int .u64 5) (hcell8 1 _ rfl)
  have Hkw := Lib.hid (show Keep w w8 from (hkw3.trans hk35).trans hk58)
  have hcr := right_calls exL (some ⟨w3.heap.size, 0, none⟩) 2 w8.drew ((Seg.of_blk bl5).keep (Keep.drew hk58)) hokL (by decide)
  rw [ex_right] at hcr
  have Hcr := Lib.hid hcr
  clear hcr hcell hcell8 hown hown8 hokL hkw3 hk34 hk45 hk35 hk56 hk67 hk57 hk78 hk58 ba5 bb5 bf5 bl5 la lb hgl hgl8
  refine region_begin (S := fun w' => ∃ x : KW w8, w' = x.val) (by kernel_rfl) ?_
  refine region_take [0] [] 42 (by kernel_rfl) (by kernel_rfl) (InK.mk' (Keep.drew (Keep.refl _))) ?_
  show wpQuiet _ _ _ _ (_ :: []) _
  repeat (go_big_quiet_step (fail))
  refine wpQuiet_nil ?_
  refine region_fix (i := 1) (fuel := 41) rfl (by kernel_rfl) (fun K hK => ?_)
  go_simp
  refine Hcr.out.mono ?_
  rintro e w9 ⟨rfl, hk9⟩
  have hk89 : Keep w8 w9 := Keep.trans (Keep.drew (Keep.refl _)) hk9
  refine hK _ _ (InK.mk' hk89) ?_
  clear hK K
  refine region_take [2, 3, 4, 5, 6, 7, 8, 9, 10, 11, 12, 13, 14, 15, 16, 17, 18, 19, 20, 21, 22, 23, 24, 25, 26, 27, 28, 29, 30, 31, 32, 33, 34, 35, 36, 37, 38, 39, 40, 41, 42] _ 0 (by kernel_rfl) (by kernel_rfl) (InK.mk' hk89) ?_
  show wpQuiet _ _ _ _ (_ :: _ :: _ :: _ :: _ :: _ :: _ :: _ :: _ :: _ :: _ :: _ :: _ :: _ :: _ :: _ :: _ :: _ :: _ :: _ :: _ :: _ :: _ :: _ :: _ :: _ :: _ :: _ :: _ :: _ :: _ :: _ :: _ :: _ :: _ :: _ :: _ :: _ :: _ :: _ :: _ :: []) _
  repeat (go_big_quiet_step (fail))
  refine wpQuiet_nil ?_
  refine region_done (by kernel_rfl) ?_
  go_wp2
  go_ret
  exact ⟨rfl, Hkw.out.trans hk89⟩
end Go.Proofs.Ytpjckgmhcbhphaa
