/-
  The worked example of the chapter holds.
-/
import Derived.Test.YtjpmiejgcnfiiaaLOf
import Derived.Test.YtjpmiejgcnfiiaaLMost
import Derived.Test.YtjpmiejgcnfiiaaLSame
import Derived.Test.YtjpmiejgcnfiiaaLInts
import Derived.Test.YtjpmiejgcnfiiaaLRefMost
set_option linter.unusedVariables false
set_option linter.unusedSimpArgs false
namespace Go.Proofs.Ytjpmiejgcnfiiaa
open Go Go.RowKit

set_option maxRecDepth 100000
/-- The example, laid. -/
theorem alive_form (w : World) (s : Nat) (hs : w.heap.size = s) : ∃ W, ((((((((((w.alloc (.cells #[.int .i64 1] 29)).alloc (.cells #[.int .i64 1, .int .i64 1, .int .i64 1] 29)).alloc (.cells #[.int .i64 0] 3)).alloc (.cells #[.int .i64 1] 3)).alloc (.cells #[.int .i64 0, .int .i64 1] 3)).alloc (.cells #[.int .i64 2] 3)).alloc (.cells #[.int .i64 0, .int .i64 0, .int .i64 0, .int .i64 0, .int .u64 0, .slice none 0 0, .slice (some ⟨s + 1 + 1, 0, none⟩) 1 1, .int .i64 1, .int .i64 0, .int .i64 0, .int .i64 0, .int .u64 5, .slice none 0 0, .slice (some ⟨s + 1 + 1 + 1, 0, none⟩) 1 1, .int .i64 4, .int .i64 106, .int .i64 0, .int .i64 0, .int .u64 0, .slice (some ⟨s + 1 + 1 + 1 + 1, 0, none⟩) 2 2, .slice (some ⟨s + 1 + 1 + 1 + 1 + 1, 0, none⟩) 1 1] 37)).alloc (.cells #[.int .i64 2] 3)).alloc (.cells #[.slice none 0 0, .slice (some ⟨s + 1 + 1 + 1 + 1 + 1 + 1, 0, none⟩) 3 3, .int .i64 3, .int .i64 0, .slice (some ⟨s + 1 + 1 + 1 + 1 + 1 + 1 + 1, 0, none⟩) 1 1, .slice none 0 0, .int .i64 0] 44)).alloc (.cells #[.slice (some ⟨s, 0, none⟩) 1 1, .slice (some ⟨s, 0, none⟩) 1 1, .slice (some ⟨s + 1, 0, none⟩) 3 3, .slice (some ⟨s + 1 + 1 + 1 + 1 + 1 + 1 + 1 + 1, 0, none⟩) 1 1] 47)) = W ∧ Keep w W ∧ W.heap.size = s + 1 + 1 + 1 + 1 + 1 + 1 + 1 + 1 + 1 + 1 ∧
    Blk W (s) 29 [.int .i64 1] ∧
    Blk W (s + 1) 29 [.int .i64 1, .int .i64 1, .int .i64 1] ∧
    Blk W (s + 1 + 1) 3 [.int .i64 0] ∧
    Blk W (s + 1 + 1 + 1) 3 [.int .i64 1] ∧
    Blk W (s + 1 + 1 + 1 + 1) 3 [.int .i64 0, .int .i64 1] ∧
    Blk W (s + 1 + 1 + 1 + 1 + 1) 3 [.int .i64 2] ∧
    Blk W (s + 1 + 1 + 1 + 1 + 1 + 1) 37 [.int .i64 0, .int .i64 0, .int .i64 0, .int .i64 0, .int .u64 0, .slice none 0 0, .slice (some ⟨s + 1 + 1, 0, none⟩) 1 1, .int .i64 1, .int .i64 0, .int .i64 0, .int .i64 0, .int .u64 5, .slice none 0 0, .slice (some ⟨s + 1 + 1 + 1, 0, none⟩) 1 1, .int .i64 4, .int .i64 106, .int .i64 0, .int .i64 0, .int .u64 0, .slice (some ⟨s + 1 + 1 + 1 + 1, 0, none⟩) 2 2, .slice (some ⟨s + 1 + 1 + 1 + 1 + 1, 0, none⟩) 1 1] ∧
    Blk W (s + 1 + 1 + 1 + 1 + 1 + 1 + 1) 3 [.int .i64 2] ∧
    Blk W (s + 1 + 1 + 1 + 1 + 1 + 1 + 1 + 1) 44 [.slice none 0 0, .slice (some ⟨s + 1 + 1 + 1 + 1 + 1 + 1, 0, none⟩) 3 3, .int .i64 3, .int .i64 0, .slice (some ⟨s + 1 + 1 + 1 + 1 + 1 + 1 + 1, 0, none⟩) 1 1, .slice none 0 0, .int .i64 0] ∧
    Blk W (s + 1 + 1 + 1 + 1 + 1 + 1 + 1 + 1 + 1) 47 [.slice (some ⟨s, 0, none⟩) 1 1, .slice (some ⟨s, 0, none⟩) 1 1, .slice (some ⟨s + 1, 0, none⟩) 3 3, .slice (some ⟨s + 1 + 1 + 1 + 1 + 1 + 1 + 1 + 1, 0, none⟩) 1 1] := by
  obtain ⟨w1, h1⟩ : ∃ w1, w.alloc (.cells #[.int .i64 1] 29) = w1 := ⟨_, rfl⟩
  have k1 : Keep w w1 := by rw [← h1]; exact (Keep.refl _).alloc _
  have b1 : Blk w1 (s) 29 [.int .i64 1] := by have := Blk.new w 29 [.int .i64 1]; rw [hs] at this; rw [← h1]; exact this
  have s1 : w1.heap.size = s + 1 := by rw [← h1]; simp [hs]
  obtain ⟨w2, h2⟩ : ∃ w2, w1.alloc (.cells #[.int .i64 1, .int .i64 1, .int .i64 1] 29) = w2 := ⟨_, rfl⟩
  have k2 : Keep w1 w2 := by rw [← h2]; exact (Keep.refl _).alloc _
  have b2 : Blk w2 (s + 1) 29 [.int .i64 1, .int .i64 1, .int .i64 1] := by have := Blk.new w1 29 [.int .i64 1, .int .i64 1, .int .i64 1]; rw [s1] at this; rw [← h2]; exact this
  have s2 : w2.heap.size = s + 1 + 1 := by rw [← h2]; simp [s1]
  obtain ⟨w3, h3⟩ : ∃ w3, w2.alloc (.cells #[.int .i64 0] 3) = w3 := ⟨_, rfl⟩
  have k3 : Keep w2 w3 := by rw [← h3]; exact (Keep.refl _).alloc _
  have b3 : Blk w3 (s + 1 + 1) 3 [.int .i64 0] := by have := Blk.new w2 3 [.int .i64 0]; rw [s2] at this; rw [← h3]; exact this
  have s3 : w3.heap.size = s + 1 + 1 + 1 := by rw [← h3]; simp [s2]
  obtain ⟨w4, h4⟩ : ∃ w4, w3.alloc (.cells #[.int .i64 1] 3) = w4 := ⟨_, rfl⟩
  have k4 : Keep w3 w4 := by rw [← h4]; exact (Keep.refl _).alloc _
  have b4 : Blk w4 (s + 1 + 1 + 1) 3 [.int .i64 1] := by have := Blk.new w3 3 [.int .i64 1]; rw [s3] at this; rw [← h4]; exact this
  have s4 : w4.heap.size = s + 1 + 1 + 1 + 1 := by rw [← h4]; simp [s3]
  obtain ⟨w5, h5⟩ : ∃ w5, w4.alloc (.cells #[.int .i64 0, .int .i64 1] 3) = w5 := ⟨_, rfl⟩
  have k5 : Keep w4 w5 := by rw [← h5]; exact (Keep.refl _).alloc _
  have b5 : Blk w5 (s + 1 + 1 + 1 + 1) 3 [.int .i64 0, .int .i64 1] := by have := Blk.new w4 3 [.int .i64 0, .int .i64 1]; rw [s4] at this; rw [← h5]; exact this
  have s5 : w5.heap.size = s + 1 + 1 + 1 + 1 + 1 := by rw [← h5]; simp [s4]
  obtain ⟨w6, h6⟩ : ∃ w6, w5.alloc (.cells #[.int .i64 2] 3) = w6 := ⟨_, rfl⟩
  have k6 : Keep w5 w6 := by rw [← h6]; exact (Keep.refl _).alloc _
  have b6 : Blk w6 (s + 1 + 1 + 1 + 1 + 1) 3 [.int .i64 2] := by have := Blk.new w5 3 [.int .i64 2]; rw [s5] at this; rw [← h6]; exact this
  have s6 : w6.heap.size = s + 1 + 1 + 1 + 1 + 1 + 1 := by rw [← h6]; simp [s5]
  obtain ⟨w7, h7⟩ : ∃ w7, w6.alloc (.cells #[.int .i64 0, .int .i64 0, .int .i64 0, .int .i64 0, .int .u64 0, .slice none 0 0, .slice (some ⟨s + 1 + 1, 0, none⟩) 1 1, .int .i64 1, .int .i64 0, .int .i64 0, .int .i64 0, .int .u64 5, .slice none 0 0, .slice (some ⟨s + 1 + 1 + 1, 0, none⟩) 1 1, .int .i64 4, .int .i64 106, .int .i64 0, .int .i64 0, .int .u64 0, .slice (some ⟨s + 1 + 1 + 1 + 1, 0, none⟩) 2 2, .slice (some ⟨s + 1 + 1 + 1 + 1 + 1, 0, none⟩) 1 1] 37) = w7 := ⟨_, rfl⟩
  have k7 : Keep w6 w7 := by rw [← h7]; exact (Keep.refl _).alloc _
  have b7 : Blk w7 (s + 1 + 1 + 1 + 1 + 1 + 1) 37 [.int .i64 0, .int .i64 0, .int .i64 0, .int .i64 0, .int .u64 0, .slice none 0 0, .slice (some ⟨s + 1 + 1, 0, none⟩) 1 1, .int .i64 1, .int .i64 0, .int .i64 0, .int .i64 0, .int .u64 5, .slice none 0 0, .slice (some ⟨s + 1 + 1 + 1, 0, none⟩) 1 1, .int .i64 4, .int .i64 106, .int .i64 0, .int .i64 0, .int .u64 0, .slice (some ⟨s + 1 + 1 + 1 + 1, 0, none⟩) 2 2, .slice (some ⟨s + 1 + 1 + 1 + 1 + 1, 0, none⟩) 1 1] := by have := Blk.new w6 37 [.int .i64 0, .int .i64 0, .int .i64 0, .int .i64 0, .int .u64 0, .slice none 0 0, .slice (some ⟨s + 1 + 1, 0, none⟩) 1 1, .int .i64 1, .int .i64 0, .int .i64 0, .int .i64 0, .int .u64 5, .slice none 0 0, .slice (some ⟨s + 1 + 1 + 1, 0, none⟩) 1 1, .int .i64 4, .int .i64 106, .int .i64 0, .int .i64 0, .int .u64 0, .slice (some ⟨s + 1 + 1 + 1 + 1, 0, none⟩) 2 2, .slice (some ⟨s + 1 + 1 + 1 + 1 + 1, 0, none⟩) 1 1]; rw [s6] at this; rw [← h7]; exact this
  have s7 : w7.heap.size = s + 1 + 1 + 1 + 1 + 1 + 1 + 1 := by rw [← h7]; simp [s6]
  obtain ⟨w8, h8⟩ : ∃ w8, w7.alloc (.cells #[.int .i64 2] 3) = w8 := ⟨_, rfl⟩
  have k8 : Keep w7 w8 := by rw [← h8]; exact (Keep.refl _).alloc _
  have b8 : Blk w8 (s + 1 + 1 + 1 + 1 + 1 + 1 + 1) 3 [.int .i64 2] := by have := Blk.new w7 3 [.int .i64 2]; rw [s7] at this; rw [← h8]; exact this
  have s8 : w8.heap.size = s + 1 + 1 + 1 + 1 + 1 + 1 + 1 + 1 := by rw [← h8]; simp [s7]
  obtain ⟨w9, h9⟩ : ∃ w9, w8.alloc (.cells #[.slice none 0 0, .slice (some ⟨s + 1 + 1 + 1 + 1 + 1 + 1, 0, none⟩) 3 3, .int .i64 3, .int .i64 0, .slice (some ⟨s + 1 + 1 + 1 + 1 + 1 + 1 + 1, 0, none⟩) 1 1, .slice none 0 0, .int .i64 0] 44) = w9 := ⟨_, rfl⟩
  have k9 : Keep w8 w9 := by rw [← h9]; exact (Keep.refl _).alloc _
  have b9 : Blk w9 (s + 1 + 1 + 1 + 1 + 1 + 1 + 1 + 1) 44 [.slice none 0 0, .slice (some ⟨s + 1 + 1 + 1 + 1 + 1 + 1, 0, none⟩) 3 3, .int .i64 3, .int .i64 0, .slice (some ⟨s + 1 + 1 + 1 + 1 + 1 + 1 + 1, 0, none⟩) 1 1, .slice none 0 0, .int .i64 0] := by have := Blk.new w8 44 [.slice none 0 0, .slice (some ⟨s + 1 + 1 + 1 + 1 + 1 + 1, 0, none⟩) 3 3, .int .i64 3, .int .i64 0, .slice (some ⟨s + 1 + 1 + 1 + 1 + 1 + 1 + 1, 0, none⟩) 1 1, .slice none 0 0, .int .i64 0]; rw [s8] at this; rw [← h9]; exact this
  have s9 : w9.heap.size = s + 1 + 1 + 1 + 1 + 1 + 1 + 1 + 1 + 1 := by rw [← h9]; simp [s8]
  obtain ⟨w10, h10⟩ : ∃ w10, w9.alloc (.cells #[.slice (some ⟨s, 0, none⟩) 1 1, .slice (some ⟨s, 0, none⟩) 1 1, .slice (some ⟨s + 1, 0, none⟩) 3 3, .slice (some ⟨s + 1 + 1 + 1 + 1 + 1 + 1 + 1 + 1, 0, none⟩) 1 1] 47) = w10 := ⟨_, rfl⟩
  have k10 : Keep w9 w10 := by rw [← h10]; exact (Keep.refl _).alloc _
  have b10 : Blk w10 (s + 1 + 1 + 1 + 1 + 1 + 1 + 1 + 1 + 1) 47 [.slice (some ⟨s, 0, none⟩) 1 1, .slice (some ⟨s, 0, none⟩) 1 1, .slice (some ⟨s + 1, 0, none⟩) 3 3, .slice (some ⟨s + 1 + 1 + 1 + 1 + 1 + 1 + 1 + 1, 0, none⟩) 1 1] := by have := Blk.new w9 47 [.slice (some ⟨s, 0, none⟩) 1 1, .slice (some ⟨s, 0, none⟩) 1 1, .slice (some ⟨s + 1, 0, none⟩) 3 3, .slice (some ⟨s + 1 + 1 + 1 + 1 + 1 + 1 + 1 + 1, 0, none⟩) 1 1]; rw [s9] at this; rw [← h10]; exact this
  have s10 : w10.heap.size = s + 1 + 1 + 1 + 1 + 1 + 1 + 1 + 1 + 1 + 1 := by rw [← h10]; simp [s9]
  have q10 := Keep.refl w10
  have q9 := k10.trans q10
  have q8 := k9.trans q9
  have q7 := k8.trans q8
  have q6 := k7.trans q7
  have q5 := k6.trans q6
  have q4 := k5.trans q5
  have q3 := k4.trans q4
  have q2 := k3.trans q3
  have q1 := k2.trans q2
  exact ⟨w10, by rw [h1, h2, h3, h4, h5, h6, h7, h8, h9, h10], k1.trans q1, s10, b1.keep q1, b2.keep q2, b3.keep q3, b4.keep q4, b5.keep q5, b6.keep q6, b7.keep q7, b8.keep q8, b9.keep q9, b10.keep q10⟩
/-- What is wanted of it, laid. -/
theorem alive_want (w : World) (s : Nat) (hs : w.heap.size = s) : ∃ W, ((((w.alloc (.cells #[.int .i64 3, .int .i64 7] 50)).alloc (.cells #[.int .i64 5, .int .i64 7] 50)).alloc (.cells #[.int .i64 7, .int .i64 9] 50)).alloc (.cells #[.int .i64 0, .slice (some ⟨s, 0, none⟩) 1 1, .int .i64 1, .slice (some ⟨s + 1, 0, none⟩) 1 1, .int .i64 2, .slice (some ⟨s + 1 + 1, 0, none⟩) 1 1] 28)) = W ∧ Keep w W ∧ W.heap.size = s + 1 + 1 + 1 + 1 ∧
    Blk W (s) 50 [.int .i64 3, .int .i64 7] ∧
    Blk W (s + 1) 50 [.int .i64 5, .int .i64 7] ∧
    Blk W (s + 1 + 1) 50 [.int .i64 7, .int .i64 9] ∧
    Blk W (s + 1 + 1 + 1) 28 [.int .i64 0, .slice (some ⟨s, 0, none⟩) 1 1, .int .i64 1, .slice (some ⟨s + 1, 0, none⟩) 1 1, .int .i64 2, .slice (some ⟨s + 1 + 1, 0, none⟩) 1 1] := by
  obtain ⟨w1, h1⟩ : ∃ w1, w.alloc (.cells #[.int .i64 3, .int .i64 7] 50) = w1 := ⟨_, rfl⟩
  have k1 : Keep w w1 := by rw [← h1]; exact (Keep.refl _).alloc _
  have b1 : Blk w1 (s) 50 [.int .i64 3, .int .i64 7] := by have := Blk.new w 50 [.int .i64 3, .int .i64 7]; rw [hs] at this; rw [← h1]; exact this
  have s1 : w1.heap.size = s + 1 := by rw [← h1]; simp [hs]
  obtain ⟨w2, h2⟩ : ∃ w2, w1.alloc (.cells #[.int .i64 5, .int .i64 7] 50) = w2 := ⟨_, rfl⟩
  have k2 : Keep w1 w2 := by rw [← h2]; exact (Keep.refl _).alloc _
  have b2 : Blk w2 (s + 1) 50 [.int .i64 5, .int .i64 7] := by have := Blk.new w1 50 [.int .i64 5, .int .i64 7]; rw [s1] at this; rw [← h2]; exact this
  have s2 : w2.heap.size = s + 1 + 1 := by rw [← h2]; simp [s1]
  obtain ⟨w3, h3⟩ : ∃ w3, w2.alloc (.cells #[.int .i64 7, .int .i64 9] 50) = w3 := ⟨_, rfl⟩
  have k3 : Keep w2 w3 := by rw [← h3]; exact (Keep.refl _).alloc _
  have b3 : Blk w3 (s + 1 + 1) 50 [.int .i64 7, .int .i64 9] := by have := Blk.new w2 50 [.int .i64 7, .int .i64 9]; rw [s2] at this; rw [← h3]; exact this
  have s3 : w3.heap.size = s + 1 + 1 + 1 := by rw [← h3]; simp [s2]
  obtain ⟨w4, h4⟩ : ∃ w4, w3.alloc (.cells #[.int .i64 0, .slice (some ⟨s, 0, none⟩) 1 1, .int .i64 1, .slice (some ⟨s + 1, 0, none⟩) 1 1, .int .i64 2, .slice (some ⟨s + 1 + 1, 0, none⟩) 1 1] 28) = w4 := ⟨_, rfl⟩
  have k4 : Keep w3 w4 := by rw [← h4]; exact (Keep.refl _).alloc _
  have b4 : Blk w4 (s + 1 + 1 + 1) 28 [.int .i64 0, .slice (some ⟨s, 0, none⟩) 1 1, .int .i64 1, .slice (some ⟨s + 1, 0, none⟩) 1 1, .int .i64 2, .slice (some ⟨s + 1 + 1, 0, none⟩) 1 1] := by have := Blk.new w3 28 [.int .i64 0, .slice (some ⟨s, 0, none⟩) 1 1, .int .i64 1, .slice (some ⟨s + 1, 0, none⟩) 1 1, .int .i64 2, .slice (some ⟨s + 1 + 1, 0, none⟩) 1 1]; rw [s3] at this; rw [← h4]; exact this
  have s4 : w4.heap.size = s + 1 + 1 + 1 + 1 := by rw [← h4]; simp [s3]
  have q4 := Keep.refl w4
  have q3 := k4.trans q4
  have q2 := k3.trans q3
  have q1 := k2.trans q2
  exact ⟨w4, by rw [h1, h2, h3, h4], k1.trans q1, s4, b1.keep q1, b2.keep q2, b3.keep q3, b4.keep q4⟩

def alB (s : Nat) : BkD := ⟨⟨none, [], 0⟩, ⟨some ⟨s + 1 + 1 + 1 + 1 + 1 + 1, 0, none⟩, [⟨0, 0, 0, 0, 0, ⟨none, [], 0⟩, ⟨some ⟨s + 1 + 1, 0, none⟩, [0], 1⟩⟩, ⟨1, 0, 0, 0, 5, ⟨none, [], 0⟩, ⟨some ⟨s + 1 + 1 + 1, 0, none⟩, [1], 1⟩⟩, ⟨4, 106, 0, 0, 0, ⟨some ⟨s + 1 + 1 + 1 + 1, 0, none⟩, [0, 1], 2⟩, ⟨some ⟨s + 1 + 1 + 1 + 1 + 1, 0, none⟩, [2], 1⟩⟩], 3⟩, 3, 0, ⟨some ⟨s + 1 + 1 + 1 + 1 + 1 + 1 + 1, 0, none⟩, [2], 1⟩, ⟨none, [], 0⟩, 0⟩
def alF (s : Nat) : SsD := ⟨⟨some ⟨s, 0, none⟩, [1], 1⟩, ⟨some ⟨s, 0, none⟩, [1], 1⟩, ⟨some ⟨s + 1, 0, none⟩, [1, 1, 1], 3⟩, ⟨some ⟨s + 1 + 1 + 1 + 1 + 1 + 1 + 1 + 1, 0, none⟩, [alB s], 1⟩⟩
def alW (s : Nat) : List LvD := [⟨0, some ⟨s, 0, none⟩, [(3, 7)], 1⟩, ⟨1, some ⟨s + 1, 0, none⟩, [(5, 7)], 1⟩, ⟨2, some ⟨s + 1 + 1, 0, none⟩, [(7, 9)], 1⟩]
theorem num_of {W : World} {b : Nat} {t : TypeId} {l : List Int} {c : Nat} (h : Blk W b t (l.map (Value.int .i64))) (hl : l.length ≤ 1000) : NumOk W ⟨some ⟨b, 0, none⟩, l, c⟩ :=
  ⟨by show Seg W _ (l.flatMap intC); rw [flat_int]; exact Seg.of_blk h, by show l.length ≤ maxLen; unfold maxLen; omega⟩
theorem num_nil (W : World) : NumOk W ⟨none, [], 0⟩ := ⟨Seg.nil _ _, by show 0 ≤ maxLen; omega⟩
theorem alF_ok {W : World} {s : Nat}
    (h1 : Blk W (s + 1) 29 [.int .i64 1, .int .i64 1, .int .i64 1])
    (h2 : Blk W (s + 1 + 1) 3 [.int .i64 0])
    (h3 : Blk W (s + 1 + 1 + 1) 3 [.int .i64 1])
    (h4 : Blk W (s + 1 + 1 + 1 + 1) 3 [.int .i64 0, .int .i64 1])
    (h5 : Blk W (s + 1 + 1 + 1 + 1 + 1) 3 [.int .i64 2])
    (h6 : Blk W (s + 1 + 1 + 1 + 1 + 1 + 1) 37 [.int .i64 0, .int .i64 0, .int .i64 0, .int .i64 0, .int .u64 0, .slice none 0 0, .slice (some ⟨s + 1 + 1, 0, none⟩) 1 1, .int .i64 1, .int .i64 0, .int .i64 0, .int .i64 0, .int .u64 5, .slice none 0 0, .slice (some ⟨s + 1 + 1 + 1, 0, none⟩) 1 1, .int .i64 4, .int .i64 106, .int .i64 0, .int .i64 0, .int .u64 0, .slice (some ⟨s + 1 + 1 + 1 + 1, 0, none⟩) 2 2, .slice (some ⟨s + 1 + 1 + 1 + 1 + 1, 0, none⟩) 1 1])
    (h7 : Blk W (s + 1 + 1 + 1 + 1 + 1 + 1 + 1) 3 [.int .i64 2])
    (h8 : Blk W (s + 1 + 1 + 1 + 1 + 1 + 1 + 1 + 1) 44 [.slice none 0 0, .slice (some ⟨s + 1 + 1 + 1 + 1 + 1 + 1, 0, none⟩) 3 3, .int .i64 3, .int .i64 0, .slice (some ⟨s + 1 + 1 + 1 + 1 + 1 + 1 + 1, 0, none⟩) 1 1, .slice none 0 0, .int .i64 0])
    : SsOk W (alF s) := by
  have hi0 : InOk W ⟨0, 0, 0, 0, 0, ⟨none, [], 0⟩, ⟨some ⟨s + 1 + 1, 0, none⟩, [0], 1⟩⟩ := ⟨num_nil W, num_of (l := [0]) h2 (by simp)⟩
  have hi1 : InOk W ⟨1, 0, 0, 0, 5, ⟨none, [], 0⟩, ⟨some ⟨s + 1 + 1 + 1, 0, none⟩, [1], 1⟩⟩ := ⟨num_nil W, num_of (l := [1]) h3 (by simp)⟩
  have hi2 : InOk W ⟨4, 106, 0, 0, 0, ⟨some ⟨s + 1 + 1 + 1 + 1, 0, none⟩, [0, 1], 2⟩, ⟨some ⟨s + 1 + 1 + 1 + 1 + 1, 0, none⟩, [2], 1⟩⟩ := ⟨num_of (l := [0, 1]) h4 (by simp), num_of (l := [2]) h5 (by simp)⟩
  have hb : BkOk W (alB s) := ⟨num_nil W, Seg.of_blk h6, fun i hi => by
    simp only [alB, List.mem_cons, List.not_mem_nil, or_false] at hi
    rcases hi with rfl | rfl | rfl
    · exact hi0
    · exact hi1
    · exact hi2, by show 3 ≤ maxLen; unfold maxLen; omega, num_of (l := [2]) h7 (by simp), Seg.nil _ _, fun e he => by simp [alB] at he, by show 0 ≤ maxLen; omega⟩
  exact ⟨num_of (l := [1, 1, 1]) h1 (by simp), Seg.of_blk h8, fun b hb' => by
    simp only [alF, List.mem_cons, List.not_mem_nil, or_false] at hb'
    subst hb'; exact hb, by show 1 ≤ maxLen; unfold maxLen; omega⟩
theorem alF_small (s : Nat) : Small (alF s) where
  blocks := by simp [alF]
  ins := fun y hy => by simp [alF] at hy; subst hy; simp [alB]
  params := fun y hy => by simp [alF] at hy; subst hy; simp [alB]
  vals := by simp [alF]
  ends := fun y hy => by simp [alF] at hy; subst hy; simp [alB, BkD.endsI]
  edges := fun y hy => by simp [alF] at hy; subst hy; simp [alB]
theorem alF_ord (s : Nat) : (alF s).ord = [0] := by
  refine OrdOk.unique (alF s).ordOk ?_
  unfold OrdOk
  rw [if_neg (by simp [alF])]
  exact ⟨_, [], Lv.Vis.nil _ _, rfl⟩
theorem alF_in (s : Nat) : ∀ b y, b ∈ (alF s).ord → (alF s).blocks.l[b]? = some y → y.In (alF s).vals.l.length := fun b y hb hy => by
  rw [alF_ord] at hb
  obtain rfl := List.mem_singleton.1 hb
  have hy : some (alB s) = some y := hy
  cases hy
  refine ⟨fun v hv => by simp [alB] at hv, fun i hi v hv => ?_, fun i hi v hv => ?_, fun v hv => ?_⟩
  · simp only [alB, List.mem_cons, List.not_mem_nil, or_false] at hi
    rcases hi with rfl | rfl | rfl <;> simp at hv <;> simp [alF] <;> omega
  · simp only [alB, List.mem_cons, List.not_mem_nil, or_false] at hi
    rcases hi with rfl | rfl | rfl <;> simp at hv <;> simp [alF] <;> omega
  · simp [alB, BkD.endsI] at hv; simp [alF]; omega
theorem alF_atk (s : Nat) : (alF s).atk 0 = 0 ∧ (alF s).atk 1 = 10 := by
  have h0 : (alF s).atk 0 = 0 := by unfold SsD.atk; simp [Lv.endAt]
  refine ⟨h0, ?_⟩
  rw [SsD.atk_succ (k := 0) (b := 0) (y := alB s) (by rw [alF_ord]; rfl) rfl, h0]
  rfl
theorem alF_of {s : Nat} {S : List (List Bool)} (hs : Shut (alF s) S) : ofR (alF s) S (alF s).vals.l.length = [(0, [(3, 7)]), (1, [(5, 7)]), (2, [(7, 9)])] := by
  have h0 : S.getD 0 [] = [false, false, false] := by
    rw [← hs 0 (by rw [alF_ord]; simp)]; rfl
  have hl : (alF s).ord.length = 1 := by rw [alF_ord]; rfl
  have hM : ofM (alF s) 1 = m2 (alB s) (fun _ => false) 3 := by
    rw [ofM_succ (k := 0) (b := 0) (y := alB s) (by rw [alF_ord]; rfl) rfl]; rfl
  have hL : ofL (alF s) S 1 = [[(3, 7)], [(5, 7)], [(7, 9)]] := by
    rw [ofL_succ (k := 0) (b := 0) (y := alB s) (by rw [alF_ord]; rfl) rfl, (alF_atk s).1, h0]
    rfl
  unfold ofR
  rw [hl, hM, hL]
  rfl
theorem alW_ok {W : World} {s : Nat}
    (h0 : Blk W (s) 50 [.int .i64 3, .int .i64 7])
    (h1 : Blk W (s + 1) 50 [.int .i64 5, .int .i64 7])
    (h2 : Blk W (s + 1 + 1) 50 [.int .i64 7, .int .i64 9])
    (h3 : Blk W (s + 1 + 1 + 1) 28 [.int .i64 0, .slice (some ⟨s, 0, none⟩) 1 1, .int .i64 1, .slice (some ⟨s + 1, 0, none⟩) 1 1, .int .i64 2, .slice (some ⟨s + 1 + 1, 0, none⟩) 1 1])
    : Lives W (some ⟨s + 1 + 1 + 1, 0, none⟩) (alW s) :=
  ⟨Seg.of_blk h3, fun x hx => by
    simp only [alW, List.mem_cons, List.not_mem_nil, or_false] at hx
    rcases hx with rfl | rfl | rfl
    · exact ⟨Seg.of_blk h0, by show 1 ≤ maxLen; unfold maxLen; omega⟩
    · exact ⟨Seg.of_blk h1, by show 1 ≤ maxLen; unfold maxLen; omega⟩
    · exact ⟨Seg.of_blk h2, by show 1 ≤ maxLen; unfold maxLen; omega⟩⟩
theorem al_refM : Lv.RefM [[(3, 7)], [(5, 7)], [(7, 9)]] 2 where
  zero := by omega
  up := fun x hx r hr => by
    simp only [List.mem_cons, List.not_mem_nil, or_false] at hx
    rcases hx with rfl | rfl | rfl <;> (simp only [List.mem_cons, List.not_mem_nil, or_false] at hr; subst hr; decide)
  at_ := .inr ⟨[(5, 7)], by simp, (5, 7), by simp, by decide⟩

set_option maxHeartbeats 4000000 in
theorem alive_calls (w : World) : Calls Try.prog 5 #[] w fun e w' => e = .returned (.bool true) ∧ Keep w w' := by
  obtain ⟨W, hW, hkW, hsz, b0, b1, b2, b3, b4, b5, b6, b7, b8, b9⟩ := alive_form w w.heap.size rfl
  obtain ⟨s, hs⟩ : ∃ s, w.heap.size = s := ⟨_, rfl⟩
  have HW := Lib.hid hW
  rw [hs] at hsz b0 b1 b2 b3 b4 b5 b6 b7 b8 b9
  have hok := alF_ok b1 b2 b3 b4 b5 b6 b7 b8
  have c0 : W.cell? ⟨s + 1 + 1 + 1 + 1 + 1 + 1 + 1 + 1 + 1, 0, none⟩ = some (.slice (some ⟨s, 0, none⟩) 1 1) := b9.cell 0
  have c1 : W.cell? ⟨s + 1 + 1 + 1 + 1 + 1 + 1 + 1 + 1 + 1, 1, none⟩ = some (.slice (some ⟨s, 0, none⟩) 1 1) := b9.cell 1
  have c2 : W.cell? ⟨s + 1 + 1 + 1 + 1 + 1 + 1 + 1 + 1 + 1, 2, none⟩ = some (.slice (some ⟨s + 1, 0, none⟩) 3 3) := b9.cell 2
  have c3 : W.cell? ⟨s + 1 + 1 + 1 + 1 + 1 + 1 + 1 + 1 + 1, 3, none⟩ = some (.slice (some ⟨s + 1 + 1 + 1 + 1 + 1 + 1 + 1 + 1, 0, none⟩) 1 1) := b9.cell 3
  have lt := b9.lt
  have hof := of_calls (alF s) W hok (alF_small s) (alF_in s)
  have Hof := Lib.hid hof
  have Hok := Lib.hid hok
  have HkW := Lib.hid hkW
  have Hs := Lib.hid hs
  clear hW hof hok hkW hsz b0 b1 b2 b3 b4 b5 b6 b7 b8 b9 hs
  go_enter Try.func5, Try.ntmps5
  go_wp2_with fail
  rw [HW.out, Hs.out]
  clear HW
  refine Hof.out.mono ?_
  clear Hof
  rintro e w1 ⟨A, ls, c, S, rfl, hlv, hmp, hfi, hsh, hk1⟩
  rw [alF_of hsh] at hmp
  have hll : ls.length = 3 := by have := congrArg List.length hmp; simpa using this
  obtain ⟨W2, hW2, hk2, hsz2, e0, e1, e2, e3⟩ := alive_want w1 w1.heap.size rfl
  have hwant := alW_ok e0 e1 e2 e3
  have hok2 := (Hok.out.keep hk1).keep hk2
  have hlv2 := hlv.keep hk2
  have hpl := places_calls (alF s) W2 hok2 (alF_small s)
  rw [alF_ord, show ([0] : List Nat).length = 1 from rfl, (alF_atk s).2] at hpl
  have Hsame := Lib.hid (show ∀ W3, Keep W2 W3 → Calls Try.prog 10 #[.slice A 3 c, .slice (some ⟨w1.heap.size + 1 + 1 + 1, 0, none⟩) 3 3] W3 fun e w' => e = .returned (.bool true) ∧ Keep W3 w' from fun W3 hk3 => by
    have := same_calls ls (alW w1.heap.size) A (some ⟨w1.heap.size + 1 + 1 + 1, 0, none⟩) c 3 W3 (hlv2.keep hk3) (hwant.keep hk3) (by rw [hmp]; rfl) (by omega)
    rw [hll] at this; exact this)
  have Hmost := Lib.hid (show ∀ W3, Keep W2 W3 → Calls Try.prog 6 #[.slice A 3 c] W3 fun e w' => e = .returned (.int .i64 2) ∧ Keep W3 w' from fun W3 hk3 => by
    have hm := most_calls ls A c W3 (hlv2.keep hk3) (by omega) (fun x hx => by
      have : (x.val, x.l) ∈ ls.map (fun z => (z.val, z.l)) := List.mem_map.2 ⟨x, hx, rfl⟩
      rw [hmp] at this
      simp at this
      rcases this with ⟨_, e⟩ | ⟨_, e⟩ | ⟨_, e⟩ <;> rw [e] <;> simp)
    rw [hll] at hm
    refine hm.mono ?_
    rintro e w' ⟨m, rfl, hm2, hk⟩
    have hL : ls.map (·.l) = [[(3, 7)], [(5, 7)], [(7, 9)]] := by
      have := congrArg (List.map Prod.snd) hmp
      rw [List.map_map] at this
      exact this
    rw [hL] at hm2
    rw [hm2 2 al_refM]
    exact ⟨rfl, hk⟩)
  have Hord := Lib.hid (show ∀ W3, Keep W2 W3 → Calls Try.prog 12 #[.agg (ssC (alF s)).toArray] W3 fun e w' => ∃ A c, e = .returned (.slice A 1 c) ∧ Seg w' A (([0] : List Int).flatMap intC) ∧ Keep W3 w' from fun W3 hk3 => by
    have := order_gives (alF s) W3 (hok2.keep hk3) (alF_small s).edges (by simp [alF])
    rw [alF_ord] at this
    refine this.mono ?_
    rintro e w' ⟨A, c, rfl, ho, hk⟩
    exact ⟨A, c, rfl, ho.segN.2, hk⟩)
  have Hpl := Lib.hid hpl
  have HW2 := Lib.hid hW2
  have Hk2 := Lib.hid (hk1.trans hk2)
  have d0 := Hk2.out.cell c0
  have d1 := Hk2.out.cell c1
  have d2 := Hk2.out.cell c2
  have d3 := Hk2.out.cell c3
  have lt2 := Nat.lt_of_lt_of_le lt Hk2.out.size
  rw [hll]
  clear hlv hmp hfi hsh hll hW2 hk2 hsz2 e0 e1 e2 e3 hwant hok2 hlv2 hpl
  have dk0 := hk1.cell c0
  have dk1 := hk1.cell c1
  have dk2 := hk1.cell c2
  have dk3 := hk1.cell c3
  have lt1 := Nat.lt_of_lt_of_le lt hk1.size
  have lta : s + 1 + 1 + 1 + 1 + 1 + 1 + 1 + 1 + 1 < w1.heap.size + 1 := by omega
  have ltb : s + 1 + 1 + 1 + 1 + 1 + 1 + 1 + 1 + 1 < w1.heap.size + 1 + 1 := by omega
  have ltc : s + 1 + 1 + 1 + 1 + 1 + 1 + 1 + 1 + 1 < w1.heap.size + 1 + 1 + 1 := by omega
  clear c0 c1 c2 c3 lt hk1
  go_wp2_with fail
  rw [HW2.out]
  refine Hpl.out.mono ?_
  clear Hpl HW2 dk0 dk1 dk2 dk3 lt1 lta ltb ltc
  rintro e w3 ⟨rfl, hk3⟩
  have Hk3 := Lib.hid hk3
  have f0 := hk3.cell d0
  have f1 := hk3.cell d1
  have f2 := hk3.cell d2
  have f3 := hk3.cell d3
  have lt3 := Nat.lt_of_lt_of_le lt2 hk3.size
  clear hk3 d0 d1 d2 d3 lt2
  go_wp2_with fail
  refine (Hsame.out _ Hk3.out).mono ?_
  clear Hsame
  rintro e w4 ⟨rfl, hk4⟩
  replace f0 := hk4.cell f0
  replace f1 := hk4.cell f1
  replace f2 := hk4.cell f2
  replace f3 := hk4.cell f3
  replace lt3 := Nat.lt_of_lt_of_le lt3 hk4.size
  have Hk4 := Lib.hid (Hk3.out.trans hk4)
  clear hk4 Hk3
  go_wp2_with fail
  refine (Hmost.out _ Hk4.out).mono ?_
  clear Hmost
  rintro e w5 ⟨rfl, hk5⟩
  replace f0 := hk5.cell f0
  replace f1 := hk5.cell f1
  replace f2 := hk5.cell f2
  replace f3 := hk5.cell f3
  replace lt3 := Nat.lt_of_lt_of_le lt3 hk5.size
  have Hk5 := Lib.hid (Hk4.out.trans hk5)
  clear hk5 Hk4
  go_wp2_with fail
  refine (Hord.out _ Hk5.out).mono ?_
  clear Hord
  rintro e w6 ⟨A6, c6, rfl, hs6, hk6⟩
  have Hints := Lib.hid (refInts_drew [0] A6 (some ⟨w6.heap.size, 0, none⟩) c6 1 (w6.alloc (.cells #[.int .i64 0] 3)) (hs6.keep ((Keep.refl _).alloc _)) (Seg.of_blk (Blk.new w6 3 [.int .i64 0])) (by simp))
  have Hk6 := Lib.hid (Hk5.out.trans hk6)
  clear hk6 hs6 Hk5 f0 f1 f2 f3 lt3
  go_wp2_with fail
  refine Hints.out.mono ?_
  clear Hints
  rintro e w7 ⟨rfl, nq, rfl⟩
  have Hfin := Lib.hid (show Keep w ((w6.alloc (.cells #[.int .i64 0] 3)).drewN nq) from ((HkW.out.trans (Hk2.out.trans Hk6.out)).alloc _).drewN nq)
  go_wp2
  go_ret
  exact ⟨rfl, Hfin.out⟩
end Go.Proofs.Ytjpmiejgcnfiiaa
