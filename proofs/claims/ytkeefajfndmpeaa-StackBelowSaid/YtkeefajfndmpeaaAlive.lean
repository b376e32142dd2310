/-
  A stack in the hands of a caller; the worked example.
-/
import Derived.Test.YtkeefajfndmpeaaWant
import Derived.Test.YtkeefajfndmpeaaBegin
namespace Go.Proofs.Ytkeefajfndmpeaa
open Go Go.RowKit

/-- A stack that a call which began in w0 has made. -/
def Live (w0 : World) (F : Nat → Prop) (b : Nat) (s : Stk) (w : World) : Prop := Keep w0 w ∧ At F w b s ∧ ∀ k, F k → w0.heap.size ≤ k

theorem Live.left {w0 w w' : World} {F : Nat → Prop} {b : Nat} {s s' : Stk} (h : Live w0 F b s w) (hl : Left F w b s' w') : ∃ F', Live w0 F' b s' w' ∧ ∀ k, F' k → F k ∨ w.heap.size ≤ k := by
  obtain ⟨hk, ha, hF⟩ := h
  obtain ⟨he, F', ha', hF'⟩ := hl
  refine ⟨F', ⟨?_, ha', fun k hk' => ?_⟩, hF'⟩
  · exact ⟨he.os.trans hk.os, he.tape.trans hk.tape, he.output.trans hk.output, Nat.le_trans hk.size he.size, fun k hk' => (he.block k (Nat.lt_of_lt_of_le hk' hk.size) (fun hf => by have := hF k hf; omega)).trans (hk.block k hk')⟩
  · rcases hF' k hk' with h1 | h1
    · exact hF k h1
    · exact Nat.le_trans hk.size h1
theorem Live.keep {w0 w w' : World} {F : Nat → Prop} {b : Nat} {s : Stk} (h : Live w0 F b s w) (hk : Keep w w') : Live w0 F b s w' := ⟨h.1.trans hk, h.2.1.keep hk, h.2.2⟩

theorem new_live (w0 w : World) (hk : Keep w0 w) : Calls Try.prog 15 #[] w fun e w' => ∃ F, e = .returned (.pointer (some ⟨w.heap.size + 1, 0, none⟩)) ∧ Live w0 F (w.heap.size + 1) Stk.fresh w' ∧ (∀ k, F k → w.heap.size ≤ k) ∧ Keep w w' :=
  (new_calls w).mono fun e w' ⟨h1, h2, h3⟩ => ⟨_, h1, ⟨hk.trans h2, h3, fun k hk' => Nat.le_trans hk.size hk'.1⟩, fun k hk' => hk'.1, h2⟩

def e0 : Stk := ⟨[], [], 0, false, false⟩
def e1 : Stk := ⟨[1, 2], [], 0, false, false⟩
def e4 : Stk := ⟨[1], [], 0, false, false⟩
def e5 : Stk := ⟨[1], [(0, false)], 1, false, false⟩
def e7 : Stk := ⟨[1], [(0, false)], 1, true, false⟩
theorem p01 : e0.push [1, 2] = e1 := rfl
theorem w12 : e1.want [1, 2] = (e0, 0) := rfl
theorem p23 : e0.pop = (e0, 0, 13) := rfl
theorem p34 : e0.push [1] = e4 := rfl
theorem o45 : e4.opened = e5 := rfl
theorem p56 : e5.pop = (e5, 0, 13) := rfl
theorem l67 : e5.loosen = e7 := rfl
theorem p78 : e7.pop = (e7, 0, 0) := rfl
theorem s89 : e7.shut [1] = (e4, 0) := rfl
theorem s90 : e4.shut [] = (e4, 14) := rfl
theorem okE0 : e0.Ok := Stk.Ok.fresh
theorem okE1 : e1.Ok := okE0.push [1, 2]
theorem okE4 : e4.Ok := okE0.push [1]
theorem okE5 : e5.Ok := okE4.opened
theorem okE7 : e7.Ok := okE5.loosen
set_option maxHeartbeats 1000000 in
theorem alive_calls (w : World) : Calls Try.prog 14 #[] w fun e w' => e = .returned (.bool true) ∧ Keep w w' := by
  go_enter Try.func14, Try.ntmps14
  go_wp2_with fail
  refine (new_live w w (Keep.refl _)).mono ?_
  rintro e w1 ⟨F1, rfl, h1, _, _⟩
  have h1 : Live w F1 (w.heap.size + 1) e0 w1 := h1
  go_wp2_with fail
  refine (push_calls (h1.keep ((Keep.refl _).alloc (.cells (([1, 2] : List Int).flatMap valC).toArray 45))).2.1 [1, 2] (some ⟨w1.heap.size, 0, none⟩) 2 (Seg.of_blk (Blk.new w1 45 (([1, 2] : List Int).flatMap valC))) (by decide)).mono ?_
  rintro e w2 ⟨⟨v2, rfl⟩, hl2⟩
  rw [p01] at hl2
  obtain ⟨F2, h2, _⟩ := (h1.keep ((Keep.refl _).alloc (.cells (([1, 2] : List Int).flatMap valC).toArray 45))).left hl2
  clear hl2 h1
  go_wp2_with fail
  have hc3 := want_calls (h2.keep ((Keep.refl _).alloc (.cells (([1, 2] : List Int).flatMap valC).toArray 45))).2.1 okE1 [1, 2] (some ⟨w2.heap.size, 0, none⟩) 2 (Seg.of_blk (Blk.new w2 45 (([1, 2] : List Int).flatMap valC))) (by decide) (by decide) (by decide)
  rw [w12] at hc3
  refine hc3.mono ?_
  clear hc3
  rintro e w3 ⟨rfl, hl3⟩
  obtain ⟨F3, h3, _⟩ := (h2.keep ((Keep.refl _).alloc (.cells (([1, 2] : List Int).flatMap valC).toArray 45))).left hl3
  clear hl3 h2
  go_wp2_with fail
  have hc4 := pop_calls h3.2.1 okE0 (by decide) (by decide)
  rw [p23] at hc4
  refine hc4.mono ?_
  clear hc4
  rintro e w4 ⟨rfl, hl4⟩
  obtain ⟨F4, h4, _⟩ := h3.left hl4
  clear hl4 h3
  go_wp2_with fail
  refine (push_calls (h4.keep ((Keep.refl _).alloc (.cells (([1] : List Int).flatMap valC).toArray 45))).2.1 [1] (some ⟨w4.heap.size, 0, none⟩) 1 (Seg.of_blk (Blk.new w4 45 (([1] : List Int).flatMap valC))) (by decide)).mono ?_
  rintro e w5 ⟨⟨v5, rfl⟩, hl5⟩
  rw [p34] at hl5
  obtain ⟨F5, h5, _⟩ := (h4.keep ((Keep.refl _).alloc (.cells (([1] : List Int).flatMap valC).toArray 45))).left hl5
  clear hl5 h4
  go_wp2_with fail
  refine (open_calls h5.2.1 (by decide) (by decide)).mono ?_
  rintro e w6 ⟨⟨v6, rfl⟩, hl6⟩
  rw [o45] at hl6
  obtain ⟨F6, h6, _⟩ := h5.left hl6
  clear hl6 h5
  go_wp2_with fail
  have hc7 := pop_calls h6.2.1 okE5 (by decide) (by decide)
  rw [p56] at hc7
  refine hc7.mono ?_
  clear hc7
  rintro e w7 ⟨rfl, hl7⟩
  obtain ⟨F7, h7, _⟩ := h6.left hl7
  clear hl7 h6
  go_wp2_with fail
  refine (loose_calls h7.2.1 okE5 (by decide) (by decide)).mono ?_
  rintro e w8 ⟨⟨v8, rfl⟩, hl8⟩
  rw [l67] at hl8
  obtain ⟨F8, h8, _⟩ := h7.left hl8
  clear hl8 h7
  go_wp2_with fail
  have hc9 := pop_calls h8.2.1 okE7 (by decide) (by decide)
  rw [p78] at hc9
  refine hc9.mono ?_
  clear hc9
  rintro e w9 ⟨rfl, hl9⟩
  obtain ⟨F9, h9, _⟩ := h8.left hl9
  clear hl9 h8
  go_wp2_with fail
  have hc10 := shut_calls (h9.keep ((Keep.refl _).alloc (.cells (([1] : List Int).flatMap valC).toArray 45))).2.1 okE7 [1] (some ⟨w9.heap.size, 0, none⟩) 1 (Seg.of_blk (Blk.new w9 45 (([1] : List Int).flatMap valC))) (by decide) (by decide) (by decide)
  rw [s89] at hc10
  refine hc10.mono ?_
  clear hc10
  rintro e w10 ⟨rfl, hl10⟩
  obtain ⟨F10, h10, _⟩ := (h9.keep ((Keep.refl _).alloc (.cells (([1] : List Int).flatMap valC).toArray 45))).left hl10
  clear hl10 h9
  go_wp2_with fail
  have hc11 := shut_calls h10.2.1 okE4 [] none 0 (Seg.nil _ _) (by decide) (by decide) (by decide)
  rw [s90] at hc11
  refine hc11.mono ?_
  clear hc11
  rintro e w11 ⟨rfl, hl11⟩
  obtain ⟨F11, h11, _⟩ := h10.left hl11
  clear hl11 h10
  go_wp2_with fail
  refine (len_calls h11.2.1).mono ?_
  rintro e w12 ⟨rfl, rfl⟩
  go_wp2
  go_ret
  exact ⟨rfl, h11.1⟩
end Go.Proofs.Ytkeefajfndmpeaa
