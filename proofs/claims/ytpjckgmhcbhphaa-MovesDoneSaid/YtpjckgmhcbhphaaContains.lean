/-
  slices.ContainsFunc over the moves, at the closure of moves.Order: does a move name the free place?
-/
import Derived.Test.YtpjckgmhcbhphaaBase
namespace Go.Proofs.Ytpjckgmhcbhphaa
open Go Go.RowKit

/-- The closure: does this move name the captured place? -/
theorem names_one (m : Mv) (p : Plc) (B : Nat) (w : World) (hB : B < w.heap.size) (h0 : w.cell? ⟨B, 0, none⟩ = some (.bool p.1)) (h1 : w.cell? ⟨B, 1, none⟩ = some (.int .i64 p.2)) :
    Calls Try.prog 21 #[.agg #[.bool m.1.1, .int .i64 m.1.2, .bool m.2.1, .int .i64 m.2.2], .pointer (some ⟨B, 0, none⟩)] w fun e w' => e = .returned (.bool (plcEq m.1 p || plcEq m.2 p)) ∧ Keep w w' := by
  have heq := plc_eql
  cases h : plcEq m.1 p <;>
  · go_enter Try.func21, Try.ntmps21
    go_wp2
    go_ret
    exact ⟨rfl, (Keep.refl _).alloc _⟩

theorem names_eq (m : Mv) (p : Plc) : (plcEq m.1 p || plcEq m.2 p) = (m.1 == p || m.2 == p) := by
  rw [Bool.eq_iff_iff]; simp [plcEq]

theorem index_calls (l : List Mv) (A : Option Addr) (c : Nat) (p : Plc) (B : Nat) (w : World) (hs : Seg w A (l.flatMap mvC)) (hn : l.length ≤ 1000000)
    (hB : B < w.heap.size) (h0 : w.cell? ⟨B, 0, none⟩ = some (.bool p.1)) (h1 : w.cell? ⟨B, 1, none⟩ = some (.int .i64 p.2)) :
    Calls Try.prog 30 #[.slice A l.length c, .func (.func 21) #[] #[.pointer (some ⟨B, 0, none⟩)]] w
      fun e w' => ∃ r : Int, e = .returned (.int .i64 r) ∧ namesB l p = decide (0 ≤ r) ∧ Keep w w' := by
  go_enter Try.func30, Try.ntmps30
  go_wp2
  go_loopw [8] (fun i wr => ∃ k : Nat, k ≤ l.length ∧ i = .int .i64 k ∧ namesB (l.take k) p = false ∧ Keep w wr) (fun i _ => l.length - (intOf i).toNat)
  case atStart => exact ⟨0, Nat.zero_le _, rfl, by simp [namesB], Keep.refl _⟩
  case round =>
    obtain ⟨k, hk, rfl, hnd, hkeep⟩ := hrel
    by_cases hlt : k < l.length
    · obtain ⟨b, off, rfl, hb, c0, c1, c2, c3⟩ := mv_at hs hkeep hlt
      have k0 := hkeep.cell h0
      have k1 := hkeep.cell h1
      have kB : B < wr.heap.size := Nat.lt_of_lt_of_le hB hkeep.size
      have hcall := Lib.hid (names_one l[k] p B wr kB k0 k1)
      have hnext : namesB (l.take (k + 1)) p = (plcEq l[k].1 p || plcEq l[k].2 p) := by
        rw [take_snoc l hlt]; unfold namesB at hnd ⊢; rw [List.any_append, hnd]; simp [names_eq]
      cases hq : (plcEq l[k].1 p || plcEq l[k].2 p)
      · rw [hq] at hcall hnext
        have Hn := Lib.hid hnext
        clear hq hnext k0 k1
        go_wp2_with (go_at_call 21; refine (hcall.out).mono ?_; rintro e w1 ⟨rfl, hk1⟩)
        go_roundw
        case rel => exact ⟨k + 1, hlt, by go_num, Hn.out, hkeep.trans hk1⟩
        case measure => simp [intOf]; omega
      · rw [hq] at hcall hnext
        have hall : namesB l p = true := by
          unfold namesB at hnext ⊢
          obtain ⟨x, hx, he⟩ := List.any_eq_true.1 hnext
          exact List.any_eq_true.2 ⟨x, List.mem_of_mem_take hx, he⟩
        have Hn := Lib.hid hall
        clear hq hnext hall k0 k1
        go_wp2_with (go_at_call 21; refine (hcall.out).mono ?_; rintro e w1 ⟨rfl, hk1⟩)
        go_ret
        exact ⟨k, rfl, by rw [Hn.out]; simp, hkeep.trans hk1⟩
    · have Hn := Lib.hid (show namesB l p = false by rwa [List.take_of_length_le (by omega)] at hnd)
      go_wp2
      go_ret
      exact ⟨-1, rfl, by rw [Hn.out]; decide, hkeep⟩

theorem contains_calls (l : List Mv) (A : Option Addr) (c : Nat) (p : Plc) (B : Nat) (w : World) (hs : Seg w A (l.flatMap mvC)) (hn : l.length ≤ 1000000)
    (hB : B < w.heap.size) (h0 : w.cell? ⟨B, 0, none⟩ = some (.bool p.1)) (h1 : w.cell? ⟨B, 1, none⟩ = some (.int .i64 p.2)) :
    Calls Try.prog 20 #[.slice A l.length c, .func (.func 21) #[] #[.pointer (some ⟨B, 0, none⟩)]] w
      fun e w' => e = .returned (.bool (namesB l p)) ∧ Keep w w' := by
  go_enter Try.func20, Try.ntmps20
  go_wp2_with fail
  refine (index_calls l A c p B w hs hn hB h0 h1).mono ?_
  rintro e w1 ⟨r, rfl, hr, hk1⟩
  have Hr := Lib.hid hr
  clear hr
  go_wp2
  go_ret
  exact ⟨by rw [Hr.out]; rfl, hk1⟩
end Go.Proofs.Ytpjckgmhcbhphaa
