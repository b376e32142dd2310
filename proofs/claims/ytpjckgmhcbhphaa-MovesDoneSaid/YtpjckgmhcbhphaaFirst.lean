/-
  moves.first returns the first pending move.
-/
import Derived.Test.YtpjckgmhcbhphaaReady
namespace Go.Proofs.Ytpjckgmhcbhphaa
open Go Go.RowKit

def NoneUpto (L : List (Option Mv)) (k : Nat) : Prop := ∀ j, j < k → L[j]? = some none

theorem first_calls (L : List (Option Mv)) (A : Option Addr) (c b : Nat) (w : World) (hL : LeftIs w b L) (hn : L.length ≤ 1000000) :
    Calls Try.prog 23 #[.slice A L.length c, .map (some b)] w fun e w' => e = .returned (mvV ((pend L).headD default)) ∧ Keep w w' := by
  go_enter Try.func23, Try.ntmps23
  go_wp2
  go_loopw [10] (fun i wr => ∃ k : Nat, k ≤ L.length ∧ i = .int .i64 k ∧ NoneUpto L k ∧ Keep (w.alloc (.cells #[.bool false, .int .i64 0, .bool false, .int .i64 0] 32)) wr) (fun i _ => L.length - (intOf i).toNat)
  case atStart => exact ⟨0, Nat.zero_le _, rfl, fun j h => absurd h (Nat.not_lt_zero _), Keep.refl _⟩
  case round =>
    obtain ⟨i, hi, rfl, hup, hkeep⟩ := hrel
    have hw0 : Keep w wr := (((Keep.refl w).alloc _).trans hkeep)
    have hblk : Blk wr w.heap.size 32 [.bool false, .int .i64 0, .bool false, .int .i64 0] := (Blk.new w _ _).keep hkeep
    by_cases hlt : i < L.length
    · have hlk := left_look (hL.keep hw0) i (by omega) wr rfl true
      cases hg : L.getD i none with
      | none =>
        rw [hg] at hlk
        simp only [if_true, mvV, Option.getD_none, Option.isSome_none] at hlk
        have hup' : NoneUpto L (i + 1) := fun j hj => by
          rcases Nat.lt_succ_iff_lt_or_eq.1 hj with h | rfl
          · exact hup j h
          · rw [List.getElem?_eq_getElem hlt]; simpa [List.getD, List.getElem?_eq_getElem hlt] using hg
        clear hg hblk
        go_wp2
        go_roundw
        case rel => exact ⟨i + 1, hlt, by go_num, hup', hkeep.alloc _⟩
        case measure => simp [intOf]; omega
      | some m =>
        rw [hg] at hlk
        simp only [if_true, mvV, Option.getD_some, Option.isSome_some] at hlk
        have Hg := Lib.hid (show (pend L).headD default = m from pend_head L i m (getD_some hg) hup)
        have c0 : wr.cell? ⟨w.heap.size, 0, none⟩ = some (.bool false) := hblk.cell 0
        have c1 : wr.cell? ⟨w.heap.size, 1, none⟩ = some (.int .i64 0) := hblk.cell 1
        have c2 : wr.cell? ⟨w.heap.size, 2, none⟩ = some (.bool false) := hblk.cell 2
        have c3 : wr.cell? ⟨w.heap.size, 3, none⟩ = some (.int .i64 0) := hblk.cell 3
        have f0 := hblk.frozen 0
        have f1 := hblk.frozen 1
        have f2 := hblk.frozen 2
        have f3 := hblk.frozen 3
        have hsz := hblk.lt
        clear hg hblk
        go_wp2
        refine bodyPost_ret (v := mvV m) (by simp [results, Try.results23, go_sem, mvV, c0, c1, c2, c3, hsz]) rfl ⟨by rw [Hg.out], ?_⟩
        exact ((((hw0.setCell (Nat.le_refl _) _).setCell (Nat.le_refl _) _).setCell (Nat.le_refl _) _).setCell (Nat.le_refl _) _).alloc _
    · have Hg := Lib.hid (show (pend L).headD default = default by
        have : ∀ x ∈ L, x = none := fun x hx => by
          obtain ⟨j, hj, rfl⟩ := List.getElem_of_mem hx
          have := hup j (by omega)
          rw [List.getElem?_eq_getElem hj] at this
          simpa using this
        have hp : pend L = [] := by
          unfold pend
          rw [List.filterMap_eq_nil_iff]
          exact this
        rw [hp]; rfl)
      have c0 : wr.cell? ⟨w.heap.size, 0, none⟩ = some (.bool false) := hblk.cell 0
      have c1 : wr.cell? ⟨w.heap.size, 1, none⟩ = some (.int .i64 0) := hblk.cell 1
      have c2 : wr.cell? ⟨w.heap.size, 2, none⟩ = some (.bool false) := hblk.cell 2
      have c3 : wr.cell? ⟨w.heap.size, 3, none⟩ = some (.int .i64 0) := hblk.cell 3
      have f0 := hblk.frozen 0
      have f1 := hblk.frozen 1
      have f2 := hblk.frozen 2
      have f3 := hblk.frozen 3
      have hsz := hblk.lt
      clear hblk
      go_wp2
      refine bodyPost_ret (v := .agg #[.bool false, .int .i64 0, .bool false, .int .i64 0]) (by simp [results, Try.results23, go_sem, c0, c1, c2, c3]) rfl ⟨by rw [Hg.out]; rfl, ?_⟩
      exact ((((hw0.setCell (Nat.le_refl _) _).setCell (Nat.le_refl _) _).setCell (Nat.le_refl _) _).setCell (Nat.le_refl _) _)
end Go.Proofs.Ytpjckgmhcbhphaa
