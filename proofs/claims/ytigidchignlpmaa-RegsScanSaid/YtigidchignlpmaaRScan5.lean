/-
  The scan refuses; the rows that it makes.
-/
import Derived.Test.YtigidchignlpmaaRScan3
import Derived.Test.YtigidchignlpmaaArr
namespace Go.Proofs.Ytigidchignlpmaa
open Go Go.RowKit Rg

theorem made_two (a b : Value) (n : Nat) : (madeCells #[a, b] (n * 2)).toList = (List.replicate n (0 : Nat)).flatMap (fun _ => [a, b]) := by
  apply List.ext_getElem?
  intro j
  by_cases hj : j < n * 2
  · obtain ⟨k, r, rfl, hr⟩ : ∃ k r, j = k * 2 + r ∧ r < 2 := ⟨j / 2, j % 2, by omega, by omega⟩
    rw [flat_get (fun _ : Nat => [a, b]) 2 (fun _ => rfl) (List.replicate n (0 : Nat)) k r (by simp; omega) hr]
    rcases (show r = 0 ∨ r = 1 by omega) with rfl | rfl
    · simp [madeCells, show k < n by omega]
    · have hm : (k * 2 + 1) % 2 = 1 := by omega
      simp [madeCells, hm, hj]
  · rw [List.getElem?_eq_none (by simp [madeCells]; omega), List.getElem?_eq_none (by simp; omega)]
theorem flat_rep {α β γ : Type} (f : α → List γ) (g : β → List γ) (p : α) (q : β) (h : f p = g q) : ∀ n, (List.replicate n p).flatMap f = (List.replicate n q).flatMap g
  | 0 => by simp
  | n + 1 => by rw [List.replicate_succ, List.replicate_succ, List.flatMap_cons, List.flatMap_cons, flat_rep f g p q h n, h]
theorem make_places (w : World) (n : Nat) (h : n ≤ 1000000) : ∃ w', (Instr.makeSlice 25 (.int .i64 (n : Int)) (.int .i64 (n : Int))).run Try.prog w = .ok (.slice (some ⟨w.heap.size, 0, none⟩) n n) w' ∧ Blk w' w.heap.size 47 ((List.replicate n ((false, 0) : Bool × Nat)).flatMap plC) ∧ Keep w w' := by
  have hi : (Try.prog.info? 47).map (fun i => (i.zero, i.size, i.bytes)) = some (some (.agg #[.bool false, .int .i64 0]), 2, 16) := by kernel_rfl
  obtain ⟨i, z', hi1, hz1, hsz, hby, _⟩ := info_of hi rfl
  have hzz : z' = .agg #[.bool false, .int .i64 0] := by
    simp [hi1] at hi
    rw [hz1] at hi
    exact Option.some.inj hi.1
  subst hzz
  obtain ⟨w', hrun, ho, hg⟩ := run_make_full (P := Try.prog) (w := w) w.heap.size 25 47 i _ 2 Try.underlying25 hi1 hz1 hsz .i64 .i64 n (by rw [hby]; omega) (by simp [maxLen]; omega) (Nat.le_refl _)
  have hk : Keep w w' := (Keep.refl w).grown hg (fun k hk => by cases hk)
  rcases ho.2 with ⟨hv, _⟩ | ⟨g, cap, cur, hv, _, hh, _, _, hc, htake⟩
  · cases hv
  · injection hv with h1 h2 h3
    injection h1 with h1
    injection h1 with h1
    subst h1
    subst h3
    refine ⟨w', hrun, ?_, hk⟩
    unfold Blk
    rw [hh]
    rw [show (Value.agg #[.bool false, .int .i64 0]).cells = #[.bool false, .int .i64 0] from rfl, made_two, List.take_of_length_le (by simp; omega)] at htake
    rw [flat_rep plC (fun _ : Nat => [.bool false, .int .i64 0]) (false, 0) 0 rfl, ← htake]
theorem make_ints (w : World) (n : Nat) (h : n ≤ 1000000) : ∃ w', (Instr.makeSlice 59 (.int .i64 (n : Int)) (.int .i64 (n : Int))).run Try.prog w = .ok (.slice (some ⟨w.heap.size, 0, none⟩) n n) w' ∧ Blk w' w.heap.size 3 (List.replicate n (.int .i64 0)) ∧ Keep w w' :=
  make_zero (P := Try.prog) (z := .int .i64 0) (bytes := 8) Try.underlying59 (by kernel_rfl) rfl w n (by omega) (by unfold maxLen; omega)

set_option maxHeartbeats 2000000 in
theorem scan_regs (A : Option Addr) (ls : List LvD) (c : Nat) (regs slots : Int) (w : World) (hr : regs < 0 ∨ 16 < regs) :
    Calls Try.prog 10 #[.slice A ls.length c, .int .i64 regs, .int .i64 slots] w fun e w' => e = .returned (.tuple #[.agg #[.slice none 0 0, .int .i64 0], .int .i64 31]) ∧ Keep w w' := by
  obtain ⟨wa, hwa⟩ : ∃ wa : World, wa = (w.alloc (.cells #[.slice A ls.length c] 22)).alloc (.cells #[.slice none 0 0, .int .i64 0] 27) := ⟨_, rfl⟩
  have hka : Keep w wa := by rw [hwa]; exact ((Keep.refl _).alloc _).alloc _
  have bg : Blk wa (w.heap.size + 1) 27 [.slice none 0 0, .int .i64 0] := by
    rw [hwa]
    have := Blk.new (w.alloc (.cells #[.slice A ls.length c] 22)) 27 [.slice none 0 0, .int .i64 0]
    simpa using this
  have y0 : wa.cell? ⟨w.heap.size + 1, 0, none⟩ = some (.slice none 0 0) := bg.cell 0
  have y1 : wa.cell? ⟨w.heap.size + 1, 1, none⟩ = some (.int .i64 0) := bg.cell 1
  clear bg
  by_cases h0 : regs < 0
  · clear hr
    go_enter Try.func10, Try.ntmps10
    go_wp2_with fail
    rw [← hwa]
    exact bodyPost_ret (v := .tuple #[.agg #[.slice none 0 0, .int .i64 0], .int .i64 31]) (by simp [results, Try.results10, go_sem, y0, y1]) rfl ⟨rfl, hka⟩
  · have h1 : 16 < regs := by omega
    clear hr
    go_enter Try.func10, Try.ntmps10
    go_wp2_with fail
    rw [← hwa]
    exact bodyPost_ret (v := .tuple #[.agg #[.slice none 0 0, .int .i64 0], .int .i64 31]) (by simp [results, Try.results10, go_sem, y0, y1]) rfl ⟨rfl, hka⟩

set_option maxHeartbeats 2000000 in
theorem scan_bad (A : Option Addr) (ls : List LvD) (c : Nat) (regs slots : Int) (w : World) (hl : Lives w A ls) (hm : ls.length ≤ 1000000) (h0 : ¬ regs < 0) (h1 : ¬ 16 < regs) (hs : slots < 0 ∨ 65536 < slots ∨ ls.any (fun x => !may x.l) = true) :
    Calls Try.prog 10 #[.slice A ls.length c, .int .i64 regs, .int .i64 slots] w fun e w' => e = .returned (.tuple #[.agg #[.slice none 0 0, .int .i64 0], .int .i64 1]) ∧ Keep w w' := by
  obtain ⟨wa, hwa⟩ : ∃ wa : World, wa = (w.alloc (.cells #[.slice A ls.length c] 22)).alloc (.cells #[.slice none 0 0, .int .i64 0] 27) := ⟨_, rfl⟩
  have hka : Keep w wa := by rw [hwa]; exact ((Keep.refl _).alloc _).alloc _
  have bl : Blk wa w.heap.size 22 [.slice A ls.length c] := by rw [hwa]; exact (Blk.new w _ [.slice A ls.length c]).keep ((Keep.refl _).alloc _)
  have bg : Blk wa (w.heap.size + 1) 27 [.slice none 0 0, .int .i64 0] := by
    rw [hwa]
    have := Blk.new (w.alloc (.cells #[.slice A ls.length c] 22)) 27 [.slice none 0 0, .int .i64 0]
    simpa using this
  have y0 : wa.cell? ⟨w.heap.size + 1, 0, none⟩ = some (.slice none 0 0) := bg.cell 0
  have y1 : wa.cell? ⟨w.heap.size + 1, 1, none⟩ = some (.int .i64 0) := bg.cell 1
  by_cases h2 : slots < 0
  · clear hs
    go_enter Try.func10, Try.ntmps10
    go_wp2_with fail
    rw [← hwa]
    exact bodyPost_ret (v := .tuple #[.agg #[.slice none 0 0, .int .i64 0], .int .i64 1]) (by simp [results, Try.results10, go_sem, y0, y1]) rfl ⟨rfl, hka⟩
  · by_cases h3 : 65536 < slots
    · clear hs
      go_enter Try.func10, Try.ntmps10
      go_wp2_with fail
      rw [← hwa]
      exact bodyPost_ret (v := .tuple #[.agg #[.slice none 0 0, .int .i64 0], .int .i64 1]) (by simp [results, Try.results10, go_sem, y0, y1]) rfl ⟨rfl, hka⟩
    · have h4 : ls.any (fun x => !may x.l) = true := by
        rcases hs with h | h | h
        · exact absurd h h2
        · exact absurd h h3
        · exact h
      have H := Lib.hid (anyLive_calls A ls c wa (hl.keep hka) hm)
      have H4 := Lib.hid h4
      clear hs h4 hl
      have z0 : wa.cell? ⟨w.heap.size, 0, none⟩ = some (.slice A ls.length c) := bl.cell 0
      have lt := bl.lt
      go_enter Try.func10, Try.ntmps10
      go_wp2_with fail
      rw [← hwa]
      refine H.out.mono ?_
      rintro e w1 ⟨rfl, k1⟩
      rw [H4.out]
      have x0 := k1.cell y0
      have x1 := k1.cell y1
      have bg1 := bg.keep k1
      have ff := bg1.frozen
      have lg := bg1.lt
      have bg2 := (bg1.set_ 0 (.slice none 0 0)).set_ 1 (.int .i64 0)
      have f2 := (bg1.set_ 0 (.slice none 0 0)).frozen 1
      have x1' : (w1.setCell ⟨w.heap.size + 1, 0, none⟩ (.slice none 0 0)).cell? ⟨w.heap.size + 1, 1, none⟩ = some (.int .i64 0) := (bg1.set_ 0 (.slice none 0 0)).cell 1
      have u0 : ((w1.setCell ⟨w.heap.size + 1, 0, none⟩ (.slice none 0 0)).setCell ⟨w.heap.size + 1, 1, none⟩ (.int .i64 0)).cell? ⟨w.heap.size + 1, 0, none⟩ = some (.slice none 0 0) := bg2.cell 0
      have u1 : ((w1.setCell ⟨w.heap.size + 1, 0, none⟩ (.slice none 0 0)).setCell ⟨w.heap.size + 1, 1, none⟩ (.int .i64 0)).cell? ⟨w.heap.size + 1, 1, none⟩ = some (.int .i64 0) := bg2.cell 1
      have Hk := Lib.hid (((hka.trans k1).setCell (p := ⟨w.heap.size + 1, 0, none⟩) (by show w.heap.size ≤ w.heap.size + 1; omega) (.slice none 0 0)).setCell (p := ⟨w.heap.size + 1, 1, none⟩) (by show w.heap.size ≤ w.heap.size + 1; omega) (.int .i64 0))
      clear bg1 bg2 bg bl
      go_wp2
      exact bodyPost_ret (v := .tuple #[.agg #[.slice none 0 0, .int .i64 0], .int .i64 1]) (by simp [results, Try.results10, go_sem, u0, u1]) rfl ⟨rfl, Hk.out⟩
end Go.Proofs.Ytigidchignlpmaa
