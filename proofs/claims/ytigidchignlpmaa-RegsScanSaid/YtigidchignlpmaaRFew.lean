/-
  The statements' small functions: few, life, lap.
-/
import Derived.Test.YtigidchignlpmaaRRef2
import Derived.Test.YtigidchignlpmaaREnough
namespace Go.Proofs.Ytigidchignlpmaa
open Go Go.RowKit Rg

def fewB (ls : List LvD) : Bool := decide (ls.length ≤ 60) && ls.all (fun x => decide (x.l.length ≤ 20))

set_option maxHeartbeats 1000000 in
theorem few_calls (A : Option Addr) (ls : List LvD) (c : Nat) (w : World) (h : Lives w A ls) :
    Calls Try.prog 8 #[.slice A ls.length c] w fun e w' => e = .returned (.bool (fewB ls)) ∧ Keep w w' := by
  by_cases hn : ls.length ≤ 60
  · have hn' : ¬ (60 : Int) < (ls.length : Int) := by omega
    go_enter Try.func8, Try.ntmps8
    go_wp2
    go_loopw [3] (fun i wr => ∃ k : Nat, k ≤ ls.length ∧ i = .int .i64 k ∧ Hid ((ls.take k).all (fun x => decide (x.l.length ≤ 20)) = true) ∧ Keep w wr) (fun i _ => ls.length - (intOf i).toNat)
    case atStart => exact ⟨0, Nat.zero_le _, rfl, Lib.hid rfl, Keep.refl _⟩
    case round =>
      obtain ⟨k, hk, rfl, hall, hkeep⟩ := hrel
      by_cases hlt : k < ls.length
      · obtain ⟨x, hx⟩ := get_some hlt
        obtain ⟨b, off, rfl, hb, c0, c1, hok⟩ := h.get hkeep hx
        have hkk : (k : Int) < (ls.length : Int) := by omega
        have hk0 : (0 : Int) ≤ (k : Int) := by omega
        have Hn := Lib.hid (show (ls.take (k + 1)).all (fun x => decide (x.l.length ≤ 20)) = decide (x.l.length ≤ 20) by
          rw [List.take_add_one, hx, List.all_append, hall.out]; simp)
        have Hm := Lib.hid (show ¬ x.l.length ≤ 20 → fewB ls = false from fun e => by
          unfold fewB
          rw [Bool.and_eq_false_iff]; right
          rw [List.all_eq_false]
          exact ⟨x, List.mem_of_getElem? hx, by simpa using e⟩)
        clear hx h hall hok
        by_cases hl : x.l.length ≤ 20
        · have hl' : ¬ (20 : Int) < (x.l.length : Int) := by omega
          go_wp2
          go_roundw
          case rel => exact ⟨k + 1, hlt, by go_num, Lib.hid (by rw [Hn.out]; exact decide_eq_true hl), hkeep⟩
          case measure => simp [intOf]; omega
        · have hl' : (20 : Int) < (x.l.length : Int) := by omega
          go_wp2
          go_ret
          exact ⟨by rw [Hm.out hl]; rfl, hkeep⟩
      · have hkl : k = ls.length := by omega
        have Hy := Lib.hid (show fewB ls = true by
          have := hall.out
          rw [hkl, List.take_length] at this
          unfold fewB; rw [this, decide_eq_true hn]; rfl)
        clear hkl hall h
        go_wp2
        go_ret
        exact ⟨by rw [Hy.out]; rfl, hkeep⟩
  · have hn' : (60 : Int) < (ls.length : Int) := by omega
    have Hy := Lib.hid (show fewB ls = false by unfold fewB; rw [decide_eq_false hn]; rfl)
    clear h
    go_enter Try.func8, Try.ntmps8
    go_wp2
    go_ret
    exact ⟨by rw [Hy.out]; rfl, Keep.refl _⟩

/-- The walk of life. -/
theorem life_calls (a b : Int) (ha : W64 a) (hb : W64 b) (w : World) :
    Calls Try.prog 21 #[.int .i64 a, .int .i64 b] w fun e w' => (∃ g, e = .returned (.agg #[.int .i64 0, .slice (some ⟨g, 0, none⟩) 1 1]) ∧ LvOk w' ⟨0, some ⟨g, 0, none⟩, [(a, b)], 1⟩) ∧ Keep w w' := by
  have k1 : Keep w ((w.alloc (.cells #[.int .i64 0, .slice none 0 0] 45)).alloc (.cells #[.int .i64 a, .int .i64 b] 54)) := ((Keep.refl _).alloc _).alloc _
  have b0 : Blk ((w.alloc (.cells #[.int .i64 0, .slice none 0 0] 45)).alloc (.cells #[.int .i64 a, .int .i64 b] 54)) w.heap.size 45 [.int .i64 0, .slice none 0 0] := (Blk.new w _ [.int .i64 0, .slice none 0 0]).keep ((Keep.refl _).alloc _)
  have b1 : Blk ((w.alloc (.cells #[.int .i64 0, .slice none 0 0] 45)).alloc (.cells #[.int .i64 a, .int .i64 b] 54)) (w.heap.size + 1) 54 [.int .i64 a, .int .i64 b] := by
    have := Blk.new (w.alloc (.cells #[.int .i64 0, .slice none 0 0] 45)) 54 [.int .i64 a, .int .i64 b]
    simpa using this
  obtain ⟨wa, hwa⟩ : ∃ wa, ((w.alloc (.cells #[.int .i64 0, .slice none 0 0] 45)).alloc (.cells #[.int .i64 a, .int .i64 b] 54)) = wa := ⟨_, rfl⟩
  rw [hwa] at k1 b0 b1
  have b02 := b0.set_ 0 (.int .i64 0)
  have b03 := b02.set_ 1 (.slice (some ⟨w.heap.size + 1, 0, none⟩) 1 1)
  have b13 := (b1.far (p := ⟨w.heap.size, 0, none⟩) (by show ¬ w.heap.size + 1 = w.heap.size; omega) (.int .i64 0)).far (p := ⟨w.heap.size, 1, none⟩) (by show ¬ w.heap.size + 1 = w.heap.size; omega) (.slice (some ⟨w.heap.size + 1, 0, none⟩) 1 1)
  have z0 := b0.cell 0
  have z0f := b0.frozen 0
  have z0l := b0.lt
  have z1 := b02.cell 1
  have z1f := b02.frozen 1
  have y0 : ((wa.setCell ⟨w.heap.size, 0, none⟩ (.int .i64 0)).setCell ⟨w.heap.size, 1, none⟩ (.slice (some ⟨w.heap.size + 1, 0, none⟩) 1 1)).cell? ⟨w.heap.size, 0, none⟩ = some (.int .i64 0) := b03.cell 0
  have y1 : ((wa.setCell ⟨w.heap.size, 0, none⟩ (.int .i64 0)).setCell ⟨w.heap.size, 1, none⟩ (.slice (some ⟨w.heap.size + 1, 0, none⟩) 1 1)).cell? ⟨w.heap.size, 1, none⟩ = some (.slice (some ⟨w.heap.size + 1, 0, none⟩) 1 1) := b03.cell 1
  have Hfin := Lib.hid (show LvOk ((wa.setCell ⟨w.heap.size, 0, none⟩ (.int .i64 0)).setCell ⟨w.heap.size, 1, none⟩ (.slice (some ⟨w.heap.size + 1, 0, none⟩) 1 1)) ⟨0, some ⟨w.heap.size + 1, 0, none⟩, [(a, b)], 1⟩ ∧
      Keep w ((wa.setCell ⟨w.heap.size, 0, none⟩ (.int .i64 0)).setCell ⟨w.heap.size, 1, none⟩ (.slice (some ⟨w.heap.size + 1, 0, none⟩) 1 1)) from
    ⟨⟨Seg.of_blk b13, by unfold maxLen; simp, fun r hr => by simp at hr; subst hr; exact ⟨ha, hb⟩⟩,
      (k1.setCell (p := ⟨w.heap.size, 0, none⟩) (Nat.le_refl _) _).setCell (p := ⟨w.heap.size, 1, none⟩) (Nat.le_refl _) _⟩)
  clear b0 b1 b02 b03 b13 k1
  go_enter Try.func21, Try.ntmps21
  go_wp2
  exact bodyPost_ret (v := .agg #[.int .i64 0, .slice (some ⟨w.heap.size + 1, 0, none⟩) 1 1]) (by simp [results, Try.results21, go_sem, y0, y1]) rfl ⟨⟨w.heap.size + 1, rfl, Hfin.out.1⟩, Hfin.out.2⟩

theorem lapN_succ (B E : Nat → Int) (p : Int) (i : Nat) : Rg.lap B E (i + 1) p = Rg.lap B E i p + (if decide (B i ≤ p) && decide (p < E i) then 1 else 0) := by
  unfold Rg.lap Rg.over
  rw [List.range_succ, List.filter_append]
  cases d : (decide (B i ≤ p) && decide (p < E i)) <;> simp [d]
theorem lapN_le (B E : Nat → Int) (p : Int) (i : Nat) : Rg.lap B E i p ≤ i := by
  have := List.length_filter_le (fun j => decide (B j ≤ p) && decide (p < E j)) (List.range i)
  rwa [List.length_range] at this

set_option maxHeartbeats 2000000 in
theorem lap_calls (A : Option Addr) (ls : List LvD) (c : Nat) (p : Int) (w : World) (h : Lives w A ls) (hn : ls.length ≤ 60) (hne : ∀ x ∈ ls, 0 < x.l.length) :
    Calls Try.prog 18 #[.slice A ls.length c, .int .i64 p] w fun e w' => e = .returned (.int .i64 (Rg.lap (BL ls) (EL ls) ls.length p : Int)) ∧ Keep w w' := by
  go_enter Try.func18, Try.ntmps18
  go_wp2
  go_loopw [5, 6] (fun vn i wr => ∃ k n : Nat, k ≤ ls.length ∧ i = .int .i64 k ∧ vn = .int .i64 n ∧ Hid (Rg.lap (BL ls) (EL ls) k p = n ∧ n ≤ k) ∧ Keep w wr) (fun _ i _ => ls.length - (intOf i).toNat)
  case atStart => exact ⟨0, 0, Nat.zero_le _, rfl, rfl, Lib.hid ⟨rfl, Nat.le_refl _⟩, Keep.refl _⟩
  case round =>
    obtain ⟨k, n, hk, rfl, rfl, Hn, hkeep⟩ := hrel
    by_cases hlt : k < ls.length
    · obtain ⟨x, hx⟩ := get_some hlt
      obtain ⟨b, off, rfl, hb, c0, c1, hok⟩ := h.get hkeep hx
      have hkk : (k : Int) < (ls.length : Int) := by omega
      have hk0 : (0 : Int) ≤ (k : Int) := by omega
      have h0 := hne x (List.mem_of_getElem? hx)
      have HB := Lib.hid (rBegin_calls x.val x.a x.l x.c wr hok.seg h0)
      have HE := Lib.hid (fun (wz : World) (hz : Keep wr wz) => rEnd_calls x.val x.a x.l x.c wz (hok.keep hz).seg h0 hok.len)
      have Hs := Lib.hid (lapN_succ (BL ls) (EL ls) p k)
      rw [BL_get hx, EL_get hx] at Hs
      have s1 : IntKind.i64.wrap ((n : Int) + 1) = ((n + 1 : Nat) : Int) := by rw [show (n : Int) + 1 = ((n + 1 : Nat) : Int) by omega]; exact IntWalk.i64_in _ (by have := Hn.out.2; omega)
      have hsz := hkeep.size
      clear hx h hok h0
      by_cases g1 : bgn x.l ≤ p
      · go_wp2_with fail
        refine HB.out.mono ?_
        rintro e w1 ⟨rfl, k1⟩
        have k1c0 := k1.cell c0
        have k1c1 := k1.cell c1
        have hb1 := Nat.lt_of_lt_of_le (Nat.lt_of_lt_of_le hb hsz) k1.size
        have HE1 := Lib.hid (HE.out w1 k1)
        go_wp2_with fail
        refine HE1.out.mono ?_
        rintro e w2 ⟨rfl, k2⟩
        by_cases g2 : p < fin x.l
        · have Hn2 := Lib.hid (show Rg.lap (BL ls) (EL ls) (k + 1) p = n + 1 ∧ n + 1 ≤ k + 1 by rw [Hs.out, decide_eq_true g1, decide_eq_true g2, Hn.out.1]; exact ⟨by simp, by have := Hn.out.2; omega⟩)
          go_wp2
          go_roundw
          case rel => exact ⟨k + 1, n + 1, hlt, by go_num, by go_num, Hn2, (hkeep.trans k1).trans k2⟩
          case measure => simp [intOf]; omega
        · have Hn2 := Lib.hid (show Rg.lap (BL ls) (EL ls) (k + 1) p = n ∧ n ≤ k + 1 by rw [Hs.out, decide_eq_true g1, decide_eq_false g2, Hn.out.1]; exact ⟨by simp, by have := Hn.out.2; omega⟩)
          go_wp2
          go_roundw
          case rel => exact ⟨k + 1, n, hlt, by go_num, rfl, Hn2, (hkeep.trans k1).trans k2⟩
          case measure => simp [intOf]; omega
      · have Hn2 := Lib.hid (show Rg.lap (BL ls) (EL ls) (k + 1) p = n ∧ n ≤ k + 1 by rw [Hs.out, decide_eq_false g1, Hn.out.1]; exact ⟨by simp, by have := Hn.out.2; omega⟩)
        have g1' : decide (bgn x.l ≤ p) = false := decide_eq_false g1
        go_wp2_with fail
        refine HB.out.mono ?_
        rintro e w1 ⟨rfl, k1⟩
        go_wp2
        go_roundw
        case rel => exact ⟨k + 1, n, hlt, by go_num, rfl, Hn2, hkeep.trans k1⟩
        case measure => simp [intOf]; omega
    · have Hy := Lib.hid (show Rg.lap (BL ls) (EL ls) ls.length p = n by
        have := Hn.out.1
        rwa [show k = ls.length by omega] at this)
      clear h
      go_wp2
      go_ret
      exact ⟨by rw [Hy.out]; rfl, hkeep⟩
end Go.Proofs.Ytigidchignlpmaa
