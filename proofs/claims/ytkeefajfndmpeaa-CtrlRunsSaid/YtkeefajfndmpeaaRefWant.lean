/-
  The reference: Want, Shut.
-/
import Derived.Test.YtkeefajfndmpeaaRefOpen
namespace Go.Proofs.Ytkeefajfndmpeaa
open Go Go.RowKit

theorem Stk.cut_cut (s : Stk) {n m : Nat} (h : m ≤ n) : (s.cut n).cut m = s.cut m := by simp [Stk.cut, List.take_take, Nat.min_eq_left h]
theorem Stk.cut_all (s : Stk) : s.cut s.T.length = s := by simp [Stk.cut]

/-- Pop, after the types beyond n are gone, and one step. -/
theorem pop_at {s : Stk} {n : Nat} (h : n = s.at_) (hn : n ≤ s.T.length) : (s.cut n).pop = (s.cut n, 0, if s.loose then 0 else 13) := by
  have hl : (s.cut n).T.length = n := by simp [Stk.cut]; omega
  unfold Stk.pop
  rw [hl, if_neg (by show ¬ s.at_ < n; omega)]
  show (if s.loose then _ else _) = _
  cases s.loose <;> rfl
theorem pop_on {s : Stk} {n : Nat} (h : s.at_ < n) (hn : n ≤ s.T.length) : (s.cut n).pop = (s.cut (n - 1), s.T.getD (n - 1) 0, 0) := by
  have hl : (s.cut n).T.length = n := by simp [Stk.cut]; omega
  unfold Stk.pop
  rw [hl, if_pos (by show s.at_ < n; omega), Stk.cut_cut s (by omega)]
  congr 2
  show (s.T.take n).getD (n - 1) 0 = _
  rw [List.getD_eq_getElem?_getD, List.getD_eq_getElem?_getD, List.getElem?_take, if_pos (by omega)]

theorem Keep.set0 {w W : World} (h : Keep w W) (i : Nat) (u : Value) : Keep w (W.setCell ⟨w.heap.size, i, none⟩ u) := h.setCell (p := ⟨w.heap.size, i, none⟩) (Nat.le_refl _) u
theorem Keep.set1 {w W : World} (h : Keep w W) (i : Nat) (u : Value) : Keep w (W.setCell ⟨w.heap.size + 1, i, none⟩ u) := h.setCell (p := ⟨w.heap.size + 1, i, none⟩) (Nat.le_succ _) u

set_option maxHeartbeats 4000000 in
theorem refWant_calls {w : World} {A1 A2 A3 : Option Addr} {c1 c2 c3 most : Nat} {s : Stk} (h : RefIs w A1 A2 A3 c1 c2 c3 most s) (hok : s.Ok) (l : List Int) (A : Option Addr) (c : Nat) (hs : Seg w A (l.flatMap valC)) (hn : s.T.length ≤ 1000000) (hm : s.P.length ≤ 1000000) (hl : l.length ≤ 1000000) :
    Calls Try.prog 50 #[.agg #[.slice A1 s.T.length c1, .slice A2 s.P.length c2, .slice A3 s.P.length c3, .int .i64 (most : Int)], .slice A l.length c] w fun e w' =>
      e = .returned (.tuple #[.agg #[.slice A1 (s.want l).1.T.length c1, .slice A2 s.P.length c2, .slice A3 s.P.length c3, .int .i64 (most : Int)], .int .i64 (s.want l).2]) ∧ Keep w w' := by
  obtain ⟨wa, hwa⟩ : ∃ wa : World, wa = ((w.alloc (.cells (rcells A1 A2 A3 s.T.length s.P.length c1 c2 c3 most).toArray 31)).alloc (.cells rzero.toArray 31)).alloc (.cells (rcells A1 A2 A3 s.T.length s.P.length c1 c2 c3 most).toArray 31) := ⟨_, rfl⟩
  obtain ⟨hkb, bb0, bb1, hz⟩ := two_boxes w _ (wa := (w.alloc (.cells (rcells A1 A2 A3 s.T.length s.P.length c1 c2 c3 most).toArray 31)).alloc (.cells rzero.toArray 31)) rfl
  have hka : Keep w wa := by rw [hwa]; exact hkb.alloc _
  have ba : Blk wa w.heap.size 31 (rcells A1 A2 A3 s.T.length s.P.length c1 c2 c3 most) := by rw [hwa]; exact bb0.keep ((Keep.refl _).alloc _)
  have bb : Blk wa (w.heap.size + 1) 31 rzero := by rw [hwa]; exact bb1.keep ((Keep.refl _).alloc _)
  have bc : Blk wa (w.heap.size + 1 + 1) 31 (rcells A1 A2 A3 s.T.length s.P.length c1 c2 c3 most) := by
    rw [hwa]
    have := Blk.new ((w.alloc (.cells (rcells A1 A2 A3 s.T.length s.P.length c1 c2 c3 most).toArray 31)).alloc (.cells rzero.toArray 31)) 31 (rcells A1 A2 A3 s.T.length s.P.length c1 c2 c3 most)
    simpa using this
  have hw0 : IntKind.i64.wrap ((l.length : Int) - 1) = (l.length : Int) - 1 := IntWalk.i64_in _ (by omega)
  go_enter Try.func50, Try.ntmps50
  go_wp2
  go_loopw [7] (fun i wr => ∃ k n : Nat, k ≤ l.length ∧ i = .int .i64 ((l.length : Int) - 1 - (k : Int)) ∧ s.steps (l.reverse.take k) s.T.length = .ok n ∧ Blk wr w.heap.size 31 (rcells A1 A2 A3 n s.P.length c1 c2 c3 most) ∧ Blk wr (w.heap.size + 1) 31 rzero ∧ Blk wr (w.heap.size + 1 + 1) 31 (rcells A1 A2 A3 s.T.length s.P.length c1 c2 c3 most) ∧ Keep w wr) (fun i _ => (intOf i + 1).toNat)
  case atStart =>
    refine ⟨0, s.T.length, Nat.zero_le _, by simp, rfl, ?_, ?_, ?_, ?_⟩
    · rw [hwa] at ba; exact ba
    · rw [hwa] at bb; exact bb
    · rw [hwa] at bc; exact bc
    · rw [hwa] at hka; exact hka
  case round =>
    clear ba bb bc hka hwa bb0 bb1 hkb
    obtain ⟨k, n, hk, rfl, hst, b0, b1, b2, hkw⟩ := hrel
    obtain ⟨hn1, hn2⟩ := Stk.steps_le hst hok.le
    have x0 : wr.cell? ⟨w.heap.size, 0, none⟩ = some (.slice A1 n c1) := b0.cell 0
    have x1 : wr.cell? ⟨w.heap.size, 1, none⟩ = some (.slice A2 s.P.length c2) := b0.cell 1
    have x2 : wr.cell? ⟨w.heap.size, 2, none⟩ = some (.slice A3 s.P.length c3) := b0.cell 2
    have x3 : wr.cell? ⟨w.heap.size, 3, none⟩ = some (.int .i64 (most : Int)) := b0.cell 3
    have lx := b0.lt
    by_cases hlt : k < l.length
    · obtain ⟨j, hj⟩ : ∃ j : Nat, (l.length : Int) - 1 - (k : Int) = (j : Int) := ⟨l.length - 1 - k, by omega⟩
      have hjl : j < l.length := by omega
      have hrev : l.reverse[k]'(by simp; omega) = l[j] := by
        rw [List.getElem_reverse]
        congr 1
        omega
      obtain ⟨bl, off, rfl, hbl, hcell⟩ := val_at hs hkw hjl
      have hj0 : (0 : Int) ≤ (j : Int) := by omega
      have hj1 : (j : Int) < (l.length : Int) := by omega
      have hwj : IntKind.i64.wrap ((j : Int) - 1) = (j : Int) - 1 := IntWalk.i64_in _ (by omega)
      have hsn : s.steps (l.reverse.take (k + 1)) s.T.length = s.step l[j] n := by
        rw [take_snoc l.reverse (by simp; omega), hrev, Stk.steps_snoc, hst]
      have hcl : (s.cut n).T.length = n := by simp [Stk.cut]; omega
      have hp : Calls Try.prog 49 #[.agg #[.slice A1 n c1, .slice A2 s.P.length c2, .slice A3 s.P.length c3, .int .i64 (most : Int)]] wr fun e w' => e = .returned (.tuple #[.agg #[.slice A1 (s.cut n).pop.1.T.length c1, .slice A2 s.P.length c2, .slice A3 s.P.length c3, .int .i64 (most : Int)], .int .i64 (s.cut n).pop.2.1, .int .i64 (s.cut n).pop.2.2]) ∧ Keep wr w' := by
        have := refPop_calls ((h.keep hkw).cut n) (hok.cut hn1) (by rw [hcl]; omega) hm
        rw [hcl] at this
        exact this
      have hpre : l.reverse = l.reverse.take (k + 1) ++ l.reverse.drop (k + 1) := (List.take_append_drop _ _).symm
      have herr : ∀ e : Int, (e = 12 ∨ e = 13) → s.step l[j] n = .error e → s.want l = (s, e) := fun e he hse => by
        have h1 : s.steps l.reverse s.T.length = .error e := by rw [hpre]; exact Stk.steps_pre (hsn.trans hse)
        have h2 : s.left l = (0, e) := by unfold Stk.left; rw [h1]
        unfold Stk.want
        rw [h2, if_neg (by rcases he with rfl | rfl <;> decide)]
      rw [hj]
      by_cases h13 : n = s.at_ ∧ s.loose = false
      · have hpop := pop_at h13.1 hn2
        rw [h13.2] at hpop
        have hwant := herr 13 (.inr rfl) (by unfold Stk.step; rw [if_pos h13.1, h13.2]; rfl)
        rw [hpop] at hp
        have Hp := Lib.hid hp
        have Hw := Lib.hid hwant
        have Hb1 := Lib.hid b1
        have Hb2 := Lib.hid b2
        clear hp hpop hwant herr hpre hsn hcl h13 hst hrev hj b0 b1 b2
        go_wp2_with fail
        refine Hp.out.mono ?_
        rintro e w1 ⟨rfl, hk1⟩
        have y0 : w1.cell? ⟨w.heap.size + 1, 0, none⟩ = some (.slice none 0 0) := (Hb1.out.keep hk1).cell 0
        have y1 : w1.cell? ⟨w.heap.size + 1, 1, none⟩ = some (.slice none 0 0) := (Hb1.out.keep hk1).cell 1
        have y2 : w1.cell? ⟨w.heap.size + 1, 2, none⟩ = some (.slice none 0 0) := (Hb1.out.keep hk1).cell 2
        have y3 : w1.cell? ⟨w.heap.size + 1, 3, none⟩ = some (.int .i64 0) := (Hb1.out.keep hk1).cell 3
        have z0 : w1.cell? ⟨w.heap.size + 1 + 1, 0, none⟩ = some (.slice A1 s.T.length c1) := (Hb2.out.keep hk1).cell 0
        have z1 : w1.cell? ⟨w.heap.size + 1 + 1, 1, none⟩ = some (.slice A2 s.P.length c2) := (Hb2.out.keep hk1).cell 1
        have z2 : w1.cell? ⟨w.heap.size + 1 + 1, 2, none⟩ = some (.slice A3 s.P.length c3) := (Hb2.out.keep hk1).cell 2
        have z3 : w1.cell? ⟨w.heap.size + 1 + 1, 3, none⟩ = some (.int .i64 (most : Int)) := (Hb2.out.keep hk1).cell 3
        have fy := (Hb1.out.keep hk1).frozen
        have ly := (Hb1.out.keep hk1).lt
        have hny : w.heap.size + 1 ≠ w1.heap.size := Nat.ne_of_lt ly
        have hny' : ¬ w1.heap.size = w.heap.size + 1 := fun e => hny e.symm
        have lz := (Hb2.out.keep hk1).lt
        go_wp2
        refine bodyPost_ret (v := .tuple #[.agg #[.slice A1 s.T.length c1, .slice A2 s.P.length c2, .slice A3 s.P.length c3, .int .i64 (most : Int)], .int .i64 13]) (by simp [results, Try.results50, go_sem, y0, y1, y2, y3, z0, z1, z2, z3, ly, hny, hny']) rfl ⟨by rw [Hw.out], ?_⟩
        exact (((((hkw.trans hk1).set1 _ _).set1 _ _).set1 _ _).set1 _ _).alloc _
      · obtain ⟨n', t, hpop, hstep, hn'⟩ : ∃ (n' : Nat) (t : Int), (s.cut n).pop = (s.cut n', t, 0) ∧ s.step l[j] n = (if t ≠ l[j] ∧ t ≠ 0 ∧ l[j] ≠ 0 then .error 12 else .ok n') ∧ n' ≤ s.T.length := by
          by_cases hna : n = s.at_
          · have hlo : s.loose = true := by
              cases hc : s.loose with
              | true => rfl
              | false => exact absurd ⟨hna, hc⟩ h13
            refine ⟨n, 0, by rw [pop_at hna hn2, hlo]; rfl, ?_, hn2⟩
            unfold Stk.step
            rw [if_pos hna, if_pos hlo]
            exact (if_neg (fun h => h.2.1 rfl)).symm
          · refine ⟨n - 1, s.T.getD (n - 1) 0, pop_on (by omega) hn2, ?_, by omega⟩
            unfold Stk.step
            rw [if_neg hna]
        have hcl' : (s.cut n').T.length = n' := by simp [Stk.cut]; omega
        rw [hpop] at hp
        simp only [hcl'] at hp
        rw [hstep] at hsn
        have Hj := Lib.hid hj
        clear hcl'
        by_cases e1 : t = l[j]
        · have q1 : (t != l[j]) = false := by simp [e1]
          have Hs := Lib.hid (show s.steps (l.reverse.take (k + 1)) s.T.length = .ok n' by rw [hsn, if_neg (fun h => h.1 e1)])
          have Hp := Lib.hid hp
          have Hb0 := Lib.hid b0
          have Hb1 := Lib.hid b1
          have Hb2 := Lib.hid b2
          clear hp hpop herr hpre hsn hcl h13 hst hrev hj b0 b1 b2 hstep
          clear e1
          go_wp2_with fail
          refine Hp.out.mono ?_
          rintro e w1 ⟨rfl, hk1⟩
          have b01 := Hb0.out.keep hk1
          have b11 := Hb1.out.keep hk1
          have b21 := Hb2.out.keep hk1
          have hcell1 := hk1.cell hcell
          have hbl1 : bl < w1.heap.size := Nat.lt_of_lt_of_le (Nat.lt_of_lt_of_le hbl hkw.size) hk1.size
          have x01 := hk1.cell x0
          have x11 := hk1.cell x1
          have x21 := hk1.cell x2
          have x31 := hk1.cell x3
          have fx1 := b01.frozen
          have lx1 := b01.lt
          have hne1 : w.heap.size ≠ w1.heap.size := by omega
          have B0 := (((b01.set_ 0 (.slice A1 n' c1)).set_ 1 (.slice A2 s.P.length c2)).set_ 2 (.slice A3 s.P.length c3)).set_ 3 (.int .i64 (most : Int))
          have B1 := ((((b11).far (p := ⟨w.heap.size, 0, none⟩) (by show w.heap.size + 1 ≠ w.heap.size; omega) (.slice A1 n' c1)).far (p := ⟨w.heap.size, 1, none⟩) (by show w.heap.size + 1 ≠ w.heap.size; omega) (.slice A2 s.P.length c2)).far (p := ⟨w.heap.size, 2, none⟩) (by show w.heap.size + 1 ≠ w.heap.size; omega) (.slice A3 s.P.length c3)).far (p := ⟨w.heap.size, 3, none⟩) (by show w.heap.size + 1 ≠ w.heap.size; omega) (.int .i64 (most : Int))
          have B2 := ((((b21).far (p := ⟨w.heap.size, 0, none⟩) (by show w.heap.size + 1 + 1 ≠ w.heap.size; omega) (.slice A1 n' c1)).far (p := ⟨w.heap.size, 1, none⟩) (by show w.heap.size + 1 + 1 ≠ w.heap.size; omega) (.slice A2 s.P.length c2)).far (p := ⟨w.heap.size, 2, none⟩) (by show w.heap.size + 1 + 1 ≠ w.heap.size; omega) (.slice A3 s.P.length c3)).far (p := ⟨w.heap.size, 3, none⟩) (by show w.heap.size + 1 + 1 ≠ w.heap.size; omega) (.int .i64 (most : Int))
          have HB0 := Lib.hid B0
          have HB1 := Lib.hid B1
          have HB2 := Lib.hid B2
          clear B0 B1 B2 b01 b11 b21 x0 x1 x2 x3
          go_wp2
          go_roundw
          case rel => exact ⟨k + 1, n', hlt, by have := Hj.out; congr 1; omega, Hs.out, HB0.out.keep ((Keep.refl _).alloc _), HB1.out.keep ((Keep.refl _).alloc _), HB2.out.keep ((Keep.refl _).alloc _), (((((hkw.trans hk1).set0 _ _).set0 _ _).set0 _ _).set0 _ _).alloc _⟩
          case measure => simp [intOf]
        · have q1 : (t != l[j]) = true := by simp [e1]
          by_cases e2 : t = 0
          · have q2 : (t != 0) = false := by simp [e2]
            have Hs := Lib.hid (show s.steps (l.reverse.take (k + 1)) s.T.length = .ok n' by rw [hsn, if_neg (fun h => h.2.1 e2)])
            have Hp := Lib.hid hp
            have Hb0 := Lib.hid b0
            have Hb1 := Lib.hid b1
            have Hb2 := Lib.hid b2
            clear hp hpop herr hpre hsn hcl h13 hst hrev hj b0 b1 b2 hstep
            clear e1 e2
            go_wp2_with fail
            refine Hp.out.mono ?_
            rintro e w1 ⟨rfl, hk1⟩
            have b01 := Hb0.out.keep hk1
            have b11 := Hb1.out.keep hk1
            have b21 := Hb2.out.keep hk1
            have hcell1 := hk1.cell hcell
            have hbl1 : bl < w1.heap.size := Nat.lt_of_lt_of_le (Nat.lt_of_lt_of_le hbl hkw.size) hk1.size
            have x01 := hk1.cell x0
            have x11 := hk1.cell x1
            have x21 := hk1.cell x2
            have x31 := hk1.cell x3
            have fx1 := b01.frozen
            have lx1 := b01.lt
            have hne1 : w.heap.size ≠ w1.heap.size := by omega
            have B0 := (((b01.set_ 0 (.slice A1 n' c1)).set_ 1 (.slice A2 s.P.length c2)).set_ 2 (.slice A3 s.P.length c3)).set_ 3 (.int .i64 (most : Int))
            have B1 := ((((b11).far (p := ⟨w.heap.size, 0, none⟩) (by show w.heap.size + 1 ≠ w.heap.size; omega) (.slice A1 n' c1)).far (p := ⟨w.heap.size, 1, none⟩) (by show w.heap.size + 1 ≠ w.heap.size; omega) (.slice A2 s.P.length c2)).far (p := ⟨w.heap.size, 2, none⟩) (by show w.heap.size + 1 ≠ w.heap.size; omega) (.slice A3 s.P.length c3)).far (p := ⟨w.heap.size, 3, none⟩) (by show w.heap.size + 1 ≠ w.heap.size; omega) (.int .i64 (most : Int))
            have B2 := ((((b21).far (p := ⟨w.heap.size, 0, none⟩) (by show w.heap.size + 1 + 1 ≠ w.heap.size; omega) (.slice A1 n' c1)).far (p := ⟨w.heap.size, 1, none⟩) (by show w.heap.size + 1 + 1 ≠ w.heap.size; omega) (.slice A2 s.P.length c2)).far (p := ⟨w.heap.size, 2, none⟩) (by show w.heap.size + 1 + 1 ≠ w.heap.size; omega) (.slice A3 s.P.length c3)).far (p := ⟨w.heap.size, 3, none⟩) (by show w.heap.size + 1 + 1 ≠ w.heap.size; omega) (.int .i64 (most : Int))
            have HB0 := Lib.hid B0
            have HB1 := Lib.hid B1
            have HB2 := Lib.hid B2
            clear B0 B1 B2 b01 b11 b21 x0 x1 x2 x3
            go_wp2
            go_roundw
            case rel => exact ⟨k + 1, n', hlt, by have := Hj.out; congr 1; omega, Hs.out, HB0.out.keep ((Keep.refl _).alloc _), HB1.out.keep ((Keep.refl _).alloc _), HB2.out.keep ((Keep.refl _).alloc _), (((((hkw.trans hk1).set0 _ _).set0 _ _).set0 _ _).set0 _ _).alloc _⟩
            case measure => simp [intOf]
          · have q2 : (t != 0) = true := by simp [e2]
            by_cases e3 : l[j] = 0
            · have q3 : (l[j] != 0) = false := by simp [e3]
              have Hs := Lib.hid (show s.steps (l.reverse.take (k + 1)) s.T.length = .ok n' by rw [hsn, if_neg (fun h => h.2.2 e3)])
              have Hp := Lib.hid hp
              have Hb0 := Lib.hid b0
              have Hb1 := Lib.hid b1
              have Hb2 := Lib.hid b2
              clear hp hpop herr hpre hsn hcl h13 hst hrev hj b0 b1 b2 hstep
              clear e1 e2 e3
              go_wp2_with fail
              refine Hp.out.mono ?_
              rintro e w1 ⟨rfl, hk1⟩
              have b01 := Hb0.out.keep hk1
              have b11 := Hb1.out.keep hk1
              have b21 := Hb2.out.keep hk1
              have hcell1 := hk1.cell hcell
              have hbl1 : bl < w1.heap.size := Nat.lt_of_lt_of_le (Nat.lt_of_lt_of_le hbl hkw.size) hk1.size
              have x01 := hk1.cell x0
              have x11 := hk1.cell x1
              have x21 := hk1.cell x2
              have x31 := hk1.cell x3
              have fx1 := b01.frozen
              have lx1 := b01.lt
              have hne1 : w.heap.size ≠ w1.heap.size := by omega
              have B0 := (((b01.set_ 0 (.slice A1 n' c1)).set_ 1 (.slice A2 s.P.length c2)).set_ 2 (.slice A3 s.P.length c3)).set_ 3 (.int .i64 (most : Int))
              have B1 := ((((b11).far (p := ⟨w.heap.size, 0, none⟩) (by show w.heap.size + 1 ≠ w.heap.size; omega) (.slice A1 n' c1)).far (p := ⟨w.heap.size, 1, none⟩) (by show w.heap.size + 1 ≠ w.heap.size; omega) (.slice A2 s.P.length c2)).far (p := ⟨w.heap.size, 2, none⟩) (by show w.heap.size + 1 ≠ w.heap.size; omega) (.slice A3 s.P.length c3)).far (p := ⟨w.heap.size, 3, none⟩) (by show w.heap.size + 1 ≠ w.heap.size; omega) (.int .i64 (most : Int))
              have B2 := ((((b21).far (p := ⟨w.heap.size, 0, none⟩) (by show w.heap.size + 1 + 1 ≠ w.heap.size; omega) (.slice A1 n' c1)).far (p := ⟨w.heap.size, 1, none⟩) (by show w.heap.size + 1 + 1 ≠ w.heap.size; omega) (.slice A2 s.P.length c2)).far (p := ⟨w.heap.size, 2, none⟩) (by show w.heap.size + 1 + 1 ≠ w.heap.size; omega) (.slice A3 s.P.length c3)).far (p := ⟨w.heap.size, 3, none⟩) (by show w.heap.size + 1 + 1 ≠ w.heap.size; omega) (.int .i64 (most : Int))
              have HB0 := Lib.hid B0
              have HB1 := Lib.hid B1
              have HB2 := Lib.hid B2
              clear B0 B1 B2 b01 b11 b21 x0 x1 x2 x3
              go_wp2
              go_roundw
              case rel => exact ⟨k + 1, n', hlt, by have := Hj.out; congr 1; omega, Hs.out, HB0.out.keep ((Keep.refl _).alloc _), HB1.out.keep ((Keep.refl _).alloc _), HB2.out.keep ((Keep.refl _).alloc _), (((((hkw.trans hk1).set0 _ _).set0 _ _).set0 _ _).set0 _ _).alloc _⟩
              case measure => simp [intOf]
            · have q3 : (l[j] != 0) = true := by simp [e3]
              have Hw := Lib.hid (herr 12 (.inl rfl) (by rw [hstep, if_pos ⟨e1, e2, e3⟩]))
              have Hp := Lib.hid hp
              have Hb0 := Lib.hid b0
              have Hb1 := Lib.hid b1
              have Hb2 := Lib.hid b2
              clear hp hpop herr hpre hsn hcl h13 hst hrev hj b0 b1 b2 hstep
              clear e1 e2 e3
              go_wp2_with fail
              refine Hp.out.mono ?_
              rintro e w1 ⟨rfl, hk1⟩
              have hcell1 := hk1.cell hcell
              have hbl1 : bl < w1.heap.size := Nat.lt_of_lt_of_le (Nat.lt_of_lt_of_le hbl hkw.size) hk1.size
              have y0 : w1.cell? ⟨w.heap.size + 1, 0, none⟩ = some (.slice none 0 0) := (Hb1.out.keep hk1).cell 0
              have y1 : w1.cell? ⟨w.heap.size + 1, 1, none⟩ = some (.slice none 0 0) := (Hb1.out.keep hk1).cell 1
              have y2 : w1.cell? ⟨w.heap.size + 1, 2, none⟩ = some (.slice none 0 0) := (Hb1.out.keep hk1).cell 2
              have y3 : w1.cell? ⟨w.heap.size + 1, 3, none⟩ = some (.int .i64 0) := (Hb1.out.keep hk1).cell 3
              have z0 : w1.cell? ⟨w.heap.size + 1 + 1, 0, none⟩ = some (.slice A1 s.T.length c1) := (Hb2.out.keep hk1).cell 0
              have z1 : w1.cell? ⟨w.heap.size + 1 + 1, 1, none⟩ = some (.slice A2 s.P.length c2) := (Hb2.out.keep hk1).cell 1
              have z2 : w1.cell? ⟨w.heap.size + 1 + 1, 2, none⟩ = some (.slice A3 s.P.length c3) := (Hb2.out.keep hk1).cell 2
              have z3 : w1.cell? ⟨w.heap.size + 1 + 1, 3, none⟩ = some (.int .i64 (most : Int)) := (Hb2.out.keep hk1).cell 3
              have fy := (Hb1.out.keep hk1).frozen
              have ly := (Hb1.out.keep hk1).lt
              have hny : w.heap.size + 1 ≠ w1.heap.size := Nat.ne_of_lt ly
              have hny' : ¬ w1.heap.size = w.heap.size + 1 := fun e => hny e.symm
              have lz := (Hb2.out.keep hk1).lt

              go_wp2
              refine bodyPost_ret (v := .tuple #[.agg #[.slice A1 s.T.length c1, .slice A2 s.P.length c2, .slice A3 s.P.length c3, .int .i64 (most : Int)], .int .i64 12]) (by simp [results, Try.results50, go_sem, y0, y1, y2, y3, z0, z1, z2, z3, ly, hny, hny']) rfl ⟨by rw [Hw.out], ?_⟩
              exact (((((hkw.trans hk1).set1 _ _).set1 _ _).set1 _ _).set1 _ _).alloc _
    · have hke : k = l.length := by omega
      subst hke
      have hneg : (l.length : Int) - 1 - (l.length : Int) = -1 := by omega
      rw [hneg]
      rw [List.take_of_length_le (by simp)] at hst
      have hl' : s.left l = (n, 0) := by unfold Stk.left; rw [hst]
      have hcl : (s.cut n).T.length = n := by simp [Stk.cut]; omega
      have hw : s.want l = (s.cut n, 0) := by unfold Stk.want; rw [hl']; rfl
      have Hw := Lib.hid hw
      have Hcl := Lib.hid hcl
      have y0 : wr.cell? ⟨w.heap.size + 1, 0, none⟩ = some (.slice none 0 0) := b1.cell 0
      have y1 : wr.cell? ⟨w.heap.size + 1, 1, none⟩ = some (.slice none 0 0) := b1.cell 1
      have y2 : wr.cell? ⟨w.heap.size + 1, 2, none⟩ = some (.slice none 0 0) := b1.cell 2
      have y3 : wr.cell? ⟨w.heap.size + 1, 3, none⟩ = some (.int .i64 0) := b1.cell 3
      have fy := b1.frozen
      have ly := b1.lt
      clear hst hl' hw hcl hneg b0 b1 b2
      go_wp2
      refine bodyPost_ret (v := .tuple #[.agg #[.slice A1 n c1, .slice A2 s.P.length c2, .slice A3 s.P.length c3, .int .i64 (most : Int)], .int .i64 0]) (by simp [results, Try.results50, go_sem, x0, x1, x2, x3, y0, y1, y2, y3]) rfl ⟨by rw [Hw.out]; simp only [Hcl.out], ?_⟩
      exact (((hkw.set1 _ _).set1 _ _).set1 _ _).set1 _ _
end Go.Proofs.Ytkeefajfndmpeaa
