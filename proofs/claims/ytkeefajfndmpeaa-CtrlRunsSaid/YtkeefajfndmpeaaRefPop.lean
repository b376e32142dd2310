/-
  The reference: Pop.
-/
import Derived.Test.YtkeefajfndmpeaaRefPush
namespace Go.Proofs.Ytkeefajfndmpeaa
open Go Go.RowKit

def rcells (A1 A2 A3 : Option Addr) (n p c1 c2 c3 most : Nat) : List Value := [.slice A1 n c1, .slice A2 p c2, .slice A3 p c3, .int .i64 (most : Int)]
def rzero : List Value := [.slice none 0 0, .slice none 0 0, .slice none 0 0, .int .i64 0]

/-- The two first blocks of a call of the reference. -/
theorem two_boxes (w : World) (cs : List Value) {wa : World} (hwa : wa = (w.alloc (.cells cs.toArray 31)).alloc (.cells rzero.toArray 31)) :
    Keep w wa ∧ Blk wa w.heap.size 31 cs ∧ Blk wa (w.heap.size + 1) 31 rzero ∧ w.heap.size + 1 < wa.heap.size := by
  refine ⟨by rw [hwa]; exact ((Keep.refl _).alloc _).alloc _, by rw [hwa]; exact (Blk.new w _ _).keep ((Keep.refl _).alloc _), ?_, by rw [hwa]; simp⟩
  rw [hwa]
  have := Blk.new (w.alloc (.cells cs.toArray 31)) 31 rzero
  simpa using this

/-- The parts of the reference's stack. -/
def RefIs (w : World) (A1 A2 A3 : Option Addr) (c1 c2 c3 most : Nat) (s : Stk) : Prop :=
  Seg w A1 (s.T.flatMap valC) ∧ Seg w A2 (s.P.flatMap markC) ∧ Seg w A3 (s.P.flatMap looseC) ∧ s.over = decide (256 < most) ∧ s.T.length ≤ c1 ∧ s.P.length ≤ c2 ∧ s.P.length ≤ c3 ∧ most ≤ 1000000
def refV (A1 A2 A3 : Option Addr) (c1 c2 c3 most : Nat) (s : Stk) : Value := .agg #[.slice A1 s.T.length c1, .slice A2 s.P.length c2, .slice A3 s.P.length c3, .int .i64 (most : Int)]
theorem RefIs.keep {w w' : World} {A1 A2 A3 : Option Addr} {c1 c2 c3 most : Nat} {s : Stk} (h : RefIs w A1 A2 A3 c1 c2 c3 most s) (hk : Keep w w') : RefIs w' A1 A2 A3 c1 c2 c3 most s := ⟨h.1.keep hk, h.2.1.keep hk, h.2.2.1.keep hk, h.2.2.2⟩
theorem RefIs.at_ {w : World} {A1 A2 A3 : Option Addr} {c1 c2 c3 most : Nat} {s : Stk} (h : RefIs w A1 A2 A3 c1 c2 c3 most s) : RefAt (fun _ => True) w (refV A1 A2 A3 c1 c2 c3 most s) s := ⟨A1, A2, A3, c1, c2, c3, most, rfl, h.1, h.2.1, h.2.2.1, h.2.2.2.1, h.2.2.2.2.1, h.2.2.2.2.2.1, h.2.2.2.2.2.2.1, h.2.2.2.2.2.2.2, fun _ _ _ => trivial, fun _ _ _ => trivial, fun _ _ _ => trivial⟩
theorem RefIs.cut {w : World} {A1 A2 A3 : Option Addr} {c1 c2 c3 most : Nat} {s : Stk} (h : RefIs w A1 A2 A3 c1 c2 c3 most s) (n : Nat) : RefIs w A1 A2 A3 c1 c2 c3 most (s.cut n) := by
  obtain ⟨h1, h2, h3, h4, h5, h6⟩ := h
  refine ⟨?_, h2, h3, h4, ?_, h6⟩
  · show Seg w A1 ((s.T.take n).flatMap valC)
    rw [← flat_take valC 1 (fun _ => rfl)]
    exact h1.take _
  · show (s.T.take n).length ≤ c1
    simp; omega

theorem refPop_calls {w : World} {A1 A2 A3 : Option Addr} {c1 c2 c3 most : Nat} {s : Stk} (h : RefIs w A1 A2 A3 c1 c2 c3 most s) (hok : s.Ok) (hn : s.T.length ≤ 1000000) (hm : s.P.length ≤ 1000000) :
    Calls Try.prog 49 #[.agg #[.slice A1 s.T.length c1, .slice A2 s.P.length c2, .slice A3 s.P.length c3, .int .i64 (most : Int)]] w fun e w' => e = .returned (.tuple #[.agg #[.slice A1 s.pop.1.T.length c1, .slice A2 s.P.length c2, .slice A3 s.P.length c3, .int .i64 (most : Int)], .int .i64 s.pop.2.1, .int .i64 s.pop.2.2]) ∧ Keep w w' := by
  have hR := h.at_
  unfold refV at hR
  obtain ⟨s1, s2, s3, ho, hc1, hc2, hc3, hmost⟩ := h
  obtain ⟨wa, hwa⟩ : ∃ wa : World, wa = (w.alloc (.cells (rcells A1 A2 A3 s.T.length s.P.length c1 c2 c3 most).toArray 31)).alloc (.cells rzero.toArray 31) := ⟨_, rfl⟩
  obtain ⟨hka, ba, bb, hz⟩ := two_boxes w _ hwa
  have Hmark := Lib.hid (refMark_calls (hR.keep hka) hm)
  have Hloose := Lib.hid (fun (w1 : World) (hk : Keep wa w1) => refLoose1_calls ((hR.keep hka).keep hk) hm)
  have hsame : ∀ w1 W : World, Keep wa w1 → Only w.heap.size w1 W → Keep w W := fun w1 W hk hW => hW.keep (hka.trans hk)
  by_cases hlen : s.at_ < s.T.length
  · have hpop : s.pop = (s.cut (s.T.length - 1), s.T.getD (s.T.length - 1) 0, 0) := by unfold Stk.pop; rw [if_pos hlen]
    obtain ⟨ga, off, rfl, hga, hcell⟩ := val_at s1 (Keep.refl _) (k := s.T.length - 1) (by omega)
    have hgd : s.T.getD (s.T.length - 1) 0 = s.T[s.T.length - 1] := by rw [List.getD_eq_getElem?_getD, List.getElem?_eq_getElem (by omega)]; rfl
    rw [← hgd] at hcell
    obtain ⟨t, htt⟩ : ∃ t, t = s.T.getD (s.T.length - 1) 0 := ⟨_, rfl⟩
    rw [← htt] at hcell hpop
    obtain ⟨m, hmm⟩ : ∃ m, m = s.T.length - 1 := ⟨_, rfl⟩
    rw [← hmm] at hcell hpop
    have hi1 : (s.T.length : Int) - 1 = (m : Int) := by omega
    have hw : IntKind.i64.wrap ((s.T.length : Int) - 1) = (m : Int) := by rw [hi1]; exact IntWalk.i64_in _ (by omega)
    have hm0 : (0 : Int) ≤ (m : Int) := by omega
    have hm1 : (m : Int) < (s.T.length : Int) := by omega
    have hm2 : (m : Int) ≤ (c1 : Int) := by omega
    have hgt : (s.at_ : Int) < (s.T.length : Int) := by omega
    have hcl : (s.cut m).T.length = m := by simp [Stk.cut]; omega
    have Hsame := Lib.hid hsame
    have Hcl := Lib.hid hcl
    rw [hpop]
    clear hpop hgd htt hi1 hmm hcl hsame hR ho Hloose
    go_enter Try.func49, Try.ntmps49
    go_wp2_with fail
    show Calls Try.prog _ _ ((w.alloc (.cells (rcells (some ⟨ga, off, none⟩) A2 A3 s.T.length s.P.length c1 c2 c3 most).toArray 31)).alloc (.cells rzero.toArray 31)) _
    rw [← hwa]
    clear hwa
    refine Hmark.out.mono ?_
    rintro e w1 ⟨rfl, hk⟩
    have ba1 := ba.keep hk
    have bb1 := bb.keep hk
    have x0 : w1.cell? ⟨w.heap.size, 0, none⟩ = some (.slice (some ⟨ga, off, none⟩) s.T.length c1) := ba1.cell 0
    have x1 : w1.cell? ⟨w.heap.size, 1, none⟩ = some (.slice A2 s.P.length c2) := ba1.cell 1
    have x2 : w1.cell? ⟨w.heap.size, 2, none⟩ = some (.slice A3 s.P.length c3) := ba1.cell 2
    have x3 : w1.cell? ⟨w.heap.size, 3, none⟩ = some (.int .i64 (most : Int)) := ba1.cell 3
    have y0 : w1.cell? ⟨w.heap.size + 1, 0, none⟩ = some (.slice none 0 0) := bb1.cell 0
    have y1 : w1.cell? ⟨w.heap.size + 1, 1, none⟩ = some (.slice none 0 0) := bb1.cell 1
    have y2 : w1.cell? ⟨w.heap.size + 1, 2, none⟩ = some (.slice none 0 0) := bb1.cell 2
    have y3 : w1.cell? ⟨w.heap.size + 1, 3, none⟩ = some (.int .i64 0) := bb1.cell 3
    have fx := ba1.frozen
    have fy := bb1.frozen
    have lx := ba1.lt
    have ly := bb1.lt
    have hcell1 := (hka.trans hk).cell hcell
    have hga1 : ga < w1.heap.size := Nat.lt_of_lt_of_le hga (hka.trans hk).size
    clear ba bb ba1 bb1
    go_wp2
    refine bodyPost_ret (v := .tuple #[.agg #[.slice (some ⟨ga, off, none⟩) m c1, .slice A2 s.P.length c2, .slice A3 s.P.length c3, .int .i64 (most : Int)], .int .i64 t, .int .i64 0]) (by simp [results, Try.results49, go_sem, x0, x1, x2, x3, y0, y1, y2, y3]) rfl ⟨by rw [Hcl.out], Hsame.out w1 _ hk ?_⟩
    exact (((((Only.refl _ _).set0 _ _).set1 _ _).set1 _ _).set1 _ _).set1 _ _
  · have hge : ¬ (s.at_ : Int) < (s.T.length : Int) := by omega
    have Hsame := Lib.hid hsame
    cases hlo : s.loose
    all_goals
      have Hlo := Lib.hid hlo
      have hpop : s.pop = (s, 0, if s.loose then 0 else 13) := by unfold Stk.pop; rw [if_neg hlen]; cases s.loose <;> rfl
      rw [hlo] at hpop
      rw [hpop]
      clear hpop hsame hlo hR ho
      go_enter Try.func49, Try.ntmps49
      go_wp2_with fail
      show Calls Try.prog _ _ ((w.alloc (.cells (rcells A1 A2 A3 s.T.length s.P.length c1 c2 c3 most).toArray 31)).alloc (.cells rzero.toArray 31)) _
      rw [← hwa]
      clear hwa
      refine Hmark.out.mono ?_
      rintro e w1 ⟨rfl, hk1⟩
      have q0 : w1.cell? ⟨w.heap.size, 0, none⟩ = some (.slice A1 s.T.length c1) := (ba.keep hk1).cell 0
      have q1 : w1.cell? ⟨w.heap.size, 1, none⟩ = some (.slice A2 s.P.length c2) := (ba.keep hk1).cell 1
      have q2 : w1.cell? ⟨w.heap.size, 2, none⟩ = some (.slice A3 s.P.length c3) := (ba.keep hk1).cell 2
      have q3 : w1.cell? ⟨w.heap.size, 3, none⟩ = some (.int .i64 (most : Int)) := (ba.keep hk1).cell 3
      have lq := (ba.keep hk1).lt
      go_wp2_with fail
      refine (Hloose.out w1 hk1).mono ?_
      rintro e w2 ⟨rfl, hk2⟩
      have hk := hk1.trans hk2
      rw [Hlo.out]
      have ba1 := ba.keep hk
      have bb1 := bb.keep hk
      have x0 : w2.cell? ⟨w.heap.size, 0, none⟩ = some (.slice A1 s.T.length c1) := ba1.cell 0
      have x1 : w2.cell? ⟨w.heap.size, 1, none⟩ = some (.slice A2 s.P.length c2) := ba1.cell 1
      have x2 : w2.cell? ⟨w.heap.size, 2, none⟩ = some (.slice A3 s.P.length c3) := ba1.cell 2
      have x3 : w2.cell? ⟨w.heap.size, 3, none⟩ = some (.int .i64 (most : Int)) := ba1.cell 3
      have y0 : w2.cell? ⟨w.heap.size + 1, 0, none⟩ = some (.slice none 0 0) := bb1.cell 0
      have y1 : w2.cell? ⟨w.heap.size + 1, 1, none⟩ = some (.slice none 0 0) := bb1.cell 1
      have y2 : w2.cell? ⟨w.heap.size + 1, 2, none⟩ = some (.slice none 0 0) := bb1.cell 2
      have y3 : w2.cell? ⟨w.heap.size + 1, 3, none⟩ = some (.int .i64 0) := bb1.cell 3
      have fx := ba1.frozen
      have fy := bb1.frozen
      have lx := ba1.lt
      have ly := bb1.lt
      clear ba bb ba1 bb1
      go_wp2
      refine bodyPost_ret (v := .tuple #[.agg #[.slice A1 s.T.length c1, .slice A2 s.P.length c2, .slice A3 s.P.length c3, .int .i64 (most : Int)], .int .i64 0, _]) (by simp [results, Try.results49, go_sem, x0, x1, x2, x3, y0, y1, y2, y3]) rfl ⟨rfl, Hsame.out w2 _ hk ?_⟩
      exact ((((Only.refl _ _).set1 _ _).set1 _ _).set1 _ _).set1 _ _
end Go.Proofs.Ytkeefajfndmpeaa
