/-
  The reference's state in memory; have.
-/
import Derived.Test.YtigidchignlpmaaRRef3
import Derived.Test.YtigidchignlpmaaRRefP
import Derived.Test.YtigidchignlpmaaRScan5
namespace Go.Proofs.Ytigidchignlpmaa
open Go Go.RowKit Rg

def optF (o : Option Nat) : List Value := [optC o]
theorem optF_len (o : Option Nat) : (optF o).length = 1 := rfl
theorem optF_map (l : List (Option Nat)) : l.flatMap optF = l.map optC := by
  induction l with
  | nil => rfl
  | cons a l ih => rw [List.flatMap_cons, ih]; rfl
theorem elO : ElT Try.prog 59 3 1 8 optF where
  slice := Try.underlying59
  info := info_of (z := .int .i64 0) (by kernel_rfl) rfl
  pos := by omega
  len := fun _ => rfl
  one := fun x u hu => by
    simp [optF] at hu; subst hu
    cases x <;> rfl
/-- The reference's state. -/
structure RfD where
  a1 : Option Addr
  c1 : Nat
  a2 : Option Addr
  c2 : Nat
  t : Rf
def RfD.cells (x : RfD) : List Value := [.slice x.a1 x.t.regs.length x.c1, .slice x.a2 x.t.slots.length x.c2]
structure RfOk (w : World) (x : RfD) : Prop where
  regs : Seg w x.a1 (x.t.regs.flatMap optF)
  slots : Seg w x.a2 (x.t.slots.flatMap optF)
/-- Its rows lie in other blocks than b. -/
def RfD.Off (x : RfD) (b : Nat) : Prop := (∀ ad, x.a1 = some ad → ad.block ≠ b) ∧ ∀ ad, x.a2 = some ad → ad.block ≠ b
theorem RfOk.keep {w w' : World} {x : RfD} (h : RfOk w x) (hk : Keep w w') : RfOk w' x := ⟨h.regs.keep hk, h.slots.keep hk⟩

/-- A fresh copy of a row. -/
theorem copyRow {w : World} {A : Option Addr} {l : List (Option Nat)} (hs : Seg w A (l.flatMap optF)) (hl : l.length ≤ 1000000) (c : Nat) :
    ∃ A' c' w2, (Builtin.append_ #[59, 59] 59 #[.slice (some ⟨w.heap.size, 0, none⟩) 0 0, .slice A l.length c]).run Try.prog (w.alloc (.cells #[] 3)) = .ok (.slice A' l.length c') w2 ∧
      Own optF 1 3 w2 w.heap.size (.slice A' l.length c') l ∧ Keep w w2 := by
  have hka : Keep w (w.alloc (.cells #[] 3)) := (Keep.refl _).alloc _
  have ho : Own optF 1 3 (w.alloc (.cells #[] 3)) w.heap.size (.slice (some ⟨w.heap.size, 0, none⟩) 0 0) [] := Own.empty_made optF 1 3 w (Nat.le_refl _)
  obtain ⟨v', w2, hrun, hown, hg, hbl⟩ := append_run (ys := l) elO ho (hs.keep hka) c 59 (by simp [maxLen]; omega) (by simp; omega) hka.size
  obtain ⟨A', c', rfl, _⟩ := hown.form
  rw [List.nil_append] at hrun hown
  exact ⟨A', c', w2, hrun, hown, hka.grown hg (fun k hk => by have := (ho.lt k hk).1; exact this)⟩

/-- A row of a call's own, changed at one place. -/
theorem rowPut {w : World} {base : Nat} {A : Option Addr} {c : Nat} {l : List (Option Nat)} (h : Own optF 1 3 w base (.slice A l.length c) l) {r : Nat} (hr : r < l.length) (o : Option Nat) :
    ∃ g, A = some ⟨g, 0, none⟩ ∧ base ≤ g ∧ g < w.heap.size ∧ w.frozen? ⟨g, r, none⟩ = false ∧ (∃ u, w.cell? ⟨g, r, none⟩ = some u) ∧ Own optF 1 3 (w.setCell ⟨g, r, none⟩ (optC o)) base (.slice A (l.set r o).length c) (l.set r o) := by
  obtain ⟨g, c', hv, hg, hb, hc⟩ := own_at h (by omega)
  cases hv
  refine ⟨g, rfl, hb, hg, h.thawed r, ⟨optC l[r], hc r _ ?_⟩, ?_⟩
  · rw [optF_map, List.getElem?_map, List.getElem?_eq_getElem hr]; rfl
  · have := h.put optF_len r (optC o) (ys := l.set r o) (by rw [optF_map, optF_map, List.map_set]) (by simp)
    simpa using this

set_option maxHeartbeats 2000000 in
theorem rHave_calls (x : RfD) (w : World) (h : RfOk w x) (r y : Nat) (hr : r < x.t.regs.length) (hl : x.t.regs.length ≤ 1000000) :
    Calls Try.prog 41 #[.agg x.cells.toArray, .int .i64 (r : Int), .int .i64 (y : Int)] w fun e w' => ∃ x', e = .returned (.agg x'.cells.toArray) ∧ x'.t = ⟨x.t.regs.set r (some y), x.t.slots⟩ ∧ RfOk w' x' ∧ (∀ b, b < w.heap.size → x.Off b → x'.Off b) ∧ Keep w w' := by
  obtain ⟨a1, c1, a2, c2, t⟩ := x
  obtain ⟨regs, slots⟩ := t
  replace hr : r < regs.length := hr
  replace hl : regs.length ≤ 1000000 := hl
  show Calls Try.prog 41 #[.agg #[.slice a1 regs.length c1, .slice a2 slots.length c2], .int .i64 (r : Int), .int .i64 (y : Int)] w _
  have hk1 : Keep w ((w.alloc (.cells #[.slice a1 regs.length c1, .slice a2 slots.length c2] 66)).alloc (.cells #[.slice none 0 0, .slice none 0 0] 66)) := ((Keep.refl _).alloc _).alloc _
  have b0 : Blk ((w.alloc (.cells #[.slice a1 regs.length c1, .slice a2 slots.length c2] 66)).alloc (.cells #[.slice none 0 0, .slice none 0 0] 66)) w.heap.size 66 [.slice a1 regs.length c1, .slice a2 slots.length c2] := (Blk.new w _ [.slice a1 regs.length c1, .slice a2 slots.length c2]).keep ((Keep.refl _).alloc _)
  have b1 : Blk ((w.alloc (.cells #[.slice a1 regs.length c1, .slice a2 slots.length c2] 66)).alloc (.cells #[.slice none 0 0, .slice none 0 0] 66)) (w.heap.size + 1) 66 [.slice none 0 0, .slice none 0 0] := by
    have := Blk.new (w.alloc (.cells #[.slice a1 regs.length c1, .slice a2 slots.length c2] 66)) 66 [.slice none 0 0, .slice none 0 0]
    simpa using this
  obtain ⟨A', c', w2, hrun, hown, k2⟩ := copyRow (h.keep hk1).regs hl c1
  have hsz2 : ((w.alloc (.cells #[.slice a1 regs.length c1, .slice a2 slots.length c2] 66)).alloc (.cells #[.slice none 0 0, .slice none 0 0] 66)).heap.size = w.heap.size + 1 + 1 := by simp
  rw [hsz2] at hrun
  have hsz : w.heap.size + 1 < ((w.alloc (.cells #[.slice a1 regs.length c1, .slice a2 slots.length c2] 66)).alloc (.cells #[.slice none 0 0, .slice none 0 0] 66)).heap.size := b1.lt
  obtain ⟨g, rfl, hg, hgl, fg, ⟨u, cg⟩, hown3⟩ := rowPut hown hr (some y)
  have hr0 : (0 : Int) ≤ (r : Int) := by omega
  have hrr : (r : Int) < (regs.length : Int) := by omega
  have b03 := (b0.keep k2).far (p := ⟨g, r, none⟩) (by show ¬ w.heap.size = g; omega) (.int .i64 (y : Int))
  have b13 := (b1.keep k2).far (p := ⟨g, r, none⟩) (by show ¬ w.heap.size + 1 = g; omega) (.int .i64 (y : Int))
  have b04 := b03.set_ 0 (.slice (some ⟨g, 0, none⟩) regs.length c')
  have b14 := b13.far (p := ⟨w.heap.size, 0, none⟩) (by show ¬ w.heap.size + 1 = w.heap.size; omega) (.slice (some ⟨g, 0, none⟩) regs.length c')
  have b15 := b14.set_ 0 (.slice (some ⟨g, 0, none⟩) regs.length c')
  have b16 := b15.set_ 1 (.slice a2 slots.length c2)
  have Hfin := Lib.hid (show ∃ x' : RfD, (.agg #[.slice (some ⟨g, 0, none⟩) regs.length c', .slice a2 slots.length c2] : Value) = .agg x'.cells.toArray ∧ x'.t = ⟨regs.set r (some y), slots⟩ ∧ RfOk ((((w2.setCell ⟨g, r, none⟩ (.int .i64 (y : Int))).setCell ⟨w.heap.size, 0, none⟩ (.slice (some ⟨g, 0, none⟩) regs.length c')).setCell ⟨w.heap.size + 1, 0, none⟩ (.slice (some ⟨g, 0, none⟩) regs.length c')).setCell ⟨w.heap.size + 1, 1, none⟩ (.slice a2 slots.length c2)) x' ∧ (∀ b, b < w.heap.size → RfD.Off ⟨a1, c1, a2, c2, ⟨regs, slots⟩⟩ b → x'.Off b) ∧
      Keep w ((((w2.setCell ⟨g, r, none⟩ (.int .i64 (y : Int))).setCell ⟨w.heap.size, 0, none⟩ (.slice (some ⟨g, 0, none⟩) regs.length c')).setCell ⟨w.heap.size + 1, 0, none⟩ (.slice (some ⟨g, 0, none⟩) regs.length c')).setCell ⟨w.heap.size + 1, 1, none⟩ (.slice a2 slots.length c2)) from by
    have kk : Keep w ((((w2.setCell ⟨g, r, none⟩ (.int .i64 (y : Int))).setCell ⟨w.heap.size, 0, none⟩ (.slice (some ⟨g, 0, none⟩) regs.length c')).setCell ⟨w.heap.size + 1, 0, none⟩ (.slice (some ⟨g, 0, none⟩) regs.length c')).setCell ⟨w.heap.size + 1, 1, none⟩ (.slice a2 slots.length c2)) :=
      ((((hk1.trans k2).setCell (p := ⟨g, r, none⟩) (by show w.heap.size ≤ g; omega) _).setCell (p := ⟨w.heap.size, 0, none⟩) (Nat.le_refl _) _).setCell (p := ⟨w.heap.size + 1, 0, none⟩) (by show w.heap.size ≤ w.heap.size + 1; omega) _).setCell (p := ⟨w.heap.size + 1, 1, none⟩) (by show w.heap.size ≤ w.heap.size + 1; omega) _
    have ho : ∀ k, (Value.slice (some ⟨g, 0, none⟩) (regs.set r (some y)).length c').ownBlock = some k → w.heap.size + 1 < k := fun k hk => by have := (hown3.lt k hk).1; omega
    refine ⟨⟨some ⟨g, 0, none⟩, c', a2, c2, ⟨regs.set r (some y), slots⟩⟩, by simp [RfD.cells], rfl, ⟨?_, (h.keep kk).slots⟩, fun b hb ho => ⟨fun ad e => by cases e; show ¬ g = b; omega, ho.2⟩, kk⟩
    exact (((hown3.put_far (p := ⟨w.heap.size, 0, none⟩) (fun k hk => by have := ho k hk; show ¬ k = w.heap.size; omega) _).put_far (p := ⟨w.heap.size + 1, 0, none⟩) (fun k hk => by have := ho k hk; show ¬ k = w.heap.size + 1; omega) _).put_far (p := ⟨w.heap.size + 1, 1, none⟩) (fun k hk => by have := ho k hk; show ¬ k = w.heap.size + 1; omega) _).seg)
  have y00 : (w2.setCell ⟨g, r, none⟩ (.int .i64 (y : Int))).cell? ⟨w.heap.size, 0, none⟩ = some (.slice a1 regs.length c1) := b03.cell 0
  have y0f := b03.frozen 0
  have y0l := b03.lt
  have z0 : ((w2.setCell ⟨g, r, none⟩ (.int .i64 (y : Int))).setCell ⟨w.heap.size, 0, none⟩ (.slice (some ⟨g, 0, none⟩) regs.length c')).cell? ⟨w.heap.size, 0, none⟩ = some (.slice (some ⟨g, 0, none⟩) regs.length c') := b04.cell 0
  have z1 : ((w2.setCell ⟨g, r, none⟩ (.int .i64 (y : Int))).setCell ⟨w.heap.size, 0, none⟩ (.slice (some ⟨g, 0, none⟩) regs.length c')).cell? ⟨w.heap.size, 1, none⟩ = some (.slice a2 slots.length c2) := b04.cell 1
  have t0 : ((w2.setCell ⟨g, r, none⟩ (.int .i64 (y : Int))).setCell ⟨w.heap.size, 0, none⟩ (.slice (some ⟨g, 0, none⟩) regs.length c')).cell? ⟨w.heap.size + 1, 0, none⟩ = some (.slice none 0 0) := b14.cell 0
  have t0f := b14.frozen 0
  have t0l := b14.lt
  have t1 : (((w2.setCell ⟨g, r, none⟩ (.int .i64 (y : Int))).setCell ⟨w.heap.size, 0, none⟩ (.slice (some ⟨g, 0, none⟩) regs.length c')).setCell ⟨w.heap.size + 1, 0, none⟩ (.slice (some ⟨g, 0, none⟩) regs.length c')).cell? ⟨w.heap.size + 1, 1, none⟩ = some (.slice none 0 0) := b15.cell 1
  have t1f := b15.frozen 1
  have v0 : ((((w2.setCell ⟨g, r, none⟩ (.int .i64 (y : Int))).setCell ⟨w.heap.size, 0, none⟩ (.slice (some ⟨g, 0, none⟩) regs.length c')).setCell ⟨w.heap.size + 1, 0, none⟩ (.slice (some ⟨g, 0, none⟩) regs.length c')).setCell ⟨w.heap.size + 1, 1, none⟩ (.slice a2 slots.length c2)).cell? ⟨w.heap.size + 1, 0, none⟩ = some (.slice (some ⟨g, 0, none⟩) regs.length c') := b16.cell 0
  have v1 : ((((w2.setCell ⟨g, r, none⟩ (.int .i64 (y : Int))).setCell ⟨w.heap.size, 0, none⟩ (.slice (some ⟨g, 0, none⟩) regs.length c')).setCell ⟨w.heap.size + 1, 0, none⟩ (.slice (some ⟨g, 0, none⟩) regs.length c')).setCell ⟨w.heap.size + 1, 1, none⟩ (.slice a2 slots.length c2)).cell? ⟨w.heap.size + 1, 1, none⟩ = some (.slice a2 slots.length c2) := b16.cell 1
  clear b0 b1 b03 b13 b04 b14 b15 b16 hown hown3 h hk1 k2
  obtain ⟨w3, hw3⟩ : ∃ w3, w2.setCell ⟨g, r, none⟩ (.int .i64 (y : Int)) = w3 := ⟨_, rfl⟩
  simp only [hw3] at Hfin y00 y0f y0l z0 z1 t0 t0f t0l t1 t1f v0 v1
  obtain ⟨w4, hw4⟩ : ∃ w4, w3.setCell ⟨w.heap.size, 0, none⟩ (.slice (some ⟨g, 0, none⟩) regs.length c') = w4 := ⟨_, rfl⟩
  simp only [hw4] at Hfin z0 z1 t0 t0f t0l t1 t1f v0 v1
  obtain ⟨w5, hw5⟩ : ∃ w5, w4.setCell ⟨w.heap.size + 1, 0, none⟩ (.slice (some ⟨g, 0, none⟩) regs.length c') = w5 := ⟨_, rfl⟩
  simp only [hw5] at Hfin t1 t1f v0 v1
  obtain ⟨w6, hw6⟩ : ∃ w6, w5.setCell ⟨w.heap.size + 1, 1, none⟩ (.slice a2 slots.length c2) = w6 := ⟨_, rfl⟩
  simp only [hw6] at Hfin v0 v1
  go_enter Try.func41, Try.ntmps41
  go_wp2_with (at_builtin; refine wpList_append_eq rfl _ _ _ rfl _ _ rfl rfl _ _ hrun ?_; clear hrun)
  obtain ⟨x', e1, e2, e3, e4⟩ := Hfin.out
  exact bodyPost_ret (v := .agg #[.slice (some ⟨g, 0, none⟩) regs.length c', .slice a2 slots.length c2]) (by simp [results, Try.results41, go_sem, v0, v1]) rfl ⟨x', by rw [e1], e2, e3, e4⟩
end Go.Proofs.Ytigidchignlpmaa
