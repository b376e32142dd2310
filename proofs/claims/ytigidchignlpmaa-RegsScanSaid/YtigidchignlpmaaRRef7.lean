/-
  The reference's spill.
-/
import Derived.Test.YtigidchignlpmaaRRef6
namespace Go.Proofs.Ytigidchignlpmaa
open Go Go.RowKit Rg

set_option maxHeartbeats 4000000 in
theorem rSpill_calls (x : RfD) (A : Option Addr) (ls : List LvD) (c : Nat) (i s0 : Nat) (w : World) (h : RfOk w x) (hl : Lives w A ls) (hn : ls.length ≤ 60) (hne : ∀ x ∈ ls, 0 < x.l.length) (hlen : x.t.slots.length = ls.length) (hi : i < ls.length) (hs : s0 ≤ 65536) :
    Calls Try.prog 42 #[.agg x.cells.toArray, .slice A ls.length c, .int .i64 (i : Int), .int .i64 (s0 : Int)] w fun e w' => ∃ (m : Nat) (x' : RfD), e = .returned (.agg x'.cells.toArray) ∧ x.t.IsSlot (BL ls) (EL ls) s0 i m ∧ x'.t = ⟨x.t.regs, x.t.slots.set i (some m)⟩ ∧ RfOk w' x' ∧ (∀ b, b < w.heap.size → x.Off b → x'.Off b) ∧ Keep w w' := by
  obtain ⟨a1, c1, a2, c2, t⟩ := x
  obtain ⟨regs, slots⟩ := t
  replace hlen : slots.length = ls.length := hlen
  show Calls Try.prog 42 #[.agg #[.slice a1 regs.length c1, .slice a2 slots.length c2], .slice A ls.length c, .int .i64 (i : Int), .int .i64 (s0 : Int)] w fun e w' => ∃ (m : Nat) (x' : RfD), e = .returned (.agg x'.cells.toArray) ∧ Rf.IsSlot (BL ls) (EL ls) s0 ⟨regs, slots⟩ i m ∧ x'.t = ⟨regs, slots.set i (some m)⟩ ∧ RfOk w' x' ∧ (∀ b, b < w.heap.size → RfD.Off ⟨a1, c1, a2, c2, ⟨regs, slots⟩⟩ b → x'.Off b) ∧ Keep w w'
  obtain ⟨wa, hwa⟩ : ∃ wa : World, ((w.alloc (.cells #[.slice a1 regs.length c1, .slice a2 slots.length c2] 66)).alloc (.cells #[.slice none 0 0, .slice none 0 0] 66)) = wa := ⟨_, rfl⟩
  have hk1 : Keep w wa := by rw [← hwa]; exact ((Keep.refl _).alloc _).alloc _
  have b0 : Blk wa w.heap.size 66 [.slice a1 regs.length c1, .slice a2 slots.length c2] := by rw [← hwa]; exact (Blk.new w _ [.slice a1 regs.length c1, .slice a2 slots.length c2]).keep ((Keep.refl _).alloc _)
  have b1 : Blk wa (w.heap.size + 1) 66 [.slice none 0 0, .slice none 0 0] := by
    rw [← hwa]
    have := Blk.new (w.alloc (.cells #[.slice a1 regs.length c1, .slice a2 slots.length c2] 66)) 66 [.slice none 0 0, .slice none 0 0]
    simpa using this
  have hza : wa.heap.size = w.heap.size + 1 + 1 := by rw [← hwa]; simp
  obtain ⟨A', c', w2, hrun, hown, k2⟩ := copyRow (l := slots) (h.keep hk1).slots (by omega) c2
  rw [hza] at hrun hown
  rw [← hwa] at hrun
  have Hslot := Lib.hid (rSlot_calls ⟨a1, c1, a2, c2, ⟨regs, slots⟩⟩ A ls c i s0 w2 (h.keep (hk1.trans k2)) (hl.keep (hk1.trans k2)) hn hne hlen hi hs)
  have y0 := (b0.keep k2).cell 0
  have y1 := (b0.keep k2).cell 1
  replace y0 : w2.cell? ⟨w.heap.size, 0, none⟩ = some (.slice a1 regs.length c1) := y0
  replace y1 : w2.cell? ⟨w.heap.size, 1, none⟩ = some (.slice a2 slots.length c2) := y1
  have y0l := (b0.keep k2).lt
  have H := Lib.hid h
  have Hk1 := Lib.hid hk1
  have Hk2 := Lib.hid k2
  have Hb0 := Lib.hid b0
  have Hb1 := Lib.hid b1
  have Hown := Lib.hid hown
  have Hwa := Lib.hid hwa
  have hiS : i < slots.length := by omega
  clear h hl hk1 k2 b0 b1 hown hwa hlen
  go_enter Try.func42, Try.ntmps42
  go_wp2_with (at_builtin; refine wpList_append_eq rfl _ _ _ rfl _ _ rfl rfl _ _ hrun ?_; clear hrun)
  refine (show Calls Try.prog 48 #[.agg #[.slice a1 regs.length c1, .slice a2 slots.length c2], .slice A ls.length c, .int .i64 (i : Int), .int .i64 (s0 : Int)] w2 _ from Hslot.out).mono ?_
  rintro e w3 ⟨m, rfl, hm, k3⟩
  obtain ⟨g, rfl, hg, hgl, fg, ⟨u, cg⟩, hown3⟩ := rowPut (Hown.out.keep k3) (r := i) hiS (some m)
  have hi0 : (0 : Int) ≤ (i : Int) := by omega
  have hii : (i : Int) < (slots.length : Int) := by omega
  have b03 := (Hb0.out.keep (Hk2.out.trans k3)).far (p := ⟨g, i, none⟩) (by show ¬ w.heap.size = g; omega) (.int .i64 (m : Int))
  have b13 := (Hb1.out.keep (Hk2.out.trans k3)).far (p := ⟨g, i, none⟩) (by show ¬ w.heap.size + 1 = g; omega) (.int .i64 (m : Int))
  have b04 := b03.set_ 1 (.slice (some ⟨g, 0, none⟩) slots.length c')
  have b14 := b13.far (p := ⟨w.heap.size, 1, none⟩) (by show ¬ w.heap.size + 1 = w.heap.size; omega) (.slice (some ⟨g, 0, none⟩) slots.length c')
  have b15 := b14.set_ 0 (.slice a1 regs.length c1)
  have b16 := b15.set_ 1 (.slice (some ⟨g, 0, none⟩) slots.length c')
  have Hfin := Lib.hid (show ∃ x' : RfD, (.agg #[.slice a1 regs.length c1, .slice (some ⟨g, 0, none⟩) slots.length c'] : Value) = .agg x'.cells.toArray ∧ x'.t = ⟨regs, slots.set i (some m)⟩ ∧ RfOk ((((w3.setCell ⟨g, i, none⟩ (.int .i64 (m : Int))).setCell ⟨w.heap.size, 1, none⟩ (.slice (some ⟨g, 0, none⟩) slots.length c')).setCell ⟨w.heap.size + 1, 0, none⟩ (.slice a1 regs.length c1)).setCell ⟨w.heap.size + 1, 1, none⟩ (.slice (some ⟨g, 0, none⟩) slots.length c')) x' ∧ (∀ b, b < w.heap.size → RfD.Off ⟨a1, c1, a2, c2, ⟨regs, slots⟩⟩ b → x'.Off b) ∧
      Keep w ((((w3.setCell ⟨g, i, none⟩ (.int .i64 (m : Int))).setCell ⟨w.heap.size, 1, none⟩ (.slice (some ⟨g, 0, none⟩) slots.length c')).setCell ⟨w.heap.size + 1, 0, none⟩ (.slice a1 regs.length c1)).setCell ⟨w.heap.size + 1, 1, none⟩ (.slice (some ⟨g, 0, none⟩) slots.length c')) from by
    have kk : Keep w ((((w3.setCell ⟨g, i, none⟩ (.int .i64 (m : Int))).setCell ⟨w.heap.size, 1, none⟩ (.slice (some ⟨g, 0, none⟩) slots.length c')).setCell ⟨w.heap.size + 1, 0, none⟩ (.slice a1 regs.length c1)).setCell ⟨w.heap.size + 1, 1, none⟩ (.slice (some ⟨g, 0, none⟩) slots.length c')) :=
      (((((Hk1.out.trans Hk2.out).trans k3).setCell (p := ⟨g, i, none⟩) (by show w.heap.size ≤ g; omega) _).setCell (p := ⟨w.heap.size, 1, none⟩) (Nat.le_refl _) _).setCell (p := ⟨w.heap.size + 1, 0, none⟩) (by show w.heap.size ≤ w.heap.size + 1; omega) _).setCell (p := ⟨w.heap.size + 1, 1, none⟩) (by show w.heap.size ≤ w.heap.size + 1; omega) _
    have ho : ∀ k, (Value.slice (some ⟨g, 0, none⟩) (slots.set i (some m)).length c').ownBlock = some k → w.heap.size + 1 < k := fun k hk => by have := (hown3.lt k hk).1; omega
    refine ⟨⟨a1, c1, some ⟨g, 0, none⟩, c', ⟨regs, slots.set i (some m)⟩⟩, by simp [RfD.cells], rfl, ⟨(H.out.keep kk).regs, ?_⟩, fun b hb ho => ⟨ho.1, fun ad e => by cases e; show ¬ g = b; omega⟩, kk⟩
    exact (((hown3.put_far (p := ⟨w.heap.size, 1, none⟩) (fun k hk => by have := ho k hk; show ¬ k = w.heap.size; omega) _).put_far (p := ⟨w.heap.size + 1, 0, none⟩) (fun k hk => by have := ho k hk; show ¬ k = w.heap.size + 1; omega) _).put_far (p := ⟨w.heap.size + 1, 1, none⟩) (fun k hk => by have := ho k hk; show ¬ k = w.heap.size + 1; omega) _).seg)
  have x1 : (w3.setCell ⟨g, i, none⟩ (.int .i64 (m : Int))).cell? ⟨w.heap.size, 1, none⟩ = some (.slice a2 slots.length c2) := b03.cell 1
  have x1f := b03.frozen 1
  have x1l := b03.lt
  have z0 : ((w3.setCell ⟨g, i, none⟩ (.int .i64 (m : Int))).setCell ⟨w.heap.size, 1, none⟩ (.slice (some ⟨g, 0, none⟩) slots.length c')).cell? ⟨w.heap.size, 0, none⟩ = some (.slice a1 regs.length c1) := b04.cell 0
  have z1 : ((w3.setCell ⟨g, i, none⟩ (.int .i64 (m : Int))).setCell ⟨w.heap.size, 1, none⟩ (.slice (some ⟨g, 0, none⟩) slots.length c')).cell? ⟨w.heap.size, 1, none⟩ = some (.slice (some ⟨g, 0, none⟩) slots.length c') := b04.cell 1
  have t0 : ((w3.setCell ⟨g, i, none⟩ (.int .i64 (m : Int))).setCell ⟨w.heap.size, 1, none⟩ (.slice (some ⟨g, 0, none⟩) slots.length c')).cell? ⟨w.heap.size + 1, 0, none⟩ = some (.slice none 0 0) := b14.cell 0
  have t0f := b14.frozen 0
  have t0l := b14.lt
  have t1 : (((w3.setCell ⟨g, i, none⟩ (.int .i64 (m : Int))).setCell ⟨w.heap.size, 1, none⟩ (.slice (some ⟨g, 0, none⟩) slots.length c')).setCell ⟨w.heap.size + 1, 0, none⟩ (.slice a1 regs.length c1)).cell? ⟨w.heap.size + 1, 1, none⟩ = some (.slice none 0 0) := b15.cell 1
  have t1f := b15.frozen 1
  have v0 : ((((w3.setCell ⟨g, i, none⟩ (.int .i64 (m : Int))).setCell ⟨w.heap.size, 1, none⟩ (.slice (some ⟨g, 0, none⟩) slots.length c')).setCell ⟨w.heap.size + 1, 0, none⟩ (.slice a1 regs.length c1)).setCell ⟨w.heap.size + 1, 1, none⟩ (.slice (some ⟨g, 0, none⟩) slots.length c')).cell? ⟨w.heap.size + 1, 0, none⟩ = some (.slice a1 regs.length c1) := b16.cell 0
  have v1 : ((((w3.setCell ⟨g, i, none⟩ (.int .i64 (m : Int))).setCell ⟨w.heap.size, 1, none⟩ (.slice (some ⟨g, 0, none⟩) slots.length c')).setCell ⟨w.heap.size + 1, 0, none⟩ (.slice a1 regs.length c1)).setCell ⟨w.heap.size + 1, 1, none⟩ (.slice (some ⟨g, 0, none⟩) slots.length c')).cell? ⟨w.heap.size + 1, 1, none⟩ = some (.slice (some ⟨g, 0, none⟩) slots.length c') := b16.cell 1
  have Hm := Lib.hid hm
  clear b03 b13 b04 b14 b15 b16 hown3 H Hk1 Hk2 Hb0 Hb1 Hown Hwa hm k3 hza y0 y1 y0l Hslot
  obtain ⟨w4, hw4⟩ : ∃ w4, w3.setCell ⟨g, i, none⟩ (.int .i64 (m : Int)) = w4 := ⟨_, rfl⟩
  simp only [hw4] at Hfin x1 x1f x1l z0 z1 t0 t0f t0l t1 t1f v0 v1
  obtain ⟨w5, hw5⟩ : ∃ w5, w4.setCell ⟨w.heap.size, 1, none⟩ (.slice (some ⟨g, 0, none⟩) slots.length c') = w5 := ⟨_, rfl⟩
  simp only [hw5] at Hfin z0 z1 t0 t0f t0l t1 t1f v0 v1
  obtain ⟨w6, hw6⟩ : ∃ w6, w5.setCell ⟨w.heap.size + 1, 0, none⟩ (.slice a1 regs.length c1) = w6 := ⟨_, rfl⟩
  simp only [hw6] at Hfin t1 t1f v0 v1
  obtain ⟨w7, hw7⟩ : ∃ w7, w6.setCell ⟨w.heap.size + 1, 1, none⟩ (.slice (some ⟨g, 0, none⟩) slots.length c') = w7 := ⟨_, rfl⟩
  simp only [hw7] at Hfin v0 v1
  go_wp2
  obtain ⟨x', e1, e2, e3, e4⟩ := Hfin.out
  exact bodyPost_ret (v := .agg #[.slice a1 regs.length c1, .slice (some ⟨g, 0, none⟩) slots.length c']) (by simp [results, Try.results42, go_sem, v0, v1]) rfl ⟨m, x', by rw [e1], Hm.out, e2, e3, e4⟩
end Go.Proofs.Ytigidchignlpmaa
