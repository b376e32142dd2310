/-
  The reference's Scan: what it refuses.
-/
import Derived.Test.YtigidchignlpmaaRRefA
import Derived.Test.YtigidchignlpmaaRSoundLaw
namespace Go.Proofs.Ytigidchignlpmaa
open Go Go.RowKit Rg

/-- The result's box. -/
theorem gput {w w' : World} (hb : Blk w' w.heap.size 31 [.slice none 0 0, .int .i64 0]) (hk : Keep w w') (v0 v1 : Value) :
    (∃ u, w'.cell? ⟨w.heap.size, 0, none⟩ = some u) ∧ w'.frozen? ⟨w.heap.size, 0, none⟩ = false ∧ w.heap.size < w'.heap.size ∧
    (∃ u, (w'.setCell ⟨w.heap.size, 0, none⟩ v0).cell? ⟨w.heap.size, 1, none⟩ = some u) ∧ (w'.setCell ⟨w.heap.size, 0, none⟩ v0).frozen? ⟨w.heap.size, 1, none⟩ = false ∧
    ∃ W1 W : World, w'.setCell ⟨w.heap.size, 0, none⟩ v0 = W1 ∧ W1.setCell ⟨w.heap.size, 1, none⟩ v1 = W ∧ w.heap.size < W1.heap.size ∧ Keep w W ∧ Ext (fun k => k = w.heap.size) w' W ∧ W.cell? ⟨w.heap.size, 0, none⟩ = some v0 ∧ W.cell? ⟨w.heap.size, 1, none⟩ = some v1 := by
  have b1 := hb.set_ 0 v0
  have b2 := b1.set_ 1 v1
  exact ⟨⟨_, hb.cell 0⟩, hb.frozen 0, hb.lt, ⟨.int .i64 0, b1.cell 1⟩, b1.frozen 1, _, _, rfl, rfl, b1.lt, (hk.setCell (p := ⟨w.heap.size, 0, none⟩) (Nat.le_refl _) _).setCell (p := ⟨w.heap.size, 1, none⟩) (Nat.le_refl _) _,
    (Ext.one w.heap.size 0 v0).setCell (p := ⟨w.heap.size, 1, none⟩) (fun _ => rfl) v1, b2.cell 0, b2.cell 1⟩

set_option maxHeartbeats 2000000 in
set_option maxRecDepth 100000 in
theorem rScan_regs (A : Option Addr) (ls : List LvD) (c : Nat) (regs slots : Int) (w : World) (hr : regs < 0 ∨ 16 < regs) :
    Calls Try.prog 11 #[.slice A ls.length c, .int .i64 regs, .int .i64 slots] w fun e w' => e = .returned (.tuple #[.agg #[.slice none 0 0, .int .i64 0], .int .i64 31]) ∧ Keep w w' := by
  obtain ⟨wa, hwa⟩ : ∃ wa : World, w.alloc (.cells #[.slice none 0 0, .int .i64 0] 31) = wa := ⟨_, rfl⟩
  have hka : Keep w wa := by rw [← hwa]; exact (Keep.refl _).alloc _
  have b6 : Blk wa w.heap.size 31 [.slice none 0 0, .int .i64 0] := by rw [← hwa]; exact Blk.new w _ _
  obtain ⟨⟨u0, p0⟩, p0f, p0l, ⟨u1, p1⟩, p1f, W1, W, hW1, hW, hl1, hkW, _, v0, v1⟩ := gput b6 hka (.slice none 0 0) (.int .i64 0)
  rw [hW1] at p1 p1f
  clear b6
  by_cases h0 : regs < 0
  · clear hr
    go_enter Try.func11, Try.ntmps11
    go_wp2_with fail
    exact bodyPost_ret (v := .tuple #[.agg #[.slice none 0 0, .int .i64 0], .int .i64 31]) (by simp [results, Try.results11, go_sem, v0, v1]) rfl ⟨rfl, hkW⟩
  · have h1 : 16 < regs := by omega
    clear hr
    go_enter Try.func11, Try.ntmps11
    go_wp2_with fail
    exact bodyPost_ret (v := .tuple #[.agg #[.slice none 0 0, .int .i64 0], .int .i64 31]) (by simp [results, Try.results11, go_sem, v0, v1]) rfl ⟨rfl, hkW⟩
set_option maxHeartbeats 2000000 in
set_option maxRecDepth 100000 in
theorem rScan_slots (A : Option Addr) (ls : List LvD) (c : Nat) (regs slots : Int) (w : World) (h0 : ¬ regs < 0) (h1 : ¬ 16 < regs) (hs : slots < 0 ∨ 65536 < slots) :
    Calls Try.prog 11 #[.slice A ls.length c, .int .i64 regs, .int .i64 slots] w fun e w' => e = .returned (.tuple #[.agg #[.slice none 0 0, .int .i64 0], .int .i64 1]) ∧ Keep w w' := by
  obtain ⟨wa, hwa⟩ : ∃ wa : World, w.alloc (.cells #[.slice none 0 0, .int .i64 0] 31) = wa := ⟨_, rfl⟩
  have hka : Keep w wa := by rw [← hwa]; exact (Keep.refl _).alloc _
  have b6 : Blk wa w.heap.size 31 [.slice none 0 0, .int .i64 0] := by rw [← hwa]; exact Blk.new w _ _
  obtain ⟨⟨u0, p0⟩, p0f, p0l, ⟨u1, p1⟩, p1f, W1, W, hW1, hW, hl1, hkW, _, v0, v1⟩ := gput b6 hka (.slice none 0 0) (.int .i64 0)
  rw [hW1] at p1 p1f
  clear b6
  by_cases h2 : slots < 0
  · clear hs
    go_enter Try.func11, Try.ntmps11
    go_wp2_with fail
    exact bodyPost_ret (v := .tuple #[.agg #[.slice none 0 0, .int .i64 0], .int .i64 1]) (by simp [results, Try.results11, go_sem, v0, v1]) rfl ⟨rfl, hkW⟩
  · have h3 : 65536 < slots := by omega
    clear hs
    go_enter Try.func11, Try.ntmps11
    go_wp2_with fail
    exact bodyPost_ret (v := .tuple #[.agg #[.slice none 0 0, .int .i64 0], .int .i64 1]) (by simp [results, Try.results11, go_sem, v0, v1]) rfl ⟨rfl, hkW⟩
end Go.Proofs.Ytigidchignlpmaa
