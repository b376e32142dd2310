/-
  The reference's one: the state in its box; the walk.
-/
import Derived.Test.YtigidchignlpmaaRRef7
import Derived.Test.YtigidchignlpmaaRScan4
namespace Go.Proofs.Ytigidchignlpmaa
open Go Go.RowKit Rg

theorem seg_off {w : World} {g : Nat} {T : TypeId} {cs : List Value} {A : Option Addr} {l : List (Option Nat)} (hb : Blk w g T cs) (hcs : ∀ v ∈ cs, ∃ B n c, v = .slice B n c) (hs : Seg w A (l.flatMap optF)) (i : Nat) (u : Value) : Seg (w.setCell ⟨g, i, none⟩ u) A (l.flatMap optF) := fun j v hv => by
  obtain ⟨b, off, rfl, hbl, hc⟩ := hs.addr (by have := (List.getElem?_eq_some_iff.1 hv).1; omega)
  have h1 := hc j v hv
  have hadd : (⟨b, off, none⟩ : Addr).add j = ⟨b, off + j, none⟩ := by unfold Addr.add; split <;> simp_all
  refine ⟨_, rfl, ?_⟩
  rw [hadd]
  by_cases e : b = g
  · exfalso
    rw [e, hb.cell] at h1
    obtain ⟨B, n, c, rfl⟩ := hcs v (List.mem_of_getElem? h1)
    rw [optF_map] at hv
    rw [List.getElem?_map] at hv
    cases ho : l[j]? with
    | none => rw [ho] at hv; cases hv
    | some o =>
      rw [ho] at hv
      obtain ⟨z, hz⟩ := optC_int o
      simp only [Option.map_some, hz] at hv
      cases hv
  · have h3 : (w.setCell ⟨g, i, none⟩ u).heap[b]? = w.heap[b]? := Below.heap_setCell w ⟨g, i, none⟩ u b e
    have h4 : (w.setCell ⟨g, i, none⟩ u).cell? ⟨b, off + j, none⟩ = w.cell? ⟨b, off + j, none⟩ := World.cell?_of_block h3
    exact h4.trans h1

/-- The state in its box; the box of the result. -/
structure BoxAt (w0 wr : World) (x : RfD) : Prop where
  blk : Blk wr w0.heap.size 66 x.cells
  out : Blk wr (w0.heap.size + 1) 66 [.slice none 0 0, .slice none 0 0]
  ok : RfOk wr x
  keep : Keep w0 wr
theorem BoxAt.keepy {w0 wr w' : World} {x : RfD} (h : BoxAt w0 wr x) (hk : Keep wr w') : BoxAt w0 w' x := ⟨h.blk.keep hk, h.out.keep hk, h.ok.keep hk, h.keep.trans hk⟩
theorem cells_slices (x : RfD) : ∀ v ∈ x.cells, ∃ B n c, v = .slice B n c := fun v hv => by
  simp only [RfD.cells, List.mem_cons, List.not_mem_nil, or_false] at hv
  rcases hv with rfl | rfl
  · exact ⟨_, _, _, rfl⟩
  · exact ⟨_, _, _, rfl⟩
theorem nils_slices : ∀ v ∈ [Value.slice none 0 0, .slice none 0 0], ∃ B n c, v = .slice B n c := fun v hv => by
  simp only [List.mem_cons, List.not_mem_nil, or_false] at hv
  rcases hv with rfl | rfl
  · exact ⟨_, _, _, rfl⟩
  · exact ⟨_, _, _, rfl⟩
/-- Another state into the box. -/
theorem BoxAt.put {w0 w' : World} {x x' : RfD} (h : BoxAt w0 w' x) (h' : RfOk w' x') :
    (∃ u, w'.cell? ⟨w0.heap.size, 0, none⟩ = some u) ∧ w'.frozen? ⟨w0.heap.size, 0, none⟩ = false ∧ w0.heap.size < w'.heap.size ∧
    (∃ u, (w'.setCell ⟨w0.heap.size, 0, none⟩ (.slice x'.a1 x'.t.regs.length x'.c1)).cell? ⟨w0.heap.size, 1, none⟩ = some u) ∧ (w'.setCell ⟨w0.heap.size, 0, none⟩ (.slice x'.a1 x'.t.regs.length x'.c1)).frozen? ⟨w0.heap.size, 1, none⟩ = false ∧
    ∃ W : World, W = (w'.setCell ⟨w0.heap.size, 0, none⟩ (.slice x'.a1 x'.t.regs.length x'.c1)).setCell ⟨w0.heap.size, 1, none⟩ (.slice x'.a2 x'.t.slots.length x'.c2) ∧ BoxAt w0 W x' := by
  have b1 := h.blk.set_ 0 (.slice x'.a1 x'.t.regs.length x'.c1)
  have b2 := b1.set_ 1 (.slice x'.a2 x'.t.slots.length x'.c2)
  have hs1 : ∀ v ∈ x.cells.set 0 (.slice x'.a1 x'.t.regs.length x'.c1), ∃ B n c, v = .slice B n c := fun v hv => by
    rcases List.mem_or_eq_of_mem_set hv with h1 | rfl
    · exact cells_slices x v h1
    · exact ⟨_, _, _, rfl⟩
  refine ⟨⟨.slice x.a1 x.t.regs.length x.c1, h.blk.cell 0⟩, h.blk.frozen 0, h.blk.lt, ⟨.slice x.a2 x.t.slots.length x.c2, b1.cell 1⟩, b1.frozen 1, _, rfl, ⟨b2, ?_, ⟨?_, ?_⟩, ?_⟩⟩
  · exact (h.out.far (p := ⟨w0.heap.size, 0, none⟩) (by show ¬ w0.heap.size + 1 = w0.heap.size; omega) _).far (p := ⟨w0.heap.size, 1, none⟩) (by show ¬ w0.heap.size + 1 = w0.heap.size; omega) _
  · exact seg_off b1 hs1 (seg_off h.blk (cells_slices x) h'.regs 0 _) 1 _
  · exact seg_off b1 hs1 (seg_off h.blk (cells_slices x) h'.slots 0 _) 1 _
  · exact (h.keep.setCell (p := ⟨w0.heap.size, 0, none⟩) (Nat.le_refl _) _).setCell (p := ⟨w0.heap.size, 1, none⟩) (Nat.le_refl _) _
/-- A state into the box of the result. -/
theorem BoxAt.fin {w0 w' : World} {x x' : RfD} (h : BoxAt w0 w' x) (h' : RfOk w' x') :
    (∃ u, w'.cell? ⟨w0.heap.size + 1, 0, none⟩ = some u) ∧ w'.frozen? ⟨w0.heap.size + 1, 0, none⟩ = false ∧ w0.heap.size + 1 < w'.heap.size ∧
    (∃ u, (w'.setCell ⟨w0.heap.size + 1, 0, none⟩ (.slice x'.a1 x'.t.regs.length x'.c1)).cell? ⟨w0.heap.size + 1, 1, none⟩ = some u) ∧ (w'.setCell ⟨w0.heap.size + 1, 0, none⟩ (.slice x'.a1 x'.t.regs.length x'.c1)).frozen? ⟨w0.heap.size + 1, 1, none⟩ = false ∧
    ∃ W : World, W = (w'.setCell ⟨w0.heap.size + 1, 0, none⟩ (.slice x'.a1 x'.t.regs.length x'.c1)).setCell ⟨w0.heap.size + 1, 1, none⟩ (.slice x'.a2 x'.t.slots.length x'.c2) ∧ RfOk W x' ∧ Keep w0 W ∧
      W.cell? ⟨w0.heap.size + 1, 0, none⟩ = some (.slice x'.a1 x'.t.regs.length x'.c1) ∧ W.cell? ⟨w0.heap.size + 1, 1, none⟩ = some (.slice x'.a2 x'.t.slots.length x'.c2) := by
  have b1 := h.out.set_ 0 (.slice x'.a1 x'.t.regs.length x'.c1)
  have b2 := b1.set_ 1 (.slice x'.a2 x'.t.slots.length x'.c2)
  have hs1 : ∀ v ∈ [Value.slice none 0 0, .slice none 0 0].set 0 (.slice x'.a1 x'.t.regs.length x'.c1), ∃ B n c, v = .slice B n c := fun v hv => by
    rcases List.mem_or_eq_of_mem_set hv with h1 | rfl
    · exact nils_slices v h1
    · exact ⟨_, _, _, rfl⟩
  refine ⟨⟨_, h.out.cell 0⟩, h.out.frozen 0, h.out.lt, ⟨.slice none 0 0, b1.cell 1⟩, b1.frozen 1, _, rfl, ⟨?_, ?_⟩, ?_, b2.cell 0, b2.cell 1⟩
  · exact seg_off b1 hs1 (seg_off h.out nils_slices h'.regs 0 _) 1 _
  · exact seg_off b1 hs1 (seg_off h.out nils_slices h'.slots 0 _) 1 _
  · exact (h.keep.setCell (p := ⟨w0.heap.size + 1, 0, none⟩) (by show w0.heap.size ≤ w0.heap.size + 1; omega) _).setCell (p := ⟨w0.heap.size + 1, 1, none⟩) (by show w0.heap.size ≤ w0.heap.size + 1; omega) _
end Go.Proofs.Ytigidchignlpmaa
