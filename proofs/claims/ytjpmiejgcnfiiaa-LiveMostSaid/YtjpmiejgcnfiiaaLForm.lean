/-
  A form that came in, opened.
-/
import Derived.Test.YtjpmiejgcnfiiaaLLook
import Derived.Test.YtjpmiejgcnfiiaaLEnds
set_option linter.unusedVariables false
set_option linter.unusedSimpArgs false
namespace Go.Proofs.Ytjpmiejgcnfiiaa
open Go Go.RowKit

structure Opened (x : SsD) (vp vr : Value) (va : Option Addr) (nv vc : Nat) (ba : Option Addr) (nb bc : Nat) : Prop where
  agg : (Value.agg (ssC x).toArray) = .agg #[vp, vr, .slice va nv vc, .slice ba nb bc]
  nv : x.vals.l.length = nv
  nb : x.blocks.l.length = nb
  ba : x.blocks.a = ba
theorem SsD.opened (x : SsD) : ∃ vp vr va nv vc ba nb bc, Opened x vp vr va nv vc ba nb bc := ⟨_, _, _, _, _, _, _, _, rfl, rfl, rfl, rfl⟩
/-- A block of the form. -/
theorem bk_open {x : SsD} {vp vr : Value} {va : Option Addr} {nv vc : Nat} {ba : Option Addr} {nb bc : Nat} (hop : Opened x vp vr va nv vc ba nb bc) {w wr : World} (h : SsOk w x) (hkeep : Keep w wr) {b : Nat} {y : BkD} (hy : x.blocks.l[b]? = some y) :
    ∃ B off, ba = some ⟨B, off, none⟩ ∧ B < w.heap.size ∧ b < nb ∧ wr.cell? ⟨B, off + b * 7, none⟩ = some (.slice y.params.a y.params.l.length y.params.c) ∧ wr.cell? ⟨B, off + b * 7 + 1, none⟩ = some (.slice y.ins.a y.ins.l.length y.ins.c) ∧
      wr.cell? ⟨B, off + b * 7 + 2, none⟩ = some (.int .i64 y.kind) ∧ wr.cell? ⟨B, off + b * 7 + 2 + 1, none⟩ = some (.int .i64 y.cond) ∧ wr.cell? ⟨B, off + b * 7 + 2 + 2, none⟩ = some (.slice y.args.a y.args.l.length y.args.c) ∧
      wr.cell? ⟨B, off + b * 7 + 2 + 3, none⟩ = some (.slice y.to.a y.to.l.length y.to.c) ∧ wr.cell? ⟨B, off + b * 7 + 2 + 4, none⟩ = some (.int .i64 y.trap) := by
  obtain ⟨B, off, e, hB, hc⟩ := bk_get h.seg hkeep hy
  have hl := (List.getElem?_eq_some_iff.1 hy).1
  rw [hop.nb] at hl
  rw [hop.ba] at e
  exact ⟨B, off, e, hB, hl, by have := hc 0 _ rfl; simpa [RwD.v] using this, hc 1 _ rfl, hc 2 _ rfl, hc 3 _ rfl, hc 4 _ rfl, hc 5 _ rfl, hc 6 _ rfl⟩
/-- An instruction of a block. -/
theorem in_open {w wr : World} {y : BkD} (h : BkOk w y) (hkeep : Keep w wr) {k : Nat} {i : InD} (hi : y.ins.l[k]? = some i) :
    ∃ B off, y.ins.a = some ⟨B, off, none⟩ ∧ B < w.heap.size ∧ k < y.ins.l.length ∧ wr.cell? ⟨B, off + k * 7, none⟩ = some (.int .i64 i.kind) ∧ wr.cell? ⟨B, off + k * 7 + 1, none⟩ = some (.int .i64 i.op) ∧ wr.cell? ⟨B, off + k * 7 + 2, none⟩ = some (.int .i64 i.a) ∧
      wr.cell? ⟨B, off + k * 7 + 3, none⟩ = some (.int .i64 i.b) ∧ wr.cell? ⟨B, off + k * 7 + 4, none⟩ = some (.int .u64 i.n) ∧ wr.cell? ⟨B, off + k * 7 + 5, none⟩ = some (.slice i.args.a i.args.l.length i.args.c) ∧ wr.cell? ⟨B, off + k * 7 + 6, none⟩ = some (.slice i.outs.a i.outs.l.length i.outs.c) := by
  obtain ⟨B, off, e, hB, hc⟩ := in_get h.insSeg hkeep hi
  have hl := (List.getElem?_eq_some_iff.1 hi).1
  exact ⟨B, off, e, hB, hl, by have := hc 0 _ rfl; simpa [RwD.v] using this, hc 1 _ rfl, hc 2 _ rfl, hc 3 _ rfl, hc 4 _ rfl, hc 5 _ rfl, hc 6 _ rfl⟩
/-- An instruction is laid into a box. -/
theorem box7 (w : World) (T : TypeId) (v0 v1 v2 v3 v4 v5 v6 : Value) : ∃ W : World, w.alloc (.cells #[v0, v1, v2, v3, v4, v5, v6] T) = W ∧ Keep w W ∧ W.cell? ⟨w.heap.size, 5, none⟩ = some v5 ∧ W.cell? ⟨w.heap.size, 6, none⟩ = some v6 ∧ w.heap.size < W.heap.size ∧ W.heap.size = w.heap.size + 1 := by
  have b := Blk.new w T [v0, v1, v2, v3, v4, v5, v6]
  exact ⟨_, rfl, (Keep.refl _).alloc _, b.cell 5, b.cell 6, b.lt, by simp⟩
theorem NumOk.away {w : World} {x : RwD Int} (h : NumOk w x) {ob : Nat} (hob : w.heap.size ≤ ob) : ∀ ad, x.a = some ad → x.l ≠ [] → ad.block ≠ ob := fun ad ha hl => by
  obtain ⟨b, off, e, hb, _⟩ := h.seg.addr (by rw [flat_int, List.length_map]; exact List.length_pos_iff.2 hl)
  rw [ha] at e; cases e
  show b ≠ ob
  omega
theorem Own.blk_apart_int {w : World} {base n c b o g : Nat} {xs : List Int} {t : TypeId} {cs : List Value} (h : Own intC 1 3 w base (.slice (some ⟨b, o, none⟩) n c) xs) (h' : Blk w g t cs) (hne : 3 ≠ t) : b ≠ g := h.blk_apart h' hne rfl
end Go.Proofs.Ytjpmiejgcnfiiaa
