/-
  How graphs lie in memory; the parent in a tree.
-/
import Derived.Test.YthjlfbeabobgmaaGrows
import Derived.Test.YthjlfbeabobgmaaDPlain
import Derived.Test.YthjlfbeabobgmaaRows
import Derived.WalkKit
import Derived.WalkSpells
import Derived.Deep.DeepMust
import Derived.Deep.QuietTactic
import Derived.BigQuiet
import Derived.Outline
import Derived.Deep.LoopGhost
namespace Go.Proofs.Ythjlfbeabobgmaa
open Go Go.RowKit

theorem laidOut : laidOutB Try.prog = true := by kernel_rfl

/-- A row of a graph in memory. -/
abbrev Row := RowG Int
abbrev rowC : Row → List Value := rowG
/-- A row can be read. -/
structure RowOk (w : World) (x : Row) : Prop where
  seg : Seg w x.a (x.l.flatMap intC)
  len : x.l.length ≤ maxLen
theorem RowOk.keep {w w' : World} {x : Row} (h : RowOk w x) (hk : Keep w w') : RowOk w' x := ⟨h.seg.keep hk, h.len⟩
/-- A graph can be read. -/
structure Graph (w : World) (A : Option Addr) (rs : List Row) : Prop where
  seg : Seg w A (rs.flatMap rowC)
  rows : ∀ x ∈ rs, RowOk w x
  len : rs.length ≤ maxLen
theorem Graph.keep {w w' : World} {A : Option Addr} {rs : List Row} (h : Graph w A rs) (hk : Keep w w') : Graph w' A rs := ⟨h.seg.keep hk, fun x hx => (h.rows x hx).keep hk, h.len⟩
def gr (rs : List Row) : Dom.Gr := rs.map (·.l)
theorem gr_len (rs : List Row) : (gr rs).length = rs.length := by simp [gr]
theorem gr_get {rs : List Row} {k : Nat} (hk : k < rs.length) : (gr rs).getD k [] = rs[k].l := by simp [gr, hk]
theorem row_at {w wr : World} {A : Option Addr} {l : List Row} (h : Seg w A (l.flatMap rowC)) (hkeep : Keep w wr) {k : Nat} (hk : k < l.length) :
    ∃ b off, A = some ⟨b, off, none⟩ ∧ b < w.heap.size ∧ wr.cell? ⟨b, off + k, none⟩ = some (.slice l[k].a l[k].l.length l[k].c) := by
  obtain ⟨b, off, e, hb, hc⟩ := h.elem 1 (fun _ => rfl) (by omega) hk
  exact ⟨b, off, e, hb, by have := hkeep.cell (hc 0 _ rfl); simpa [RowG.v] using this⟩

theorem elI : ElT Try.prog 29 3 1 8 intC where
  slice := Try.underlying29
  info := info_of (z := .int .i64 0) (by kernel_rfl) rfl
  pos := by omega
  len := fun _ => rfl
  one := fun x u hu => by simp [intC] at hu; subst hu; rfl
theorem elB : ElT Try.prog 36 4 1 1 boolC where
  slice := Try.underlying36
  info := info_of (z := .bool false) (by kernel_rfl) rfl
  pos := by omega
  len := fun _ => rfl
  one := fun x u hu => by simp [boolC] at hu; subst hu; rfl
theorem elR : ElT Try.prog 22 29 1 24 rowC where
  slice := Try.underlying22
  info := info_of (z := .slice none 0 0) (by kernel_rfl) rfl
  pos := by omega
  len := fun _ => rfl
  one := fun x u hu => by simp [rowG, RowG.v] at hu; subst hu; rfl
theorem make_ints (w : World) (n : Nat) (h : n ≤ 1000000) : ∃ w', (Instr.makeSlice 29 (.int .i64 (n : Int)) (.int .i64 (n : Int))).run Try.prog w = .ok (.slice (some ⟨w.heap.size, 0, none⟩) n n) w' ∧ IBlk w' w.heap.size 3 (List.replicate n 0) ∧ Keep w w' := by
  obtain ⟨w', h1, h2, h3⟩ := make_zero (P := Try.prog) (z := .int .i64 0) (bytes := 8) Try.underlying29 (by kernel_rfl) rfl w n (by omega) (by unfold maxLen; omega)
  exact ⟨w', h1, by unfold IBlk; rw [List.map_replicate]; exact h2, h3⟩
theorem make_bools (w : World) (n : Nat) (h : n ≤ 1000000) : ∃ w', (Instr.makeSlice 36 (.int .i64 (n : Int)) (.int .i64 (n : Int))).run Try.prog w = .ok (.slice (some ⟨w.heap.size, 0, none⟩) n n) w' ∧ BBlk w' w.heap.size 4 (List.replicate n false) ∧ Keep w w' := by
  obtain ⟨w', h1, h2, h3⟩ := make_zero (P := Try.prog) (z := .bool false) (bytes := 1) Try.underlying36 (by kernel_rfl) rfl w n (by omega) (by unfold maxLen; omega)
  exact ⟨w', h1, by unfold BBlk; rw [List.map_replicate]; exact h2, h3⟩
theorem make_rows (w : World) (n : Nat) (h : n ≤ 1000000) : ∃ w', (Instr.makeSlice 22 (.int .i64 (n : Int)) (.int .i64 (n : Int))).run Try.prog w = .ok (.slice (some ⟨w.heap.size, 0, none⟩) n n) w' ∧ Blk w' w.heap.size 29 (List.replicate n (.slice none 0 0)) ∧ Keep w w' :=
  make_zero (P := Try.prog) (z := .slice none 0 0) (bytes := 24) Try.underlying22 (by kernel_rfl) rfl w n (by omega) (by unfold maxLen; omega)
abbrev IRows := RowsAt intC 1 3 29
end Go.Proofs.Ythjlfbeabobgmaa
