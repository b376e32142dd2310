/-
  What the laws on dominators are given, opened.
-/
import Derived.Test.YthjlfbeabobgmaaDBase
import Derived.Test.YthjlfbeabobgmaaOpenW
namespace Go.Proofs.Ythjlfbeabobgmaa
open Go Go.ChangeShapes Go.WideShapes Go.ChangeAt Go.RowKit

theorem own : ownKnob Try.prog.godebug = none := by kernel_rfl
theorem opens_ints (w : World) : OpensW Try.prog w 29 (rowG (α := Int)) (fun x => RowOk w x ∧ x.l.length ≤ 17592186044416) :=
  opensW_to (opensW_slice (s := 1) (f := intC) Try.underlying29 (by kernel_rfl) (fun _ => rfl) (opens_int Try.underlying3).light) (fun x => ⟨x.1, x.2.1, x.2.2⟩) (fun _ => rfl)
    (fun x ⟨h1, _, h2, h3, h4⟩ => ⟨⟨h1, Nat.le_trans h2 h3⟩, by
      have hb : Try.prog.bytesOf 3 = 8 := by kernel_rfl
      rw [hb] at h4
      unfold reachBytes at h4
      show x.2.1.length ≤ _
      omega⟩)
set_option maxRecDepth 100000 in
/-- A graph that came in. -/
theorem open_graph {w : World} {b0 : Nat} {r : Reach} {v : Value} {H : Type} {enc : TypeId × Value → H} {d : DataW H} {ps : List MemPlace} (hv : Value.okWide Try.prog w r b0 22 v) (h : DataW.Trod enc Try.prog w 0 (fun _ => true) true 22 v d ps) (hw : ∀ m ∈ d.weights Try.prog 22, m ≤ reachBytes) :
    ∃ (A : Option Addr) (rs : List Row) (c : Nat), v = .slice A rs.length c ∧ Graph w A rs ∧ ∀ x ∈ rs, x.l.length ≤ 17592186044416 := by
  obtain ⟨A, l, c, rfl, h1, h2, h3, h4, _⟩ := openW_list (s := 1) (f := rowG (α := Int)) Try.underlying22 (by kernel_rfl) (fun _ => rfl) (opens_ints w) hv h hw
  exact ⟨A, l, c, rfl, ⟨h1, fun x hx => (h2 x hx).1, Nat.le_trans h3 h4⟩, fun x hx => (h2 x hx).2⟩
set_option maxRecDepth 100000 in
/-- A row that came in. -/
theorem open_row {w : World} {b0 : Nat} {r : Reach} {v : Value} {H : Type} {enc : TypeId × Value → H} {d : DataW H} {ps : List MemPlace} (hv : Value.okWide Try.prog w r b0 29 v) (h : DataW.Trod enc Try.prog w 0 (fun _ => true) true 29 v d ps) :
    ∃ (A : Option Addr) (l : List Int) (c : Nat), v = .slice A l.length c ∧ Seg w A (l.flatMap intC) ∧ l.length ≤ maxLen := by
  obtain ⟨A, l, c, rfl, h1, h2, h3, h4⟩ := open_list (s := 1) (f := intC) Try.underlying29 (by kernel_rfl) (fun _ => rfl) (opens_int Try.underlying3) hv h
  exact ⟨A, l, c, rfl, h1, Nat.le_trans h3 h4⟩
end Go.Proofs.Ythjlfbeabobgmaa
