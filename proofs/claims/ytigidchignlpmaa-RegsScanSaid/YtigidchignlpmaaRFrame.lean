/-
  What the laws on registers are given, opened.
-/
import Derived.Test.YtigidchignlpmaaRClash
import Derived.Test.YtigidchignlpmaaOpen
namespace Go.Proofs.Ytigidchignlpmaa
open Go Go.ChangeShapes Go.WideShapes Go.ChangeAt Go.RowKit Rg

theorem own : ownKnob Try.prog.godebug = none := by kernel_rfl
set_option maxRecDepth 100000 in
theorem opens_rng (w : World) : Opens Try.prog w 54 rngC (fun r => W64 r.1 ∧ W64 r.2) :=
  opens_to (opens_two Try.underlying54 rfl (by kernel_rfl) (by kernel_rfl) (opens_int Try.underlying3) (opens_int Try.underlying3)) (fun x => ((x.1, x.2) : Rng)) (fun _ => rfl) (fun _ h => h)
set_option maxRecDepth 100000 in
theorem opens_live (w : World) : Opens Try.prog w 45 lvC (fun x => LvOk w x ∧ W64 x.val) :=
  opens_to (opens_two Try.underlying45 rfl (by kernel_rfl) (by kernel_rfl) (opens_int Try.underlying3) (opens_slice (s := 2) (f := rngC) Try.underlying43 (by kernel_rfl) (fun _ => rfl) (opens_rng w)))
    (fun x => ⟨x.1, x.2.1, x.2.2.1, x.2.2.2⟩) (fun _ => rfl) (fun x h => ⟨⟨h.2.1, Nat.le_trans h.2.2.2.1 h.2.2.2.2, h.2.2.1⟩, h.1⟩)
set_option maxRecDepth 100000 in
theorem opens_place (w : World) : Opens Try.prog w 47 plI (fun p => W64 p.2) :=
  opens_to (opens_two Try.underlying47 rfl (by kernel_rfl) (by kernel_rfl) (opens_bool Try.underlying4) (opens_int Try.underlying3)) (fun x => ((x.1, x.2) : Bool × Int)) (fun _ => rfl) (fun _ h => h.2)
set_option maxRecDepth 100000 in
/-- Live range lists that came in. -/
theorem open_lives {w : World} {b0 : Nat} {r : Reach} {v : Value} {H : Type} {enc : TypeId × Value → H} {d : DataW H} {ps : List MemPlace} (hv : Value.okWide Try.prog w r b0 22 v) (h : DataW.Trod enc Try.prog w 0 (fun _ => true) true 22 v d ps) :
    ∃ (A : Option Addr) (ls : List LvD) (c : Nat), v = .slice A ls.length c ∧ Lives w A ls ∧ ∀ x ∈ ls, W64 x.val := by
  obtain ⟨A, l, c, rfl, h1, h2, _, _⟩ := open_list (s := 2) (f := lvC) Try.underlying22 (by kernel_rfl) (fun _ => rfl) (opens_live w) hv h
  exact ⟨A, l, c, rfl, ⟨h1, fun x hx => (h2 x hx).1⟩, fun x hx => (h2 x hx).2⟩
set_option maxRecDepth 100000 in
/-- Places that came in. -/
theorem open_places {w : World} {b0 : Nat} {r : Reach} {v : Value} {H : Type} {enc : TypeId × Value → H} {d : DataW H} {ps : List MemPlace} (hv : Value.okWide Try.prog w r b0 25 v) (h : DataW.Trod enc Try.prog w 0 (fun _ => true) true 25 v d ps) :
    ∃ (A : Option Addr) (l : List (Bool × Int)) (c : Nat), v = .slice A l.length c ∧ Seg w A (l.flatMap plI) := by
  obtain ⟨A, l, c, rfl, h1, _, _, _⟩ := open_list (s := 2) (f := plI) Try.underlying25 (by kernel_rfl) (fun _ => rfl) (opens_place w) hv h
  exact ⟨A, l, c, rfl, h1⟩
end Go.Proofs.Ytigidchignlpmaa
