/-
  What the laws on stacks are given, opened.
-/
import Derived.Test.YtkeefajfndmpeaaBase
import Derived.Test.YtkeefajfndmpeaaOpen
namespace Go.Proofs.Ytkeefajfndmpeaa
open Go Go.ChangeShapes Go.WideShapes Go.ChangeAt Go.RowKit

theorem own : ownKnob Try.prog.godebug = none := by kernel_rfl
theorem opens_val (w : World) : Opens Try.prog w 45 valC (fun n => (Lit.int .i64 n).wf = true) := opens_int Try.underlying45

/-- A call: its number; where its list lies; its list; its capacity. -/
abbrev ActD := Int × (Option Addr × List Int × Nat)
def actC (a : ActD) : List Value := [.int .i64 a.1, .slice a.2.1 a.2.2.1.length a.2.2.2]
def ActOk (w : World) (a : ActD) : Prop := (Lit.int .i64 a.1).wf = true ∧ Seg w a.2.1 (a.2.2.1.flatMap valC) ∧ a.2.2.1.length ≤ a.2.2.2 ∧ a.2.2.2 ≤ maxLen
theorem opens_act (w : World) : Opens Try.prog w 36 actC (ActOk w) :=
  opens_to (opens_two Try.underlying36 rfl (by kernel_rfl) (by kernel_rfl) (opens_int Try.underlying3) (opens_slice (s := 1) (f := valC) Try.underlying23 (by kernel_rfl) (fun _ => rfl) (opens_val w))) (fun x => x) (fun _ => rfl) (fun _ h => ⟨h.1, h.2.1, h.2.2.2.1, h.2.2.2.2⟩)
end Go.Proofs.Ytkeefajfndmpeaa
