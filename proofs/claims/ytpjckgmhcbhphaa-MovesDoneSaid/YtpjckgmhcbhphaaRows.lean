/-
  No cell of these rows narrows 'for every input' (looked for: loops, veiled, ifaces, maps, wideKeys, modest, calm, conditions, laid).
  DERIVED. THE GIVEN ROWS OF THIS SEAT. 5 by the template 'for every input the law returns true; each argument reads behind the call as it read before'; 0 by the template 'total and deterministic' (their statements: YtpjckgmhcbhphaaTotals.lean).
  GIVEN WITH THE SEED: the statements are not yours to turn. If you find one false, say at which input.
  Laid BY PROGRAM, IN A SANDBOX (cutbox-rows.mjs): the forced cells as the released guide's own fill.sh prints them over the translation 81ff020a86361d58… (all of the seat's roots in one cut). By AI agents, Wed Nov 11 2026. No macro, syntax, notation, axiom, sorry.
-/
import Derived.Test.YtpjckgmhcbhphaaChecked
import GoSem.Claim
import GoSem.ClaimJoined
import GoSem.ClaimMapViews
import Derived.JoinedTies
import Derived.KernelRfl
namespace Go.Proofs.Ytpjckgmhcbhphaa
/- THE CELL 'sum', in the pinned program and in every row, IS THE sha256 OF THE DUMP (.gsa) THAT YtpjckgmhcbhphaaProg.lean LOADS. Nothing in Lean hashes anything: it is a label: what it is worth is what the hold of that sum in a sandbox is worth. -/
noncomputable def Try.pinned : Pinned := { name := "ytpjckgmhcbhphaa", sum := "81ff020a86361d58491325e8721ed884d130fbc4966daf305fb7f44c6be6e404", checked := Try.checked }
namespace Rows
def none {H : Type} : Left H := { results := [], args := [] }

/-- 'millwrightlaw49.MovesOrder': WHATEVER THE INPUT: true; the input reads as it did. -/
def movesOrderSpec : ChangeSpec := { name := "movesOrder", fn := fun _ => fun
  | [d1, d2] => { results := [.lit (.bool true)], args := [d1, d2] }
  | _ => none }
def movesOrderRow : OpenClaim := { program := "ytpjckgmhcbhphaa", sum := "81ff020a86361d58491325e8721ed884d130fbc4966daf305fb7f44c6be6e404", func := "millwright/millwrightlaw49.MovesOrder", spec := "movesOrder", unfollowed := true, recurses := true, plainKeys := false, apart := false }
def MovesOrderSaid : Prop := movesOrderRow.holds Try.pinned (OpenSpec.ofChange movesOrderSpec)

/-- ITS FALSE NEIGHBOUR: 'it returns false'. Refute it at one input. -/
def movesOrderWrong : ChangeSpec := { name := "movesOrder", fn := fun _ => fun
  | [d1, d2] => { results := [.lit (.bool false)], args := [d1, d2] }
  | _ => none }
def MovesOrderWrongFalsely : Prop := movesOrderRow.holds Try.pinned (OpenSpec.ofChange movesOrderWrong)

/-- 'millwrightlaw49.MovesFew': WHATEVER THE INPUT: true; the input reads as it did. -/
def movesFewSpec : ChangeSpec := { name := "movesFew", fn := fun _ => fun
  | [d1, d2] => { results := [.lit (.bool true)], args := [d1, d2] }
  | _ => none }
def movesFewRow : OpenClaim := { program := "ytpjckgmhcbhphaa", sum := "81ff020a86361d58491325e8721ed884d130fbc4966daf305fb7f44c6be6e404", func := "millwright/millwrightlaw49.MovesFew", spec := "movesFew", unfollowed := true, recurses := true, plainKeys := false, apart := false }
def MovesFewSaid : Prop := movesFewRow.holds Try.pinned (OpenSpec.ofChange movesFewSpec)

/-- ITS FALSE NEIGHBOUR: 'it returns false'. Refute it at one input. -/
def movesFewWrong : ChangeSpec := { name := "movesFew", fn := fun _ => fun
  | [d1, d2] => { results := [.lit (.bool false)], args := [d1, d2] }
  | _ => none }
def MovesFewWrongFalsely : Prop := movesFewRow.holds Try.pinned (OpenSpec.ofChange movesFewWrong)

/-- 'millwrightlaw49.MovesDone': WHATEVER THE INPUT: true; the input reads as it did. -/
def movesDoneSpec : ChangeSpec := { name := "movesDone", fn := fun _ => fun
  | [d1, d2, d3] => { results := [.lit (.bool true)], args := [d1, d2, d3] }
  | _ => none }
def movesDoneRow : OpenClaim := { program := "ytpjckgmhcbhphaa", sum := "81ff020a86361d58491325e8721ed884d130fbc4966daf305fb7f44c6be6e404", func := "millwright/millwrightlaw49.MovesDone", spec := "movesDone", unfollowed := true, recurses := true, plainKeys := false, apart := false }
def MovesDoneSaid : Prop := movesDoneRow.holds Try.pinned (OpenSpec.ofChange movesDoneSpec)

/-- ITS FALSE NEIGHBOUR: 'it returns false'. Refute it at one input. -/
def movesDoneWrong : ChangeSpec := { name := "movesDone", fn := fun _ => fun
  | [d1, d2, d3] => { results := [.lit (.bool false)], args := [d1, d2, d3] }
  | _ => none }
def MovesDoneWrongFalsely : Prop := movesDoneRow.holds Try.pinned (OpenSpec.ofChange movesDoneWrong)

/-- 'millwrightlaw49.MovesSame': WHATEVER THE INPUT: true; the input reads as it did. -/
def movesSameSpec : ChangeSpec := { name := "movesSame", fn := fun _ => fun
  | [d1, d2, d3, d4] => { results := [.lit (.bool true)], args := [d1, d2, d3, d4] }
  | _ => none }
def movesSameRow : OpenClaim := { program := "ytpjckgmhcbhphaa", sum := "81ff020a86361d58491325e8721ed884d130fbc4966daf305fb7f44c6be6e404", func := "millwright/millwrightlaw49.MovesSame", spec := "movesSame", unfollowed := true, recurses := true, plainKeys := false, apart := false }
def MovesSameSaid : Prop := movesSameRow.holds Try.pinned (OpenSpec.ofChange movesSameSpec)

/-- ITS FALSE NEIGHBOUR: 'it returns false'. Refute it at one input. -/
def movesSameWrong : ChangeSpec := { name := "movesSame", fn := fun _ => fun
  | [d1, d2, d3, d4] => { results := [.lit (.bool false)], args := [d1, d2, d3, d4] }
  | _ => none }
def MovesSameWrongFalsely : Prop := movesSameRow.holds Try.pinned (OpenSpec.ofChange movesSameWrong)

/-- 'millwrightlaw49.MovesBoth': WHATEVER THE INPUT: true; the input reads as it did. -/
def movesBothSpec : ChangeSpec := { name := "movesBoth", fn := fun _ => fun
  | [d1, d2, d3] => { results := [.lit (.bool true)], args := [d1, d2, d3] }
  | _ => none }
def movesBothRow : OpenClaim := { program := "ytpjckgmhcbhphaa", sum := "81ff020a86361d58491325e8721ed884d130fbc4966daf305fb7f44c6be6e404", func := "millwright/millwrightlaw49.MovesBoth", spec := "movesBoth", unfollowed := true, recurses := true, plainKeys := false, apart := false }
def MovesBothSaid : Prop := movesBothRow.holds Try.pinned (OpenSpec.ofChange movesBothSpec)

/-- ITS FALSE NEIGHBOUR: 'it returns false'. Refute it at one input. -/
def movesBothWrong : ChangeSpec := { name := "movesBoth", fn := fun _ => fun
  | [d1, d2, d3] => { results := [.lit (.bool false)], args := [d1, d2, d3] }
  | _ => none }
def MovesBothWrongFalsely : Prop := movesBothRow.holds Try.pinned (OpenSpec.ofChange movesBothWrong)

/- THE SECOND FORM. 'bulk': how many values and letters a reading holds, each counted each time it is reached (what is shared counts as often as it is met; a slice's spare places count too). A statement '..UptoSaid' is the law's where the arguments, and the package variables that the reading takes, are together of bulk at most 1048576: NARROWER than '..Said'. Prove '..Said' where nothing that the law and all that it calls make is longer than what came in: it says more and counts as full. Else prove '..UptoSaid'. A law counts once. -/
mutual
def uptoBulk {H : Type} : DataW H → Nat
  | .lit (.string bytes) => bytes.length + 1
  | .lit _ => 1
  | .nil => 1
  | .ptr d => uptoBulk d + 1
  | .slice elems spare => uptoBulkAll elems + uptoBulkAll spare + 1
  | .agg parts => uptoBulkAll parts + 1
  | .iface _ d => uptoBulk d + 1
  | .map entries => uptoBulkEntries entries + 1
  | .held _ => 1
def uptoBulkAll {H : Type} : List (DataW H) → Nat
  | [] => 0
  | d :: r => uptoBulk d + uptoBulkAll r
def uptoBulkEntries {H : Type} : List (Lit × DataW H) → Nat
  | [] => 0
  | x :: r => uptoBulkEntry x + uptoBulkEntries r
def uptoBulkEntry {H : Type} : Lit × DataW H → Nat
  | (.string bytes, d) => bytes.length + uptoBulk d + 1
  | (_, d) => uptoBulk d + 1
 end
def uptoSmall : (H : Type) → List (DataW H) → Bool := fun _ ds => decide (uptoBulkAll ds ≤ 1048576)
def OpenSpec.upto (s : _root_.Go.ChangeSpec) : _root_.Go.OpenSpec := { _root_.Go.OpenSpec.ofChange s with cond := some uptoSmall }

/-- 'millwrightlaw49.MovesOrder', WHERE WHAT IT READS IS OF BULK AT MOST 1048576: true; the input reads as it did. -/
def movesOrderUptoRow : OpenClaim := { program := "ytpjckgmhcbhphaa", sum := "81ff020a86361d58491325e8721ed884d130fbc4966daf305fb7f44c6be6e404", func := "millwright/millwrightlaw49.MovesOrder", spec := "movesOrder", unfollowed := true, recurses := true, plainKeys := false, apart := false, narrowed := true }
def MovesOrderUptoSaid : Prop := movesOrderUptoRow.holds Try.pinned (OpenSpec.upto movesOrderSpec)

/-- 'millwrightlaw49.MovesFew', WHERE WHAT IT READS IS OF BULK AT MOST 1048576: true; the input reads as it did. -/
def movesFewUptoRow : OpenClaim := { program := "ytpjckgmhcbhphaa", sum := "81ff020a86361d58491325e8721ed884d130fbc4966daf305fb7f44c6be6e404", func := "millwright/millwrightlaw49.MovesFew", spec := "movesFew", unfollowed := true, recurses := true, plainKeys := false, apart := false, narrowed := true }
def MovesFewUptoSaid : Prop := movesFewUptoRow.holds Try.pinned (OpenSpec.upto movesFewSpec)

/-- 'millwrightlaw49.MovesDone', WHERE WHAT IT READS IS OF BULK AT MOST 1048576: true; the input reads as it did. -/
def movesDoneUptoRow : OpenClaim := { program := "ytpjckgmhcbhphaa", sum := "81ff020a86361d58491325e8721ed884d130fbc4966daf305fb7f44c6be6e404", func := "millwright/millwrightlaw49.MovesDone", spec := "movesDone", unfollowed := true, recurses := true, plainKeys := false, apart := false, narrowed := true }
def MovesDoneUptoSaid : Prop := movesDoneUptoRow.holds Try.pinned (OpenSpec.upto movesDoneSpec)

/-- 'millwrightlaw49.MovesSame', WHERE WHAT IT READS IS OF BULK AT MOST 1048576: true; the input reads as it did. -/
def movesSameUptoRow : OpenClaim := { program := "ytpjckgmhcbhphaa", sum := "81ff020a86361d58491325e8721ed884d130fbc4966daf305fb7f44c6be6e404", func := "millwright/millwrightlaw49.MovesSame", spec := "movesSame", unfollowed := true, recurses := true, plainKeys := false, apart := false, narrowed := true }
def MovesSameUptoSaid : Prop := movesSameUptoRow.holds Try.pinned (OpenSpec.upto movesSameSpec)

/-- 'millwrightlaw49.MovesBoth', WHERE WHAT IT READS IS OF BULK AT MOST 1048576: true; the input reads as it did. -/
def movesBothUptoRow : OpenClaim := { program := "ytpjckgmhcbhphaa", sum := "81ff020a86361d58491325e8721ed884d130fbc4966daf305fb7f44c6be6e404", func := "millwright/millwrightlaw49.MovesBoth", spec := "movesBoth", unfollowed := true, recurses := true, plainKeys := false, apart := false, narrowed := true }
def MovesBothUptoSaid : Prop := movesBothUptoRow.holds Try.pinned (OpenSpec.upto movesBothSpec)

end Rows
end Go.Proofs.Ytpjckgmhcbhphaa
