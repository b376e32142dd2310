/-
  No cell of these rows narrows 'for every input' (looked for: loops, veiled, ifaces, maps, wideKeys, modest, calm, conditions, laid).
  DERIVED. THE GIVEN ROWS OF THIS SEAT. 10 by the template 'for every input the law returns true; each argument reads behind the call as it read before'; 0 by the template 'total and deterministic' (their statements: YtkeefajfndmpeaaTotals.lean).
  GIVEN WITH THE SEED: the statements are not yours to turn. If you find one false, say at which input.
  Laid BY PROGRAM, IN A SANDBOX (cutbox-rows.mjs): the forced cells as the released guide's own fill.sh prints them over the translation 11fe3f11a7c30a71… (all of the seat's roots in one cut). By AI agents, Wed Nov 11 2026. No macro, syntax, notation, axiom, sorry.
-/
import Derived.Test.YtkeefajfndmpeaaChecked
import GoSem.Claim
import GoSem.ClaimJoined
import GoSem.ClaimMapViews
import Derived.JoinedTies
import Derived.KernelRfl
namespace Go.Proofs.Ytkeefajfndmpeaa
/- THE CELL 'sum', in the pinned program and in every row, IS THE sha256 OF THE DUMP (.gsa) THAT YtkeefajfndmpeaaProg.lean LOADS. Nothing in Lean hashes anything: it is a label: what it is worth is what the hold of that sum in a sandbox is worth. -/
noncomputable def Try.pinned : Pinned := { name := "ytkeefajfndmpeaa", sum := "11fe3f11a7c30a717b4e821b5bfd9fb1228fd7b3f6b432f951f828c8af6695cd", checked := Try.checked }
namespace Rows
def none {H : Type} : Left H := { results := [], args := [] }

/-- 'millwrightlaw21.StackBack': WHATEVER THE INPUT: true; the input reads as it did. -/
def stackBackSpec : ChangeSpec := { name := "stackBack", fn := fun _ => fun
  | [d1, d2] => { results := [.lit (.bool true)], args := [d1, d2] }
  | _ => none }
def stackBackRow : OpenClaim := { program := "ytkeefajfndmpeaa", sum := "11fe3f11a7c30a717b4e821b5bfd9fb1228fd7b3f6b432f951f828c8af6695cd", func := "millwright/millwrightlaw21.StackBack", spec := "stackBack", unfollowed := true, recurses := true, apart := false }
def StackBackSaid : Prop := stackBackRow.holds Try.pinned (OpenSpec.ofChange stackBackSpec)

/-- ITS FALSE NEIGHBOUR: 'it returns false'. Refute it at one input. -/
def stackBackWrong : ChangeSpec := { name := "stackBack", fn := fun _ => fun
  | [d1, d2] => { results := [.lit (.bool false)], args := [d1, d2] }
  | _ => none }
def StackBackWrongFalsely : Prop := stackBackRow.holds Try.pinned (OpenSpec.ofChange stackBackWrong)

/-- 'millwrightlaw21.StackBelow': WHATEVER THE INPUT: true; the input reads as it did. -/
def stackBelowSpec : ChangeSpec := { name := "stackBelow", fn := fun _ => fun
  | [d1, d2] => { results := [.lit (.bool true)], args := [d1, d2] }
  | _ => none }
def stackBelowRow : OpenClaim := { program := "ytkeefajfndmpeaa", sum := "11fe3f11a7c30a717b4e821b5bfd9fb1228fd7b3f6b432f951f828c8af6695cd", func := "millwright/millwrightlaw21.StackBelow", spec := "stackBelow", unfollowed := true, recurses := true, apart := false }
def StackBelowSaid : Prop := stackBelowRow.holds Try.pinned (OpenSpec.ofChange stackBelowSpec)

/-- ITS FALSE NEIGHBOUR: 'it returns false'. Refute it at one input. -/
def stackBelowWrong : ChangeSpec := { name := "stackBelow", fn := fun _ => fun
  | [d1, d2] => { results := [.lit (.bool false)], args := [d1, d2] }
  | _ => none }
def StackBelowWrongFalsely : Prop := stackBelowRow.holds Try.pinned (OpenSpec.ofChange stackBelowWrong)

/-- 'millwrightlaw21.StackPlays': WHATEVER THE INPUT: true; the input reads as it did. -/
def stackPlaysSpec : ChangeSpec := { name := "stackPlays", fn := fun _ => fun
  | [d] => { results := [.lit (.bool true)], args := [d] }
  | _ => none }
def stackPlaysRow : OpenClaim := { program := "ytkeefajfndmpeaa", sum := "11fe3f11a7c30a717b4e821b5bfd9fb1228fd7b3f6b432f951f828c8af6695cd", func := "millwright/millwrightlaw21.StackPlays", spec := "stackPlays", unfollowed := true, recurses := true, apart := false }
def StackPlaysSaid : Prop := stackPlaysRow.holds Try.pinned (OpenSpec.ofChange stackPlaysSpec)

/-- ITS FALSE NEIGHBOUR: 'it returns false'. Refute it at one input. -/
def stackPlaysWrong : ChangeSpec := { name := "stackPlays", fn := fun _ => fun
  | [d] => { results := [.lit (.bool false)], args := [d] }
  | _ => none }
def StackPlaysWrongFalsely : Prop := stackPlaysRow.holds Try.pinned (OpenSpec.ofChange stackPlaysWrong)

/-- 'millwrightlaw21.StackNone': WHATEVER THE INPUT: true; the input reads as it did. -/
def stackNoneSpec : ChangeSpec := { name := "stackNone", fn := fun _ => fun
  | [d] => { results := [.lit (.bool true)], args := [d] }
  | _ => none }
def stackNoneRow : OpenClaim := { program := "ytkeefajfndmpeaa", sum := "11fe3f11a7c30a717b4e821b5bfd9fb1228fd7b3f6b432f951f828c8af6695cd", func := "millwright/millwrightlaw21.StackNone", spec := "stackNone", unfollowed := true, recurses := true, apart := false }
def StackNoneSaid : Prop := stackNoneRow.holds Try.pinned (OpenSpec.ofChange stackNoneSpec)

/-- ITS FALSE NEIGHBOUR: 'it returns false'. Refute it at one input. -/
def stackNoneWrong : ChangeSpec := { name := "stackNone", fn := fun _ => fun
  | [d] => { results := [.lit (.bool false)], args := [d] }
  | _ => none }
def StackNoneWrongFalsely : Prop := stackNoneRow.holds Try.pinned (OpenSpec.ofChange stackNoneWrong)

/-- 'millwrightlaw22.CtrlDead': WHATEVER THE INPUT: true; the input reads as it did. -/
def ctrlDeadSpec : ChangeSpec := { name := "ctrlDead", fn := fun _ => fun
  | [d1, d2] => { results := [.lit (.bool true)], args := [d1, d2] }
  | _ => none }
def ctrlDeadRow : OpenClaim := { program := "ytkeefajfndmpeaa", sum := "11fe3f11a7c30a717b4e821b5bfd9fb1228fd7b3f6b432f951f828c8af6695cd", func := "millwright/millwrightlaw22.CtrlDead", spec := "ctrlDead", unfollowed := true, recurses := true, apart := false }
def CtrlDeadSaid : Prop := ctrlDeadRow.holds Try.pinned (OpenSpec.ofChange ctrlDeadSpec)

/-- ITS FALSE NEIGHBOUR: 'it returns false'. Refute it at one input. -/
def ctrlDeadWrong : ChangeSpec := { name := "ctrlDead", fn := fun _ => fun
  | [d1, d2] => { results := [.lit (.bool false)], args := [d1, d2] }
  | _ => none }
def CtrlDeadWrongFalsely : Prop := ctrlDeadRow.holds Try.pinned (OpenSpec.ofChange ctrlDeadWrong)

/-- 'millwrightlaw22.CtrlIfs': WHATEVER THE INPUT: true; the input reads as it did. -/
def ctrlIfsSpec : ChangeSpec := { name := "ctrlIfs", fn := fun _ => fun
  | [d1, d2] => { results := [.lit (.bool true)], args := [d1, d2] }
  | _ => none }
def ctrlIfsRow : OpenClaim := { program := "ytkeefajfndmpeaa", sum := "11fe3f11a7c30a717b4e821b5bfd9fb1228fd7b3f6b432f951f828c8af6695cd", func := "millwright/millwrightlaw22.CtrlIfs", spec := "ctrlIfs", unfollowed := true, recurses := true, apart := false }
def CtrlIfsSaid : Prop := ctrlIfsRow.holds Try.pinned (OpenSpec.ofChange ctrlIfsSpec)

/-- ITS FALSE NEIGHBOUR: 'it returns false'. Refute it at one input. -/
def ctrlIfsWrong : ChangeSpec := { name := "ctrlIfs", fn := fun _ => fun
  | [d1, d2] => { results := [.lit (.bool false)], args := [d1, d2] }
  | _ => none }
def CtrlIfsWrongFalsely : Prop := ctrlIfsRow.holds Try.pinned (OpenSpec.ofChange ctrlIfsWrong)

/-- 'millwrightlaw22.CtrlLabels': WHATEVER THE INPUT: true; the input reads as it did. -/
def ctrlLabelsSpec : ChangeSpec := { name := "ctrlLabels", fn := fun _ => fun
  | [d1, d2, d3] => { results := [.lit (.bool true)], args := [d1, d2, d3] }
  | _ => none }
def ctrlLabelsRow : OpenClaim := { program := "ytkeefajfndmpeaa", sum := "11fe3f11a7c30a717b4e821b5bfd9fb1228fd7b3f6b432f951f828c8af6695cd", func := "millwright/millwrightlaw22.CtrlLabels", spec := "ctrlLabels", unfollowed := true, recurses := true, apart := false }
def CtrlLabelsSaid : Prop := ctrlLabelsRow.holds Try.pinned (OpenSpec.ofChange ctrlLabelsSpec)

/-- ITS FALSE NEIGHBOUR: 'it returns false'. Refute it at one input. -/
def ctrlLabelsWrong : ChangeSpec := { name := "ctrlLabels", fn := fun _ => fun
  | [d1, d2, d3] => { results := [.lit (.bool false)], args := [d1, d2, d3] }
  | _ => none }
def CtrlLabelsWrongFalsely : Prop := ctrlLabelsRow.holds Try.pinned (OpenSpec.ofChange ctrlLabelsWrong)

/-- 'millwrightlaw22.CtrlPairs': WHATEVER THE INPUT: true; the input reads as it did. -/
def ctrlPairsSpec : ChangeSpec := { name := "ctrlPairs", fn := fun _ => fun
  | [d1, d2, d3] => { results := [.lit (.bool true)], args := [d1, d2, d3] }
  | _ => none }
def ctrlPairsRow : OpenClaim := { program := "ytkeefajfndmpeaa", sum := "11fe3f11a7c30a717b4e821b5bfd9fb1228fd7b3f6b432f951f828c8af6695cd", func := "millwright/millwrightlaw22.CtrlPairs", spec := "ctrlPairs", unfollowed := true, recurses := true, apart := false }
def CtrlPairsSaid : Prop := ctrlPairsRow.holds Try.pinned (OpenSpec.ofChange ctrlPairsSpec)

/-- ITS FALSE NEIGHBOUR: 'it returns false'. Refute it at one input. -/
def ctrlPairsWrong : ChangeSpec := { name := "ctrlPairs", fn := fun _ => fun
  | [d1, d2, d3] => { results := [.lit (.bool false)], args := [d1, d2, d3] }
  | _ => none }
def CtrlPairsWrongFalsely : Prop := ctrlPairsRow.holds Try.pinned (OpenSpec.ofChange ctrlPairsWrong)

/-- 'millwrightlaw22.CtrlRuns': WHATEVER THE INPUT: true; the input reads as it did. -/
def ctrlRunsSpec : ChangeSpec := { name := "ctrlRuns", fn := fun _ => fun
  | [d1, d2] => { results := [.lit (.bool true)], args := [d1, d2] }
  | _ => none }
def ctrlRunsRow : OpenClaim := { program := "ytkeefajfndmpeaa", sum := "11fe3f11a7c30a717b4e821b5bfd9fb1228fd7b3f6b432f951f828c8af6695cd", func := "millwright/millwrightlaw22.CtrlRuns", spec := "ctrlRuns", unfollowed := true, recurses := true, apart := false }
def CtrlRunsSaid : Prop := ctrlRunsRow.holds Try.pinned (OpenSpec.ofChange ctrlRunsSpec)

/-- ITS FALSE NEIGHBOUR: 'it returns false'. Refute it at one input. -/
def ctrlRunsWrong : ChangeSpec := { name := "ctrlRuns", fn := fun _ => fun
  | [d1, d2] => { results := [.lit (.bool false)], args := [d1, d2] }
  | _ => none }
def CtrlRunsWrongFalsely : Prop := ctrlRunsRow.holds Try.pinned (OpenSpec.ofChange ctrlRunsWrong)

/-- 'millwrightlaw22.CtrlNobody': WHATEVER THE INPUT: true; the input reads as it did. -/
def ctrlNobodySpec : ChangeSpec := { name := "ctrlNobody", fn := fun _ => fun
  | [d] => { results := [.lit (.bool true)], args := [d] }
  | _ => none }
def ctrlNobodyRow : OpenClaim := { program := "ytkeefajfndmpeaa", sum := "11fe3f11a7c30a717b4e821b5bfd9fb1228fd7b3f6b432f951f828c8af6695cd", func := "millwright/millwrightlaw22.CtrlNobody", spec := "ctrlNobody", unfollowed := true, recurses := true, apart := false }
def CtrlNobodySaid : Prop := ctrlNobodyRow.holds Try.pinned (OpenSpec.ofChange ctrlNobodySpec)

/-- ITS FALSE NEIGHBOUR: 'it returns false'. Refute it at one input. -/
def ctrlNobodyWrong : ChangeSpec := { name := "ctrlNobody", fn := fun _ => fun
  | [d] => { results := [.lit (.bool false)], args := [d] }
  | _ => none }
def CtrlNobodyWrongFalsely : Prop := ctrlNobodyRow.holds Try.pinned (OpenSpec.ofChange ctrlNobodyWrong)

/- THE SECOND FORM. 'bulk': how many values and letters a reading holds, each counted each time it is reached (what is shared counts as often as it is met; a slice's spare places count too). A statement '..UptoSaid' is the law's where the arguments, and the package variables that the reading takes, are together of bulk at most 1048576: NARROWER than '..Said'. Prove '..Said' where nothing that the law and all that it calls make is longer than what came in: it says more and counts as full. Else prove '..UptoSaid'. A law counts once. -/
mutual
def uptoBulk {H : Type} : DataW H → Nat
  | .lit (.string bytes) => bytes.length + 1
  | .lit _ => 1
  | .nil => 1
  | .ptr d => uptoBulk d + 1
  | .slice elems spare => uptoBulkAll elems + uptoBulkAll spare + 1
  | .agg parts => uptoBulkAll parts + 1
  | .iface _ d => uptoBulk d + 1
  | .map entries => uptoBulkEntries entries + 1
  | .held _ => 1
def uptoBulkAll {H : Type} : List (DataW H) → Nat
  | [] => 0
  | d :: r => uptoBulk d + uptoBulkAll r
def uptoBulkEntries {H : Type} : List (Lit × DataW H) → Nat
  | [] => 0
  | x :: r => uptoBulkEntry x + uptoBulkEntries r
def uptoBulkEntry {H : Type} : Lit × DataW H → Nat
  | (.string bytes, d) => bytes.length + uptoBulk d + 1
  | (_, d) => uptoBulk d + 1
 end
def uptoSmall : (H : Type) → List (DataW H) → Bool := fun _ ds => decide (uptoBulkAll ds ≤ 1048576)
def OpenSpec.upto (s : _root_.Go.ChangeSpec) : _root_.Go.OpenSpec := { _root_.Go.OpenSpec.ofChange s with cond := some uptoSmall }

/-- 'millwrightlaw21.StackBack', WHERE WHAT IT READS IS OF BULK AT MOST 1048576: true; the input reads as it did. -/
def stackBackUptoRow : OpenClaim := { program := "ytkeefajfndmpeaa", sum := "11fe3f11a7c30a717b4e821b5bfd9fb1228fd7b3f6b432f951f828c8af6695cd", func := "millwright/millwrightlaw21.StackBack", spec := "stackBack", unfollowed := true, recurses := true, apart := false, narrowed := true }
def StackBackUptoSaid : Prop := stackBackUptoRow.holds Try.pinned (OpenSpec.upto stackBackSpec)

/-- 'millwrightlaw21.StackBelow', WHERE WHAT IT READS IS OF BULK AT MOST 1048576: true; the input reads as it did. -/
def stackBelowUptoRow : OpenClaim := { program := "ytkeefajfndmpeaa", sum := "11fe3f11a7c30a717b4e821b5bfd9fb1228fd7b3f6b432f951f828c8af6695cd", func := "millwright/millwrightlaw21.StackBelow", spec := "stackBelow", unfollowed := true, recurses := true, apart := false, narrowed := true }
def StackBelowUptoSaid : Prop := stackBelowUptoRow.holds Try.pinned (OpenSpec.upto stackBelowSpec)

/-- 'millwrightlaw21.StackPlays', WHERE WHAT IT READS IS OF BULK AT MOST 1048576: true; the input reads as it did. -/
def stackPlaysUptoRow : OpenClaim := { program := "ytkeefajfndmpeaa", sum := "11fe3f11a7c30a717b4e821b5bfd9fb1228fd7b3f6b432f951f828c8af6695cd", func := "millwright/millwrightlaw21.StackPlays", spec := "stackPlays", unfollowed := true, recurses := true, apart := false, narrowed := true }
def StackPlaysUptoSaid : Prop := stackPlaysUptoRow.holds Try.pinned (OpenSpec.upto stackPlaysSpec)

/-- 'millwrightlaw21.StackNone', WHERE WHAT IT READS IS OF BULK AT MOST 1048576: true; the input reads as it did. -/
def stackNoneUptoRow : OpenClaim := { program := "ytkeefajfndmpeaa", sum := "11fe3f11a7c30a717b4e821b5bfd9fb1228fd7b3f6b432f951f828c8af6695cd", func := "millwright/millwrightlaw21.StackNone", spec := "stackNone", unfollowed := true, recurses := true, apart := false, narrowed := true }
def StackNoneUptoSaid : Prop := stackNoneUptoRow.holds Try.pinned (OpenSpec.upto stackNoneSpec)

/-- 'millwrightlaw22.CtrlDead', WHERE WHAT IT READS IS OF BULK AT MOST 1048576: true; the input reads as it did. -/
def ctrlDeadUptoRow : OpenClaim := { program := "ytkeefajfndmpeaa", sum := "11fe3f11a7c30a717b4e821b5bfd9fb1228fd7b3f6b432f951f828c8af6695cd", func := "millwright/millwrightlaw22.CtrlDead", spec := "ctrlDead", unfollowed := true, recurses := true, apart := false, narrowed := true }
def CtrlDeadUptoSaid : Prop := ctrlDeadUptoRow.holds Try.pinned (OpenSpec.upto ctrlDeadSpec)

/-- 'millwrightlaw22.CtrlIfs', WHERE WHAT IT READS IS OF BULK AT MOST 1048576: true; the input reads as it did. -/
def ctrlIfsUptoRow : OpenClaim := { program := "ytkeefajfndmpeaa", sum := "11fe3f11a7c30a717b4e821b5bfd9fb1228fd7b3f6b432f951f828c8af6695cd", func := "millwright/millwrightlaw22.CtrlIfs", spec := "ctrlIfs", unfollowed := true, recurses := true, apart := false, narrowed := true }
def CtrlIfsUptoSaid : Prop := ctrlIfsUptoRow.holds Try.pinned (OpenSpec.upto ctrlIfsSpec)

/-- 'millwrightlaw22.CtrlLabels', WHERE WHAT IT READS IS OF BULK AT MOST 1048576: true; the input reads as it did. -/
def ctrlLabelsUptoRow : OpenClaim := { program := "ytkeefajfndmpeaa", sum := "11fe3f11a7c30a717b4e821b5bfd9fb1228fd7b3f6b432f951f828c8af6695cd", func := "millwright/millwrightlaw22.CtrlLabels", spec := "ctrlLabels", unfollowed := true, recurses := true, apart := false, narrowed := true }
def CtrlLabelsUptoSaid : Prop := ctrlLabelsUptoRow.holds Try.pinned (OpenSpec.upto ctrlLabelsSpec)

/-- 'millwrightlaw22.CtrlPairs', WHERE WHAT IT READS IS OF BULK AT MOST 1048576: true; the input reads as it did. -/
def ctrlPairsUptoRow : OpenClaim := { program := "ytkeefajfndmpeaa", sum := "11fe3f11a7c30a717b4e821b5bfd9fb1228fd7b3f6b432f951f828c8af6695cd", func := "millwright/millwrightlaw22.CtrlPairs", spec := "ctrlPairs", unfollowed := true, recurses := true, apart := false, narrowed := true }
def CtrlPairsUptoSaid : Prop := ctrlPairsUptoRow.holds Try.pinned (OpenSpec.upto ctrlPairsSpec)

/-- 'millwrightlaw22.CtrlRuns', WHERE WHAT IT READS IS OF BULK AT MOST 1048576: true; the input reads as it did. -/
def ctrlRunsUptoRow : OpenClaim := { program := "ytkeefajfndmpeaa", sum := "11fe3f11a7c30a717b4e821b5bfd9fb1228fd7b3f6b432f951f828c8af6695cd", func := "millwright/millwrightlaw22.CtrlRuns", spec := "ctrlRuns", unfollowed := true, recurses := true, apart := false, narrowed := true }
def CtrlRunsUptoSaid : Prop := ctrlRunsUptoRow.holds Try.pinned (OpenSpec.upto ctrlRunsSpec)

/-- 'millwrightlaw22.CtrlNobody', WHERE WHAT IT READS IS OF BULK AT MOST 1048576: true; the input reads as it did. -/
def ctrlNobodyUptoRow : OpenClaim := { program := "ytkeefajfndmpeaa", sum := "11fe3f11a7c30a717b4e821b5bfd9fb1228fd7b3f6b432f951f828c8af6695cd", func := "millwright/millwrightlaw22.CtrlNobody", spec := "ctrlNobody", unfollowed := true, recurses := true, apart := false, narrowed := true }
def CtrlNobodyUptoSaid : Prop := ctrlNobodyUptoRow.holds Try.pinned (OpenSpec.upto ctrlNobodySpec)

end Rows
end Go.Proofs.Ytkeefajfndmpeaa
