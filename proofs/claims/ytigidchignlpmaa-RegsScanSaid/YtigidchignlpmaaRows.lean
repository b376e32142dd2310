/-
  No cell of these rows narrows 'for every input' (looked for: loops, veiled, ifaces, maps, wideKeys, modest, calm, conditions, laid).
  DERIVED. THE GIVEN ROWS OF THIS SEAT. 5 by the template 'for every input the law returns true; each argument reads behind the call as it read before'; 0 by the template 'total and deterministic' (their statements: YtigidchignlpmaaTotals.lean).
  GIVEN WITH THE SEED: the statements are not yours to turn. If you find one false, say at which input.
  Laid BY PROGRAM, IN A SANDBOX (cutbox-rows.mjs): the forced cells as the released guide's own fill.sh prints them over the translation d1096ba4a5c0b043… (all of the seat's roots in one cut). By AI agents, Wed Nov 11 2026. No macro, syntax, notation, axiom, sorry.
-/
import Derived.Test.YtigidchignlpmaaChecked
import GoSem.Claim
import GoSem.ClaimJoined
import GoSem.ClaimMapViews
import Derived.JoinedTies
import Derived.KernelRfl
namespace Go.Proofs.Ytigidchignlpmaa
/- THE CELL 'sum', in the pinned program and in every row, IS THE sha256 OF THE DUMP (.gsa) THAT YtigidchignlpmaaProg.lean LOADS. Nothing in Lean hashes anything: it is a label: what it is worth is what the hold of that sum in a sandbox is worth. -/
noncomputable def Try.pinned : Pinned := { name := "ytigidchignlpmaa", sum := "d1096ba4a5c0b043c7eb68a57ed9c7993b31783ecc255fca36e85ba354c72366", checked := Try.checked }
namespace Rows
def none {H : Type} : Left H := { results := [], args := [] }

/-- 'millwrightlaw48.RegsScan': WHATEVER THE INPUT: true; the input reads as it did. -/
def regsScanSpec : ChangeSpec := { name := "regsScan", fn := fun _ => fun
  | [d1, d2, d3] => { results := [.lit (.bool true)], args := [d1, d2, d3] }
  | _ => none }
def regsScanRow : OpenClaim := { program := "ytigidchignlpmaa", sum := "d1096ba4a5c0b043c7eb68a57ed9c7993b31783ecc255fca36e85ba354c72366", func := "millwright/millwrightlaw48.RegsScan", spec := "regsScan", unfollowed := true, recurses := true, apart := false }
def RegsScanSaid : Prop := regsScanRow.holds Try.pinned (OpenSpec.ofChange regsScanSpec)

/-- ITS FALSE NEIGHBOUR: 'it returns false'. Refute it at one input. -/
def regsScanWrong : ChangeSpec := { name := "regsScan", fn := fun _ => fun
  | [d1, d2, d3] => { results := [.lit (.bool false)], args := [d1, d2, d3] }
  | _ => none }
def RegsScanWrongFalsely : Prop := regsScanRow.holds Try.pinned (OpenSpec.ofChange regsScanWrong)

/-- 'millwrightlaw48.RegsClash': WHATEVER THE INPUT: true; the input reads as it did. -/
def regsClashSpec : ChangeSpec := { name := "regsClash", fn := fun _ => fun
  | [d1, d2] => { results := [.lit (.bool true)], args := [d1, d2] }
  | _ => none }
def regsClashRow : OpenClaim := { program := "ytigidchignlpmaa", sum := "d1096ba4a5c0b043c7eb68a57ed9c7993b31783ecc255fca36e85ba354c72366", func := "millwright/millwrightlaw48.RegsClash", spec := "regsClash", unfollowed := true, recurses := true, apart := false }
def RegsClashSaid : Prop := regsClashRow.holds Try.pinned (OpenSpec.ofChange regsClashSpec)

/-- ITS FALSE NEIGHBOUR: 'it returns false'. Refute it at one input. -/
def regsClashWrong : ChangeSpec := { name := "regsClash", fn := fun _ => fun
  | [d1, d2] => { results := [.lit (.bool false)], args := [d1, d2] }
  | _ => none }
def RegsClashWrongFalsely : Prop := regsClashRow.holds Try.pinned (OpenSpec.ofChange regsClashWrong)

/-- 'millwrightlaw48.RegsSound': WHATEVER THE INPUT: true; the input reads as it did. -/
def regsSoundSpec : ChangeSpec := { name := "regsSound", fn := fun _ => fun
  | [d1, d2, d3] => { results := [.lit (.bool true)], args := [d1, d2, d3] }
  | _ => none }
def regsSoundRow : OpenClaim := { program := "ytigidchignlpmaa", sum := "d1096ba4a5c0b043c7eb68a57ed9c7993b31783ecc255fca36e85ba354c72366", func := "millwright/millwrightlaw48.RegsSound", spec := "regsSound", unfollowed := true, recurses := true, apart := false }
def RegsSoundSaid : Prop := regsSoundRow.holds Try.pinned (OpenSpec.ofChange regsSoundSpec)

/-- ITS FALSE NEIGHBOUR: 'it returns false'. Refute it at one input. -/
def regsSoundWrong : ChangeSpec := { name := "regsSound", fn := fun _ => fun
  | [d1, d2, d3] => { results := [.lit (.bool false)], args := [d1, d2, d3] }
  | _ => none }
def RegsSoundWrongFalsely : Prop := regsSoundRow.holds Try.pinned (OpenSpec.ofChange regsSoundWrong)

/-- 'millwrightlaw48.RegsEnough': WHATEVER THE INPUT: true; the input reads as it did. -/
def regsEnoughSpec : ChangeSpec := { name := "regsEnough", fn := fun _ => fun
  | [d1, d2] => { results := [.lit (.bool true)], args := [d1, d2] }
  | _ => none }
def regsEnoughRow : OpenClaim := { program := "ytigidchignlpmaa", sum := "d1096ba4a5c0b043c7eb68a57ed9c7993b31783ecc255fca36e85ba354c72366", func := "millwright/millwrightlaw48.RegsEnough", spec := "regsEnough", unfollowed := true, recurses := true, apart := false }
def RegsEnoughSaid : Prop := regsEnoughRow.holds Try.pinned (OpenSpec.ofChange regsEnoughSpec)

/-- ITS FALSE NEIGHBOUR: 'it returns false'. Refute it at one input. -/
def regsEnoughWrong : ChangeSpec := { name := "regsEnough", fn := fun _ => fun
  | [d1, d2] => { results := [.lit (.bool false)], args := [d1, d2] }
  | _ => none }
def RegsEnoughWrongFalsely : Prop := regsEnoughRow.holds Try.pinned (OpenSpec.ofChange regsEnoughWrong)

/-- 'millwrightlaw48.RegsMoved': WHATEVER THE INPUT: true; the input reads as it did. -/
def regsMovedSpec : ChangeSpec := { name := "regsMoved", fn := fun _ => fun
  | [d1, d2, d3, d4] => { results := [.lit (.bool true)], args := [d1, d2, d3, d4] }
  | _ => none }
def regsMovedRow : OpenClaim := { program := "ytigidchignlpmaa", sum := "d1096ba4a5c0b043c7eb68a57ed9c7993b31783ecc255fca36e85ba354c72366", func := "millwright/millwrightlaw48.RegsMoved", spec := "regsMoved", unfollowed := true, recurses := true, apart := false }
def RegsMovedSaid : Prop := regsMovedRow.holds Try.pinned (OpenSpec.ofChange regsMovedSpec)

/-- ITS FALSE NEIGHBOUR: 'it returns false'. Refute it at one input. -/
def regsMovedWrong : ChangeSpec := { name := "regsMoved", fn := fun _ => fun
  | [d1, d2, d3, d4] => { results := [.lit (.bool false)], args := [d1, d2, d3, d4] }
  | _ => none }
def RegsMovedWrongFalsely : Prop := regsMovedRow.holds Try.pinned (OpenSpec.ofChange regsMovedWrong)

/- THE SECOND FORM. 'bulk': how many values and letters a reading holds, each counted each time it is reached (what is shared counts as often as it is met; a slice's spare places count too). A statement '..UptoSaid' is the law's where the arguments, and the package variables that the reading takes, are together of bulk at most 1048576: NARROWER than '..Said'. Prove '..Said' where nothing that the law and all that it calls make is longer than what came in: it says more and counts as full. Else prove '..UptoSaid'. A law counts once. -/
mutual
def uptoBulk {H : Type} : DataW H → Nat
  | .lit (.string bytes) => bytes.length + 1
  | .lit _ => 1
  | .nil => 1
  | .ptr d => uptoBulk d + 1
  | .slice elems spare => uptoBulkAll elems + uptoBulkAll spare + 1
  | .agg parts => uptoBulkAll parts + 1
  | .iface _ d => uptoBulk d + 1
  | .map entries => uptoBulkEntries entries + 1
  | .held _ => 1
def uptoBulkAll {H : Type} : List (DataW H) → Nat
  | [] => 0
  | d :: r => uptoBulk d + uptoBulkAll r
def uptoBulkEntries {H : Type} : List (Lit × DataW H) → Nat
  | [] => 0
  | x :: r => uptoBulkEntry x + uptoBulkEntries r
def uptoBulkEntry {H : Type} : Lit × DataW H → Nat
  | (.string bytes, d) => bytes.length + uptoBulk d + 1
  | (_, d) => uptoBulk d + 1
 end
def uptoSmall : (H : Type) → List (DataW H) → Bool := fun _ ds => decide (uptoBulkAll ds ≤ 1048576)
def OpenSpec.upto (s : _root_.Go.ChangeSpec) : _root_.Go.OpenSpec := { _root_.Go.OpenSpec.ofChange s with cond := some uptoSmall }

/-- 'millwrightlaw48.RegsScan', WHERE WHAT IT READS IS OF BULK AT MOST 1048576: true; the input reads as it did. -/
def regsScanUptoRow : OpenClaim := { program := "ytigidchignlpmaa", sum := "d1096ba4a5c0b043c7eb68a57ed9c7993b31783ecc255fca36e85ba354c72366", func := "millwright/millwrightlaw48.RegsScan", spec := "regsScan", unfollowed := true, recurses := true, apart := false, narrowed := true }
def RegsScanUptoSaid : Prop := regsScanUptoRow.holds Try.pinned (OpenSpec.upto regsScanSpec)

/-- 'millwrightlaw48.RegsClash', WHERE WHAT IT READS IS OF BULK AT MOST 1048576: true; the input reads as it did. -/
def regsClashUptoRow : OpenClaim := { program := "ytigidchignlpmaa", sum := "d1096ba4a5c0b043c7eb68a57ed9c7993b31783ecc255fca36e85ba354c72366", func := "millwright/millwrightlaw48.RegsClash", spec := "regsClash", unfollowed := true, recurses := true, apart := false, narrowed := true }
def RegsClashUptoSaid : Prop := regsClashUptoRow.holds Try.pinned (OpenSpec.upto regsClashSpec)

/-- 'millwrightlaw48.RegsSound', WHERE WHAT IT READS IS OF BULK AT MOST 1048576: true; the input reads as it did. -/
def regsSoundUptoRow : OpenClaim := { program := "ytigidchignlpmaa", sum := "d1096ba4a5c0b043c7eb68a57ed9c7993b31783ecc255fca36e85ba354c72366", func := "millwright/millwrightlaw48.RegsSound", spec := "regsSound", unfollowed := true, recurses := true, apart := false, narrowed := true }
def RegsSoundUptoSaid : Prop := regsSoundUptoRow.holds Try.pinned (OpenSpec.upto regsSoundSpec)

/-- 'millwrightlaw48.RegsEnough', WHERE WHAT IT READS IS OF BULK AT MOST 1048576: true; the input reads as it did. -/
def regsEnoughUptoRow : OpenClaim := { program := "ytigidchignlpmaa", sum := "d1096ba4a5c0b043c7eb68a57ed9c7993b31783ecc255fca36e85ba354c72366", func := "millwright/millwrightlaw48.RegsEnough", spec := "regsEnough", unfollowed := true, recurses := true, apart := false, narrowed := true }
def RegsEnoughUptoSaid : Prop := regsEnoughUptoRow.holds Try.pinned (OpenSpec.upto regsEnoughSpec)

/-- 'millwrightlaw48.RegsMoved', WHERE WHAT IT READS IS OF BULK AT MOST 1048576: true; the input reads as it did. -/
def regsMovedUptoRow : OpenClaim := { program := "ytigidchignlpmaa", sum := "d1096ba4a5c0b043c7eb68a57ed9c7993b31783ecc255fca36e85ba354c72366", func := "millwright/millwrightlaw48.RegsMoved", spec := "regsMoved", unfollowed := true, recurses := true, apart := false, narrowed := true }
def RegsMovedUptoSaid : Prop := regsMovedUptoRow.holds Try.pinned (OpenSpec.upto regsMovedSpec)

end Rows
end Go.Proofs.Ytigidchignlpmaa
