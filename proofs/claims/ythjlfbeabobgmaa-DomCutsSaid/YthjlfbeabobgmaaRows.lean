/-
  No cell of these rows narrows 'for every input' (looked for: loops, veiled, ifaces, maps, wideKeys, modest, calm, conditions, laid).
  DERIVED. THE GIVEN ROWS OF THIS SEAT. 4 by the template 'for every input the law returns true; each argument reads behind the call as it read before'; 0 by the template 'total and deterministic' (their statements: YthjlfbeabobgmaaTotals.lean).
  GIVEN WITH THE SEED: the statements are not yours to turn. If you find one false, say at which input.
  Laid BY PROGRAM, IN A SANDBOX (cutbox-rows.mjs): the forced cells as the released guide's own fill.sh prints them over the translation a45e83f29f4fd918… (all of the seat's roots in one cut). By AI agents, Wed Nov 11 2026. No macro, syntax, notation, axiom, sorry.
-/
import Derived.Test.YthjlfbeabobgmaaChecked
import GoSem.Claim
import GoSem.ClaimJoined
import GoSem.ClaimMapViews
import Derived.JoinedTies
import Derived.KernelRfl
namespace Go.Proofs.Ythjlfbeabobgmaa
/- THE CELL 'sum', in the pinned program and in every row, IS THE sha256 OF THE DUMP (.gsa) THAT YthjlfbeabobgmaaProg.lean LOADS. Nothing in Lean hashes anything: it is a label: what it is worth is what the hold of that sum in a sandbox is worth. -/
noncomputable def Try.pinned : Pinned := { name := "ythjlfbeabobgmaa", sum := "a45e83f29f4fd9188967ebf5b5d81d3465e12b9f4bb612d9f8e82af618d1156b", checked := Try.checked }
namespace Rows
def none {H : Type} : Left H := { results := [], args := [] }

/-- 'millwrightlaw37.DomTells': WHATEVER THE INPUT: true; the input reads as it did. -/
def domTellsSpec : ChangeSpec := { name := "domTells", fn := fun _ => fun
  | [d] => { results := [.lit (.bool true)], args := [d] }
  | _ => none }
def domTellsRow : OpenClaim := { program := "ythjlfbeabobgmaa", sum := "a45e83f29f4fd9188967ebf5b5d81d3465e12b9f4bb612d9f8e82af618d1156b", func := "millwright/millwrightlaw37.DomTells", spec := "domTells", apart := false }
def DomTellsSaid : Prop := domTellsRow.holds Try.pinned (OpenSpec.ofChange domTellsSpec)

/-- ITS FALSE NEIGHBOUR: 'it returns false'. Refute it at one input. -/
def domTellsWrong : ChangeSpec := { name := "domTells", fn := fun _ => fun
  | [d] => { results := [.lit (.bool false)], args := [d] }
  | _ => none }
def DomTellsWrongFalsely : Prop := domTellsRow.holds Try.pinned (OpenSpec.ofChange domTellsWrong)

/-- 'millwrightlaw37.DomCuts': WHATEVER THE INPUT: true; the input reads as it did. -/
def domCutsSpec : ChangeSpec := { name := "domCuts", fn := fun _ => fun
  | [d1, d2] => { results := [.lit (.bool true)], args := [d1, d2] }
  | _ => none }
def domCutsRow : OpenClaim := { program := "ythjlfbeabobgmaa", sum := "a45e83f29f4fd9188967ebf5b5d81d3465e12b9f4bb612d9f8e82af618d1156b", func := "millwright/millwrightlaw37.DomCuts", spec := "domCuts", apart := false }
def DomCutsSaid : Prop := domCutsRow.holds Try.pinned (OpenSpec.ofChange domCutsSpec)

/-- ITS FALSE NEIGHBOUR: 'it returns false'. Refute it at one input. -/
def domCutsWrong : ChangeSpec := { name := "domCuts", fn := fun _ => fun
  | [d1, d2] => { results := [.lit (.bool false)], args := [d1, d2] }
  | _ => none }
def DomCutsWrongFalsely : Prop := domCutsRow.holds Try.pinned (OpenSpec.ofChange domCutsWrong)

/-- 'millwrightlaw37.DomWays': WHATEVER THE INPUT: true; the input reads as it did. -/
def domWaysSpec : ChangeSpec := { name := "domWays", fn := fun _ => fun
  | [d] => { results := [.lit (.bool true)], args := [d] }
  | _ => none }
def domWaysRow : OpenClaim := { program := "ythjlfbeabobgmaa", sum := "a45e83f29f4fd9188967ebf5b5d81d3465e12b9f4bb612d9f8e82af618d1156b", func := "millwright/millwrightlaw37.DomWays", spec := "domWays", apart := false }
def DomWaysSaid : Prop := domWaysRow.holds Try.pinned (OpenSpec.ofChange domWaysSpec)

/-- ITS FALSE NEIGHBOUR: 'it returns false'. Refute it at one input. -/
def domWaysWrong : ChangeSpec := { name := "domWays", fn := fun _ => fun
  | [d] => { results := [.lit (.bool false)], args := [d] }
  | _ => none }
def DomWaysWrongFalsely : Prop := domWaysRow.holds Try.pinned (OpenSpec.ofChange domWaysWrong)

/-- 'millwrightlaw37.DomTrees': WHATEVER THE INPUT: true; the input reads as it did. -/
def domTreesSpec : ChangeSpec := { name := "domTrees", fn := fun _ => fun
  | [d1, d2, d3] => { results := [.lit (.bool true)], args := [d1, d2, d3] }
  | _ => none }
def domTreesRow : OpenClaim := { program := "ythjlfbeabobgmaa", sum := "a45e83f29f4fd9188967ebf5b5d81d3465e12b9f4bb612d9f8e82af618d1156b", func := "millwright/millwrightlaw37.DomTrees", spec := "domTrees", apart := false }
def DomTreesSaid : Prop := domTreesRow.holds Try.pinned (OpenSpec.ofChange domTreesSpec)

/-- ITS FALSE NEIGHBOUR: 'it returns false'. Refute it at one input. -/
def domTreesWrong : ChangeSpec := { name := "domTrees", fn := fun _ => fun
  | [d1, d2, d3] => { results := [.lit (.bool false)], args := [d1, d2, d3] }
  | _ => none }
def DomTreesWrongFalsely : Prop := domTreesRow.holds Try.pinned (OpenSpec.ofChange domTreesWrong)

/- THE SECOND FORM. 'bulk': how many values and letters a reading holds, each counted each time it is reached (what is shared counts as often as it is met; a slice's spare places count too). A statement '..UptoSaid' is the law's where the arguments, and the package variables that the reading takes, are together of bulk at most 1048576: NARROWER than '..Said'. Prove '..Said' where nothing that the law and all that it calls make is longer than what came in: it says more and counts as full. Else prove '..UptoSaid'. A law counts once. -/
mutual
def uptoBulk {H : Type} : DataW H → Nat
  | .lit (.string bytes) => bytes.length + 1
  | .lit _ => 1
  | .nil => 1
  | .ptr d => uptoBulk d + 1
  | .slice elems spare => uptoBulkAll elems + uptoBulkAll spare + 1
  | .agg parts => uptoBulkAll parts + 1
  | .iface _ d => uptoBulk d + 1
  | .map entries => uptoBulkEntries entries + 1
  | .held _ => 1
def uptoBulkAll {H : Type} : List (DataW H) → Nat
  | [] => 0
  | d :: r => uptoBulk d + uptoBulkAll r
def uptoBulkEntries {H : Type} : List (Lit × DataW H) → Nat
  | [] => 0
  | x :: r => uptoBulkEntry x + uptoBulkEntries r
def uptoBulkEntry {H : Type} : Lit × DataW H → Nat
  | (.string bytes, d) => bytes.length + uptoBulk d + 1
  | (_, d) => uptoBulk d + 1
 end
def uptoSmall : (H : Type) → List (DataW H) → Bool := fun _ ds => decide (uptoBulkAll ds ≤ 1048576)
def OpenSpec.upto (s : _root_.Go.ChangeSpec) : _root_.Go.OpenSpec := { _root_.Go.OpenSpec.ofChange s with cond := some uptoSmall }

/-- 'millwrightlaw37.DomTells', WHERE WHAT IT READS IS OF BULK AT MOST 1048576: true; the input reads as it did. -/
def domTellsUptoRow : OpenClaim := { program := "ythjlfbeabobgmaa", sum := "a45e83f29f4fd9188967ebf5b5d81d3465e12b9f4bb612d9f8e82af618d1156b", func := "millwright/millwrightlaw37.DomTells", spec := "domTells", apart := false, narrowed := true }
def DomTellsUptoSaid : Prop := domTellsUptoRow.holds Try.pinned (OpenSpec.upto domTellsSpec)

/-- 'millwrightlaw37.DomCuts', WHERE WHAT IT READS IS OF BULK AT MOST 1048576: true; the input reads as it did. -/
def domCutsUptoRow : OpenClaim := { program := "ythjlfbeabobgmaa", sum := "a45e83f29f4fd9188967ebf5b5d81d3465e12b9f4bb612d9f8e82af618d1156b", func := "millwright/millwrightlaw37.DomCuts", spec := "domCuts", apart := false, narrowed := true }
def DomCutsUptoSaid : Prop := domCutsUptoRow.holds Try.pinned (OpenSpec.upto domCutsSpec)

/-- 'millwrightlaw37.DomWays', WHERE WHAT IT READS IS OF BULK AT MOST 1048576: true; the input reads as it did. -/
def domWaysUptoRow : OpenClaim := { program := "ythjlfbeabobgmaa", sum := "a45e83f29f4fd9188967ebf5b5d81d3465e12b9f4bb612d9f8e82af618d1156b", func := "millwright/millwrightlaw37.DomWays", spec := "domWays", apart := false, narrowed := true }
def DomWaysUptoSaid : Prop := domWaysUptoRow.holds Try.pinned (OpenSpec.upto domWaysSpec)

/-- 'millwrightlaw37.DomTrees', WHERE WHAT IT READS IS OF BULK AT MOST 1048576: true; the input reads as it did. -/
def domTreesUptoRow : OpenClaim := { program := "ythjlfbeabobgmaa", sum := "a45e83f29f4fd9188967ebf5b5d81d3465e12b9f4bb612d9f8e82af618d1156b", func := "millwright/millwrightlaw37.DomTrees", spec := "domTrees", apart := false, narrowed := true }
def DomTreesUptoSaid : Prop := domTreesUptoRow.holds Try.pinned (OpenSpec.upto domTreesSpec)

end Rows
end Go.Proofs.Ythjlfbeabobgmaa
