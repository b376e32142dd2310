/-
  No cell of these rows narrows 'for every input' (looked for: loops, veiled, ifaces, maps, wideKeys, modest, calm, conditions, laid).
  DERIVED. THE GIVEN ROWS OF THIS SEAT. 3 by the template 'for every input the law returns true; each argument reads behind the call as it read before'; 0 by the template 'total and deterministic' (their statements: YtjpmiejgcnfiiaaGreatTotals.lean).
  GIVEN WITH THE SEED: the statements are not yours to turn. If you find one false, say at which input.
  Laid BY PROGRAM, IN A SANDBOX (cutbox-rows.mjs): the forced cells as the released guide's own fill.sh prints them over the translation 291f0385edd2f232… (all of the seat's roots in one cut). By AI agents, Wed Nov 11 2026. No macro, syntax, notation, axiom, sorry.
-/
import Derived.Test.YtjpmiejgcnfiiaaGreatChecked
import GoSem.Claim
import GoSem.ClaimJoined
import GoSem.ClaimMapViews
import Derived.JoinedTies
import Derived.KernelRfl
namespace Go.Proofs.YtjpmiejgcnfiiaaGreat
/- THE CELL 'sum', in the pinned program and in every row, IS THE sha256 OF THE DUMP (.gsa) THAT YtjpmiejgcnfiiaaGreatProg.lean LOADS. Nothing in Lean hashes anything: it is a label: what it is worth is what the hold of that sum in a sandbox is worth. -/
noncomputable def Tryz.pinned : Pinned := { name := "ytjpmiejgcnfiiaagreat", sum := "291f0385edd2f23278a1550211ea4c6556b25692c3f6a0d8afae5d7ed71393cc", checked := Tryz.checked }
namespace Rows
def none {H : Type} : Left H := { results := [], args := [] }

/-- 'millwrightlaw47.LiveTells': WHATEVER THE INPUT: true; the input reads as it did. -/
def liveTellsSpec : ChangeSpec := { name := "liveTells", fn := fun _ => fun
  | [d1, d2] => { results := [.lit (.bool true)], args := [d1, d2] }
  | _ => none }
def liveTellsRow : OpenClaim := { program := "ytjpmiejgcnfiiaagreat", sum := "291f0385edd2f23278a1550211ea4c6556b25692c3f6a0d8afae5d7ed71393cc", func := "millwright/millwrightlaw47.LiveTells", spec := "liveTells", unfollowed := true, recurses := true, apart := false }
def LiveTellsSaid : Prop := liveTellsRow.holds Tryz.pinned (OpenSpec.ofChange liveTellsSpec)

/-- ITS FALSE NEIGHBOUR: 'it returns false'. Refute it at one input. -/
def liveTellsWrong : ChangeSpec := { name := "liveTells", fn := fun _ => fun
  | [d1, d2] => { results := [.lit (.bool false)], args := [d1, d2] }
  | _ => none }
def LiveTellsWrongFalsely : Prop := liveTellsRow.holds Tryz.pinned (OpenSpec.ofChange liveTellsWrong)

/-- 'millwrightlaw47.LiveEdges': WHATEVER THE INPUT: true; the input reads as it did. -/
def liveEdgesSpec : ChangeSpec := { name := "liveEdges", fn := fun _ => fun
  | [d1, d2] => { results := [.lit (.bool true)], args := [d1, d2] }
  | _ => none }
def liveEdgesRow : OpenClaim := { program := "ytjpmiejgcnfiiaagreat", sum := "291f0385edd2f23278a1550211ea4c6556b25692c3f6a0d8afae5d7ed71393cc", func := "millwright/millwrightlaw47.LiveEdges", spec := "liveEdges", unfollowed := true, recurses := true, apart := false }
def LiveEdgesSaid : Prop := liveEdgesRow.holds Tryz.pinned (OpenSpec.ofChange liveEdgesSpec)

/-- ITS FALSE NEIGHBOUR: 'it returns false'. Refute it at one input. -/
def liveEdgesWrong : ChangeSpec := { name := "liveEdges", fn := fun _ => fun
  | [d1, d2] => { results := [.lit (.bool false)], args := [d1, d2] }
  | _ => none }
def LiveEdgesWrongFalsely : Prop := liveEdgesRow.holds Tryz.pinned (OpenSpec.ofChange liveEdgesWrong)

/-- 'millwrightlaw47.LiveUses': WHATEVER THE INPUT: true; the input reads as it did. -/
def liveUsesSpec : ChangeSpec := { name := "liveUses", fn := fun _ => fun
  | [d1, d2] => { results := [.lit (.bool true)], args := [d1, d2] }
  | _ => none }
def liveUsesRow : OpenClaim := { program := "ytjpmiejgcnfiiaagreat", sum := "291f0385edd2f23278a1550211ea4c6556b25692c3f6a0d8afae5d7ed71393cc", func := "millwright/millwrightlaw47.LiveUses", spec := "liveUses", unfollowed := true, recurses := true, apart := false }
def LiveUsesSaid : Prop := liveUsesRow.holds Tryz.pinned (OpenSpec.ofChange liveUsesSpec)

/-- ITS FALSE NEIGHBOUR: 'it returns false'. Refute it at one input. -/
def liveUsesWrong : ChangeSpec := { name := "liveUses", fn := fun _ => fun
  | [d1, d2] => { results := [.lit (.bool false)], args := [d1, d2] }
  | _ => none }
def LiveUsesWrongFalsely : Prop := liveUsesRow.holds Tryz.pinned (OpenSpec.ofChange liveUsesWrong)

/- THE SECOND FORM. 'bulk': how many values and letters a reading holds, each counted each time it is reached (what is shared counts as often as it is met; a slice's spare places count too). A statement '..UptoSaid' is the law's where the arguments, and the package variables that the reading takes, are together of bulk at most 1048576: NARROWER than '..Said'. Prove '..Said' where nothing that the law and all that it calls make is longer than what came in: it says more and counts as full. Else prove '..UptoSaid'. A law counts once. -/
mutual
def uptoBulk {H : Type} : DataW H → Nat
  | .lit (.string bytes) => bytes.length + 1
  | .lit _ => 1
  | .nil => 1
  | .ptr d => uptoBulk d + 1
  | .slice elems spare => uptoBulkAll elems + uptoBulkAll spare + 1
  | .agg parts => uptoBulkAll parts + 1
  | .iface _ d => uptoBulk d + 1
  | .map entries => uptoBulkEntries entries + 1
  | .held _ => 1
def uptoBulkAll {H : Type} : List (DataW H) → Nat
  | [] => 0
  | d :: r => uptoBulk d + uptoBulkAll r
def uptoBulkEntries {H : Type} : List (Lit × DataW H) → Nat
  | [] => 0
  | x :: r => uptoBulkEntry x + uptoBulkEntries r
def uptoBulkEntry {H : Type} : Lit × DataW H → Nat
  | (.string bytes, d) => bytes.length + uptoBulk d + 1
  | (_, d) => uptoBulk d + 1
 end
def uptoSmall : (H : Type) → List (DataW H) → Bool := fun _ ds => decide (uptoBulkAll ds ≤ 1048576)
def OpenSpec.upto (s : _root_.Go.ChangeSpec) : _root_.Go.OpenSpec := { _root_.Go.OpenSpec.ofChange s with cond := some uptoSmall }

/-- 'millwrightlaw47.LiveTells', WHERE WHAT IT READS IS OF BULK AT MOST 1048576: true; the input reads as it did. -/
def liveTellsUptoRow : OpenClaim := { program := "ytjpmiejgcnfiiaagreat", sum := "291f0385edd2f23278a1550211ea4c6556b25692c3f6a0d8afae5d7ed71393cc", func := "millwright/millwrightlaw47.LiveTells", spec := "liveTells", unfollowed := true, recurses := true, apart := false, narrowed := true }
def LiveTellsUptoSaid : Prop := liveTellsUptoRow.holds Tryz.pinned (OpenSpec.upto liveTellsSpec)

/-- 'millwrightlaw47.LiveEdges', WHERE WHAT IT READS IS OF BULK AT MOST 1048576: true; the input reads as it did. -/
def liveEdgesUptoRow : OpenClaim := { program := "ytjpmiejgcnfiiaagreat", sum := "291f0385edd2f23278a1550211ea4c6556b25692c3f6a0d8afae5d7ed71393cc", func := "millwright/millwrightlaw47.LiveEdges", spec := "liveEdges", unfollowed := true, recurses := true, apart := false, narrowed := true }
def LiveEdgesUptoSaid : Prop := liveEdgesUptoRow.holds Tryz.pinned (OpenSpec.upto liveEdgesSpec)

/-- 'millwrightlaw47.LiveUses', WHERE WHAT IT READS IS OF BULK AT MOST 1048576: true; the input reads as it did. -/
def liveUsesUptoRow : OpenClaim := { program := "ytjpmiejgcnfiiaagreat", sum := "291f0385edd2f23278a1550211ea4c6556b25692c3f6a0d8afae5d7ed71393cc", func := "millwright/millwrightlaw47.LiveUses", spec := "liveUses", unfollowed := true, recurses := true, apart := false, narrowed := true }
def LiveUsesUptoSaid : Prop := liveUsesUptoRow.holds Tryz.pinned (OpenSpec.upto liveUsesSpec)

end Rows
end Go.Proofs.YtjpmiejgcnfiiaaGreat
