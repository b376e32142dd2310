/-
  The functions on a tree given as a row of parents, in the plain. No program in sight.
-/
import Derived.Test.YthjlfbeabobgmaaDPost
namespace Go.Proofs.Ythjlfbeabobgmaa.Dom

/-- The parent, or -1. -/
def upF (r : List Int) (a : Int) : Int :=
  if a < 0 ∨ (r.length : Int) ≤ a then -1
  else if r.getD a.toNat 0 < 0 ∨ (r.length : Int) ≤ r.getD a.toNat 0 then -1 else r.getD a.toNat 0
theorem upF_cases (r : List Int) (a : Int) : upF r a = -1 ∨ (0 ≤ upF r a ∧ upF r a < r.length) := by
  unfold upF
  split
  · exact .inl rfl
  split
  · exact .inl rfl
  · right; omega
/-- a is met within k steps up from b. -/
def overK (r : List Int) (a : Int) : Nat → Int → Bool
  | 0, _ => false
  | k + 1, b => if a = b then true else if upF r b < 0 then false else overK r a k (upF r b)
def overF (r : List Int) (a b : Int) : Bool :=
  if a < 0 ∨ (r.length : Int) ≤ a ∨ b < 0 ∨ (r.length : Int) ≤ b then false else overK r a (r.length + 1) b
/-- The number of steps up until there is no parent, where that is below k. -/
def depthK (r : List Int) : Nat → Nat → Int → Int
  | 0, _, _ => -1
  | k + 1, n, a => if upF r a < 0 then n else depthK r k (n + 1) (upF r a)
def depthF (r : List Int) (a : Int) : Int := if a < 0 ∨ (r.length : Int) ≤ a then -1 else depthK r r.length 0 a
/-- With one step more. -/
def depthR (r : List Int) (a : Int) : Int := if a < 0 ∨ (r.length : Int) ≤ a then -1 else depthK r (r.length + 1) 0 a
def childF (r : List Int) (m : Nat) (a : Nat) : List Int := ((List.range m).filter (fun i : Nat => upF r i = (a : Int))).map (fun i : Nat => (i : Int))
end Go.Proofs.Ythjlfbeabobgmaa.Dom
