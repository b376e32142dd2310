/-
  Control frames on top of the operand stack, as plain data. No program in sight.
-/
import Derived.Test.YtkeefajfndmpeaaPlain
namespace Go.Proofs.Ytkeefajfndmpeaa

/-- A control frame: its opcode (0: the body), its parameters and results, whether it is past its else, whether its beginning is reachable. -/
structure PB where
  kind : Int
  p : List Int
  r : List Int
  other : Bool
  live : Bool

/-- The operand stack; the control frames, outermost first; the results of the body; whether the position is reachable; the error that broke it. -/
structure Ctl where
  s : Stk
  bs : List PB
  res : List Int
  live : Bool
  broken : Int

namespace Ctl
def fresh (res : List Int) : Ctl := ⟨Stk.fresh.opened, [⟨0, [], res, false, true⟩], res, true, 0⟩
def broke (c : Ctl) (e : Int) : Ctl × Int := ({ c with broken := e }, e)
def begin_ (c : Ctl) (b : PB) : Ctl := { c with s := c.s.opened.push b.p, bs := c.bs ++ [b], live := b.live }
/-- Enter behind the condition of an if. -/
def enter2 (c : Ctl) (op : Int) (p r : List Int) : Ctl × Int :=
  if (c.s.want p).2 = 0 then (({ c with s := (c.s.want p).1 } : Ctl).begin_ ⟨op, p, r, false, c.live⟩, 0) else c.broke (c.s.want p).2
def enter (c : Ctl) (op : Int) (p r : List Int) : Ctl × Int :=
  if c.broken ≠ 0 then (c, c.broken)
  else if op ≠ 2 ∧ op ≠ 3 ∧ op ≠ 4 then (c, 1)
  else if c.bs = [] then (c, 16)
  else if op = 4 then (if (c.s.want [1]).2 = 0 then ({ c with s := (c.s.want [1]).1 } : Ctl).enter2 op p r else c.broke (c.s.want [1]).2)
  else c.enter2 op p r
def top (c : Ctl) : PB := c.bs.getLastD ⟨0, [], [], false, false⟩
def els (c : Ctl) : Ctl × Int :=
  if c.broken ≠ 0 then (c, c.broken)
  else if c.bs = [] then (c, 16)
  else if c.top.kind ≠ 4 ∨ c.top.other then (c, 16)
  else if (c.s.shut c.top.r).2 = 0 then (({ c with s := (c.s.shut c.top.r).1, bs := c.bs.dropLast } : Ctl).begin_ { c.top with other := true }, 0)
  else c.broke (c.s.shut c.top.r).2
def leave (c : Ctl) : Ctl × Int :=
  if c.broken ≠ 0 then (c, c.broken)
  else if c.bs = [] then (c, 16)
  else if (c.s.shut c.top.r).2 = 0 then
    (if c.top.kind = 4 ∧ c.top.other = false ∧ c.top.p ≠ c.top.r then ({ c with s := (c.s.shut c.top.r).1, bs := c.bs.dropLast } : Ctl).broke 12
     else ({ c with s := (c.s.shut c.top.r).1.push c.top.r, bs := c.bs.dropLast, live := c.top.live }, 0))
  else c.broke (c.s.shut c.top.r).2
def label (c : Ctl) (n : Int) : List Int × Int :=
  if c.broken ≠ 0 then ([], c.broken)
  else if n < 0 ∨ (c.bs.length : Int) ≤ n then ([], 15)
  else (let b := c.bs.getD (c.bs.length - 1 - n.toNat) ⟨0, [], [], false, false⟩; (if b.kind = 3 then b.p else b.r, 0))
def ret (c : Ctl) : List Int := if c.broken ≠ 0 then [] else c.res
def dead (c : Ctl) : Ctl := if c.broken ≠ 0 ∨ c.bs = [] then c else { c with s := c.s.loosen, live := false }
def isLive (c : Ctl) : Bool := decide (c.broken = 0) && c.live
def depth (c : Ctl) : Nat := if c.broken ≠ 0 then 0 else c.bs.length
def done (c : Ctl) : Bool := decide (c.broken = 0) && decide (c.bs = [])
end Ctl
end Go.Proofs.Ytkeefajfndmpeaa
