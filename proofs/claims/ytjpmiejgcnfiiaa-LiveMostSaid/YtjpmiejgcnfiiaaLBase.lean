/-
  A form in memory.
-/
import Derived.Test.YtjpmiejgcnfiiaaMem
import Derived.Test.YtjpmiejgcnfiiaaRegion
import Derived.Test.YtjpmiejgcnfiiaaTail
import Derived.Test.YtjpmiejgcnfiiaaArr
import Derived.Test.YtjpmiejgcnfiiaaLRangeP
import Derived.Test.YtjpmiejgcnfiiaaRows
import Derived.WalkKit
import Derived.WalkSpells
import Derived.Deep.DeepMust
import Derived.Deep.QuietTactic
import Derived.BigQuiet
import Derived.Outline
import Derived.IntWalk
set_option linter.unusedVariables false
set_option linter.unusedSimpArgs false
namespace Go.Proofs.Ytjpmiejgcnfiiaa
open Go Go.RowKit

theorem laidOut : laidOutB Try.prog = true := by kernel_rfl
theorem get_some {α : Type} {l : List α} {k : Nat} (h : k < l.length) : ∃ r, l[k]? = some r := ⟨l[k], List.getElem?_eq_getElem h⟩

/-- A row that came in. -/
structure RwD (α : Type) where
  a : Option Addr
  l : List α
  c : Nat
def RwD.v {α : Type} (x : RwD α) : Value := .slice x.a x.l.length x.c
/-- An edge. -/
structure EdD where
  to : Int
  args : RwD Int
def edC (x : EdD) : List Value := [.int .i64 x.to, x.args.v]
/-- An instruction. -/
structure InD where
  kind : Int
  op : Int
  a : Int
  b : Int
  n : Int
  args : RwD Int
  outs : RwD Int
def inC (x : InD) : List Value := [.int .i64 x.kind, .int .i64 x.op, .int .i64 x.a, .int .i64 x.b, .int .u64 x.n, x.args.v, x.outs.v]
/-- A block. -/
structure BkD where
  params : RwD Int
  ins : RwD InD
  kind : Int
  cond : Int
  args : RwD Int
  to : RwD EdD
  trap : Int
def bkC (x : BkD) : List Value := [x.params.v, x.ins.v, .int .i64 x.kind, .int .i64 x.cond, x.args.v, x.to.v, .int .i64 x.trap]
/-- A form. -/
structure SsD where
  params : RwD Int
  results : RwD Int
  vals : RwD Int
  blocks : RwD BkD
def ssC (x : SsD) : List Value := [x.params.v, x.results.v, x.vals.v, x.blocks.v]

/-- A row of numbers, in memory. -/
structure NumOk (w : World) (x : RwD Int) : Prop where
  seg : Seg w x.a (x.l.flatMap intC)
  len : x.l.length ≤ maxLen
structure EdOk (w : World) (x : EdD) : Prop where
  args : NumOk w x.args
structure InOk (w : World) (x : InD) : Prop where
  args : NumOk w x.args
  outs : NumOk w x.outs
structure BkOk (w : World) (x : BkD) : Prop where
  params : NumOk w x.params
  insSeg : Seg w x.ins.a (x.ins.l.flatMap inC)
  ins : ∀ i ∈ x.ins.l, InOk w i
  insLen : x.ins.l.length ≤ maxLen
  args : NumOk w x.args
  toSeg : Seg w x.to.a (x.to.l.flatMap edC)
  to : ∀ e ∈ x.to.l, EdOk w e
  toLen : x.to.l.length ≤ maxLen
structure SsOk (w : World) (x : SsD) : Prop where
  vals : NumOk w x.vals
  seg : Seg w x.blocks.a (x.blocks.l.flatMap bkC)
  blocks : ∀ b ∈ x.blocks.l, BkOk w b
  len : x.blocks.l.length ≤ maxLen
theorem NumOk.keep {w w' : World} {x : RwD Int} (h : NumOk w x) (hk : Keep w w') : NumOk w' x := ⟨h.seg.keep hk, h.len⟩
theorem EdOk.keep {w w' : World} {x : EdD} (h : EdOk w x) (hk : Keep w w') : EdOk w' x := ⟨h.args.keep hk⟩
theorem InOk.keep {w w' : World} {x : InD} (h : InOk w x) (hk : Keep w w') : InOk w' x := ⟨h.args.keep hk, h.outs.keep hk⟩
theorem BkOk.keep {w w' : World} {x : BkD} (h : BkOk w x) (hk : Keep w w') : BkOk w' x :=
  ⟨h.params.keep hk, h.insSeg.keep hk, fun i hi => (h.ins i hi).keep hk, h.insLen, h.args.keep hk, h.toSeg.keep hk, fun e he => (h.to e he).keep hk, h.toLen⟩
theorem SsOk.keep {w w' : World} {x : SsD} (h : SsOk w x) (hk : Keep w w') : SsOk w' x := ⟨h.vals.keep hk, h.seg.keep hk, fun b hb => (h.blocks b hb).keep hk, h.len⟩

/-! ### What the search sees of it -/

def nat (l : List Int) : List Nat := l.map Int.toNat
def InD.p (x : InD) : Lv.PIns := ⟨nat x.args.l, nat x.outs.l⟩
/-- The values that the end uses. -/
def BkD.endsI (x : BkD) : List Int := x.args.l ++ (if x.kind = 1 ∨ x.kind = 2 then [x.cond] else []) ++ x.to.l.flatMap (fun e => e.args.l)
/-- The blocks that follow, of n. -/
def BkD.nextI (x : BkD) (n : Nat) : List Int := (x.to.l.map (·.to)).filter fun t => decide (0 ≤ t ∧ t < (n : Int))
def BkD.p (x : BkD) (n : Nat) : Lv.PBlk := ⟨nat x.params.l, x.ins.l.map InD.p, nat x.endsI, nat (x.nextI n)⟩
def SsD.F (x : SsD) : List Lv.PBlk := x.blocks.l.map (BkD.p · x.blocks.l.length)

/-- A block, an instruction, an edge of the form. -/
theorem bk_get {w wr : World} {A : Option Addr} {l : List BkD} {k : Nat} {x : BkD} (h : Seg w A (l.flatMap bkC)) (hkeep : Keep w wr) (hx : l[k]? = some x) :
    ∃ b off, A = some ⟨b, off, none⟩ ∧ b < w.heap.size ∧ ∀ j v, (bkC x)[j]? = some v → wr.cell? ⟨b, off + k * 7 + j, none⟩ = some v := by
  obtain ⟨hk, e⟩ := List.getElem?_eq_some_iff.1 hx
  obtain ⟨b, off, e', hb, hc⟩ := h.elem 7 (fun _ => rfl) (by omega) hk
  rw [e] at hc
  exact ⟨b, off, e', hb, fun j v hv => by have := hkeep.cell (hc j v hv); rwa [← Nat.add_assoc] at this⟩
theorem in_get {w wr : World} {A : Option Addr} {l : List InD} {k : Nat} {x : InD} (h : Seg w A (l.flatMap inC)) (hkeep : Keep w wr) (hx : l[k]? = some x) :
    ∃ b off, A = some ⟨b, off, none⟩ ∧ b < w.heap.size ∧ ∀ j v, (inC x)[j]? = some v → wr.cell? ⟨b, off + k * 7 + j, none⟩ = some v := by
  obtain ⟨hk, e⟩ := List.getElem?_eq_some_iff.1 hx
  obtain ⟨b, off, e', hb, hc⟩ := h.elem 7 (fun _ => rfl) (by omega) hk
  rw [e] at hc
  exact ⟨b, off, e', hb, fun j v hv => by have := hkeep.cell (hc j v hv); rwa [← Nat.add_assoc] at this⟩
theorem ed_get {w wr : World} {A : Option Addr} {l : List EdD} {k : Nat} {x : EdD} (h : Seg w A (l.flatMap edC)) (hkeep : Keep w wr) (hx : l[k]? = some x) :
    ∃ b off, A = some ⟨b, off, none⟩ ∧ b < w.heap.size ∧ wr.cell? ⟨b, off + k * 2, none⟩ = some (.int .i64 x.to) ∧ wr.cell? ⟨b, off + k * 2 + 1, none⟩ = some x.args.v := by
  obtain ⟨hk, e⟩ := List.getElem?_eq_some_iff.1 hx
  obtain ⟨b, off, e', hb, hc⟩ := h.elem 2 (fun _ => rfl) (by omega) hk
  rw [e] at hc
  exact ⟨b, off, e', hb, by have := hkeep.cell (hc 0 _ rfl); simpa using this, by have := hkeep.cell (hc 1 _ rfl); rwa [← Nat.add_assoc] at this⟩
end Go.Proofs.Ytjpmiejgcnfiiaa
