/-
  What the laws on control frames are given, opened.
-/
import Derived.Test.YtkeefajfndmpeaaCBase
import Derived.Test.YtkeefajfndmpeaaFrame
namespace Go.Proofs.Ytkeefajfndmpeaa
open Go Go.ChangeShapes Go.WideShapes Go.ChangeAt Go.RowKit

def fnC (x : LD × LD) : List Value := [x.1.v, x.2.v]
structure LOk (w : World) (x : LD) : Prop where
  seg : Seg w x.a (x.l.flatMap valC)
  len : x.l.length ≤ maxLen
def FnOk (w : World) (x : LD × LD) : Prop := LOk w x.1 ∧ LOk w x.2
theorem opens_list (w : World) : Opens Try.prog w 23 (fun x : LD => [x.v]) (LOk w) :=
  opens_to (opens_slice (s := 1) (f := valC) Try.underlying23 (by kernel_rfl) (fun _ => rfl) (opens_val w)) (fun x => LD.mk x.1 x.2.1 x.2.2) (fun _ => rfl) (fun _ h => ⟨h.1, Nat.le_trans h.2.2.1 h.2.2.2⟩)
theorem opens_fn (w : World) : Opens Try.prog w 56 fnC (FnOk w) :=
  opens_to (opens_two Try.underlying56 rfl (by kernel_rfl) (by kernel_rfl) (opens_list w) (opens_list w)) (fun x => x) (fun _ => rfl) (fun _ h => h)

set_option maxRecDepth 100000 in
/-- A list that came in. -/
theorem open_ld {w : World} {b0 : Nat} {r : Reach} {v : Value} {H : Type} {enc : TypeId × Value → H} {d : DataW H} {ps : List MemPlace} (hv : Value.okWide Try.prog w r b0 23 v) (h : DataW.Trod enc Try.prog w 0 (fun _ => true) true 23 v d ps) : ∃ x : LD, v = x.v ∧ LOk w x := by
  obtain ⟨A0, l0, c0, rfl, s0, k0, lc0, cm0⟩ := open_list (s := 1) (f := valC) Try.underlying23 (by kernel_rfl) (fun _ => rfl) (opens_val w) hv h
  exact ⟨⟨A0, l0, c0⟩, rfl, s0, Nat.le_trans lc0 cm0⟩
set_option maxRecDepth 100000 in
/-- A function type that came in. -/
theorem open_fn {w : World} {b0 : Nat} {r : Reach} {v : Value} {H : Type} {enc : TypeId × Value → H} {d : DataW H} {ps : List MemPlace} (hv : Value.okWide Try.prog w r b0 56 v) (h : DataW.Trod enc Try.prog w 0 (fun _ => true) true 56 v d ps) : ∃ p q : LD, v = .agg #[.slice p.a p.l.length p.c, .slice q.a q.l.length q.c] ∧ LOk w p ∧ LOk w q := by
  obtain ⟨x, e, hx⟩ := open_struct Try.underlying56 (opens_fn w) hv h
  exact ⟨x.1, x.2, e, hx.1, hx.2⟩
set_option maxRecDepth 100000 in
/-- A truth value that came in. -/
theorem open_b {w : World} {b0 : Nat} {r : Reach} {v : Value} {H : Type} {enc : TypeId × Value → H} {d : DataW H} {ps : List MemPlace} (hv : Value.okWide Try.prog w r b0 4 v) (h : DataW.Trod enc Try.prog w 0 (fun _ => true) true 4 v d ps) : ∃ x : Bool, v = .bool x := by
  obtain ⟨x, rfl, _⟩ := open_bool Try.underlying4 hv h
  exact ⟨x, rfl⟩
end Go.Proofs.Ytkeefajfndmpeaa
