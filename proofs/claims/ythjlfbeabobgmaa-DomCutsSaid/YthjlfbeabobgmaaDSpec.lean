/-
  What Of yields, in the plain. No program in sight.
-/
import Derived.Test.YthjlfbeabobgmaaDSweep
import Derived.Test.YthjlfbeabobgmaaDPlain
namespace Go.Proofs.Ythjlfbeabobgmaa.Dom

/-- The row of immediate dominators. -/
structure Idom (N : Gr) (I : List Int) : Prop where
  len : I.length = N.length
  root : N ≠ [] → I.getD 0 0 = -1
  out : ∀ x, x < N.length → ¬ R (Ed N) x → I.getD x 0 = -1
  tree : N ≠ [] → ∃ f rank : Nat → Nat, (∀ x, R (Ed N) x → x ≠ 0 → I.getD x 0 = (f x : Int) ∧ R (Ed N) (f x) ∧ rank x < rank (f x)) ∧ (∀ x, R (Ed N) x → x < N.length ∧ rank x < N.length) ∧ ∀ x, R (Ed N) x → ∀ d, Anc f x d ↔ Dm (Ed N) d x

theorem R.lt {N : Gr} (hN : N ≠ []) {x : Nat} (h : R (Ed N) x) : x < N.length := by
  cases h with
  | root => exact List.length_pos_iff.2 hN
  | step _ he => exact he.2.1

theorem Idom.nil : Idom [] [] := ⟨rfl, fun h => absurd rfl h, fun x hx => absurd hx (Nat.not_lt_zero _), fun h => absurd rfl h⟩
theorem Idom.of_fin {N : Gr} {post : List Nat} (hp : Post N post) (hN : N ≠ []) {D : List Int} (hl : D.length = N.length) (hf : Fin (Ed N) (rk post) D) (hneg : ∀ x (h : x < D.length), ¬ SD D x → D[x] = -1) : Idom N (D.set 0 (-1)) where
  len := by simpa using hl
  root := fun _ => by
    have := List.length_pos_iff.2 hN
    rw [List.getD_eq_getElem?_getD, List.getElem?_set_self (by omega)]; rfl
  out := fun x hx hr => by
    have h0 : x ≠ 0 := fun e => hr (e ▸ .root)
    rw [List.getD_eq_getElem?_getD, List.getElem?_set_ne (fun e => h0 e.symm), List.getElem?_eq_getElem (by omega)]
    exact hneg x (by omega) (fun hS => hr (hf.tree.reach x hS))
  tree := fun _ => by
    refine ⟨fD D, rk post, fun x hx h0 => ?_, fun x hx => ⟨hx.lt hN, ?_⟩, hf.dom⟩
    · have hS := hf.all x hx
      have hlt := hS.lt
      obtain ⟨h1, h2, _⟩ := hf.tree.up x hS h0
      rw [List.getD_eq_getElem?_getD, List.getElem?_set_ne (fun e => h0 e.symm), List.getElem?_eq_getElem hlt]
      exact ⟨hS.eq hlt, hf.tree.reach _ h1, h2⟩
    · have := rk_lt ((hp.mem x).2 ⟨hN, hx⟩)
      have := hp.len
      omega
end Go.Proofs.Ythjlfbeabobgmaa.Dom
