/-
  Ranges over a function: the laws of the kit, the frame of a round said by the frame of the loop.
-/
import Derived.Test.YtjpmiejgcnfiiaaLBack
set_option linter.unusedVariables false
set_option linter.unusedSimpArgs false
namespace Go.Proofs.Ytjpmiejgcnfiiaa
open Go Go.RowKit Go.Shelf

/-- The frame of a round: what has come lies in its slots, and one slot more is set. -/
def inRnd (a : Act) (ps : Array Tmp) (vs : Array Value) (slot : Nat) (v : Value) : Act := { tmps := ((ps.zip vs).foldl (fun t (p, v) => t.setIfInBounds p v) a.tmps).setIfInBounds slot v, defers := [] }

/-- A loop whose variable is laid into a box. -/
theorem wpIn_range_box {F : Fence} {n : Nat} {P : Program} {α : Type} {g : Operand} {ps : Array Tmp} {assign body : Code} {Q : Exit → Act → World → Prop} {a : Act} {w : World}
    (hro : F.round = none) (h1 : 1 ≤ n) {gf : Nat} {lb : Array Value} (hg : a.eval g = .func (.func gf) #[] lb) (hFg : F.fn gf) (eg : ∀ args w, (callFunc gf args).run P w = .ok (.enter gf args) w)
    {encs : α → Array Value} {Kp : World → World → Prop} {S Sp : List α → Prop} {N : Nat} {w0 : World} (hseq : SeqStopsK F (n - 1) P gf lb encs Kp S Sp N w0)
    (hKt : ∀ {A B C : World}, Kp A B → Kp B C → Kp A C) (hKb : ∀ (W : World) (l : Nat) (o o' : Obj), w.heap.size ≤ l → W.heap[l]? = some o → o.isCells = false → o.isWalk = false → Kp W (W.putObj l o')) (hb0 : Below w0.heap.size w0 w) (hps : ∀ x, (encs x).size = ps.size)
    (I : List α → World → Prop) (hI : OwnFrom w.heap.size I) (h0 : I [] w) (slot : Nat) (Px : α → Nat → World → Prop) (hPx : ∀ x B, OwnFrom w.heap.size (fun (_ : Unit) W => Px x B W))
    (hassign : ∀ (l : Nat) (pre : List α) (x : α) (W : World) (K : Act → World → Prop), I pre W → (∀ B a' W', w.heap.size ≤ B → a' = inRnd a ps (encs x) slot (.pointer (some ⟨B, 0, none⟩)) → KeepsFrom w.heap.size W W' → Kp W W' → I pre W' → Px x B W' → K a' W') →
      assign.wpIn (F.inRound l) (n - 1 - 1) P (Exit.then K (fun _ _ _ => False)) { tmps := (ps.zip (encs x)).foldl (fun t (p, v) => t.setIfInBounds p v) a.tmps, defers := [] } W)
    (hbody : ∀ (l : Nat) (pre : List α) (x : α) (B : Nat) (W : World), w.heap.size ≤ B → I pre W → Px x B W → pre.length < N → body.wpIn (F.inRound l) (n - 1 - 1) P (ownPostG w.heap.size Kp I (fun _ _ _ => False) (pre ++ [x]) W) (inRnd a ps (encs x) slot (.pointer (some ⟨B, 0, none⟩))) W)
    (hdone : ∀ (D : Nat) (xs : List α) (W : World), w.heap.size ≤ D → S xs → I xs W → W.heap[D]? = some (.deferred (some [])) → Q .normal { a with defers := { target := .collected D, args := #[] } :: a.defers } W) :
    (Code.rangeFunc g ps assign body).wpIn F n P Q a w := by
  refine wpIn_rangeFunc_ownH hro h1 hg hFg eg hseq (fun h k => hKt h k) hKb hb0 hps I (fun _ _ _ => False) hI (fun _ _ _ _ _ h _ _ => h) h0
    (fun x a' W => ∃ B, w.heap.size ≤ B ∧ a' = inRnd a ps (encs x) slot (.pointer (some ⟨B, 0, none⟩)) ∧ Px x B W) ?_ ?_ ?_ hdone (fun _ _ _ _ _ _ h _ => h.elim)
  · rintro x a' s W W' row ⟨B, h1, h2, h3⟩ hg hr
    exact ⟨B, h1, h2, hPx x B s W W' row h3 hg hr⟩
  · intro l pre x W K hi hK
    exact hassign l pre x W K hi (fun B a' W' h1 h2 h3 h4 h5 h6 => hK a' W' h3 h4 h5 ⟨B, h1, h2, h6⟩)
  · rintro l pre x a' W _ _ hi ⟨B, h1, rfl, h3⟩ hlen
    exact hbody l pre x B W h1 hi h3 hlen
/-- A loop whose variable is assigned. -/
theorem wpIn_range_var {F : Fence} {n : Nat} {P : Program} {α : Type} {g : Operand} {ps : Array Tmp} {assign body : Code} {Q : Exit → Act → World → Prop} {a : Act} {w : World}
    (hro : F.round = none) (h1 : 1 ≤ n) {gf : Nat} {lb : Array Value} (hg : a.eval g = .func (.func gf) #[] lb) (hFg : F.fn gf) (eg : ∀ args w, (callFunc gf args).run P w = .ok (.enter gf args) w)
    {encs : α → Array Value} {Kp : World → World → Prop} {S Sp : List α → Prop} {N : Nat} {w0 : World} (hseq : SeqStopsK F (n - 1) P gf lb encs Kp S Sp N w0)
    (hKt : ∀ {A B C : World}, Kp A B → Kp B C → Kp A C) (hKb : ∀ (W : World) (l : Nat) (o o' : Obj), w.heap.size ≤ l → W.heap[l]? = some o → o.isCells = false → o.isWalk = false → Kp W (W.putObj l o')) (hb0 : Below w0.heap.size w0 w) (hps : ∀ x, (encs x).size = ps.size)
    (I : List α → World → Prop) (hI : OwnFrom w.heap.size I) (h0 : I [] w) (slot : Nat) (val : α → Value)
    (hassign : ∀ (l : Nat) (x : α) (W : World) (K : Act → World → Prop), (∀ a', a' = inRnd a ps (encs x) slot (val x) → K a' W) →
      assign.wpIn (F.inRound l) (n - 1 - 1) P (Exit.then K (fun _ _ _ => False)) { tmps := (ps.zip (encs x)).foldl (fun t (p, v) => t.setIfInBounds p v) a.tmps, defers := [] } W)
    (hbody : ∀ (l : Nat) (pre : List α) (x : α) (W : World), I pre W → pre.length < N → body.wpIn (F.inRound l) (n - 1 - 1) P (ownPostG w.heap.size Kp I (fun _ _ _ => False) (pre ++ [x]) W) (inRnd a ps (encs x) slot (val x)) W)
    (hdone : ∀ (D : Nat) (xs : List α) (W : World), w.heap.size ≤ D → S xs → I xs W → W.heap[D]? = some (.deferred (some [])) → Q .normal { a with defers := { target := .collected D, args := #[] } :: a.defers } W) :
    (Code.rangeFunc g ps assign body).wpIn F n P Q a w :=
  wpIn_rangeFunc_ownG hro h1 hg hFg eg hseq (fun h k => hKt h k) hKb hb0 hps I (fun _ _ _ => False) hI (fun _ _ _ _ _ h _ _ => h) h0
    (fun x => inRnd a ps (encs x) slot (val x)) (fun l x W K hK => hassign l x W K (fun a' e => by rw [e]; exact hK)) (fun l pre x W hi hlen => hbody l pre x W hi hlen) hdone (fun _ _ _ _ _ _ h _ => h.elim)

/-- What is no cells lies as it lay, where cells alone are written. -/
theorem keepsOthers_of_ext {r : Nat} {t : TypeId} {cs : List Value} {W W' : World} (hr : Blk W r t cs) (hE : Ext (fun k => k = r) W W') : KeepsOthers W W' :=
  ⟨hE.size, fun k o ho hc => by
    have hk := (Array.getElem?_eq_some_iff.1 ho).1
    rw [hE.block k hk (fun e => by subst e; unfold Blk at hr; rw [hr] at ho; cases ho; cases hc)]
    exact ho⟩
theorem keepsOthers_of_keep {W W' : World} (hk : Keep W W') : KeepsOthers W W' :=
  ⟨hk.size, fun k o ho _ => (hk.block k (Array.getElem?_eq_some_iff.1 ho).1).trans ho⟩
/-- Book-keeping. -/
theorem ext_putObj {T : Nat → Prop} {W : World} {l : Nat} {o : Obj} (o' : Obj) (hl : W.heap[l]? = some o) (hT : T l) : Ext T W (W.putObj l o') :=
  (Ext.of_grown (grownBy_putObj' W l o')).mono fun i _ e => by cases e; exact hT
theorem Blk.turn {W W' : World} {r : Nat} {t : TypeId} {cs : List Value} {row : Option Nat} {B : Nat} (h : Blk W r t cs) (hg : W.grownBy W' row) (hr : ∀ r, row = some r → B ≤ r ∧ ∃ o : Obj, W.heap[r]? = some o ∧ o.isCells = false) : Blk W' r t cs := by
  have hlt := h.lt
  refine (hg.block r hlt (fun e => ?_)).trans h
  obtain ⟨_, o, ho, hc⟩ := hr r e.symm
  unfold Blk at h
  rw [h] at ho; cases ho; cases hc
theorem Ext.turn {T : Nat → Prop} {A W W' : World} {row : Option Nat} {B : Nat} (h : Ext T A W) (hg : W.grownBy W' row) (hB : A.heap.size ≤ B) (hr : ∀ r, row = some r → B ≤ r ∧ ∃ o : Obj, W.heap[r]? = some o ∧ o.isCells = false) : Ext T A W' :=
  h.grown hg (fun k e hk => by have := (hr k e).1; omega)
end Go.Proofs.Ytjpmiejgcnfiiaa
