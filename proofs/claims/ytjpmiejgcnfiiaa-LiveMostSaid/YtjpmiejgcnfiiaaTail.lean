/-
  Regions that draw their order and end in operations that write what the others read: behind those last ones nothing is asked of the world.
-/
import Derived.Test.YtjpmiejgcnfiiaaRegion
set_option linter.unusedVariables false
set_option linter.unusedSimpArgs false
namespace Go.Proofs.Ytjpmiejgcnfiiaa
open Go Go.RowKit

/-- A world in which block b is as it was. -/
structure KB (w0 : World) (b : Nat) where
  val : World
  blk : val.heap[b]? = w0.heap[b]?
instance {w0 : World} {b : Nat} : Nonempty (KB w0 b) := ⟨⟨w0, rfl⟩⟩
theorem KB.cell {w0 : World} {b : Nat} (x : KB w0 b) {i : Nat} {v : Value} (h : w0.cell? ⟨b, i, none⟩ = some v) : x.val.cell? ⟨b, i, none⟩ = some v := (World.cell?_of_block x.blk).trans h
theorem KB.lt {w0 : World} {b : Nat} (x : KB w0 b) (h : b < w0.heap.size) : b < x.val.heap.size := by
  have e := x.blk
  rw [Array.getElem?_eq_getElem h] at e
  exact (Array.getElem?_eq_some_iff.1 e).1
theorem KB.mk' {w0 w : World} {b : Nat} (h : w.heap[b]? = w0.heap[b]?) : ∃ x : KB w0 b, w = x.val := ⟨⟨w, h⟩, rfl⟩

section
variable {P : Program} {ops : Array Oper} {Q : Exit → Act → World → Prop} {md : Region.Mode} {S : World → Prop} {U : List Nat}

/-- Whatever order is picked from here on; S holds behind every operation that is not of U. -/
def wpAnyT (P : Program) (md : Region.Mode) (ops : Array Oper) (Q : Exit → Act → World → Prop) (S : World → Prop) (U : List Nat) : Nat → Array Bool → Act → World → Prop
  | 0, listed, a, w => Region.ready md ops listed = [] ∧ Q .normal a w
  | fuel + 1, listed, a, w =>
    (Region.ready md ops listed = [] → Q .normal a w) ∧
    ∀ i ∈ Region.ready md ops listed, wpOp P ops Q i (fun a' w' => (U.contains i = false → S w') ∧ wpAnyT P md ops Q S U fuel (listed.setIfInBounds i true) a' w') a w

theorem wpAny_of_T : ∀ (fuel : Nat) (listed : Array Bool) (a : Act) (w : World), wpAnyT P md ops Q S U fuel listed a w → wpAny P md ops Q fuel listed a w
  | 0, _, _, _, h => h
  | fuel + 1, _, _, _, h => ⟨h.1, fun i hi => wpOp_mono (fun a' w' h' => wpAny_of_T fuel _ a' w' h'.2) (h.2 i hi)⟩

/-- Do all of U wait for number i? -/
def waitB (md : Region.Mode) (ops : Array Oper) (U : List Nat) (i : Nat) : Bool :=
  !U.contains i && U.all fun j => match ops[j]? with | some o => o.after.any fun e => Region.binds md e && e.on == i | none => true

theorem wpAnyT_first {i : Nat} {oi : Oper} {v : Value} (hi : ops[i]? = some oi) (hsel : ∀ (j : Nat) (o : Oper) cs b, ops[j]? = some o → o.op ≠ .select cs b)
    (hU : waitB md ops U i = true) (hQ : ∀ c a w, Q (.panic c) (a.put oi.dst v) w → Q (.panic c) a w) :
    ∀ (fuel : Nat) (listed : Array Bool) (a : Act) (w : World),
      (∀ j oj, ops[j]? = some oj → j ≠ i → listed.getD j true = false → (∀ e ∈ oj.after, Region.binds md e = true → e.on ≠ i) → oi.apart ops oj = true) →
      i ∈ Region.ready md ops listed → YieldsIf P ops S oi v a → S w →
      wpAnyT P md ops Q S U fuel (listed.setIfInBounds i true) (a.put oi.dst v) w → wpAnyT P md ops Q S U (fuel + 1) listed a w := by
  intro fuel
  induction fuel with
  | zero =>
    intro listed a w _ hr hy hS H
    refine ⟨fun h => (by rw [h] at hr; cases hr), fun j hj => ?_⟩
    by_cases hji : j = i
    · subst hji; exact hy.wpOp hi hS ⟨fun _ => hS, H⟩
    · have hm := ready_mono hj hji
      rw [H.1] at hm
      cases hm
  | succ fuel ih =>
    intro listed a w hfree hr hy hS H
    refine ⟨fun h => (by rw [h] at hr; cases hr), fun j hj => ?_⟩
    by_cases hji : j = i
    · subst hji; exact hy.wpOp hi hS ⟨fun _ => hS, H⟩
    · have h1 := H.2 j (ready_mono hj hji)
      obtain ⟨hjun, oj, hoj, hall⟩ := mem_ready.1 hj
      have hnot : ∀ e ∈ oj.after, Region.binds md e = true → e.on ≠ i := fun e he hb heq => by
        have h1 := hall e he hb
        have h0 := (mem_ready.1 hr).1
        rw [heq] at h1
        rcases Nat.lt_or_ge i listed.size with h' | h'
        · simp [h'] at h0 h1; rw [h0] at h1; cases h1
        · simp [Array.getElem?_eq_none h'] at h1
      have hjU : U.contains j = false := by
        cases hc : U.contains j with
        | false => rfl
        | true =>
          exfalso
          simp only [waitB, Bool.and_eq_true, List.all_eq_true] at hU
          have h2 := hU.2 j (by simpa using hc)
          rw [hoj] at h2
          obtain ⟨k, hk, he'⟩ := Array.any_eq_true.1 h2
          simp only [Bool.and_eq_true, beq_iff_eq] at he'
          exact hnot _ (Array.getElem_mem hk) he'.1 he'.2
      have h2 := wpOp_putIf hoj (hfree j oj hoj hji hjun hnot) (fun cs b => hsel i oi cs b hi) (fun cs b => hsel j oj cs b hoj) hQ hy h1
      have hfree' : ∀ k ok, ops[k]? = some ok → k ≠ i → (listed.setIfInBounds j true).getD k true = false →
          (∀ e ∈ ok.after, Region.binds md e = true → e.on ≠ i) → oi.apart ops ok = true := fun k ok hk hki hun hno => by
        refine hfree k ok hk hki ?_ hno
        by_cases hjk : j = k
        · subst hjk; exact hjun
        · rw [getD_set_ne true hjk] at hun; exact hun
      refine wpOp_mono (fun a' w' h3 => ⟨h3.2.1, ih (listed.setIfInBounds j true) a' w' hfree' (ready_mono hr (Ne.symm hji)) h3.1 (h3.2.1 hjU) ?_⟩) h2
      rw [Array.setIfInBounds_comm _ _ hji]
      exact h3.2.2

theorem tail_seg (hs : Region.noSelect ops = true) (hQ : ∀ c a d v w, Q (.panic c) (a.put d v) w → Q (.panic c) a w) :
    ∀ (is done : List Nat) (l : List Oper) (fuel : Nat) (a : Act) (w : World), is.map (ops[·]?) = l.map some → segB ops is done = true → (is.all (waitB .any ops U)) = true → S w →
      wpQuiet P ops S (fun a' => wpAnyT P .any ops Q S U fuel (mark ops.size (done ++ is)) a' w) l a → wpAnyT P .any ops Q S U (fuel + is.length) (mark ops.size done) a w
  | [], done, l, fuel, a, w, hl, _, _, _, h => by
    have : l = [] := by cases l with | nil => rfl | cons x l => simp at hl
    subst this
    simpa [wpQuiet] using h
  | i :: is, done, [], fuel, a, w, hl, _, _, _, h => by simp at hl
  | i :: is, done, o :: l, fuel, a, w, hl, hB, hW, hS, h => by
    simp only [List.map_cons, List.cons.injEq] at hl
    obtain ⟨h0, hl'⟩ := hl
    simp only [segB, Bool.and_eq_true, h0] at hB
    simp only [List.all_cons, Bool.and_eq_true] at hW
    obtain ⟨⟨⟨hr, hf⟩, hv⟩, hB'⟩ := hB
    have hst : qOp P ops S i (wpQuiet P ops S (fun a' => wpAnyT P .any ops Q S U fuel (mark ops.size (done ++ i :: is)) a' w) l) a := by
      unfold qOp; simp only [h0]; exact h
    obtain ⟨v, hy, hK⟩ := yieldsIn_of_qOp h0 hst
    have hyi : YieldsIf P ops S o v a := by
      rcases hy with ⟨hw, hq⟩ | ⟨hw, rfl⟩
      · exact yieldsIf_of_quiet hv hw hq
      · exact .inr ⟨hw, rfl⟩
    refine wpAnyT_first (fuel := fuel + is.length) h0 (Region.noSelect_spec hs) hW.1 (fun c a w => hQ c a _ _ w) _ _ _ (Region.free_spec h0 hf) (by simpa using hr) hyi hS ?_
    rw [← mark_snoc]
    refine tail_seg hs hQ is (done ++ [i]) l fuel _ w hl' hB' hW.2 hS ?_
    rw [List.append_assoc]
    exact hK

/-- What only reads is taken first, in the order 'is'; then 'show wpQuiet _ _ _ _ [_, _, ..] _'. -/
theorem tail_take {l : List Oper} (is done : List Nat) (fuel : Nat) {a : Act} {w : World} (hs : Region.noSelect l.toArray = true) (hB : (segB l.toArray is done && is.all (waitB .any l.toArray U)) = true) (hS : S w)
    (h : wpQuiet P l.toArray S (fun a' => wpAnyT P .any l.toArray (NoPanic Q) S U fuel (mark l.toArray.size (done ++ is)) a' w) (is.filterMap (l[·]?)) a) :
    wpAnyT P .any l.toArray (NoPanic Q) S U (fuel + is.length) (mark l.toArray.size done) a w := by
  rw [Bool.and_eq_true] at hB
  exact tail_seg hs (fun _ _ _ _ _ h => h) is done _ fuel a w (segB_ops is done hB.1) hB.1 hB.2 hS (by simpa using h)

/-- The one operation that may come up. -/
theorem tail_fix {l : List Oper} {i : Nat} {done : List Nat} {o : Oper} {fuel : Nat} {a : Act} {w : World} (ho : l[i]? = some o) (hr : Region.ready .any l.toArray (mark l.toArray.size done) = [i])
    (h : ∀ K : Act → World → Prop, (∀ a' w', (U.contains i = false → S w') → wpAnyT P .any l.toArray Q S U fuel (mark l.toArray.size (done ++ [i])) a' w' → K a' w') →
      if Region.wanted o (yielded l.toArray a.tmps) then o.wp P a w K Q else K (a.put o.dst undef) w) : wpAnyT P .any l.toArray Q S U (fuel + 1) (mark l.toArray.size done) a w := by
  refine ⟨fun h0 => (by rw [hr] at h0; cases h0), fun j hj => ?_⟩
  rw [hr] at hj
  obtain rfl : j = i := by simpa using hj
  have h1 := h (fun a' w' => (U.contains j = false → S w') ∧ wpAnyT P .any l.toArray Q S U fuel (mark l.toArray.size (done ++ [j])) a' w') (fun _ _ h1 h2 => ⟨h1, h2⟩)
  rw [mark_snoc] at h1
  have ho' : l.toArray[j]? = some o := by simpa using ho
  unfold wpOp
  simp only [ho']
  split
  · rename_i hw; rw [if_pos hw] at h1; exact .inl h1
  · rename_i hw; rw [if_neg hw] at h1; exact h1

theorem tail_fixU {l : List Oper} {i : Nat} {done : List Nat} {o : Oper} {fuel : Nat} {a : Act} {w : World} (ho : l[i]? = some o) (hg : o.guard = none) (hr : Region.ready .any l.toArray (mark l.toArray.size done) = [i])
    (h : ∀ K : Act → World → Prop, (∀ a' w', (U.contains i = false → S w') → wpAnyT P .any l.toArray Q S U fuel (mark l.toArray.size (done ++ [i])) a' w' → K a' w') → o.wp P a w K Q) : wpAnyT P .any l.toArray Q S U (fuel + 1) (mark l.toArray.size done) a w :=
  tail_fix ho hr fun K hK => by rw [if_pos (by simp [Region.wanted, hg])]; exact h K hK

theorem tail_done {done : List Nat} {a : Act} {w : World} {fuel : Nat} (hr : Region.ready .any ops (mark ops.size done) = []) (h : Q .normal a w) : wpAnyT P .any ops (NoPanic Q) S U fuel (mark ops.size done) a w := by
  cases fuel with
  | zero => exact ⟨hr, NoPanic.normal h⟩
  | succ n => exact ⟨fun _ => NoPanic.normal h, by rw [hr]; simp⟩

theorem tail_begin {id : Nat} {a : Act} {w : World} {l : List Oper} (U : List Nat) (hm : P.follows .mixedOrders = true)
    (h : wpAnyT P .any l.toArray (NoPanic Q) S U l.length (mark l.toArray.size []) a w.drew) : (Code.region id l.toArray true).wp P Q a w :=
  wp_region_noPanic (wp_region_any hm (wpAny_of_T _ _ _ _ (by simpa [mark] using h)))

/-- Whichever of those that may come up. -/
theorem region_any {l : List Oper} {is done : List Nat} {fuel : Nat} {a : Act} {w : World} (hr : Region.ready .any l.toArray (mark l.toArray.size done) = is) (hne : is ≠ [])
    (h : ∀ i ∈ is, ∃ o, l[i]? = some o ∧ ∀ K : Act → World → Prop, (∀ a' w', S w' → wpAnyH P .any l.toArray Q S fuel (mark l.toArray.size (done ++ [i])) a' w' → K a' w') →
      if Region.wanted o (yielded l.toArray a.tmps) then o.wp P a w K Q else K (a.put o.dst undef) w) : wpAnyH P .any l.toArray Q S (fuel + 1) (mark l.toArray.size done) a w := by
  refine wpAnyH_all hr hne fun j hj => ?_
  obtain ⟨o, ho, h0⟩ := h j hj
  have h1 := h0 (fun a' w' => S w' ∧ wpAnyH P .any l.toArray Q S fuel (mark l.toArray.size (done ++ [j])) a' w') (fun _ _ h1 h2 => ⟨h1, h2⟩)
  rw [mark_snoc] at h1
  have ho' : l.toArray[j]? = some o := by simpa using ho
  unfold wpOp
  simp only [ho']
  split
  · rename_i hw; rw [if_pos hw] at h1; exact .inl h1
  · rename_i hw; rw [if_neg hw] at h1; exact h1
/-- The world, of which only so much need be known. -/
theorem gen_wpAnyH {l : Array Oper} {fuel : Nat} {listed : Array Bool} {a : Act} {w : World} (Qf : World → Prop) (h1 : Qf w) (h2 : ∀ W, Qf W → wpAnyH P md l Q S fuel listed a W) : wpAnyH P md l Q S fuel listed a w := h2 w h1
theorem mem3 {p : Nat → Prop} {a b c : Nat} (ha : p a) (hb : p b) (hc : p c) : ∀ i ∈ [a, b, c], p i := by simp; exact ⟨ha, hb, hc⟩
theorem mem2 {p : Nat → Prop} {a b : Nat} (ha : p a) (hb : p b) : ∀ i ∈ [a, b], p i := by simp; exact ⟨ha, hb⟩
end
end Go.Proofs.Ytjpmiejgcnfiiaa
