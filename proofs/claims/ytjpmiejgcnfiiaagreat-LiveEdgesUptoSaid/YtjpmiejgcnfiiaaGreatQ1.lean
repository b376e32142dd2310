import Derived.Test.YtjpmiejgcnfiiaaGreatQ0
import Derived.OrdersHeld
import Derived.Deep.RegionHeld3
import Derived.Deep.Quiet
import Derived.Deep.QuietTactic
import Derived.BigQuiet
import Derived.Laws.CopyRow
import Derived.Laws.OwnMore
set_option linter.unusedVariables false
set_option linter.unusedSimpArgs false
namespace Go.Proofs.YtjpmiejgcnfiiaaGreat
open Go Go.RowKit

theorem wp_append_eq {P : Program} {w : World} {o : Oper} {a : Act} {K : Act → World → Prop} {Q : Exit → Act → World → Prop} (x y : Operand) (t : TypeId)
  (ho : o.op = .call { callee := .builtin .append, args := #[x, y], argTypes := #[t, t] }) (v u : Value) (hx : a.eval x = v) (hy : a.eval y = u)
  (v' : Value) (w' : World) (hrun : (Builtin.append_ #[t, t] o.type #[v, u]).run P w = .ok v' w') (h : K (a.put o.dst v') w') : o.wp P a w K Q := by
 unfold Oper.wp execOp
 simp only [ho, resolve, invoke, builtin, Sem.run_bind, Sem.run_pure, Result.andThen_ok, List.map_toArray, List.map_cons, List.map_nil, hx, hy, hrun]
 exact h

theorem wp_buildSlice0 {P : Program} {w : World} {o : Oper} {a : Act} {K : Act → World → Prop} {Q : Exit → Act → World → Prop} (t e : TypeId) (ho : o.op = .buildSlice t 0 #[]) (ht : P.underlying t = some (.slice e)) {i : TypeInfo} (hi : P.info? e = some i)
  (h : K (a.put o.dst (.slice (some ⟨w.heap.size, 0, none⟩) 0 0)) (w.alloc (.cells #[] e))) : o.wp P a w K Q := by
 unfold Oper.wp execOp
 simp [ho, Instr.buildSlice, run_underlying ht, sizeOf, typeInfo, hi, Instr.fill, newRow, Sem.run, Result.andThen]
 rw [show (Array.map (fun _ => (default : Value)) (Array.range 0)) = #[] from by simp]
 exact h

/-- A world that keeps what w0 had. -/
structure KW (w0 : World) where
 val : World
 keep : Keep w0 val

instance {w0 : World} : Nonempty (KW w0) := ⟨⟨w0, Keep.refl w0⟩⟩

/-- The class of the worlds that keep what w0 had. -/
def InK (w0 w' : World) : Prop := ∃ x : KW w0, w' = x.val
theorem InK.mk' {w0 w : World} (h : Keep w0 w) : InK w0 w := ⟨⟨w, h⟩, rfl⟩

theorem KW.cell {w0 : World} (x : KW w0) {p : Addr} {v : Value} (h : w0.cell? p = some v) : x.val.cell? p = some v := x.keep.cell h

/-- A world in which of what w0 had only blocks of T have changed. -/
structure KE (T : Nat → Prop) (w0 : World) where
 val : World
 ext : Ext T w0 val
instance {T : Nat → Prop} {w0 : World} : Nonempty (KE T w0) := ⟨⟨w0, Ext.refl T w0⟩⟩
theorem KE.cell {T : Nat → Prop} {w0 : World} (x : KE T w0) {p : Addr} {v : Value} (h : w0.cell? p = some v) (hT : ¬ T p.block) : x.val.cell? p = some v :=
 (World.cell?_of_block (x.ext.block p.block (World.block_lt_of_cell? w0 p h) hT)).trans h
theorem KE.mk' {T : Nat → Prop} {w0 w : World} (h : Ext T w0 w) : ∃ x : KE T w0, w = x.val := ⟨⟨w, h⟩, rfl⟩

def mark (n : Nat) (done : List Nat) : Array Bool := done.foldl (fun l i => l.setIfInBounds i true) (Array.replicate n false)
theorem mark_snoc (n : Nat) (done : List Nat) (i : Nat) : mark n (done ++ [i]) = (mark n done).setIfInBounds i true := by
 unfold mark; rw [List.foldl_append]; rfl

/-- Operations that yield a value and do nothing else. -/
def valueOp : Op → Bool
 | .move _ | .assign _ | .pick .. | .build .. | .load .. | .nilCheck _ | .binOp .. | .unOp .. | .convert .. | .slice .. | .fieldAddr .. | .field .. | .indexAddr .. | .index .. | .lookup .. | .extract .. | .makeFunc .. => true
 | .call { callee := .builtin .len, .. } | .call { callee := .builtin .cap, .. } | .call { callee := .builtin .max, .. } | .call { callee := .builtin .min, .. } => true
 | _ => false

theorem v_value {P : Program} {w w' : World} {n : Next} {m : Sem Value} (hr : (do pure (Next.value (← m)) : Sem Next).run P w = .ok n w') : ∃ u, n = .value u := by
 rw [Sem.run_bind] at hr
 cases hm : m.run P w with
 | ok x w1 => rw [hm] at hr; simp [Result.andThen] at hr; exact ⟨x, hr.1.symm⟩
 | halt x w1 => rw [hm] at hr; simp [Result.andThen] at hr

theorem value_of {P : Program} {ρ : Operand → Value} {o : Oper} {w w' : World} {n : Next} (h : valueOp o.op = true) (hr : (execOp ρ o).run P w = .ok n w') : ∃ u, n = .value u := by
 unfold execOp at hr
 cases ho : o.op <;> rw [ho] at h hr <;> simp only [valueOp] at h <;> try (exact v_value hr)
 case move x => simp [Sem.run_pure] at hr; exact ⟨_, hr.1.symm⟩
 case assign x => simp [Sem.run_pure] at hr; exact ⟨_, hr.1.symm⟩
 case pick c a b => exact v_value (m := do pure (if ← asBool (ρ c) then ρ a else ρ b)) (by simpa using hr)
 case nilCheck x =>
  simp only at hr
  split at hr
  ·simp [runtimePanic, Sem.run] at hr
  ·simp [runtimePanic, Sem.run] at hr
  ·simp [runtimePanic, Sem.run] at hr
  ·split at hr
   ·simp [runtimePanic, Sem.run] at hr
   ·simp only [Sem.run_bind] at hr
    rw [show (Sem.run P program w) = .ok P w from rfl, Result.andThen_ok] at hr
    generalize Sem.run P (nilAhead _ _ _ _) w = r at hr
    cases r with
    | halt x w1 => simp [Result.andThen] at hr
    | ok b w1 =>
     simp only [Result.andThen_ok] at hr
     split at hr
     ·simp [unsupported, Sem.run, Sem.run_bind, Result.andThen] at hr
     ·simp [Sem.run_pure] at hr; exact ⟨_, hr.1.symm⟩
   ·simp [Sem.run_pure] at hr; exact ⟨_, hr.1.symm⟩
  ·simp [Sem.run_pure] at hr; exact ⟨_, hr.1.symm⟩
 case call c =>
  obtain ⟨callee, args, ats⟩ := c
  cases callee with
  | value f => simp [valueOp] at h
  | invoke r m => simp [valueOp] at h
  | builtin b =>
   simp only [resolve, Sem.run_bind, Sem.run_pure, Result.andThen_ok, invoke] at hr
   cases b <;> simp only [valueOp] at h <;> first | (cases h; done) | (simp only [builtin] at hr; exact v_value hr)
 all_goals (cases h; done)

section
variable {P : Program} {ops : Array Oper} {Q : Exit → Act → World → Prop} {S : World → Prop}

theorem yieldsIf_of_quiet {o : Oper} {a : Act} {v : Value} (hv : valueOp o.op = true) (hw : Region.wanted o (yielded ops a.tmps) = true) (h : ∀ w, S w → o.quietAt P a S w v) : YieldsIf P ops S o v a := by
 refine .inl ⟨hw, fun w hS => ?_⟩
 have h1 := h w hS
 unfold Oper.quietAt at h1
 cases hr : (execOp a.eval o).run P w with
 | ok n w' =>
  obtain ⟨u, rfl⟩ := value_of hv hr
  rw [hr] at h1
  obtain ⟨e1, e2⟩ : w' = w ∧ u = v := h1
  rw [e1, e2]
 | halt x w' => rw [hr] at h1; exact h1.elim

/-- May these come up one after the other, each ahead of whatever else may come up? -/
def segB (ops : Array Oper) : List Nat → List Nat → Bool
 | [], _ => true
 | i :: is, done => (Region.ready .any ops (mark ops.size done)).contains i && Region.free .any ops (mark ops.size done) i &&
   (match ops[i]? with | some o => valueOp o.op | none => false) && segB ops is (done ++ [i])

/-- What only reads is taken first, in the order 'is'. -/
theorem region_seg (hs : Region.noSelect ops = true) (hQ : ∀ c a d v w, Q (.panic c) (a.put d v) w → Q (.panic c) a w) :
  ∀ (is done : List Nat) (l : List Oper) (fuel : Nat) (a : Act) (w : World), is.map (ops[·]?) = l.map some → segB ops is done = true → S w →
   wpQuiet P ops S (fun a' => wpAnyH P .any ops Q S fuel (mark ops.size (done ++ is)) a' w) l a → wpAnyH P .any ops Q S (fuel + is.length) (mark ops.size done) a w
 | [], done, l, fuel, a, w, hl, _, _, h => by
  have : l = [] := by cases l with | nil => rfl | cons x l => simp at hl
  subst this
  simpa [wpQuiet] using h
 | i :: is, done, [], fuel, a, w, hl, _, _, h => by simp at hl
 | i :: is, done, o :: l, fuel, a, w, hl, hB, hS, h => by
  simp only [List.map_cons, List.cons.injEq] at hl
  obtain ⟨h0, hl'⟩ := hl
  simp only [segB, Bool.and_eq_true, h0] at hB
  obtain ⟨⟨⟨hr, hf⟩, hv⟩, hB'⟩ := hB
  have hst : qOp P ops S i (wpQuiet P ops S (fun a' => wpAnyH P .any ops Q S fuel (mark ops.size (done ++ i :: is)) a' w) l) a := by
   unfold qOp; simp only [h0]; exact h
  obtain ⟨v, hy, hK⟩ := yieldsIn_of_qOp h0 hst
  have hyi : YieldsIf P ops S o v a := by
   rcases hy with ⟨hw, hq⟩ | ⟨hw, rfl⟩
   ·exact yieldsIf_of_quiet hv hw hq
   ·exact .inr ⟨hw, rfl⟩
  refine wpAnyH_take (fuel := fuel + is.length) h0 hs hf hr (fun c a w => hQ c a _ _ w) hyi hS ?_
  rw [← mark_snoc]
  refine region_seg hs hQ is (done ++ [i]) l fuel _ w hl' hB' hS ?_
  rw [List.append_assoc]
  exact hK

theorem segB_ops : ∀ (is done : List Nat), segB ops is done = true → is.map (ops[·]?) = (is.filterMap (ops[·]?)).map some
 | [], _, _ => rfl
 | i :: is, done, h => by
  simp only [segB, Bool.and_eq_true] at h
  have ih := segB_ops is _ h.2
  cases ho : ops[i]? with
  | none => rw [ho] at h; exact absurd h.1.2 (by simp)
  | some o => rw [List.map_cons, List.filterMap_cons, ho]; simp only [List.map_cons]; rw [ih]

/-- What only reads is taken first, in the order 'is'; then 'show wpQuiet _ _ _ _ [_, _, ..] _'. -/
theorem region_take {l : List Oper} (is done : List Nat) (fuel : Nat) {a : Act} {w : World} (hs : Region.noSelect l.toArray = true) (hB : segB l.toArray is done = true) (hS : S w)
  (h : wpQuiet P l.toArray S (fun a' => wpAnyH P .any l.toArray (NoPanic Q) S fuel (mark l.toArray.size (done ++ is)) a' w) (is.filterMap (l[·]?)) a) :
  wpAnyH P .any l.toArray (NoPanic Q) S (fuel + is.length) (mark l.toArray.size done) a w :=
 region_seg hs (fun _ _ _ _ _ h => h) is done _ fuel a w (segB_ops is done hB) hB hS (by simpa using h)

/-- The one operation that may come up. -/
theorem region_fix' {i : Nat} {done : List Nat} {o : Oper} {fuel : Nat} {a : Act} {w : World} (ho : ops[i]? = some o) (hr : Region.ready .any ops (mark ops.size done) = [i])
  (h : ∀ K : Act → World → Prop, (∀ a' w', S w' → wpAnyH P .any ops Q S fuel (mark ops.size (done ++ [i])) a' w' → K a' w') →
   if Region.wanted o (yielded ops a.tmps) then o.wp P a w K Q else K (a.put o.dst undef) w) : wpAnyH P .any ops Q S (fuel + 1) (mark ops.size done) a w := by
 refine wpAnyH_all hr (by simp) fun j hj => ?_
 obtain rfl : j = i := by simpa using hj
 have h1 := h (fun a' w' => S w' ∧ wpAnyH P .any ops Q S fuel (mark ops.size (done ++ [j])) a' w') (fun _ _ h1 h2 => ⟨h1, h2⟩)
 rw [mark_snoc] at h1
 unfold wpOp
 simp only [ho]
 split
 ·rename_i hw; rw [if_pos hw] at h1; exact .inl h1
 ·rename_i hw; rw [if_neg hw] at h1; exact h1

theorem region_fix {l : List Oper} {i : Nat} {done : List Nat} {o : Oper} {fuel : Nat} {a : Act} {w : World} (ho : l[i]? = some o) (hr : Region.ready .any l.toArray (mark l.toArray.size done) = [i])
  (h : ∀ K : Act → World → Prop, (∀ a' w', S w' → wpAnyH P .any l.toArray Q S fuel (mark l.toArray.size (done ++ [i])) a' w' → K a' w') →
   if Region.wanted o (yielded l.toArray a.tmps) then o.wp P a w K Q else K (a.put o.dst undef) w) : wpAnyH P .any l.toArray Q S (fuel + 1) (mark l.toArray.size done) a w :=
 region_fix' (by simpa using ho) hr h

theorem region_fixU {l : List Oper} {i : Nat} {done : List Nat} {o : Oper} {fuel : Nat} {a : Act} {w : World} (ho : l[i]? = some o) (hg : o.guard = none) (hr : Region.ready .any l.toArray (mark l.toArray.size done) = [i])
  (h : ∀ K : Act → World → Prop, (∀ a' w', S w' → wpAnyH P .any l.toArray Q S fuel (mark l.toArray.size (done ++ [i])) a' w' → K a' w') → o.wp P a w K Q) : wpAnyH P .any l.toArray Q S (fuel + 1) (mark l.toArray.size done) a w :=
 region_fix ho hr fun K hK => by rw [if_pos (by simp [Region.wanted, hg])]; exact h K hK

theorem region_done {done : List Nat} {a : Act} {w : World} {fuel : Nat} (hr : Region.ready .any ops (mark ops.size done) = []) (h : Q .normal a w) : wpAnyH P .any ops (NoPanic Q) S fuel (mark ops.size done) a w :=
 wpAnyH_done hr (NoPanic.normal h) fuel

theorem region_begin {id : Nat} {a : Act} {w : World} {l : List Oper} (hm : P.follows .mixedOrders = true)
  (h : wpAnyH P .any l.toArray (NoPanic Q) S l.length (mark l.toArray.size []) a w.drew) : (Code.region id l.toArray true).wp P Q a w :=
 wp_region_noPanic (wp_region_held (S := S) hm (by simpa [mark] using h))
end
end Go.Proofs.YtjpmiejgcnfiiaaGreat
namespace Go.Proofs.YtjpmiejgcnfiiaaGreat
open Go Go.RowKit

/-- A world in which block b is as it was. -/
structure KB (w0 : World) (b : Nat) where
 val : World
 blk : val.heap[b]? = w0.heap[b]?
instance {w0 : World} {b : Nat} : Nonempty (KB w0 b) := ⟨⟨w0, rfl⟩⟩
theorem KB.cell {w0 : World} {b : Nat} (x : KB w0 b) {i : Nat} {v : Value} (h : w0.cell? ⟨b, i, none⟩ = some v) : x.val.cell? ⟨b, i, none⟩ = some v := (World.cell?_of_block x.blk).trans h
theorem KB.lt {w0 : World} {b : Nat} (x : KB w0 b) (h : b < w0.heap.size) : b < x.val.heap.size := by
 have e := x.blk
 rw [Array.getElem?_eq_getElem h] at e
 exact (Array.getElem?_eq_some_iff.1 e).1
theorem KB.mk' {w0 w : World} {b : Nat} (h : w.heap[b]? = w0.heap[b]?) : ∃ x : KB w0 b, w = x.val := ⟨⟨w, h⟩, rfl⟩

section
variable {P : Program} {ops : Array Oper} {Q : Exit → Act → World → Prop} {md : Region.Mode} {S : World → Prop} {U : List Nat}

/-- Whatever order is picked from here on; S holds behind every operation that is not of U. -/
def wpAnyT (P : Program) (md : Region.Mode) (ops : Array Oper) (Q : Exit → Act → World → Prop) (S : World → Prop) (U : List Nat) : Nat → Array Bool → Act → World → Prop
 | 0, listed, a, w => Region.ready md ops listed = [] ∧ Q .normal a w
 | fuel + 1, listed, a, w =>
  (Region.ready md ops listed = [] → Q .normal a w) ∧
  ∀ i ∈ Region.ready md ops listed, wpOp P ops Q i (fun a' w' => (U.contains i = false → S w') ∧ wpAnyT P md ops Q S U fuel (listed.setIfInBounds i true) a' w') a w

theorem wpAny_of_T : ∀ (fuel : Nat) (listed : Array Bool) (a : Act) (w : World), wpAnyT P md ops Q S U fuel listed a w → wpAny P md ops Q fuel listed a w
 | 0, _, _, _, h => h
 | fuel + 1, _, _, _, h => ⟨h.1, fun i hi => wpOp_mono (fun a' w' h' => wpAny_of_T fuel _ a' w' h'.2) (h.2 i hi)⟩

/-- Do all of U wait for number i? -/
def waitB (md : Region.Mode) (ops : Array Oper) (U : List Nat) (i : Nat) : Bool :=
 !U.contains i && U.all fun j => match ops[j]? with | some o => o.after.any fun e => Region.binds md e && e.on == i | none => true

theorem wpAnyT_first {i : Nat} {oi : Oper} {v : Value} (hi : ops[i]? = some oi) (hsel : ∀ (j : Nat) (o : Oper) cs b, ops[j]? = some o → o.op ≠ .select cs b)
  (hU : waitB md ops U i = true) (hQ : ∀ c a w, Q (.panic c) (a.put oi.dst v) w → Q (.panic c) a w) :
  ∀ (fuel : Nat) (listed : Array Bool) (a : Act) (w : World),
   (∀ j oj, ops[j]? = some oj → j ≠ i → listed.getD j true = false → (∀ e ∈ oj.after, Region.binds md e = true → e.on ≠ i) → oi.apart ops oj = true) →
   i ∈ Region.ready md ops listed → YieldsIf P ops S oi v a → S w →
   wpAnyT P md ops Q S U fuel (listed.setIfInBounds i true) (a.put oi.dst v) w → wpAnyT P md ops Q S U (fuel + 1) listed a w := by
 intro fuel
 induction fuel with
 | zero =>
  intro listed a w _ hr hy hS H
  refine ⟨fun h => (by rw [h] at hr; cases hr), fun j hj => ?_⟩
  by_cases hji : j = i
  ·subst hji; exact hy.wpOp hi hS ⟨fun _ => hS, H⟩
  ·have hm := ready_mono hj hji
   rw [H.1] at hm
   cases hm
 | succ fuel ih =>
  intro listed a w hfree hr hy hS H
  refine ⟨fun h => (by rw [h] at hr; cases hr), fun j hj => ?_⟩
  by_cases hji : j = i
  ·subst hji; exact hy.wpOp hi hS ⟨fun _ => hS, H⟩
  ·have h1 := H.2 j (ready_mono hj hji)
   obtain ⟨hjun, oj, hoj, hall⟩ := mem_ready.1 hj
   have hnot : ∀ e ∈ oj.after, Region.binds md e = true → e.on ≠ i := fun e he hb heq => by
    have h1 := hall e he hb
    have h0 := (mem_ready.1 hr).1
    rw [heq] at h1
    rcases Nat.lt_or_ge i listed.size with h' | h'
    ·simp [h'] at h0 h1; rw [h0] at h1; cases h1
    ·simp [Array.getElem?_eq_none h'] at h1
   have hjU : U.contains j = false := by
    cases hc : U.contains j with
    | false => rfl
    | true =>
     exfalso
     simp only [waitB, Bool.and_eq_true, List.all_eq_true] at hU
     have h2 := hU.2 j (by simpa using hc)
     rw [hoj] at h2
     obtain ⟨k, hk, he'⟩ := Array.any_eq_true.1 h2
     simp only [Bool.and_eq_true, beq_iff_eq] at he'
     exact hnot _ (Array.getElem_mem hk) he'.1 he'.2
   have h2 := wpOp_putIf hoj (hfree j oj hoj hji hjun hnot) (fun cs b => hsel i oi cs b hi) (fun cs b => hsel j oj cs b hoj) hQ hy h1
   have hfree' : ∀ k ok, ops[k]? = some ok → k ≠ i → (listed.setIfInBounds j true).getD k true = false →
     (∀ e ∈ ok.after, Region.binds md e = true → e.on ≠ i) → oi.apart ops ok = true := fun k ok hk hki hun hno => by
    refine hfree k ok hk hki ?_ hno
    by_cases hjk : j = k
    ·subst hjk; exact hjun
    ·rw [getD_set_ne true hjk] at hun; exact hun
   refine wpOp_mono (fun a' w' h3 => ⟨h3.2.1, ih (listed.setIfInBounds j true) a' w' hfree' (ready_mono hr (Ne.symm hji)) h3.1 (h3.2.1 hjU) ?_⟩) h2
   rw [Array.setIfInBounds_comm _ _ hji]
   exact h3.2.2

theorem tail_seg (hs : Region.noSelect ops = true) (hQ : ∀ c a d v w, Q (.panic c) (a.put d v) w → Q (.panic c) a w) :
  ∀ (is done : List Nat) (l : List Oper) (fuel : Nat) (a : Act) (w : World), is.map (ops[·]?) = l.map some → segB ops is done = true → (is.all (waitB .any ops U)) = true → S w →
   wpQuiet P ops S (fun a' => wpAnyT P .any ops Q S U fuel (mark ops.size (done ++ is)) a' w) l a → wpAnyT P .any ops Q S U (fuel + is.length) (mark ops.size done) a w
 | [], done, l, fuel, a, w, hl, _, _, _, h => by
  have : l = [] := by cases l with | nil => rfl | cons x l => simp at hl
  subst this
  simpa [wpQuiet] using h
 | i :: is, done, [], fuel, a, w, hl, _, _, _, h => by simp at hl
 | i :: is, done, o :: l, fuel, a, w, hl, hB, hW, hS, h => by
  simp only [List.map_cons, List.cons.injEq] at hl
  obtain ⟨h0, hl'⟩ := hl
  simp only [segB, Bool.and_eq_true, h0] at hB
  simp only [List.all_cons, Bool.and_eq_true] at hW
  obtain ⟨⟨⟨hr, hf⟩, hv⟩, hB'⟩ := hB
  have hst : qOp P ops S i (wpQuiet P ops S (fun a' => wpAnyT P .any ops Q S U fuel (mark ops.size (done ++ i :: is)) a' w) l) a := by
   unfold qOp; simp only [h0]; exact h
  obtain ⟨v, hy, hK⟩ := yieldsIn_of_qOp h0 hst
  have hyi : YieldsIf P ops S o v a := by
   rcases hy with ⟨hw, hq⟩ | ⟨hw, rfl⟩
   ·exact yieldsIf_of_quiet hv hw hq
   ·exact .inr ⟨hw, rfl⟩
  refine wpAnyT_first (fuel := fuel + is.length) h0 (Region.noSelect_spec hs) hW.1 (fun c a w => hQ c a _ _ w) _ _ _ (Region.free_spec h0 hf) (by simpa using hr) hyi hS ?_
  rw [← mark_snoc]
  refine tail_seg hs hQ is (done ++ [i]) l fuel _ w hl' hB' hW.2 hS ?_
  rw [List.append_assoc]
  exact hK

/-- What only reads is taken first, in the order 'is'; then 'show wpQuiet _ _ _ _ [_, _, ..] _'. -/
theorem tail_take {l : List Oper} (is done : List Nat) (fuel : Nat) {a : Act} {w : World} (hs : Region.noSelect l.toArray = true) (hB : (segB l.toArray is done && is.all (waitB .any l.toArray U)) = true) (hS : S w)
  (h : wpQuiet P l.toArray S (fun a' => wpAnyT P .any l.toArray (NoPanic Q) S U fuel (mark l.toArray.size (done ++ is)) a' w) (is.filterMap (l[·]?)) a) :
  wpAnyT P .any l.toArray (NoPanic Q) S U (fuel + is.length) (mark l.toArray.size done) a w := by
 rw [Bool.and_eq_true] at hB
 exact tail_seg hs (fun _ _ _ _ _ h => h) is done _ fuel a w (segB_ops is done hB.1) hB.1 hB.2 hS (by simpa using h)

/-- The one operation that may come up. -/
theorem tail_fix {l : List Oper} {i : Nat} {done : List Nat} {o : Oper} {fuel : Nat} {a : Act} {w : World} (ho : l[i]? = some o) (hr : Region.ready .any l.toArray (mark l.toArray.size done) = [i])
  (h : ∀ K : Act → World → Prop, (∀ a' w', (U.contains i = false → S w') → wpAnyT P .any l.toArray Q S U fuel (mark l.toArray.size (done ++ [i])) a' w' → K a' w') →
   if Region.wanted o (yielded l.toArray a.tmps) then o.wp P a w K Q else K (a.put o.dst undef) w) : wpAnyT P .any l.toArray Q S U (fuel + 1) (mark l.toArray.size done) a w := by
 refine ⟨fun h0 => (by rw [hr] at h0; cases h0), fun j hj => ?_⟩
 rw [hr] at hj
 obtain rfl : j = i := by simpa using hj
 have h1 := h (fun a' w' => (U.contains j = false → S w') ∧ wpAnyT P .any l.toArray Q S U fuel (mark l.toArray.size (done ++ [j])) a' w') (fun _ _ h1 h2 => ⟨h1, h2⟩)
 rw [mark_snoc] at h1
 have ho' : l.toArray[j]? = some o := by simpa using ho
 unfold wpOp
 simp only [ho']
 split
 ·rename_i hw; rw [if_pos hw] at h1; exact .inl h1
 ·rename_i hw; rw [if_neg hw] at h1; exact h1

theorem tail_fixU {l : List Oper} {i : Nat} {done : List Nat} {o : Oper} {fuel : Nat} {a : Act} {w : World} (ho : l[i]? = some o) (hg : o.guard = none) (hr : Region.ready .any l.toArray (mark l.toArray.size done) = [i])
  (h : ∀ K : Act → World → Prop, (∀ a' w', (U.contains i = false → S w') → wpAnyT P .any l.toArray Q S U fuel (mark l.toArray.size (done ++ [i])) a' w' → K a' w') → o.wp P a w K Q) : wpAnyT P .any l.toArray Q S U (fuel + 1) (mark l.toArray.size done) a w :=
 tail_fix ho hr fun K hK => by rw [if_pos (by simp [Region.wanted, hg])]; exact h K hK

theorem tail_done {done : List Nat} {a : Act} {w : World} {fuel : Nat} (hr : Region.ready .any ops (mark ops.size done) = []) (h : Q .normal a w) : wpAnyT P .any ops (NoPanic Q) S U fuel (mark ops.size done) a w := by
 cases fuel with
 | zero => exact ⟨hr, NoPanic.normal h⟩
 | succ n => exact ⟨fun _ => NoPanic.normal h, by rw [hr]; simp⟩

theorem tail_begin {id : Nat} {a : Act} {w : World} {l : List Oper} (U : List Nat) (hm : P.follows .mixedOrders = true)
  (h : wpAnyT P .any l.toArray (NoPanic Q) S U l.length (mark l.toArray.size []) a w.drew) : (Code.region id l.toArray true).wp P Q a w :=
 wp_region_noPanic (wp_region_any hm (wpAny_of_T _ _ _ _ (by simpa [mark] using h)))

/-- Whichever of those that may come up. -/
theorem region_any {l : List Oper} {is done : List Nat} {fuel : Nat} {a : Act} {w : World} (hr : Region.ready .any l.toArray (mark l.toArray.size done) = is) (hne : is ≠ [])
  (h : ∀ i ∈ is, ∃ o, l[i]? = some o ∧ ∀ K : Act → World → Prop, (∀ a' w', S w' → wpAnyH P .any l.toArray Q S fuel (mark l.toArray.size (done ++ [i])) a' w' → K a' w') →
   if Region.wanted o (yielded l.toArray a.tmps) then o.wp P a w K Q else K (a.put o.dst undef) w) : wpAnyH P .any l.toArray Q S (fuel + 1) (mark l.toArray.size done) a w := by
 refine wpAnyH_all hr hne fun j hj => ?_
 obtain ⟨o, ho, h0⟩ := h j hj
 have h1 := h0 (fun a' w' => S w' ∧ wpAnyH P .any l.toArray Q S fuel (mark l.toArray.size (done ++ [j])) a' w') (fun _ _ h1 h2 => ⟨h1, h2⟩)
 rw [mark_snoc] at h1
 have ho' : l.toArray[j]? = some o := by simpa using ho
 unfold wpOp
 simp only [ho']
 split
 ·rename_i hw; rw [if_pos hw] at h1; exact .inl h1
 ·rename_i hw; rw [if_neg hw] at h1; exact h1
/-- The world, of which only so much need be known. -/
theorem gen_wpAnyH {l : Array Oper} {fuel : Nat} {listed : Array Bool} {a : Act} {w : World} (Qf : World → Prop) (h1 : Qf w) (h2 : ∀ W, Qf W → wpAnyH P md l Q S fuel listed a W) : wpAnyH P md l Q S fuel listed a w := h2 w h1
theorem mem3 {p : Nat → Prop} {a b c : Nat} (ha : p a) (hb : p b) (hc : p c) : ∀ i ∈ [a, b, c], p i := by simp; exact ⟨ha, hb, hc⟩
theorem mem2 {p : Nat → Prop} {a b : Nat} (ha : p a) (hb : p b) : ∀ i ∈ [a, b], p i := by simp; exact ⟨ha, hb⟩
end
end Go.Proofs.YtjpmiejgcnfiiaaGreat
namespace Go.Proofs.YtjpmiejgcnfiiaaGreat
open Go Go.RowKit

section
variable {P : Program} {t e : TypeId} {s bytes : Nat} {α : Type} {f : α → List Value}
theorem wpList_make_eq {P : Program} {w : World} {ops : Array Oper} {rest : List Oper} {o : Oper} {a : Act} {Q : Exit → Act → World → Prop} (hgd : o.guard = none) (x y : Operand) (t : TypeId) (ho : o.op = .makeSlice t x y) (v u : Value) (hx : a.eval x = v) (hy : a.eval y = u)
  (v' : Value) (w' : World) (hrun : (Instr.makeSlice t v u).run P w = .ok v' w') (h : wpList P ops Q rest (a.put o.dst v') w') : wpList P ops Q (o :: rest) a w := by
 refine wpList_plain hgd fun K hK => ?_
 unfold Oper.wp
 simp [execOp, ho, hx, hy, hrun, Result.andThen]
 exact hK _ _ h

/-- make of one-cell zeros. -/
theorem make_zero {z : Value} (ht : P.underlying t = some (.slice e)) (hi : (P.info? e).map (fun i => (i.zero, i.size, i.bytes)) = some (some z, 1, bytes)) (hz : z.cells = #[z]) (w : World) (n : Nat) (hbytes : bytes * n ≤ 281474976710656) (h63 : n ≤ maxLen) :
  ∃ w', (Instr.makeSlice t (.int .i64 (n : Int)) (.int .i64 (n : Int))).run P w = .ok (.slice (some ⟨w.heap.size, 0, none⟩) n n) w' ∧ Blk w' w.heap.size e (List.replicate n z) ∧ Keep w w' := by
 obtain ⟨i, z', hi1, hz1, hsz, hby, _⟩ := info_of hi (by rw [hz]; rfl)
 have hzz : z' = z := by
  simp [hi1] at hi
  rw [hz1] at hi
  exact Option.some.inj hi.1
 subst hzz
 obtain ⟨w', hrun, ho, hg⟩ := run_make_full (P := P) (w := w) w.heap.size t e i z' 1 ht hi1 hz1 hsz .i64 .i64 n (by rw [hby]; exact hbytes) h63 (Nat.le_refl _)
 have hk : Keep w w' := (Keep.refl w).grown hg (fun k hk => by cases hk)
 rcases ho.2 with ⟨hv, _⟩ | ⟨g, cap, cur, hv, _, hh, _, _, hc, htake⟩
 ·cases hv
 ·injection hv with h1 h2 h3
  injection h1 with h1
  injection h1 with h1
  subst h1
  subst h3
  refine ⟨w', hrun, ?_, hk⟩
  unfold Blk
  rw [hh]
  rw [hz, Nat.mul_one, toList_madeCells_one, List.take_of_length_le (by simp; omega)] at htake
  rw [← htake]
end

section
variable {α : Type} {f : α → List Value} {s : Nat} {e : TypeId} {w : World} {base : Nat} {v : Value} {xs : List α}
theorem Own.empty_made (f : α → List Value) (s : Nat) (e : TypeId) (w : World) {base : Nat} (hb : base ≤ w.heap.size) : Own f s e (w.alloc (.cells #[] e)) base (.slice (some ⟨w.heap.size, 0, none⟩) 0 0) [] := by
 show World.ownsRow _ base e s _ 0 []
 exact World.ownsRow_made w #[] 0 hb (by simp [maxLen]) (by simp)
theorem Own.blk_apart {t : TypeId} {b : Nat} {cs : List Value} (h : Own f s e w base v xs) (h' : Blk w b t cs) (hne : e ≠ t) {k : Nat} (hk : v.ownBlock = some k) : k ≠ b := by
 rintro rfl
 rcases h.2 with ⟨rfl, _⟩ | ⟨g1, cap, cur, rfl, _, hh, _⟩
 ·cases hk
 ·simp only [Value.ownBlock, Option.some.injEq] at hk
  subst hk
  unfold Blk at h'
  rw [hh] at h'
  cases h'
  exact hne rfl
theorem Own.put_far (h : Own f s e w base v xs) {p : Addr} (hp : ∀ k, v.ownBlock = some k → k ≠ p.block) (u : Value) : Own f s e (w.setCell p u) base v xs :=
 h.ext (S := fun k => k = p.block) ((Ext.refl (fun k => k = p.block) w).setCell (p := p) (fun _ => rfl) u) hp
theorem Own.of_row {g : Nat} (h : Blk w g e (xs.flatMap f)) (hf : ∀ x, (f x).length = s) (hb : base ≤ g) (hm : xs.length ≤ maxLen) : Own f s e w base (.slice (some ⟨g, 0, none⟩) xs.length xs.length) xs := by
 have hl := flat_length f s hf xs
 refine ⟨hl, .inr ⟨g, xs.length, _, rfl, hb, h, Nat.le_refl _, hm, by simpa using hl, ?_⟩⟩
 simp
 exact List.take_of_length_le (by omega)
theorem Own.front {A : Option Addr} {n c : Nat} (hf : ∀ x, (f x).length = s) (h : Own f s e w base (.slice A n c) xs) {m : Nat} (hm : m ≤ xs.length) :
  Own f s e w base (.slice A m c) (xs.take m) := by
 obtain ⟨hn, _⟩ := h.segN
 subst hn
 have hl : (xs.take m).length = m := by simp; omega
 refine ⟨?_, ?_⟩
 ·rw [← flat_take f s hf, List.length_take, h.1, hl]
  exact Nat.min_eq_left (Nat.mul_le_mul_right _ hm)
 ·rcases h.2 with ⟨hv, hn⟩ | ⟨g, cap, cur, hv, hb, hh, hn, hcm, hcs, ht⟩
  ·left
   injection hv with h1 h2 h3
   subst h1 h3
   have : m = 0 := by omega
   subst this
   exact ⟨rfl, by simp⟩
  ·right
   injection hv with h1 h2 h3
   subst h1 h3
   refine ⟨g, c, cur, by rw [hl], hb, hh, by rw [hl]; omega, hcm, hcs, ?_⟩
   rw [hl, ← flat_take f s hf, ← ht, List.take_take, Nat.min_eq_left (Nat.mul_le_mul_right _ hm)]
theorem Own.addr_ge {A : Option Addr} {n c : Nat} (h : Own f s e w base (.slice A n c) xs) {ad : Addr} (ha : A = some ad) : base ≤ ad.block := by
 subst ha
 exact (h.lt ad.block rfl).1
theorem Own.addr_lt {A : Option Addr} {n c : Nat} (h : Own f s e w base (.slice A n c) xs) {ad : Addr} (ha : A = some ad) : ad.block < w.heap.size := by
 subst ha
 exact (h.lt ad.block rfl).2
/-- A cell of a row of the call's own is written. -/
theorem Own.put {g n c : Nat} (hf : ∀ x, (f x).length = s) (h : Own f s e w base (.slice (some ⟨g, 0, none⟩) n c) xs) (j : Nat) (u : Value) {ys : List α} (hy : ys.flatMap f = (xs.flatMap f).set j u) (hl : ys.length = xs.length) :
  Own f s e (w.setCell ⟨g, j, none⟩ u) base (.slice (some ⟨g, 0, none⟩) n c) ys := by
 obtain ⟨hn, _⟩ := h.segN
 subst hn
 have := (World.ownsRow.stored (g := g) h j u).1
 unfold Own
 rw [hy, hl]
 exact this
theorem Own.thawed {g n c : Nat} (h : Own f s e w base (.slice (some ⟨g, 0, none⟩) n c) xs) (j : Nat) : w.frozen? ⟨g, j, none⟩ = false := by
 obtain ⟨hn, _⟩ := h.segN
 subst hn
 exact World.ownsRow.frozenAt h j
/-- append of one element. -/
theorem Own.push1 {P : Program} {t : TypeId} {bytes : Nat} (E : ElT P t e s bytes f) (h : Own f s e w base v xs) (x : α) (hn : xs.length < 100000000000) (hby : bytes ≤ 1000) (hbase : base ≤ w.heap.size) (ty : TypeId) :
  ∃ A c, v = .slice A xs.length c ∧ ∃ A' c' w2, (Builtin.append_ #[t, t] ty #[v, .slice (some ⟨w.heap.size, 0, none⟩) 1 1]).run P (w.alloc (.cells (f x).toArray e)) = .ok (.slice A' (xs.length + 1) c') w2 ∧
   Own f s e w2 base (.slice A' (xs.length + 1) c') (xs ++ [x]) ∧ Ext (fun k => base ≤ k) w w2 ∧ (∀ k, k < w.heap.size → v.ownBlock ≠ some k → w2.heap[k]? = w.heap[k]?) ∧ ∀ g t cs, Blk w g t cs → t ≠ e → Blk w2 g t cs := by
 obtain ⟨A, c, hform, _⟩ := h.form
 have hka : Keep w (w.alloc (.cells (f x).toArray e)) := (Keep.refl _).alloc _
 have hseg : Seg (w.alloc (.cells (f x).toArray e)) (some ⟨w.heap.size, 0, none⟩) ([x].flatMap f) := by
  have : [x].flatMap f = f x := by simp
  rw [this]
  exact Seg.of_blk (Blk.new w e (f x))
 have hmul : (xs.length + 1) * bytes ≤ (xs.length + 1) * 1000 := Nat.mul_le_mul_left _ hby
 obtain ⟨v', w2, hrun, hown, hg, _⟩ := append_run (ys := [x]) E (h.keep hka) hseg 1 ty (by simp [maxLen]; omega) (by simp; omega) (Nat.le_trans hbase hka.size)
 obtain ⟨A', c', rfl, _⟩ := hown.form
 refine ⟨A, c, hform, A', c', w2, by simpa using hrun, by simpa using hown, (hka.ext _).grown hg (fun k hk _ => (h.lt k hk).1), fun k hk hne => ?_, fun g t cs hb ht => ?_⟩
 ·exact (hg.block k (Nat.lt_of_lt_of_le hk hka.size) (fun e => hne e.symm)).trans (hka.block k hk)
 ·exact (hg.block g (hb.keep hka).lt (fun e' => h.blk_apart hb (fun e1 => ht e1.symm) e'.symm rfl)).trans (hb.keep hka)
end

/-! ### Integers, truth values -/
def intC (n : Int) : List Value := [.int .i64 n]
def boolC (b : Bool) : List Value := [.bool b]
theorem flat_int (l : List Int) : l.flatMap intC = l.map (Value.int .i64) := by
 induction l with
 | nil => rfl
 | cons x l ih => rw [List.flatMap_cons, ih]; rfl
theorem flat_bool (l : List Bool) : l.flatMap boolC = l.map Value.bool := by
 induction l with
 | nil => rfl
 | cons x l ih => rw [List.flatMap_cons, ih]; rfl
theorem int_at {w wr : World} {A : Option Addr} {l : List Int} (h : Seg w A (l.flatMap intC)) (hkeep : Keep w wr) {k : Nat} (hk : k < l.length) :
  ∃ b off, A = some ⟨b, off, none⟩ ∧ b < w.heap.size ∧ wr.cell? ⟨b, off + k, none⟩ = some (.int .i64 l[k]) := by
 obtain ⟨b, off, e, hb, hc⟩ := h.elem 1 (fun _ => rfl) (by omega) hk
 exact ⟨b, off, e, hb, by have := hkeep.cell (hc 0 _ rfl); simpa using this⟩
theorem bool_at {w wr : World} {A : Option Addr} {l : List Bool} (h : Seg w A (l.flatMap boolC)) (hkeep : Keep w wr) {k : Nat} (hk : k < l.length) :
  ∃ b off, A = some ⟨b, off, none⟩ ∧ b < w.heap.size ∧ wr.cell? ⟨b, off + k, none⟩ = some (.bool l[k]) := by
 obtain ⟨b, off, e, hb, hc⟩ := h.elem 1 (fun _ => rfl) (by omega) hk
 exact ⟨b, off, e, hb, by have := hkeep.cell (hc 0 _ rfl); simpa using this⟩

/-- An array of integers, known whole. -/
abbrev IBlk (w : World) (b : Nat) (t : TypeId) (l : List Int) : Prop := Blk w b t (l.map (Value.int .i64))
abbrev BBlk (w : World) (b : Nat) (t : TypeId) (l : List Bool) : Prop := Blk w b t (l.map Value.bool)
section
variable {w : World} {b : Nat} {t : TypeId}
theorem IBlk.get {l : List Int} (h : IBlk w b t l) {k : Nat} (hk : k < l.length) : w.cell? ⟨b, k, none⟩ = some (.int .i64 l[k]) := by
 rw [h.cell]; simp [hk]
theorem BBlk.get {l : List Bool} (h : BBlk w b t l) {k : Nat} (hk : k < l.length) : w.cell? ⟨b, k, none⟩ = some (.bool l[k]) := by
 rw [h.cell]; simp [hk]
theorem IBlk.put {l : List Int} (h : IBlk w b t l) (k : Nat) (x : Int) : IBlk (w.setCell ⟨b, k, none⟩ (.int .i64 x)) b t (l.set k x) := by
 have := h.set_ k (.int .i64 x)
 rwa [← List.map_set] at this
theorem BBlk.put {l : List Bool} (h : BBlk w b t l) (k : Nat) (x : Bool) : BBlk (w.setCell ⟨b, k, none⟩ (.bool x)) b t (l.set k x) := by
 have := h.set_ k (.bool x)
 rwa [← List.map_set] at this
theorem IBlk.seg {l : List Int} (h : IBlk w b t l) : Seg w (some ⟨b, 0, none⟩) (l.flatMap intC) := by
 rw [flat_int]; exact Seg.of_blk h
theorem BBlk.seg {l : List Bool} (h : BBlk w b t l) : Seg w (some ⟨b, 0, none⟩) (l.flatMap boolC) := by
 rw [flat_bool]; exact Seg.of_blk h
theorem IBlk.own {l : List Int} (h : IBlk w b t l) {base : Nat} (hb : base ≤ b) (hm : l.length ≤ maxLen) : Own intC 1 t w base (.slice (some ⟨b, 0, none⟩) l.length l.length) l :=
 Own.of_row (by rw [flat_int]; exact h) (fun _ => rfl) hb hm
theorem BBlk.own {l : List Bool} (h : BBlk w b t l) {base : Nat} (hb : base ≤ b) (hm : l.length ≤ maxLen) : Own boolC 1 t w base (.slice (some ⟨b, 0, none⟩) l.length l.length) l :=
 Own.of_row (by rw [flat_bool]; exact h) (fun _ => rfl) hb hm
end
/-- Only block b has changed. -/
theorem Ext.one {w : World} (b i : Nat) (u : Value) : Ext (fun k => k = b) w (w.setCell ⟨b, i, none⟩ u) := (Ext.refl (fun k => k = b) w).setCell (p := ⟨b, i, none⟩) (fun _ => rfl) u
theorem Keep.of_ext {S : Nat → Prop} {a b c : World} (h : Keep a b) (hE : Ext S b c) (hs : ∀ k, k < a.heap.size → ¬ S k) : Keep a c :=
 ⟨hE.os.trans h.os, hE.tape.trans h.tape, hE.output.trans h.output, Nat.le_trans h.size hE.size, fun k hk => (hE.block k (Nat.lt_of_lt_of_le hk h.size) (hs k hk)).trans (h.block k hk)⟩
end Go.Proofs.YtjpmiejgcnfiiaaGreat
