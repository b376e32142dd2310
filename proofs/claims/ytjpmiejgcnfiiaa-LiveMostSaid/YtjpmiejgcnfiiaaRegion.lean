/-
  Regions that draw their order: what only reads is taken first, the rest comes in the one order that the edges leave.
-/
import Derived.Test.YtjpmiejgcnfiiaaMem
import Derived.OrdersHeld
import Derived.Deep.RegionHeld3
import Derived.Deep.Quiet
import Derived.Deep.QuietTactic
import Derived.BigQuiet
set_option linter.unusedVariables false
set_option linter.unusedSimpArgs false
namespace Go.Proofs.Ytjpmiejgcnfiiaa
open Go Go.RowKit

theorem wp_append_eq {P : Program} {w : World} {o : Oper} {a : Act} {K : Act → World → Prop} {Q : Exit → Act → World → Prop} (x y : Operand) (t : TypeId)
    (ho : o.op = .call { callee := .builtin .append, args := #[x, y], argTypes := #[t, t] }) (v u : Value) (hx : a.eval x = v) (hy : a.eval y = u)
    (v' : Value) (w' : World) (hrun : (Builtin.append_ #[t, t] o.type #[v, u]).run P w = .ok v' w') (h : K (a.put o.dst v') w') : o.wp P a w K Q := by
  unfold Oper.wp execOp
  simp only [ho, resolve, invoke, builtin, Sem.run_bind, Sem.run_pure, Result.andThen_ok, List.map_toArray, List.map_cons, List.map_nil, hx, hy, hrun]
  exact h

theorem wp_buildSlice0 {P : Program} {w : World} {o : Oper} {a : Act} {K : Act → World → Prop} {Q : Exit → Act → World → Prop} (t e : TypeId) (ho : o.op = .buildSlice t 0 #[]) (ht : P.underlying t = some (.slice e)) {i : TypeInfo} (hi : P.info? e = some i)
    (h : K (a.put o.dst (.slice (some ⟨w.heap.size, 0, none⟩) 0 0)) (w.alloc (.cells #[] e))) : o.wp P a w K Q := by
  unfold Oper.wp execOp
  simp [ho, Instr.buildSlice, run_underlying ht, sizeOf, typeInfo, hi, Instr.fill, newRow, Sem.run, Result.andThen]
  rw [show (Array.map (fun _ => (default : Value)) (Array.range 0)) = #[] from by simp]
  exact h

/-- A world that keeps what w0 had. -/
structure KW (w0 : World) where
  val : World
  keep : Keep w0 val

instance {w0 : World} : Nonempty (KW w0) := ⟨⟨w0, Keep.refl w0⟩⟩

/-- The class of the worlds that keep what w0 had. -/
def InK (w0 w' : World) : Prop := ∃ x : KW w0, w' = x.val
theorem InK.mk' {w0 w : World} (h : Keep w0 w) : InK w0 w := ⟨⟨w, h⟩, rfl⟩

theorem KW.cell {w0 : World} (x : KW w0) {p : Addr} {v : Value} (h : w0.cell? p = some v) : x.val.cell? p = some v := x.keep.cell h

/-- A world in which of what w0 had only blocks of T have changed. -/
structure KE (T : Nat → Prop) (w0 : World) where
  val : World
  ext : Ext T w0 val
instance {T : Nat → Prop} {w0 : World} : Nonempty (KE T w0) := ⟨⟨w0, Ext.refl T w0⟩⟩
theorem KE.cell {T : Nat → Prop} {w0 : World} (x : KE T w0) {p : Addr} {v : Value} (h : w0.cell? p = some v) (hT : ¬ T p.block) : x.val.cell? p = some v :=
  (World.cell?_of_block (x.ext.block p.block (World.block_lt_of_cell? w0 p h) hT)).trans h
theorem KE.mk' {T : Nat → Prop} {w0 w : World} (h : Ext T w0 w) : ∃ x : KE T w0, w = x.val := ⟨⟨w, h⟩, rfl⟩

def mark (n : Nat) (done : List Nat) : Array Bool := done.foldl (fun l i => l.setIfInBounds i true) (Array.replicate n false)
theorem mark_snoc (n : Nat) (done : List Nat) (i : Nat) : mark n (done ++ [i]) = (mark n done).setIfInBounds i true := by
  unfold mark; rw [List.foldl_append]; rfl

/-- Operations that yield a value and do nothing else. -/
def valueOp : Op → Bool
  | .move _ | .assign _ | .pick .. | .build .. | .load .. | .nilCheck _ | .binOp .. | .unOp .. | .convert .. | .slice .. | .fieldAddr .. | .field .. | .indexAddr .. | .index .. | .lookup .. | .extract .. | .makeFunc .. => true
  | .call { callee := .builtin .len, .. } | .call { callee := .builtin .cap, .. } | .call { callee := .builtin .max, .. } | .call { callee := .builtin .min, .. } => true
  | _ => false

theorem v_value {P : Program} {w w' : World} {n : Next} {m : Sem Value} (hr : (do pure (Next.value (← m)) : Sem Next).run P w = .ok n w') : ∃ u, n = .value u := by
  rw [Sem.run_bind] at hr
  cases hm : m.run P w with
  | ok x w1 => rw [hm] at hr; simp [Result.andThen] at hr; exact ⟨x, hr.1.symm⟩
  | halt x w1 => rw [hm] at hr; simp [Result.andThen] at hr

theorem value_of {P : Program} {ρ : Operand → Value} {o : Oper} {w w' : World} {n : Next} (h : valueOp o.op = true) (hr : (execOp ρ o).run P w = .ok n w') : ∃ u, n = .value u := by
  unfold execOp at hr
  cases ho : o.op <;> rw [ho] at h hr <;> simp only [valueOp] at h <;> try (exact v_value hr)
  case move x => simp [Sem.run_pure] at hr; exact ⟨_, hr.1.symm⟩
  case assign x => simp [Sem.run_pure] at hr; exact ⟨_, hr.1.symm⟩
  case pick c a b => exact v_value (m := do pure (if ← asBool (ρ c) then ρ a else ρ b)) (by simpa using hr)
  case nilCheck x =>
    simp only at hr
    split at hr
    · simp [runtimePanic, Sem.run] at hr
    · simp [runtimePanic, Sem.run] at hr
    · simp [runtimePanic, Sem.run] at hr
    · split at hr
      · simp [runtimePanic, Sem.run] at hr
      · simp only [Sem.run_bind] at hr
        rw [show (Sem.run P program w) = .ok P w from rfl, Result.andThen_ok] at hr
        generalize Sem.run P (nilAhead _ _ _ _) w = r at hr
        cases r with
        | halt x w1 => simp [Result.andThen] at hr
        | ok b w1 =>
          simp only [Result.andThen_ok] at hr
          split at hr
          · simp [unsupported, Sem.run, Sem.run_bind, Result.andThen] at hr
          · simp [Sem.run_pure] at hr; exact ⟨_, hr.1.symm⟩
      · simp [Sem.run_pure] at hr; exact ⟨_, hr.1.symm⟩
    · simp [Sem.run_pure] at hr; exact ⟨_, hr.1.symm⟩
  case call c =>
    obtain ⟨callee, args, ats⟩ := c
    cases callee with
    | value f => simp [valueOp] at h
    | invoke r m => simp [valueOp] at h
    | builtin b =>
      simp only [resolve, Sem.run_bind, Sem.run_pure, Result.andThen_ok, invoke] at hr
      cases b <;> simp only [valueOp] at h <;> first | (cases h; done) | (simp only [builtin] at hr; exact v_value hr)
  all_goals (cases h; done)

section
variable {P : Program} {ops : Array Oper} {Q : Exit → Act → World → Prop} {S : World → Prop}

theorem yieldsIf_of_quiet {o : Oper} {a : Act} {v : Value} (hv : valueOp o.op = true) (hw : Region.wanted o (yielded ops a.tmps) = true) (h : ∀ w, S w → o.quietAt P a S w v) : YieldsIf P ops S o v a := by
  refine .inl ⟨hw, fun w hS => ?_⟩
  have h1 := h w hS
  unfold Oper.quietAt at h1
  cases hr : (execOp a.eval o).run P w with
  | ok n w' =>
    obtain ⟨u, rfl⟩ := value_of hv hr
    rw [hr] at h1
    obtain ⟨e1, e2⟩ : w' = w ∧ u = v := h1
    rw [e1, e2]
  | halt x w' => rw [hr] at h1; exact h1.elim

/-- May these come up one after the other, each ahead of whatever else may come up? -/
def segB (ops : Array Oper) : List Nat → List Nat → Bool
  | [], _ => true
  | i :: is, done => (Region.ready .any ops (mark ops.size done)).contains i && Region.free .any ops (mark ops.size done) i &&
      (match ops[i]? with | some o => valueOp o.op | none => false) && segB ops is (done ++ [i])

/-- What only reads is taken first, in the order 'is'. -/
theorem region_seg (hs : Region.noSelect ops = true) (hQ : ∀ c a d v w, Q (.panic c) (a.put d v) w → Q (.panic c) a w) :
    ∀ (is done : List Nat) (l : List Oper) (fuel : Nat) (a : Act) (w : World), is.map (ops[·]?) = l.map some → segB ops is done = true → S w →
      wpQuiet P ops S (fun a' => wpAnyH P .any ops Q S fuel (mark ops.size (done ++ is)) a' w) l a → wpAnyH P .any ops Q S (fuel + is.length) (mark ops.size done) a w
  | [], done, l, fuel, a, w, hl, _, _, h => by
    have : l = [] := by cases l with | nil => rfl | cons x l => simp at hl
    subst this
    simpa [wpQuiet] using h
  | i :: is, done, [], fuel, a, w, hl, _, _, h => by simp at hl
  | i :: is, done, o :: l, fuel, a, w, hl, hB, hS, h => by
    simp only [List.map_cons, List.cons.injEq] at hl
    obtain ⟨h0, hl'⟩ := hl
    simp only [segB, Bool.and_eq_true, h0] at hB
    obtain ⟨⟨⟨hr, hf⟩, hv⟩, hB'⟩ := hB
    have hst : qOp P ops S i (wpQuiet P ops S (fun a' => wpAnyH P .any ops Q S fuel (mark ops.size (done ++ i :: is)) a' w) l) a := by
      unfold qOp; simp only [h0]; exact h
    obtain ⟨v, hy, hK⟩ := yieldsIn_of_qOp h0 hst
    have hyi : YieldsIf P ops S o v a := by
      rcases hy with ⟨hw, hq⟩ | ⟨hw, rfl⟩
      · exact yieldsIf_of_quiet hv hw hq
      · exact .inr ⟨hw, rfl⟩
    refine wpAnyH_take (fuel := fuel + is.length) h0 hs hf hr (fun c a w => hQ c a _ _ w) hyi hS ?_
    rw [← mark_snoc]
    refine region_seg hs hQ is (done ++ [i]) l fuel _ w hl' hB' hS ?_
    rw [List.append_assoc]
    exact hK

theorem segB_ops : ∀ (is done : List Nat), segB ops is done = true → is.map (ops[·]?) = (is.filterMap (ops[·]?)).map some
  | [], _, _ => rfl
  | i :: is, done, h => by
    simp only [segB, Bool.and_eq_true] at h
    have ih := segB_ops is _ h.2
    cases ho : ops[i]? with
    | none => rw [ho] at h; exact absurd h.1.2 (by simp)
    | some o => rw [List.map_cons, List.filterMap_cons, ho]; simp only [List.map_cons]; rw [ih]

/-- What only reads is taken first, in the order 'is'; then 'show wpQuiet _ _ _ _ [_, _, ..] _'. -/
theorem region_take {l : List Oper} (is done : List Nat) (fuel : Nat) {a : Act} {w : World} (hs : Region.noSelect l.toArray = true) (hB : segB l.toArray is done = true) (hS : S w)
    (h : wpQuiet P l.toArray S (fun a' => wpAnyH P .any l.toArray (NoPanic Q) S fuel (mark l.toArray.size (done ++ is)) a' w) (is.filterMap (l[·]?)) a) :
    wpAnyH P .any l.toArray (NoPanic Q) S (fuel + is.length) (mark l.toArray.size done) a w :=
  region_seg hs (fun _ _ _ _ _ h => h) is done _ fuel a w (segB_ops is done hB) hB hS (by simpa using h)

/-- The one operation that may come up. -/
theorem region_fix' {i : Nat} {done : List Nat} {o : Oper} {fuel : Nat} {a : Act} {w : World} (ho : ops[i]? = some o) (hr : Region.ready .any ops (mark ops.size done) = [i])
    (h : ∀ K : Act → World → Prop, (∀ a' w', S w' → wpAnyH P .any ops Q S fuel (mark ops.size (done ++ [i])) a' w' → K a' w') →
      if Region.wanted o (yielded ops a.tmps) then o.wp P a w K Q else K (a.put o.dst undef) w) : wpAnyH P .any ops Q S (fuel + 1) (mark ops.size done) a w := by
  refine wpAnyH_all hr (by simp) fun j hj => ?_
  obtain rfl : j = i := by simpa using hj
  have h1 := h (fun a' w' => S w' ∧ wpAnyH P .any ops Q S fuel (mark ops.size (done ++ [j])) a' w') (fun _ _ h1 h2 => ⟨h1, h2⟩)
  rw [mark_snoc] at h1
  unfold wpOp
  simp only [ho]
  split
  · rename_i hw; rw [if_pos hw] at h1; exact .inl h1
  · rename_i hw; rw [if_neg hw] at h1; exact h1

theorem region_fix {l : List Oper} {i : Nat} {done : List Nat} {o : Oper} {fuel : Nat} {a : Act} {w : World} (ho : l[i]? = some o) (hr : Region.ready .any l.toArray (mark l.toArray.size done) = [i])
    (h : ∀ K : Act → World → Prop, (∀ a' w', S w' → wpAnyH P .any l.toArray Q S fuel (mark l.toArray.size (done ++ [i])) a' w' → K a' w') →
      if Region.wanted o (yielded l.toArray a.tmps) then o.wp P a w K Q else K (a.put o.dst undef) w) : wpAnyH P .any l.toArray Q S (fuel + 1) (mark l.toArray.size done) a w :=
  region_fix' (by simpa using ho) hr h

theorem region_fixU {l : List Oper} {i : Nat} {done : List Nat} {o : Oper} {fuel : Nat} {a : Act} {w : World} (ho : l[i]? = some o) (hg : o.guard = none) (hr : Region.ready .any l.toArray (mark l.toArray.size done) = [i])
    (h : ∀ K : Act → World → Prop, (∀ a' w', S w' → wpAnyH P .any l.toArray Q S fuel (mark l.toArray.size (done ++ [i])) a' w' → K a' w') → o.wp P a w K Q) : wpAnyH P .any l.toArray Q S (fuel + 1) (mark l.toArray.size done) a w :=
  region_fix ho hr fun K hK => by rw [if_pos (by simp [Region.wanted, hg])]; exact h K hK

theorem region_done {done : List Nat} {a : Act} {w : World} {fuel : Nat} (hr : Region.ready .any ops (mark ops.size done) = []) (h : Q .normal a w) : wpAnyH P .any ops (NoPanic Q) S fuel (mark ops.size done) a w :=
  wpAnyH_done hr (NoPanic.normal h) fuel

theorem region_begin {id : Nat} {a : Act} {w : World} {l : List Oper} (hm : P.follows .mixedOrders = true)
    (h : wpAnyH P .any l.toArray (NoPanic Q) S l.length (mark l.toArray.size []) a w.drew) : (Code.region id l.toArray true).wp P Q a w :=
  wp_region_noPanic (wp_region_held (S := S) hm (by simpa [mark] using h))
end
end Go.Proofs.Ytjpmiejgcnfiiaa
