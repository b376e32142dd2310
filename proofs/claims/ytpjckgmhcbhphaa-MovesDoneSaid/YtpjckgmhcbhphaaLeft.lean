/-
  The map of pending moves.
-/
import Derived.Test.YtpjckgmhcbhphaaBase
namespace Go.Proofs.Ytpjckgmhcbhphaa
open Go Go.RowKit

/-- Block b is the map of the pending moves L. -/
def LeftIs (w : World) (b : Nat) (L : List (Option Mv)) : Prop :=
  ∃ M, MapAt Try.prog 3 w b (pend L).length M ∧ ∀ i : Nat, M (.int .i64 i) = (L.getD i none).map mvV

theorem LeftIs.lt {w : World} {b : Nat} {L : List (Option Mv)} (h : LeftIs w b L) : b < w.heap.size := by obtain ⟨M, hm, _⟩ := h; exact hm.lt
theorem LeftIs.of_heap {w w' : World} {b : Nat} {L : List (Option Mv)} (h : LeftIs w b L) (he : w'.heap[b]? = w.heap[b]?) : LeftIs w' b L := by
  obtain ⟨M, hm, hM⟩ := h
  exact ⟨M, hm.of_heap he, hM⟩
theorem LeftIs.keep {w w' : World} {b : Nat} {L : List (Option Mv)} (h : LeftIs w b L) (hk : Keep w w') : LeftIs w' b L := h.of_heap (hk.block b h.lt)

theorem left_made (w : World) (n : Nat) : LeftIs (w.alloc (.map #[] 0)) w.heap.size (List.replicate n none) := by
  refine ⟨fun _ => none, ?_, fun i => ?_⟩
  · have hp : pend (List.replicate n none) = [] := by unfold pend; simp
    rw [hp]; exact MapAt.made Try.prog 3 w
  · simp [List.getD, List.getElem?_replicate]; split <;> rfl

theorem int_key (i : Nat) (h : i ≤ 1000000) : ∃ kl, keyOf Try.prog 3 (.int .i64 (i : Int)) = some kl :=
  ⟨_, Maps.keyOf_int_mk Try.underlying3 (WalkArith.wf_i64 (by omega))⟩

theorem left_look {w : World} {b : Nat} {L : List (Option Mv)} (h : LeftIs w b L) (i : Nat) (hi : i ≤ 1000000) (W : World) (hW : W.heap[b]? = w.heap[b]?) (c : Bool) :
    (Instr.lookup 43 (.map (some b)) (.int .i64 (i : Int)) c).run Try.prog W =
      .ok (if c then .tuple #[mvV ((L.getD i none).getD default), .bool (L.getD i none).isSome] else mvV ((L.getD i none).getD default)) W := by
  obtain ⟨M, hm, hM⟩ := h
  obtain ⟨kl, hk⟩ := int_key i hi
  have := lookup_run (hm.of_heap hW) intK Try.underlying43 (zeroMv W) hk c
  rw [this, hM i]
  cases L.getD i none <;> rfl

theorem left_len {w : World} {b : Nat} {L : List (Option Mv)} (h : LeftIs w b L) (W : World) (hW : W.heap[b]? = w.heap[b]?) (ty : TypeId) :
    (Builtin.len_ #[43] ty #[.map (some b)]).run Try.prog W = .ok (.int .i64 ((pend L).length : Int)) W := by
  obtain ⟨M, hm, _⟩ := h
  exact len_run (hm.of_heap hW) Try.underlying43

theorem pend_set_some : ∀ (L : List (Option Mv)) (i : Nat) (m : Mv), i < L.length → (pend (L.set i (some m))).length = if (L.getD i none).isSome then (pend L).length else (pend L).length + 1
  | [], i, m, h => by simp at h
  | none :: L, 0, m, h => by simp [pend_cons_some, pend_cons_none]
  | some x :: L, 0, m, h => by simp [pend_cons_some]
  | none :: L, i + 1, m, h => by
    have := pend_set_some L i m (by simpa using h)
    simpa [pend_cons_none] using this
  | some x :: L, i + 1, m, h => by
    have := pend_set_some L i m (by simpa using h)
    simp only [List.set_cons_succ, pend_cons_some, List.length_cons, List.getD_cons_succ, this]
    split <;> rfl

theorem int_inj {i j : Nat} (h : Value.int .i64 (i : Int) = Value.int .i64 (j : Int)) : i = j := by
  injection h with _ h; omega

theorem left_put {w : World} {b : Nat} {L : List (Option Mv)} (h : LeftIs w b L) (i : Nat) (hi : i < L.length) (hL : L.length ≤ 1000000) (m : Mv) (W : World) (hW : W.heap[b]? = w.heap[b]?) :
    ∃ W', (Instr.mapUpdate 43 (.map (some b)) (.int .i64 (i : Int)) (.agg #[.bool m.1.1, .int .i64 m.1.2, .bool m.2.1, .int .i64 m.2.2])).run Try.prog W = .ok () W' ∧ LeftIs W' b (L.set i (some m)) ∧ W.grownBy W' (some b) := by
  obtain ⟨M, hm, hM⟩ := h
  obtain ⟨kl, hk⟩ := int_key i (by omega)
  obtain ⟨W', h1, h2, h3⟩ := update_run (hm.of_heap hW) intK Try.underlying43 (v := mvV m) hk
  refine ⟨W', h1, ⟨putM M (.int .i64 (i : Int)) (mvV m), ?_, fun j => ?_⟩, h3⟩
  rotate_left
  · unfold putM
    by_cases hj : j = i
    · subst hj
      rw [if_pos rfl]
      simp [List.getD, hi]
    · rw [if_neg (fun e => hj (int_inj e)), hM j]
      simp [List.getD, List.getElem?_set, Ne.symm hj]
  · rw [hM i] at h2
    rw [pend_set_some L i m hi]
    cases hg : L.getD i none <;> (rw [hg] at h2; exact h2)

theorem left_del {w : World} {b : Nat} {L : List (Option Mv)} (h : LeftIs w b L) (i : Nat) (m : Mv) (hi : L[i]? = some (some m)) (hL : L.length ≤ 1000000) (W : World) (hW : W.heap[b]? = w.heap[b]?) (te ty : TypeId) :
    ∃ W', (Builtin.delete_ #[43, te] ty #[.map (some b), .int .i64 (i : Int)]).run Try.prog W = .ok (.tuple #[]) W' ∧ LeftIs W' b (L.set i none) ∧ W.grownBy W' (some b) := by
  obtain ⟨M, hm, hM⟩ := h
  obtain ⟨hlt, _⟩ := List.getElem?_eq_some_iff.1 hi
  obtain ⟨kl, hk⟩ := int_key i (by omega)
  obtain ⟨W', h1, h2, h3⟩ := delete_run (te := te) (ty := ty) (hm.of_heap hW) intK Try.underlying43 hk
  refine ⟨W', h1, ⟨delM M (.int .i64 (i : Int)), ?_, fun j => ?_⟩, h3⟩
  rotate_left
  · unfold delM
    by_cases hj : j = i
    · subst hj
      rw [if_pos rfl]
      simp [List.getD, hlt]
    · rw [if_neg (fun e => hj (int_inj e)), hM j]
      simp [List.getD, List.getElem?_set, Ne.symm hj]
  · rw [hM i] at h2
    have hg : L.getD i none = some m := by simp [List.getD, hi]
    rw [hg] at h2
    rw [pend_set_none L i m hi, List.length_eraseIdx_of_lt]
    · exact h2
    · exact (List.getElem?_eq_some_iff.1 (pend_at L i m hi)).1
end Go.Proofs.Ytpjckgmhcbhphaa
