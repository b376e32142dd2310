/-
  How places and moves lie in memory and in maps; the program's types.
-/
import Derived.Test.YtpjckgmhcbhphaaMem
import Derived.Test.YtpjckgmhcbhphaaPlain
import Derived.Test.YtpjckgmhcbhphaaRows
import Derived.WalkKit
import Derived.WalkSpells
import Derived.Deep.DeepMust
import Derived.Outline
namespace Go.Proofs.Ytpjckgmhcbhphaa
open Go Go.RowKit

def plcC (p : Plc) : List Value := [.bool p.1, .int .i64 p.2]
def mvC (m : Mv) : List Value := [.bool m.1.1, .int .i64 m.1.2, .bool m.2.1, .int .i64 m.2.2]
def plcV (p : Plc) : Value := .agg #[.bool p.1, .int .i64 p.2]
def mvV (m : Mv) : Value := .agg #[.bool m.1.1, .int .i64 m.1.2, .bool m.2.1, .int .i64 m.2.2]
def u64C (n : Int) : List Value := [.int .u64 n]

/-- The numbers of a move's places are ints. -/
def MvOk (m : Mv) : Prop := W64 m.1.2 ∧ W64 m.2.2
def PlOk (p : Plc) : Prop := W64 p.2
def VlOk (n : Int) : Prop := (Lit.int .u64 n).wf = true

theorem mv_at {w wr : World} {A : Option Addr} {l : List Mv} (h : Seg w A (l.flatMap mvC)) (hkeep : Keep w wr) {k : Nat} (hk : k < l.length) :
    ∃ b off, A = some ⟨b, off, none⟩ ∧ b < w.heap.size ∧ wr.cell? ⟨b, off + k * 4, none⟩ = some (.bool l[k].1.1) ∧ wr.cell? ⟨b, off + k * 4 + 1, none⟩ = some (.int .i64 l[k].1.2) ∧
      wr.cell? ⟨b, off + k * 4 + 2, none⟩ = some (.bool l[k].2.1) ∧ wr.cell? ⟨b, off + k * 4 + 3, none⟩ = some (.int .i64 l[k].2.2) := by
  obtain ⟨b, off, e, hb, hc⟩ := h.elem 4 (fun _ => rfl) (by omega) hk
  exact ⟨b, off, e, hb, hkeep.cell (hc 0 _ rfl), hkeep.cell (hc 1 _ rfl), hkeep.cell (hc 2 _ rfl), hkeep.cell (hc 3 _ rfl)⟩

theorem plc_at {w wr : World} {A : Option Addr} {l : List Plc} (h : Seg w A (l.flatMap plcC)) (hkeep : Keep w wr) {k : Nat} (hk : k < l.length) :
    ∃ b off, A = some ⟨b, off, none⟩ ∧ b < w.heap.size ∧ wr.cell? ⟨b, off + k * 2, none⟩ = some (.bool l[k].1) ∧ wr.cell? ⟨b, off + k * 2 + 1, none⟩ = some (.int .i64 l[k].2) := by
  obtain ⟨b, off, e, hb, hc⟩ := h.elem 2 (fun _ => rfl) (by omega) hk
  exact ⟨b, off, e, hb, hkeep.cell (hc 0 _ rfl), hkeep.cell (hc 1 _ rfl)⟩

theorem val_at {w wr : World} {A : Option Addr} {l : List Int} (h : Seg w A (l.flatMap u64C)) (hkeep : Keep w wr) {k : Nat} (hk : k < l.length) :
    ∃ b off, A = some ⟨b, off, none⟩ ∧ b < w.heap.size ∧ wr.cell? ⟨b, off + k, none⟩ = some (.int .u64 l[k]) := by
  obtain ⟨b, off, e, hb, hc⟩ := h.elem 1 (fun _ => rfl) (by omega) hk
  exact ⟨b, off, e, hb, by have := hkeep.cell (hc 0 _ rfl); simpa using this⟩

/-! ### The program's types -/
theorem laidOut : laidOutB Try.prog = true := by kernel_rfl
theorem rowP : 24 < Try.prog.types.size := of_decide_eq_true (by kernel_rfl)
theorem wideP : (match Try.prog.underlying 24 with | some (.array _ _) | some (.struct _) => true | _ => false) = true := by kernel_rfl
theorem plcK : Maps.Keyed Try.prog 24 := Maps.Keyed.of_law (deep_law_laid laidOut (m := 2) (by omega) rowP (by kernel_rfl) wideP)
theorem intK : Maps.Keyed Try.prog 3 := Maps.int_keyed Try.underlying3

theorem plc_key (p : Plc) (h : PlOk p) : ∃ kl, keyOf Try.prog 24 (plcV p) = some kl :=
  ⟨_, key_two Try.underlying24 (by kernel_rfl) (by kernel_rfl) Try.underlying4 Try.underlying3 (by kernel_rfl) (by kernel_rfl) rfl rfl (by decide) (by decide) (of_decide_eq_true (by kernel_rfl)) p.1 p.2 h⟩

theorem plcV_inj {p q : Plc} (h : plcV p = plcV q) : p = q := by
  simp [plcV] at h
  exact Prod.ext h.1 h.2

theorem zeroBool (w : World) : (zeroValue 4).run Try.prog w = .ok (.bool false) w := by kernel_rfl
theorem zeroU64 (w : World) : (zeroValue 39).run Try.prog w = .ok (.int .u64 0) w := by kernel_rfl
theorem zeroMv (w : World) : (zeroValue 32).run Try.prog w = .ok (.agg #[.bool false, .int .i64 0, .bool false, .int .i64 0]) w := by kernel_rfl

/-- Two places held against each other. -/
def plcEq (p q : Plc) : Bool := decide (p = q)
theorem plcEq_true {p q : Plc} (h : p = q) : plcEq p q = true := decide_eq_true h
theorem plcEq_false {p q : Plc} (h : ¬ p = q) : plcEq p q = false := decide_eq_false h
theorem plc_eql (a b : Bool) (m n : Int) (w : World) : (binOp .eql 24 (.agg #[.bool a, .int .i64 m]) (.agg #[.bool b, .int .i64 n])).run Try.prog w = .ok (.bool (plcEq (a, m) (b, n))) w :=
  eql_two Try.underlying24 (by kernel_rfl) Try.underlying4 Try.underlying3 rfl rfl (by decide) (by decide) a b m n w
theorem plc_neq (a b : Bool) (m n : Int) (w : World) : (binOp .neq 24 (.agg #[.bool a, .int .i64 m]) (.agg #[.bool b, .int .i64 n])).run Try.prog w = .ok (.bool (!plcEq (a, m) (b, n))) w :=
  neq_of_eql (plc_eql a b m n w)

theorem elMv : ElT Try.prog 22 32 4 32 mvC where
  slice := Try.underlying22
  info := info_of (z := .agg #[.bool false, .int .i64 0, .bool false, .int .i64 0]) (by kernel_rfl) rfl
  pos := by omega
  len := fun _ => rfl
  one := fun x u hu => by simp [mvC] at hu; rcases hu with rfl | rfl | rfl | rfl <;> rfl
theorem elPl : ElT Try.prog 33 24 2 16 plcC where
  slice := Try.underlying33
  info := info_of (z := .agg #[.bool false, .int .i64 0]) (by kernel_rfl) rfl
  pos := by omega
  len := fun _ => rfl
  one := fun x u hu => by simp [plcC] at hu; rcases hu with rfl | rfl <;> rfl
theorem elU : ElT Try.prog 34 39 1 8 u64C where
  slice := Try.underlying34
  info := info_of (z := .int .u64 0) (by kernel_rfl) rfl
  pos := by omega
  len := fun _ => rfl
  one := fun x u hu => by simp [u64C] at hu; subst hu; rfl

/-! ### The set of places met -/
def MetIs (w : World) (b : Nat) (ps : List Plc) : Prop := ∃ n M, MapAt Try.prog 24 w b n M ∧ ∀ p, M (plcV p) = if p ∈ ps then some (.bool true) else none

theorem MetIs.lt {w : World} {b : Nat} {ps : List Plc} (h : MetIs w b ps) : b < w.heap.size := by obtain ⟨n, M, hm, _⟩ := h; exact hm.lt

theorem met_look {w : World} {b : Nat} {ps : List Plc} (h : MetIs w b ps) (p : Plc) (hp : PlOk p) (W : World) (hW : W.heap[b]? = w.heap[b]?) :
    (Instr.lookup 40 (.map (some b)) (.agg #[.bool p.1, .int .i64 p.2]) false).run Try.prog W = .ok (.bool (decide (p ∈ ps))) W := by
  obtain ⟨n, M, hm, hM⟩ := h
  obtain ⟨kl, hk⟩ := plc_key p hp
  have := lookup_run (hm.of_heap hW) plcK Try.underlying40 (zeroBool W) hk false
  rw [show (Value.agg #[Value.bool p.1, Value.int .i64 p.2]) = plcV p from rfl, this, hM p]
  by_cases hc : p ∈ ps <;> simp [hc]

theorem met_put {w : World} {b : Nat} {ps : List Plc} (h : MetIs w b ps) (p : Plc) (hp : PlOk p) (W : World) (hW : W.heap[b]? = w.heap[b]?) :
    ∃ W', (Instr.mapUpdate 40 (.map (some b)) (.agg #[.bool p.1, .int .i64 p.2]) (.bool true)).run Try.prog W = .ok () W' ∧ MetIs W' b (ps ++ [p]) ∧ W.grownBy W' (some b) := by
  obtain ⟨n, M, hm, hM⟩ := h
  obtain ⟨kl, hk⟩ := plc_key p hp
  obtain ⟨W', h1, h2, h3⟩ := update_run (hm.of_heap hW) plcK Try.underlying40 (v := .bool true) hk
  refine ⟨W', h1, ⟨_, _, h2, fun q => ?_⟩, h3⟩
  unfold putM
  by_cases hq : q = p
  · subst hq; simp
  · rw [if_neg (fun e => hq (plcV_inj e)), hM q]
    simp [hq]
end Go.Proofs.Ytpjckgmhcbhphaa
