import Derived.Test.YtjpmiejgcnfiiaaGreatQ14
import Derived.Test.YtjpmiejgcnfiiaaGreatQ4
import Derived.Test.YtjpmiejgcnfiiaaGreatRows
import Derived.WalkKit
import Derived.WalkSpells
import Derived.Deep.DeepMust
import Derived.Deep.QuietTactic
import Derived.BigQuiet
import Derived.Outline
import Derived.Deep.LoopGhost
set_option linter.unusedVariables false
set_option linter.unusedSimpArgs false
namespace Go.Proofs.YtjpmiejgcnfiiaaGreat.Dom

/-- The parent, or -1. -/
def upF (r : List Int) (a : Int) : Int :=
 if a < 0 ∨ (r.length : Int) ≤ a then -1
 else if r.getD a.toNat 0 < 0 ∨ (r.length : Int) ≤ r.getD a.toNat 0 then -1 else r.getD a.toNat 0
theorem upF_cases (r : List Int) (a : Int) : upF r a = -1 ∨ (0 ≤ upF r a ∧ upF r a < r.length) := by
 unfold upF
 split
 ·exact .inl rfl
 split
 ·exact .inl rfl
 ·right; omega
/-- a is met within k steps up from b. -/
def overK (r : List Int) (a : Int) : Nat → Int → Bool
 | 0, _ => false
 | k + 1, b => if a = b then true else if upF r b < 0 then false else overK r a k (upF r b)
def overF (r : List Int) (a b : Int) : Bool :=
 if a < 0 ∨ (r.length : Int) ≤ a ∨ b < 0 ∨ (r.length : Int) ≤ b then false else overK r a (r.length + 1) b
/-- The number of steps up until there is no parent, where that is below k. -/
def depthK (r : List Int) : Nat → Nat → Int → Int
 | 0, _, _ => -1
 | k + 1, n, a => if upF r a < 0 then n else depthK r k (n + 1) (upF r a)
def depthF (r : List Int) (a : Int) : Int := if a < 0 ∨ (r.length : Int) ≤ a then -1 else depthK r r.length 0 a
/-- With one step more. -/
def depthR (r : List Int) (a : Int) : Int := if a < 0 ∨ (r.length : Int) ≤ a then -1 else depthK r (r.length + 1) 0 a
def childF (r : List Int) (m : Nat) (a : Nat) : List Int := ((List.range m).filter (fun i : Nat => upF r i = (a : Int))).map (fun i : Nat => (i : Int))
end Go.Proofs.YtjpmiejgcnfiiaaGreat.Dom
namespace Go.Proofs.YtjpmiejgcnfiiaaGreat.DZ
open Go Go.RowKit

theorem laidOut : laidOutB Tryz.prog = true := by kernel_rfl

/-- A row of a graph in memory. -/
abbrev Row := RowG Int
abbrev rowC : Row → List Value := rowG
/-- A row can be read. -/
structure RowOk (w : World) (x : Row) : Prop where
 seg : Seg w x.a (x.l.flatMap intC)
 len : x.l.length ≤ maxLen
theorem RowOk.keep {w w' : World} {x : Row} (h : RowOk w x) (hk : Keep w w') : RowOk w' x := ⟨h.seg.keep hk, h.len⟩
/-- A graph can be read. -/
structure Graph (w : World) (A : Option Addr) (rs : List Row) : Prop where
 seg : Seg w A (rs.flatMap rowC)
 rows : ∀ x ∈ rs, RowOk w x
 len : rs.length ≤ maxLen
theorem Graph.keep {w w' : World} {A : Option Addr} {rs : List Row} (h : Graph w A rs) (hk : Keep w w') : Graph w' A rs := ⟨h.seg.keep hk, fun x hx => (h.rows x hx).keep hk, h.len⟩
def gr (rs : List Row) : Dom.Gr := rs.map (·.l)
theorem gr_len (rs : List Row) : (gr rs).length = rs.length := by simp [gr]
theorem gr_get {rs : List Row} {k : Nat} (hk : k < rs.length) : (gr rs).getD k [] = rs[k].l := by simp [gr, hk]
theorem row_at {w wr : World} {A : Option Addr} {l : List Row} (h : Seg w A (l.flatMap rowC)) (hkeep : Keep w wr) {k : Nat} (hk : k < l.length) :
  ∃ b off, A = some ⟨b, off, none⟩ ∧ b < w.heap.size ∧ wr.cell? ⟨b, off + k, none⟩ = some (.slice l[k].a l[k].l.length l[k].c) := by
 obtain ⟨b, off, e, hb, hc⟩ := h.elem 1 (fun _ => rfl) (by omega) hk
 exact ⟨b, off, e, hb, by have := hkeep.cell (hc 0 _ rfl); simpa [RowG.v] using this⟩

theorem elI : ElT Tryz.prog 45 3 1 8 intC where
 slice := Tryz.underlying45
 info := info_of (z := .int .i64 0) (by kernel_rfl) rfl
 pos := by omega
 len := fun _ => rfl
 one := fun x u hu => by simp [intC] at hu; subst hu; rfl
theorem elB : ElT Tryz.prog 80 4 1 1 boolC where
 slice := Tryz.underlying80
 info := info_of (z := .bool false) (by kernel_rfl) rfl
 pos := by omega
 len := fun _ => rfl
 one := fun x u hu => by simp [boolC] at hu; subst hu; rfl
theorem elR : ElT Tryz.prog 42 45 1 24 rowC where
 slice := Tryz.underlying42
 info := info_of (z := .slice none 0 0) (by kernel_rfl) rfl
 pos := by omega
 len := fun _ => rfl
 one := fun x u hu => by simp [rowG, RowG.v] at hu; subst hu; rfl
theorem make_ints (w : World) (n : Nat) (h : n ≤ 1000000) : ∃ w', (Instr.makeSlice 45 (.int .i64 (n : Int)) (.int .i64 (n : Int))).run Tryz.prog w = .ok (.slice (some ⟨w.heap.size, 0, none⟩) n n) w' ∧ IBlk w' w.heap.size 3 (List.replicate n 0) ∧ Keep w w' := by
 obtain ⟨w', h1, h2, h3⟩ := make_zero (P := Tryz.prog) (z := .int .i64 0) (bytes := 8) Tryz.underlying45 (by kernel_rfl) rfl w n (by omega) (by unfold maxLen; omega)
 exact ⟨w', h1, by unfold IBlk; rw [List.map_replicate]; exact h2, h3⟩
theorem make_bools (w : World) (n : Nat) (h : n ≤ 1000000) : ∃ w', (Instr.makeSlice 80 (.int .i64 (n : Int)) (.int .i64 (n : Int))).run Tryz.prog w = .ok (.slice (some ⟨w.heap.size, 0, none⟩) n n) w' ∧ BBlk w' w.heap.size 4 (List.replicate n false) ∧ Keep w w' := by
 obtain ⟨w', h1, h2, h3⟩ := make_zero (P := Tryz.prog) (z := .bool false) (bytes := 1) Tryz.underlying80 (by kernel_rfl) rfl w n (by omega) (by unfold maxLen; omega)
 exact ⟨w', h1, by unfold BBlk; rw [List.map_replicate]; exact h2, h3⟩
theorem make_rows (w : World) (n : Nat) (h : n ≤ 1000000) : ∃ w', (Instr.makeSlice 42 (.int .i64 (n : Int)) (.int .i64 (n : Int))).run Tryz.prog w = .ok (.slice (some ⟨w.heap.size, 0, none⟩) n n) w' ∧ Blk w' w.heap.size 45 (List.replicate n (.slice none 0 0)) ∧ Keep w w' :=
 make_zero (P := Tryz.prog) (z := .slice none 0 0) (bytes := 24) Tryz.underlying42 (by kernel_rfl) rfl w n (by omega) (by unfold maxLen; omega)
abbrev IRows := RowsAt intC 1 3 45
end Go.Proofs.YtjpmiejgcnfiiaaGreat.DZ
namespace Go.Proofs.YtjpmiejgcnfiiaaGreat.DZ
open Go Go.RowKit

/-! ### The reference's -/

theorem refUp_calls (l : List Int) (A : Option Addr) (c : Nat) (w : World) (hs : Seg w A (l.flatMap intC)) (hm : l.length ≤ maxLen) (a : Int) :
  Calls Tryz.prog 125 #[.slice A l.length c, .int .i64 a] w fun e w' => e = .returned (.int .i64 (Dom.upF l a)) ∧ w = w' := by
 unfold maxLen at hm
 by_cases h0 : a < 0
 ·have e : Hid (Dom.upF l a = -1) := Lib.hid (by unfold Dom.upF; rw [if_pos (.inl h0)])
  have d0 : decide (a < 0) = true := decide_eq_true h0
  clear h0
  go_enter Tryz.func125, Tryz.ntmps125
  go_wp2
  go_ret
  exact ⟨by rw [e.out]; rfl, rfl⟩
 ·have d0 : decide (a < 0) = false := decide_eq_false h0
  by_cases h1 : (l.length : Int) ≤ a
  ·have e : Hid (Dom.upF l a = -1) := Lib.hid (by unfold Dom.upF; rw [if_pos (.inr h1)])
   have d1 : decide ((l.length : Int) ≤ a) = true := decide_eq_true h1
   go_enter Tryz.func125, Tryz.ntmps125
   go_wp2
   go_ret
   exact ⟨by rw [e.out]; rfl, rfl⟩
  ·have d1 : decide ((l.length : Int) ≤ a) = false := decide_eq_false h1
   obtain ⟨k, rfl⟩ : ∃ k : Nat, a = k := ⟨a.toNat, by omega⟩
   have hk : k < l.length := by omega
   obtain ⟨b, off, rfl, hb, hc⟩ := int_at hs (Keep.refl _) hk
   have e0 : Hid (Dom.upF l (k : Int) = if l[k] < 0 ∨ (l.length : Int) ≤ l[k] then -1 else l[k]) := Lib.hid (by
    unfold Dom.upF
    rw [if_neg (by omega)]
    simp [hk])
   obtain ⟨x, hx⟩ : ∃ x, x = l[k] := ⟨_, rfl⟩
   rw [← hx] at hc e0
   clear hx
   by_cases h2 : x < 0
   ·have e : Hid (Dom.upF l (k : Int) = -1) := Lib.hid (by rw [e0.out, if_pos (.inl h2)])
    have d2 : decide (x < 0) = true := decide_eq_true h2
    clear e0
    go_enter Tryz.func125, Tryz.ntmps125
    go_wp2
    go_ret
    exact ⟨by rw [e.out]; rfl, rfl⟩
   ·have d2 : decide (x < 0) = false := decide_eq_false h2
    by_cases h3 : (l.length : Int) ≤ x
    ·have e : Hid (Dom.upF l (k : Int) = -1) := Lib.hid (by rw [e0.out, if_pos (.inr h3)])
     have d3 : decide ((l.length : Int) ≤ x) = true := decide_eq_true h3
     clear e0
     go_enter Tryz.func125, Tryz.ntmps125
     go_wp2
     go_ret
     exact ⟨by rw [e.out]; rfl, rfl⟩
    ·have e : Hid (Dom.upF l (k : Int) = x) := Lib.hid (by rw [e0.out, if_neg (by omega)])
     have d3 : decide ((l.length : Int) ≤ x) = false := decide_eq_false h3
     clear e0
     go_enter Tryz.func125, Tryz.ntmps125
     go_wp2
     go_ret
     exact ⟨by rw [e.out]; rfl, rfl⟩
end Go.Proofs.YtjpmiejgcnfiiaaGreat.DZ
