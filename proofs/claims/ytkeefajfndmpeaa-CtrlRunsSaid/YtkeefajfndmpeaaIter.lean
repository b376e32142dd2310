/-
  slices.Backward: what it hands to a loop's body.
-/
import Derived.RangeFuncNested
import Derived.RangeFuncBound
import Derived.RangeFuncCalls
import Derived.RangeFuncLeaves
import Derived.RangeFuncFrom
import Derived.Shelf.Abstract
import Derived.Shelf.RegionOpen
import Derived.WalkKit
import Derived.OwnWalkIn
import Derived.TacticsInMore
import Derived.LoopNIn
import Derived.LoopIn
import Derived.Test.YtkeefajfndmpeaaBase
namespace Go.Proofs.Ytkeefajfndmpeaa
open Go Go.RowKit Go.Shelf

attribute [local go_sem] Oper.semAt_some

/-- The blocks of K are as they were. -/
def KeepOn (K : Nat → Prop) (W W' : World) : Prop := ∀ k, K k → W'.heap[k]? = W.heap[k]?
theorem KeepOn.refl (K : Nat → Prop) (W : World) : KeepOn K W W := fun _ _ => rfl
theorem KeepOn.trans {K : Nat → Prop} {A B C : World} (h : KeepOn K A B) (h' : KeepOn K B C) : KeepOn K A C := fun k hk => (h' k hk).trans (h k hk)
theorem KeepOn.cell {K : Nat → Prop} {A B : World} (h : KeepOn K A B) {p : Addr} (hp : K p.block) : B.cell? p = A.cell? p := World.cell?_of_block (h _ hp)
theorem KeepOn.set_ {K : Nat → Prop} {A B : World} (h : KeepOn K A B) {p : Addr} (hp : ¬ K p.block) (u : Value) : KeepOn K A (B.setCell p u) := fun k hk => (Below.heap_setCell B p u k (by rintro rfl; exact hp hk)).trans (h k hk)
theorem KeepOn.drew {K : Nat → Prop} {A B : World} (h : KeepOn K A B) : KeepOn K A B.drew := h
theorem KeepOn.put {K : Nat → Prop} {n : Nat} (hK : ∀ k, K k → k < n) : ∀ (W : World) (l : Nat) (o o' : Obj), n ≤ l → W.heap[l]? = some o → o.isCells = false → o.isWalk = false → KeepOn K W (W.putObj l o') := fun W l o o' hl _ _ _ k hk => by
  have : k ≠ l := by have := hK k hk; omega
  simp [World.putObj, Array.getElem?_setIfInBounds_ne (Ne.symm this)]

def encs (x : Int × Int) : Array Value := #[.int .i64 x.1, .int .i64 x.2]

set_option maxRecDepth 100000 in
set_option maxHeartbeats 2000000 in
theorem backward1_in (F : Fence) (n : Nat) (h7 : F.fn 79) (hro : F.round = none) (hn : 1 ≤ n) (lb Bs : Nat) (K : Nat → Prop) (A : Option Addr) (c : Nat) (l : List Int) (hl : l.length ≤ 1000000) (J Jx : List (Int × Int) → World → Prop)
    (hY : ∀ pre x W, J pre W → pre.length < l.length → YieldAt F (n - 1) Try.prog lb (encs x) W fun e W' =>
      (e = .returned (.bool true) ∧ J (pre ++ [x]) W' ∧ KeepOn K W W') ∨ (e = .returned (.bool false) ∧ Jx (pre ++ [x]) W'))
    (W : World) (hBs : W.cell? ⟨Bs, 0, none⟩ = some (.slice A l.length c)) (hBl : K Bs) (hA : 0 < l.length → ∀ a, A = some a → K a.block) (hs : Seg W A (l.flatMap valC)) (h0 : J [] W) :
    CallsIn F n Try.prog 79 #[.func (.yield lb) #[] #[], .pointer (some ⟨Bs, 0, none⟩)] W fun e W' => (∃ v, e = .returned v) ∧
      ((∃ ys, ys.map Prod.snd = l.reverse ∧ J ys W') ∨ (∃ pre, pre.map Prod.snd <+: l.reverse ∧ Jx pre W')) := by
  refine callsIn_of_wp Try.func79 rfl h7 ?_ hro
  simp only [Try.ntmps79, List.size_toArray, List.length_cons, List.length_nil, Nat.reduceAdd, Nat.reduceSub, Array.replicate_succ, Array.replicate_zero, List.push_toArray, List.append_toArray, List.nil_append, List.cons_append]
  have hw0 : IntKind.i64.wrap ((l.length : Int) - 1) = (l.length : Int) - 1 := IntWalk.i64_in _ (by omega)
  gi_wp2
  gi_loopw [3] (fun i wr => ∃ k : Nat, k ≤ l.length ∧ i = .int .i64 ((l.length : Int) - 1 - (k : Int)) ∧ (∃ pre : List (Int × Int), pre.map Prod.snd = l.reverse.take k ∧ J pre wr) ∧ KeepOn K W wr)
    (fun i _ => (intOf i + 1).toNat)
  case atStart => exact ⟨0, Nat.zero_le _, by simp, ⟨[], rfl, h0⟩, KeepOn.refl _ _⟩
  case round =>
    obtain ⟨k, hk, rfl, ⟨pre, hpre, hJ⟩, hb⟩ := hrel
    by_cases hlt : k < l.length
    · obtain ⟨j, hj⟩ : ∃ j : Nat, (l.length : Int) - 1 - (k : Int) = (j : Int) := ⟨l.length - 1 - k, by omega⟩
      have hjl : j < l.length := by omega
      have hrev : l.reverse[k]'(by simp; omega) = l[j] := by
        rw [List.getElem_reverse]
        congr 1
        omega
      obtain ⟨b, off, rfl, hbl, hcell⟩ := val_at hs (Keep.refl _) hjl
      have hb0 : K b := hA (by omega) _ rfl
      have hcell' : wr.cell? ⟨b, off + j, none⟩ = some (.int .i64 l[j]) := (hb.cell (p := ⟨b, off + j, none⟩) hb0).trans hcell
      have hBs' : wr.cell? ⟨Bs, 0, none⟩ = some (.slice (some ⟨b, off, none⟩) l.length c) := (hb.cell (p := ⟨Bs, 0, none⟩) hBl).trans hBs
      have hplen : pre.length = k := by
        have := congrArg List.length hpre
        simp at this; omega
      obtain ⟨fn, tmps, assign, body, hy, hR⟩ := hY pre ((j : Int), l[j]) wr hJ (by omega)
      dsimp only [encs] at hy hR
      have hj0 : (0 : Int) ≤ (j : Int) := by omega
      have hj1 : (j : Int) < (l.length : Int) := by omega
      have hwj : IntKind.i64.wrap ((j : Int) - 1) = (j : Int) - 1 := IntWalk.i64_in _ (by omega)
      have hnx : (pre ++ [((j : Int), l[j])]).map Prod.snd = l.reverse.take (k + 1) := by
        rw [List.map_append, hpre, take_snoc l.reverse (by simp; omega), hrev]; rfl
      have Hnx := Lib.hid hnx
      have Hpre := Lib.hid hpre
      have Hj := Lib.hid hj
      rw [hj]
      clear hnx hpre hrev hplen hj
      gi_wp2
      refine hR.mono ?_
      rintro e W3 (⟨rfl, hJ3, hk3⟩ | ⟨rfl, hJx3⟩)
      · gi_wp2
        go_roundw
        case rel => exact ⟨k + 1, hlt, by have := Hj.out; congr 1; omega, ⟨_, Hnx.out, hJ3⟩, hb.trans hk3⟩
        case measure => simp [intOf]
      · gi_wp2
        refine bodyPost_ret (results_none rfl _ _ _) rfl ?_
        exact ⟨⟨_, rfl⟩, .inr ⟨_, by rw [Hnx.out]; exact List.take_prefix _ _, hJx3⟩⟩
    · have hke : k = l.length := by omega
      subst hke
      have hneg : (l.length : Int) - 1 - (l.length : Int) = -1 := by omega
      rw [hneg]
      have Hp := Lib.hid (show pre.map Prod.snd = l.reverse by rw [hpre, List.take_of_length_le (by simp)])
      clear hpre hneg
      gi_wp2
      go_end0
      exact ⟨⟨_, rfl⟩, .inl ⟨pre, Hp.out, hJ⟩⟩

theorem backward_stops (F : Fence) (n : Nat) (h7 : F.fn 79) (hro : F.round = none) (hn : 1 ≤ n) (Bs : Nat) (K : Nat → Prop) (A : Option Addr) (c : Nat) (l : List Int) (hl : l.length ≤ 1000000) (w : World) (hK : ∀ k, K k → k < w.heap.size)
    (hBs : w.cell? ⟨Bs, 0, none⟩ = some (.slice A l.length c)) (hBl : K Bs) (hA : 0 < l.length → ∀ a, A = some a → K a.block) (hs : Seg w A (l.flatMap valC)) :
    SeqStopsK F n Try.prog 79 #[.pointer (some ⟨Bs, 0, none⟩)] encs (KeepOn K) (fun ys => ys.map Prod.snd = l.reverse) (fun pre => pre.map Prod.snd <+: l.reverse) l.length w := fun lb J Jx W hW _ _ hY h0 => by
  have hBs' : W.cell? ⟨Bs, 0, none⟩ = some (.slice A l.length c) := (hW.cell (p := ⟨Bs, 0, none⟩) (hK _ hBl)).trans hBs
  exact backward1_in F n h7 hro hn lb Bs K A c l hl J Jx hY W hBs' hBl hA (hs.keep hW) h0

set_option maxHeartbeats 1000000 in
theorem backward_calls (A : Option Addr) (len c : Nat) (w : World) :
    Calls Try.prog 74 #[.slice A len c] w fun e w' => e = .returned (.func (.func 79) #[] #[.pointer (some ⟨w.heap.size, 0, none⟩)]) ∧ w' = w.alloc (.cells #[.slice A len c] 23) := by
  go_enter Try.func74, Try.ntmps74
  go_wp2
  go_ret
  exact ⟨rfl, rfl⟩
end Go.Proofs.Ytkeefajfndmpeaa
