/-
  The iterators that go backwards over a row.
-/
import Derived.Test.YtjpmiejgcnfiiaaLBehind
import Derived.RangeFuncNested
import Derived.RangeFuncBound
import Derived.RangeFuncCalls
import Derived.RangeFuncLeaves
import Derived.Shelf.Abstract
import Derived.Shelf.RegionOpen
import Derived.OwnWalkIn
import Derived.TacticsInMore
import Derived.LoopNIn
import Derived.LoopIn
set_option linter.unusedVariables false
set_option linter.unusedSimpArgs false
namespace Go.Proofs.Ytjpmiejgcnfiiaa
open Go Go.RowKit Go.Shelf
attribute [local go_sem] Oper.semAt_some

/-- The last k of n, the last first. -/
def dn {n : Nat} : (k : Nat) → k ≤ n → List (Fin n)
  | 0, _ => []
  | k + 1, h => dn k (by omega) ++ [⟨n - 1 - k, by omega⟩]
theorem dn_len {n : Nat} : ∀ (k : Nat) (h : k ≤ n), (dn k h).length = k
  | 0, _ => rfl
  | k + 1, h => by rw [dn, List.length_append, dn_len k]; rfl

set_option maxRecDepth 100000 in
set_option maxHeartbeats 2000000 in
theorem backI_one (F : Fence) (n : Nat) (hf : F.fn 47) (hro : F.round = none) (hn : 1 ≤ n) (l Bs cap : Nat) (T : Nat → Prop) (A : Option Addr) (zs : List Int) (hreach : zs.length ≤ maxLen) (J Jx : List (Fin zs.length) → World → Prop)
    (hY : ∀ pre x W, J pre W → pre.length < zs.length → YieldAt F (n - 1) Try.prog l ((fun i : Fin zs.length => #[.int .i64 (i.1 : Int), .int .i64 zs[i.1]]) x) W fun e W' =>
      (e = .returned (.bool true) ∧ J (pre ++ [x]) W' ∧ Ext T W W') ∨ (e = .returned (.bool false) ∧ Jx (pre ++ [x]) W'))
    (W : World) (hBs : W.cell? ⟨Bs, 0, none⟩ = some (.slice A zs.length cap)) (hB : ¬ T Bs) (hc : Seg W A (zs.flatMap intC)) (hA : ∀ ad, A = some ad → zs ≠ [] → ¬ T ad.block) (h0 : J [] W) :
    CallsIn F n Try.prog 47 #[.func (.yield l) #[] #[], .pointer (some ⟨Bs, 0, none⟩)] W fun e W' => (∃ v, e = .returned v) ∧
      ((∃ ys, ys = dn zs.length (Nat.le_refl _) ∧ J ys W') ∨ (∃ pre, True ∧ Jx pre W')) := by
  have HY := Lib.hid hY
  have Hc := Lib.hid hc
  have HA := Lib.hid hA
  clear hY hc hA
  unfold maxLen at hreach
  obtain ⟨m, hm⟩ : ∃ m, zs.length = m := ⟨_, rfl⟩
  have Hm := Lib.hid hm
  have Hdn := Lib.hid (show ∀ k (h : k ≤ m), True from fun _ _ => trivial)
  refine callsIn_of_wp Try.func47 rfl hf ?_ hro
  simp only [Try.ntmps47, List.size_toArray, List.length_cons, List.length_nil, Nat.reduceAdd, Nat.reduceSub, Array.replicate_succ, Array.replicate_zero, List.push_toArray, List.append_toArray, List.nil_append, List.cons_append]
  rw [hm] at hBs
  have hm1 : m ≤ 2 ^ 63 - 1 := by omega
  clear hm Hdn
  have sw : IntKind.i64.wrap ((m : Int) - 1) = (m : Int) - 1 := IntWalk.i64_in _ (by omega)
  gi_wp2
  gi_loopw [3] (fun i wr => ∃ (k : Nat) (h : k ≤ zs.length) (iv : Int), iv = (m : Int) - 1 - (k : Int) ∧ i = .int .i64 iv ∧ Hid (J (dn k h) wr) ∧ Hid (Ext T W wr)) (fun i _ => (intOf i + 1).toNat)
  case atStart => exact ⟨0, Nat.zero_le _, (m : Int) - 1, by simp, by first | rfl | rw [sw], Lib.hid h0, Lib.hid (Ext.refl _ _)⟩
  case round =>
    obtain ⟨k, hk, iv, hiv, rfl, hJs, hnx⟩ := hrel
    have hBr := (World.cell?_of_block (hnx.out.block Bs (World.block_lt_of_cell? _ _ hBs) hB)).trans hBs
    by_cases hlt : k < m
    · obtain ⟨j, rfl⟩ : ∃ j : Nat, iv = (j : Int) := ⟨iv.toNat, by omega⟩
      have hjm : j < m := by omega
      have hjz : j < zs.length := by rw [Hm.out]; exact hjm
      have Hje := Lib.hid (show zs.length - 1 - k = j by rw [Hm.out]; omega)
      obtain ⟨b, off, hA', hb, q0⟩ := int_at Hc.out (Keep.refl _) hjz
      subst hA'
      have hb0 := HA.out _ rfl (fun e => by rw [e] at hjz; simp at hjz)
      have q1 := (World.cell?_of_block (a := ⟨b, off + j, none⟩) (hnx.out.block b hb hb0)).trans q0
      clear q0
      obtain ⟨fn, tmps, assign, body, hy, hR⟩ := HY.out _ (⟨j, hjz⟩ : Fin zs.length) wr hJs.out (by rw [dn_len]; rw [Hm.out]; exact hlt)
      dsimp only at hy

      have HR := Lib.hid hR
      have hj1 : (0 : Int) ≤ (j : Int) := by omega
      have hj2 : (j : Int) < (m : Int) := by omega
      have hk1 : k + 1 ≤ zs.length := by rw [Hm.out]; omega
      have Hnext := Lib.hid (show ∀ W', J (dn k hk ++ [⟨j, hjz⟩]) W' → J (dn (k + 1) hk1) W' from fun W' h => by
        rw [dn]
        have : (⟨zs.length - 1 - k, by rw [Hm.out]; omega⟩ : Fin zs.length) = ⟨j, hjz⟩ := Fin.ext Hje.out
        rw [this]; exact h)
      have Hjk := Lib.hid (show (j : Int) = (m : Int) - 1 - (k : Int) from hiv)
      clear hR hiv
      gi_wp2
      refine HR.out.mono ?_
      rintro e W3 (⟨rfl, hJ3, hk3⟩ | ⟨rfl, hJx3⟩)
      · have sj : IntKind.i64.wrap ((j : Int) - 1) = (j : Int) - 1 := IntWalk.i64_in _ (by omega)
        gi_wp2
        go_roundw
        case rel => exact ⟨k + 1, hk1, (j : Int) - 1, by have := Hjk.out; omega, by first | rfl | rw [sj], Lib.hid (Hnext.out _ hJ3), Lib.hid (hnx.out.trans hk3 (fun _ _ h => h))⟩
        case measure => simp [intOf] <;> omega
      · gi_wp2
        refine bodyPost_ret (results_none rfl _ _ _) rfl ?_
        exact ⟨⟨_, rfl⟩, .inr ⟨_, trivial, hJx3⟩⟩
    · obtain rfl : k = m := by have := Hm.out; omega
      obtain rfl : iv = -1 := by omega
      have Hend := Lib.hid (show ∃ ys, ys = dn zs.length (Nat.le_refl _) ∧ J ys wr from ⟨_, rfl, by
        have h := hJs.out
        revert hk h
        have := Hm.out
        subst this
        intro hk _ h
        exact h⟩)
      gi_wp2
      go_end0
      exact ⟨⟨_, rfl⟩, .inl Hend.out⟩

set_option maxHeartbeats 1000000 in
theorem backI_calls (F : Fence) (n : Nat) (hf : F.fn 31) (hro : F.round = none) (a : Option Addr) (len cap : Nat) (w : World) :
    CallsIn F n Try.prog 31 #[.slice a len cap] w fun e w' => e = .returned (.func (.func 47) #[] #[.pointer (some ⟨w.heap.size, 0, none⟩)]) ∧ w' = w.alloc (.cells #[.slice a len cap] 33) := by
  refine callsIn_of_wp Try.func31 rfl hf ?_ hro
  simp only [Try.ntmps31, List.size_toArray, List.length_cons, List.length_nil, Nat.reduceAdd, Nat.reduceSub, Array.replicate_succ, Array.replicate_zero, List.push_toArray, List.append_toArray, List.nil_append, List.cons_append]
  gi_wp2
  go_ret
  exact ⟨rfl, rfl⟩
/-- All of the row, the last first. -/
theorem backI_stops (F : Fence) (n : Nat) (hf : F.fn 47) (hro : F.round = none) (hn : 1 ≤ n) (Bs cap : Nat) (T : Nat → Prop) (A : Option Addr) (zs : List Int) (hreach : zs.length ≤ maxLen) (w : World) (hBs : ¬ T Bs)
    (hc : w.cell? ⟨Bs, 0, none⟩ = some (.slice A zs.length cap)) (hI : Seg w A (zs.flatMap intC)) (hA : ∀ ad, A = some ad → zs ≠ [] → ¬ T ad.block) :
    SeqStopsK F n Try.prog 47 #[.pointer (some ⟨Bs, 0, none⟩)] (fun i : Fin zs.length => #[.int .i64 (i.1 : Int), .int .i64 zs[i.1]]) (Ext T) (fun ys => ys = dn zs.length (Nat.le_refl _)) (fun _ => True) zs.length w := fun l J Jx W hW _ _ hY h0 =>
  backI_one F n hf hro hn l Bs cap T A zs hreach J Jx hY W ((hW.cell (p := ⟨Bs, 0, none⟩) (World.block_lt_of_cell? _ _ hc)).trans hc) hBs (hI.keep hW) hA h0

set_option maxRecDepth 100000 in
set_option maxHeartbeats 2000000 in
theorem backS_one (F : Fence) (n : Nat) (hf : F.fn 62) (hro : F.round = none) (hn : 1 ≤ n) (l Bs cap : Nat) (T : Nat → Prop) (A : Option Addr) (zs : List InD) (hreach : zs.length ≤ maxLen) (J Jx : List (Fin zs.length) → World → Prop)
    (hY : ∀ pre x W, J pre W → pre.length < zs.length → YieldAt F (n - 1) Try.prog l ((fun i : Fin zs.length => #[.int .i64 (i.1 : Int), .agg (inC zs[i.1]).toArray]) x) W fun e W' =>
      (e = .returned (.bool true) ∧ J (pre ++ [x]) W' ∧ Ext T W W') ∨ (e = .returned (.bool false) ∧ Jx (pre ++ [x]) W'))
    (W : World) (hBs : W.cell? ⟨Bs, 0, none⟩ = some (.slice A zs.length cap)) (hB : ¬ T Bs) (hc : Seg W A (zs.flatMap inC)) (hA : ∀ ad, A = some ad → zs ≠ [] → ¬ T ad.block) (h0 : J [] W) :
    CallsIn F n Try.prog 62 #[.func (.yield l) #[] #[], .pointer (some ⟨Bs, 0, none⟩)] W fun e W' => (∃ v, e = .returned v) ∧
      ((∃ ys, ys = dn zs.length (Nat.le_refl _) ∧ J ys W') ∨ (∃ pre, True ∧ Jx pre W')) := by
  have HY := Lib.hid hY
  have Hc := Lib.hid hc
  have HA := Lib.hid hA
  clear hY hc hA
  unfold maxLen at hreach
  obtain ⟨m, hm⟩ : ∃ m, zs.length = m := ⟨_, rfl⟩
  have Hm := Lib.hid hm
  have Hdn := Lib.hid (show ∀ k (h : k ≤ m), True from fun _ _ => trivial)
  refine callsIn_of_wp Try.func62 rfl hf ?_ hro
  simp only [Try.ntmps62, List.size_toArray, List.length_cons, List.length_nil, Nat.reduceAdd, Nat.reduceSub, Array.replicate_succ, Array.replicate_zero, List.push_toArray, List.append_toArray, List.nil_append, List.cons_append]
  rw [hm] at hBs
  have hm1 : m ≤ 2 ^ 63 - 1 := by omega
  clear hm Hdn
  have sw : IntKind.i64.wrap ((m : Int) - 1) = (m : Int) - 1 := IntWalk.i64_in _ (by omega)
  gi_wp2
  gi_loopw [3] (fun i wr => ∃ (k : Nat) (h : k ≤ zs.length) (iv : Int), iv = (m : Int) - 1 - (k : Int) ∧ i = .int .i64 iv ∧ Hid (J (dn k h) wr) ∧ Hid (Ext T W wr)) (fun i _ => (intOf i + 1).toNat)
  case atStart => exact ⟨0, Nat.zero_le _, (m : Int) - 1, by simp, by first | rfl | rw [sw], Lib.hid h0, Lib.hid (Ext.refl _ _)⟩
  case round =>
    obtain ⟨k, hk, iv, hiv, rfl, hJs, hnx⟩ := hrel
    have hBr := (World.cell?_of_block (hnx.out.block Bs (World.block_lt_of_cell? _ _ hBs) hB)).trans hBs
    by_cases hlt : k < m
    · obtain ⟨j, rfl⟩ : ∃ j : Nat, iv = (j : Int) := ⟨iv.toNat, by omega⟩
      have hjm : j < m := by omega
      have hjz : j < zs.length := by rw [Hm.out]; exact hjm
      have Hje := Lib.hid (show zs.length - 1 - k = j by rw [Hm.out]; omega)
      obtain ⟨b, off, hA', hb, hcs⟩ := in_get Hc.out (Keep.refl _) (List.getElem?_eq_getElem hjz)
      subst hA'
      have hb0 := HA.out _ rfl (fun e => by rw [e] at hjz; simp at hjz)
      have q0 := (World.cell?_of_block (a := ⟨b, off + j * 7, none⟩) (hnx.out.block b hb hb0)).trans (by have := hcs 0 _ rfl; simpa using this)
      have q1 := (World.cell?_of_block (a := ⟨b, off + j * 7 + 1, none⟩) (hnx.out.block b hb hb0)).trans (hcs 1 _ rfl)
      have q2 := (World.cell?_of_block (a := ⟨b, off + j * 7 + 2, none⟩) (hnx.out.block b hb hb0)).trans (hcs 2 _ rfl)
      have q3 := (World.cell?_of_block (a := ⟨b, off + j * 7 + 3, none⟩) (hnx.out.block b hb hb0)).trans (hcs 3 _ rfl)
      have q4 := (World.cell?_of_block (a := ⟨b, off + j * 7 + 4, none⟩) (hnx.out.block b hb hb0)).trans (hcs 4 _ rfl)
      have q5 := (World.cell?_of_block (a := ⟨b, off + j * 7 + 5, none⟩) (hnx.out.block b hb hb0)).trans (hcs 5 _ rfl)
      have q6 := (World.cell?_of_block (a := ⟨b, off + j * 7 + 6, none⟩) (hnx.out.block b hb hb0)).trans (hcs 6 _ rfl)
      clear hcs
      obtain ⟨fn, tmps, assign, body, hy, hR⟩ := HY.out _ (⟨j, hjz⟩ : Fin zs.length) wr hJs.out (by rw [dn_len]; rw [Hm.out]; exact hlt)
      dsimp only at hy
      rw [show (Value.agg (inC zs[j]).toArray) = .agg #[.int .i64 zs[j].kind, .int .i64 zs[j].op, .int .i64 zs[j].a, .int .i64 zs[j].b, .int .u64 zs[j].n, zs[j].args.v, zs[j].outs.v] from rfl] at hy
      have HR := Lib.hid hR
      have hj1 : (0 : Int) ≤ (j : Int) := by omega
      have hj2 : (j : Int) < (m : Int) := by omega
      have hk1 : k + 1 ≤ zs.length := by rw [Hm.out]; omega
      have Hnext := Lib.hid (show ∀ W', J (dn k hk ++ [⟨j, hjz⟩]) W' → J (dn (k + 1) hk1) W' from fun W' h => by
        rw [dn]
        have : (⟨zs.length - 1 - k, by rw [Hm.out]; omega⟩ : Fin zs.length) = ⟨j, hjz⟩ := Fin.ext Hje.out
        rw [this]; exact h)
      have Hjk := Lib.hid (show (j : Int) = (m : Int) - 1 - (k : Int) from hiv)
      clear hR hiv
      gi_wp2
      refine HR.out.mono ?_
      rintro e W3 (⟨rfl, hJ3, hk3⟩ | ⟨rfl, hJx3⟩)
      · have sj : IntKind.i64.wrap ((j : Int) - 1) = (j : Int) - 1 := IntWalk.i64_in _ (by omega)
        gi_wp2
        go_roundw
        case rel => exact ⟨k + 1, hk1, (j : Int) - 1, by have := Hjk.out; omega, by first | rfl | rw [sj], Lib.hid (Hnext.out _ hJ3), Lib.hid (hnx.out.trans hk3 (fun _ _ h => h))⟩
        case measure => simp [intOf] <;> omega
      · gi_wp2
        refine bodyPost_ret (results_none rfl _ _ _) rfl ?_
        exact ⟨⟨_, rfl⟩, .inr ⟨_, trivial, hJx3⟩⟩
    · obtain rfl : k = m := by have := Hm.out; omega
      obtain rfl : iv = -1 := by omega
      have Hend := Lib.hid (show ∃ ys, ys = dn zs.length (Nat.le_refl _) ∧ J ys wr from ⟨_, rfl, by
        have h := hJs.out
        revert hk h
        have := Hm.out
        subst this
        intro hk _ h
        exact h⟩)
      gi_wp2
      go_end0
      exact ⟨⟨_, rfl⟩, .inl Hend.out⟩

set_option maxHeartbeats 1000000 in
theorem backS_calls (F : Fence) (n : Nat) (hf : F.fn 48) (hro : F.round = none) (a : Option Addr) (len cap : Nat) (w : World) :
    CallsIn F n Try.prog 48 #[.slice a len cap] w fun e w' => e = .returned (.func (.func 62) #[] #[.pointer (some ⟨w.heap.size, 0, none⟩)]) ∧ w' = w.alloc (.cells #[.slice a len cap] 38) := by
  refine callsIn_of_wp Try.func48 rfl hf ?_ hro
  simp only [Try.ntmps48, List.size_toArray, List.length_cons, List.length_nil, Nat.reduceAdd, Nat.reduceSub, Array.replicate_succ, Array.replicate_zero, List.push_toArray, List.append_toArray, List.nil_append, List.cons_append]
  gi_wp2
  go_ret
  exact ⟨rfl, rfl⟩
/-- All of the row, the last first. -/
theorem backS_stops (F : Fence) (n : Nat) (hf : F.fn 62) (hro : F.round = none) (hn : 1 ≤ n) (Bs cap : Nat) (T : Nat → Prop) (A : Option Addr) (zs : List InD) (hreach : zs.length ≤ maxLen) (w : World) (hBs : ¬ T Bs)
    (hc : w.cell? ⟨Bs, 0, none⟩ = some (.slice A zs.length cap)) (hI : Seg w A (zs.flatMap inC)) (hA : ∀ ad, A = some ad → zs ≠ [] → ¬ T ad.block) :
    SeqStopsK F n Try.prog 62 #[.pointer (some ⟨Bs, 0, none⟩)] (fun i : Fin zs.length => #[.int .i64 (i.1 : Int), .agg (inC zs[i.1]).toArray]) (Ext T) (fun ys => ys = dn zs.length (Nat.le_refl _)) (fun _ => True) zs.length w := fun l J Jx W hW _ _ hY h0 =>
  backS_one F n hf hro hn l Bs cap T A zs hreach J Jx hY W ((hW.cell (p := ⟨Bs, 0, none⟩) (World.block_lt_of_cell? _ _ hc)).trans hc) hBs (hI.keep hW) hA h0
end Go.Proofs.Ytjpmiejgcnfiiaa
