/-
  The library's stable sort of numbers: exchanges of stretches, turning.
-/
import Derived.Test.YtigidchignlpmaaRSmall
import Derived.Test.YtigidchignlpmaaRSortP
import Derived.Shelf.RegionOpenPlain
namespace Go.Proofs.Ytigidchignlpmaa
open Go Go.RowKit Rg

def natC (n : Nat) : Value := .int .i64 (n : Int)
/-- Block g holds the row; of the old blocks nothing else has changed. -/
def StR (w0 : World) (g N : Nat) (d : Row) (w : World) : Prop := Ext (fun k => k = g) w0 w ∧ Blk w g 3 ((rowL N d).map natC)
section
variable {w0 w w' : World} {g N : Nat} {d : Row}
theorem StR.cell (h : StR w0 g N d w) {i : Nat} (hi : i < N) : w.cell? ⟨g, i, none⟩ = some (.int .i64 (d i : Int)) := by
  rw [h.2.cell i, List.getElem?_map, rowL_get N d hi]; rfl
theorem StR.keep (h : StR w0 g N d w) (hk : Keep w w') : StR w0 g N d w' := ⟨h.1.keepTrans hk, h.2.keep hk⟩
theorem StR.swap (h : StR w0 g N d w) (i j : Nat) : StR w0 g N (sw d i j) ((w.setCell ⟨g, i, none⟩ (.int .i64 (d j : Int))).setCell ⟨g, j, none⟩ (.int .i64 (d i : Int))) := by
  refine ⟨(h.1.setCell (p := ⟨g, i, none⟩) (fun _ => rfl) _).setCell (p := ⟨g, j, none⟩) (fun _ => rfl) _, ?_⟩
  have := (h.2.set_ i (natC (d j))).set_ j (natC (d i))
  rw [← List.map_set, ← List.map_set, rowL_sw] at this
  exact this
theorem StR.congr {d' : Row} (h : StR w0 g N d w) (he : ∀ i, i < N → d' i = d i) : StR w0 g N d' w := by
  refine ⟨h.1, ?_⟩
  have : rowL N d' = rowL N d := by
    unfold rowL
    exact List.map_congr_left fun i hi => he i (by simpa using hi)
  rw [this]; exact h.2
end

set_option maxHeartbeats 2000000 in
set_option maxRecDepth 100000 in
theorem swapRange_calls (w0 : World) (g N : Nat) (d : Row) (w : World) (a b n c : Nat) (fv : Value) (h : StR w0 g N d w) (hab : a + n ≤ b) (hb : b + n ≤ N) (hN : N ≤ 1000000) :
    Calls Try.prog 52 #[.slice (some ⟨g, 0, none⟩) N c, .int .i64 (a : Int), .int .i64 (b : Int), .int .i64 (n : Int), fv] w fun e w' => (∃ v, e = .returned v) ∧ StR w0 g N (swR d a b n) w' := by
  have mixed : Try.prog.follows .mixedOrders = true := by kernel_rfl
  go_enter Try.func52, Try.ntmps52
  go_wp2
  go_loopw [10] (fun i wr => ∃ k : Nat, k ≤ n ∧ i = .int .i64 k ∧ StR w0 g N (swR d a b k) wr) (fun i _ => n - (intOf i).toNat)
  case atStart => exact ⟨0, Nat.zero_le _, rfl, by rw [swR_zero]; exact h⟩
  case round =>
    obtain ⟨k, hk, rfl, hst⟩ := hrel
    by_cases hlt : k < n
    · have hkk : (k : Int) < (n : Int) := by omega
      obtain ⟨e, he⟩ : ∃ e, swR d a b k = e := ⟨_, rfl⟩
      have Hn := Lib.hid (show swR d a b (k + 1) = sw e (a + k) (b + k) by rw [swR_succ d (by omega), he])
      rw [he] at hst
      clear he h
      have s1 : IntKind.i64.wrap ((a : Int) + (k : Int)) = (a : Int) + (k : Int) := IntWalk.i64_in _ (by omega)
      have s2 : IntKind.i64.wrap ((b : Int) + (k : Int)) = (b : Int) + (k : Int) := IntWalk.i64_in _ (by omega)
      have p1 : (0 : Int) ≤ (a : Int) + (k : Int) := by omega
      have p2 : (0 : Int) ≤ (b : Int) + (k : Int) := by omega
      have q1 : (a : Int) + (k : Int) < (N : Int) := by omega
      have q2 : (b : Int) + (k : Int) < (N : Int) := by omega
      have t1 : ((a : Int) + (k : Int)).toNat = a + k := by omega
      have t2 : ((b : Int) + (k : Int)).toNat = b + k := by omega
      have c1 := hst.cell (i := a + k) (by omega)
      have c2 := hst.cell (i := b + k) (by omega)
      have Hs := Lib.hid (hst.swap (a + k) (b + k))
      have ff := hst.2.frozen
      have ll := hst.2.lt
      have c3 : ∀ u, ∃ v, (wr.setCell ⟨g, a + k, none⟩ u).cell? ⟨g, b + k, none⟩ = some v := fun u => ⟨_, by
        rw [(hst.2.set_ (a + k) u).cell (b + k), List.getElem?_set_ne (by omega), List.getElem?_map, rowL_get N e (by omega)]; rfl⟩
      obtain ⟨u3, c3⟩ := c3 (.int .i64 (e (b + k) : Int))
      clear hst
      go_wp2_with fail
      go_big_region_o
      clear c1 c2 c3 ff ll
      go_wp2
      go_roundw
      case rel => exact ⟨k + 1, hlt, by go_num, by rw [Hn.out]; exact Hs.out.keep (Keep.refl _).drew⟩
      case measure => simp [intOf]; omega
    · have Hkn := Lib.hid (show StR w0 g N (swR d a b n) wr by have e : k = n := by omega
                                                               rw [← e]; exact hst)
      have hge : ¬ (k : Int) < (n : Int) := by omega
      clear hst
      go_wp2
      refine bodyPost_end (results_none rfl _ _ _) rfl ⟨⟨_, rfl⟩, Hkn.out⟩

theorem Per.swR {N a b p q : Nat} {d : Row} (hb : b ≤ N) : ∀ (k : Nat), p + k ≤ q → a ≤ p → q + k ≤ b → Per N a b d (swR d p q k)
  | 0, _, _, _ => by rw [swR_zero]; exact Per.refl _ _ _ _
  | k + 1, h1, h2, h3 => by
    rw [swR_succ d (by omega)]
    exact (Per.swR hb k (by omega) h2 (by omega)).trans (Per.sw ⟨by omega, by omega⟩ ⟨by omega, by omega⟩ hb)

set_option maxHeartbeats 2000000 in
set_option maxRecDepth 100000 in
theorem rotate_calls (w0 : World) (g N : Nat) (d : Row) (w : World) (a m b c : Nat) (fv : Value) (h : StR w0 g N d w) (ham : a < m) (hmb : m < b) (hb : b ≤ N) (hN : N ≤ 1000000) :
    Calls Try.prog 49 #[.slice (some ⟨g, 0, none⟩) N c, .int .i64 (a : Int), .int .i64 (m : Int), .int .i64 (b : Int), fv] w fun e w' => (∃ v, e = .returned v) ∧ StR w0 g N (rot d a m b) w' ∧ Per N a b d (rot d a m b) := by
  have e1 : (m : Int) - (a : Int) = ((m - a : Nat) : Int) := by omega
  have e2 : (b : Int) - (m : Int) = ((b - m : Nat) : Int) := by omega
  have s1 : IntKind.i64.wrap ((m : Int) - (a : Int)) = ((m - a : Nat) : Int) := by rw [e1]; exact IntWalk.i64_in _ (by omega)
  have s2 : IntKind.i64.wrap ((b : Int) - (m : Int)) = ((b - m : Nat) : Int) := by rw [e2]; exact IntWalk.i64_in _ (by omega)
  have E1 := Lib.hid e1
  have E2 := Lib.hid e2
  clear e1 e2
  go_enter Try.func49, Try.ntmps49
  go_wp2
  go_loopw [10, 11] (fun vi vj wr => ∃ (i j : Nat) (d' : Row), vi = .int .i64 i ∧ vj = .int .i64 j ∧ 0 < i ∧ i ≤ m - a ∧ 0 < j ∧ j ≤ b - m ∧ Hid (rot d' (m - i) m (m + j) = rot d a m b) ∧ Per N a b d d' ∧ StR w0 g N d' wr) (fun vi vj _ => (intOf vi).toNat + (intOf vj).toNat)
  case atStart => exact ⟨m - a, b - m, d, rfl, rfl, by omega, Nat.le_refl _, by omega, Nat.le_refl _, Lib.hid (by rw [show m - (m - a) = a by omega, show m + (b - m) = b by omega]), Per.refl _ _ _ _, h⟩
  case round =>
    obtain ⟨i, j, d', rfl, rfl, hi0, hi, hj0, hj, Hrot, hper, hst⟩ := hrel
    have w1 : IntKind.i64.wrap ((m : Int) - (i : Int)) = ((m - i : Nat) : Int) := by rw [show (m : Int) - (i : Int) = ((m - i : Nat) : Int) by omega]; exact IntWalk.i64_in _ (by omega)
    clear s1 s2 E1 E2 h
    rcases Nat.lt_trichotomy j i with hlt | heq | hgt
    · have t1 : decide ((j : Int) < (i : Int)) = true := decide_eq_true (by omega)
      have t1' : (j : Int) < (i : Int) := by omega
      have t0 : ((i : Int) != (j : Int)) = true := by rw [bne_iff_ne]; omega
      have w2 : IntKind.i64.wrap ((i : Int) - (j : Int)) = ((i - j : Nat) : Int) := by rw [show (i : Int) - (j : Int) = ((i - j : Nat) : Int) by omega]; exact IntWalk.i64_in _ (by omega)
      go_wp2_with fail
      refine (swapRange_calls w0 g N d' wr (m - i) m j c fv hst (by omega) (by omega) hN).mono ?_
      rintro e w' ⟨⟨u, rfl⟩, hst'⟩
      go_wp2
      go_roundw
      case rel => exact ⟨i - j, j, swR d' (m - i) m j, rfl, rfl, by omega, by omega, hj0, hj, Lib.hid (by rw [rot_more d' (by omega) hlt]; exact Hrot.out), hper.trans (Per.swR hb j (by omega) (by omega) (by omega)), hst'⟩
      case measure => simp [intOf]; omega
    · subst heq
      have t0 : ((j : Int) != (j : Int)) = false := by simp
      have hfin := fun (wx : World) (hs : StR w0 g N (swR d' (m - j) m j) wx) => (show StR w0 g N (rot d a m b) wx ∧ Per N a b d (rot d a m b) by
        rw [← Hrot.out, ← rot_eq d' (by omega)]
        exact ⟨hs, hper.trans (Per.swR hb j (by omega) (by omega) (by omega))⟩)
      have Hfin := Lib.hid hfin
      clear hfin hper Hrot
      go_wp2_with fail
      refine (swapRange_calls w0 g N d' wr (m - j) m j c fv hst (by omega) (by omega) hN).mono ?_
      rintro e w' ⟨⟨u, rfl⟩, hst'⟩
      go_wp2
      refine bodyPost_end (results_none rfl _ _ _) rfl ⟨⟨_, rfl⟩, Hfin.out _ hst'⟩
    · have t1 : decide ((j : Int) < (i : Int)) = false := decide_eq_false (by omega)
      have t1' : ¬ (j : Int) < (i : Int) := by omega
      have t0 : ((i : Int) != (j : Int)) = true := by rw [bne_iff_ne]; omega
      have w2 : IntKind.i64.wrap ((j : Int) - (i : Int)) = ((j - i : Nat) : Int) := by rw [show (j : Int) - (i : Int) = ((j - i : Nat) : Int) by omega]; exact IntWalk.i64_in _ (by omega)
      have w3 : IntKind.i64.wrap ((m : Int) + (j : Int)) = (m : Int) + (j : Int) := IntWalk.i64_in _ (by omega)
      have w4 : IntKind.i64.wrap ((m : Int) + (j : Int) - (i : Int)) = ((m + j - i : Nat) : Int) := by rw [show (m : Int) + (j : Int) - (i : Int) = ((m + j - i : Nat) : Int) by omega]; exact IntWalk.i64_in _ (by omega)
      go_wp2_with fail
      refine (swapRange_calls w0 g N d' wr (m - i) (m + j - i) i c fv hst (by omega) (by omega) hN).mono ?_
      rintro e w' ⟨⟨u, rfl⟩, hst'⟩
      go_wp2
      go_roundw
      case rel => exact ⟨i, j - i, swR d' (m - i) (m + j - i) i, rfl, rfl, hi0, hi, by omega, by omega, Lib.hid (by rw [rot_less d' (by omega) hgt]; exact Hrot.out), hper.trans (Per.swR hb i (by omega) (by omega) (by omega)), hst'⟩
      case measure => simp [intOf]; omega
end Go.Proofs.Ytigidchignlpmaa
