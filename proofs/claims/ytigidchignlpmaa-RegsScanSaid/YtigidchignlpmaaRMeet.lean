/-
  Whether two live range lists meet.
-/
import Derived.Test.YtigidchignlpmaaRClos
namespace Go.Proofs.Ytigidchignlpmaa
open Go Go.RowKit Rg

theorem meets_take {l1 l2 : List Rng} {k : Nat} {r : Rng} (h : l1[k]? = some r) : meets (l1.take (k + 1)) l2 = (meets (l1.take k) l2 || meet1 r l2) := by
  unfold meets
  rw [List.take_add_one, h, List.any_append]; simp
theorem meet1_take {l : List Rng} {r s : Rng} {k : Nat} (h : l[k]? = some s) : meet1 r (l.take (k + 1)) = (meet1 r (l.take k) || decide (max r.1 s.1 < min r.2 s.2)) := by
  unfold meet1
  rw [List.take_add_one, h, List.any_append]; simp
theorem meets_of {l1 l2 : List Rng} {r s : Rng} (h1 : r ∈ l1) (h2 : s ∈ l2) (h : max r.1 s.1 < min r.2 s.2) : meets l1 l2 = true :=
  List.any_eq_true.2 ⟨r, h1, List.any_eq_true.2 ⟨s, h2, decide_eq_true h⟩⟩

set_option maxHeartbeats 2000000 in
theorem meet_calls (u1 u2 : Int) (A1 A2 : Option Addr) (l1 l2 : List Rng) (c1 c2 : Nat) (w : World) (hs1 : Seg w A1 (l1.flatMap rngC)) (hs2 : Seg w A2 (l2.flatMap rngC)) (hm1 : l1.length ≤ maxLen) (hm2 : l2.length ≤ maxLen) :
    Calls Try.prog 33 #[.agg #[.int .i64 u1, .slice A1 l1.length c1], .agg #[.int .i64 u2, .slice A2 l2.length c2]] w fun e w' => e = .returned (.bool (meets l1 l2)) ∧ Keep w w' := by
  unfold maxLen at hm1 hm2
  obtain ⟨wa, hwa⟩ : ∃ wa : World, wa = (w.alloc (.cells #[.int .i64 u1, .slice A1 l1.length c1] 45)).alloc (.cells #[.int .i64 u2, .slice A2 l2.length c2] 45) := ⟨_, rfl⟩
  obtain ⟨hka, b1, b2⟩ := two_lives w [.int .i64 u1, .slice A1 l1.length c1] [.int .i64 u2, .slice A2 l2.length c2] hwa
  have x1 : wa.cell? ⟨w.heap.size, 1, none⟩ = some (.slice A1 l1.length c1) := b1.cell 1
  have y1 : wa.cell? ⟨w.heap.size + 1, 1, none⟩ = some (.slice A2 l2.length c2) := b2.cell 1
  have bl1 := b1.lt
  have bl2 := b2.lt
  clear b1 b2
  go_enter Try.func33, Try.ntmps33
  go_wp2_with fail
  rw [← hwa]
  clear hwa
  go_wp2
  go_loopw [12] (fun i wr => ∃ k : Nat, k ≤ l1.length ∧ i = .int .i64 k ∧ Hid (meets (l1.take k) l2 = false) ∧ Keep wa wr) (fun i _ => l1.length - (intOf i).toNat)
  case atStart => exact ⟨0, Nat.zero_le _, rfl, Lib.hid rfl, Keep.refl _⟩
  case round =>
    obtain ⟨k, hk, rfl, hmeet, hkeep⟩ := hrel
    by_cases hlt : k < l1.length
    · obtain ⟨r, hr⟩ := get_some hlt
      obtain ⟨b, off, rfl, hb, p0, p1⟩ := rng_get hs1 (hka.trans hkeep) hr
      have hkk : (k : Int) < (l1.length : Int) := by omega
      have hk0 : (0 : Int) ≤ (k : Int) := by omega
      have Hn := Lib.hid (meets_take (l2 := l2) hr)
      have Hr := Lib.hid (List.mem_of_getElem? hr)
      obtain ⟨wb, hwb⟩ : ∃ wb : World, wb = wr.alloc (.cells #[.int .i64 r.1, .int .i64 r.2] 54) := ⟨_, rfl⟩
      have hkb : Keep wr wb := by rw [hwb]; exact (Keep.refl _).alloc _
      have bb : Blk wb wr.heap.size 54 [.int .i64 r.1, .int .i64 r.2] := by rw [hwb]; exact Blk.new wr _ _
      have q0 : wb.cell? ⟨wr.heap.size, 0, none⟩ = some (.int .i64 r.1) := bb.cell 0
      have q1 : wb.cell? ⟨wr.heap.size, 1, none⟩ = some (.int .i64 r.2) := bb.cell 1
      have y1' := (hkeep.trans hkb).cell y1
      have bl2' := Nat.lt_of_lt_of_le bl2 (hkeep.trans hkb).size
      have lb := bb.lt
      have y1r := hkeep.cell y1
      have bl2r := Nat.lt_of_lt_of_le bl2 hkeep.size
      have Hpre := Lib.hid hmeet
      clear hr bb hmeet
      go_wp2_with fail
      rw [← hwb]
      clear hwb
      go_wp2
      go_loopw [19] (fun i wz => ∃ j : Nat, j ≤ l2.length ∧ i = .int .i64 j ∧ Hid (meet1 r (l2.take j) = false) ∧ Keep wb wz) (fun i _ => l2.length - (intOf i).toNat)
      case atStart => exact ⟨0, Nat.zero_le _, rfl, Lib.hid rfl, Keep.refl _⟩
      case round =>
        obtain ⟨j, hj, rfl, hone, hkz⟩ := hrel
        by_cases hjl : j < l2.length
        · obtain ⟨s, hs⟩ := get_some hjl
          obtain ⟨b', off', rfl, hb', s0, s1⟩ := rng_get hs2 (((hka.trans hkeep).trans hkb).trans hkz) hs
          have hjj : (j : Int) < (l2.length : Int) := by omega
          have hj0 : (0 : Int) ≤ (j : Int) := by omega
          have Hn' := Lib.hid (meet1_take (r := r) hs)
          have Hs := Lib.hid (List.mem_of_getElem? hs)
          obtain ⟨wc, hwc⟩ : ∃ wc : World, wc = wr.alloc (.cells #[.int .i64 s.1, .int .i64 s.2] 54) := ⟨_, rfl⟩
          have hkc : Keep wr wc := by rw [hwc]; exact (Keep.refl _).alloc _
          have bc : Blk wc wr.heap.size 54 [.int .i64 s.1, .int .i64 s.2] := by rw [hwc]; exact Blk.new wr _ _
          have t0 : wc.cell? ⟨wr.heap.size, 0, none⟩ = some (.int .i64 s.1) := bc.cell 0
          have t1 : wc.cell? ⟨wr.heap.size, 1, none⟩ = some (.int .i64 s.2) := bc.cell 1
          have q0' := (hkz.trans hkc).cell q0
          have q1' := (hkz.trans hkc).cell q1
          have lc := bc.lt
          have lb' := Nat.lt_of_lt_of_le lb (hkz.trans hkc).size
          have Hone := Lib.hid hone
          clear hs bc hone
          subst hwc
          obtain ⟨mx, hmx⟩ : ∃ mx, (if r.1 < s.1 then s.1 else r.1) = mx := ⟨_, rfl⟩
          obtain ⟨mn, hmn⟩ : ∃ mn, (if s.2 < r.2 then s.2 else r.2) = mn := ⟨_, rfl⟩
          have Ed := Lib.hid (show decide (max r.1 s.1 < min r.2 s.2) = decide (mx < mn) by
            rw [← hmx, ← hmn, decide_eq_decide]
            split <;> split <;> omega)
          cases d : decide (mx < mn)
          · have Hd := Lib.hid (show meet1 r (l2.take (j + 1)) = false by rw [Hn'.out, Hone.out.out, Ed.out, d]; rfl)
            go_wp2
            go_roundw
            case rel => exact ⟨j + 1, hjl, by go_num, Hd, hkz.trans hkc⟩
            case measure => simp [intOf]; omega
          · have Hd := Lib.hid (meets_of Hr.out Hs.out (of_decide_eq_true (Ed.out.trans d)))
            go_wp2
            go_ret
            exact ⟨by rw [Hd.out]; rfl, ((hka.trans hkeep).trans hkb).trans (hkz.trans hkc)⟩
        · have hjl2 : j = l2.length := by omega
          have Hd := Lib.hid (show meets (l1.take (k + 1)) l2 = false by
            have := hone.out
            rw [hjl2, List.take_length] at this
            rw [Hn.out, Hpre.out.out, this]; rfl)
          clear hjl2 hone
          go_wp2
          go_roundw
          case rel => exact ⟨k + 1, hlt, by go_num, Hd, (hkeep.trans hkb).trans hkz⟩
          case measure => simp [intOf]; omega
    · have hkl : k = l1.length := by omega
      have Hy := Lib.hid (show meets l1 l2 = false by
        have := hmeet.out
        rwa [hkl, List.take_length] at this)
      clear hkl hmeet
      go_wp2
      go_ret
      exact ⟨by rw [Hy.out]; rfl, hka.trans hkeep⟩
end Go.Proofs.Ytigidchignlpmaa
