/-
  The law MovesFew returns true, whatever the moves.
-/
import Derived.Test.YtpjckgmhcbhphaaAlive
import Derived.Test.YtpjckgmhcbhphaaOrder
import Derived.Deep.QuietTactic
import Derived.BigQuiet
namespace Go.Proofs.Ytpjckgmhcbhphaa
open Go Go.RowKit

theorem effective_next {l : List Mv} {k : Nat} (h : k < l.length) : effective (l.take (k + 1)) = effective (l.take k) ++ (if plcEq l[k].1 l[k].2 then [] else [l[k]]) := by
  rw [take_snoc l h]
  unfold effective
  rw [List.filter_append]
  congr 1
  by_cases h0 : l[k].1 = l[k].2
  · simp [plcEq, h0]
  · simp [plcEq, h0]
theorem toC_next {free : Plc} {l : List Mv} {k : Nat} (h : k < l.length) : toC free (l.take (k + 1)) = toC free (l.take k) + (if plcEq l[k].2 free then 1 else 0) := by
  rw [take_snoc l h]
  unfold toC
  rw [List.countP_append]
  congr 1
  by_cases h0 : l[k].2 = free
  · simp [plcEq, h0]
  · simp [plcEq, h0]
theorem fromC_next {free : Plc} {l : List Mv} {k : Nat} (h : k < l.length) : fromC free (l.take (k + 1)) = fromC free (l.take k) + (if plcEq l[k].1 free then 1 else 0) := by
  rw [take_snoc l h]
  unfold fromC
  rw [List.countP_append]
  congr 1
  by_cases h0 : l[k].1 = free
  · simp [plcEq, h0]
  · simp [plcEq, h0]

theorem movesFew_walk (l : List Mv) (A : Option Addr) (c : Nat) (free : Plc) (w : World) (hs : Seg w A (l.flatMap mvC)) (hwf : ∀ m ∈ l, MvOk m) (hm : l.length ≤ maxLen) :
    Calls Try.prog 4 #[.slice A l.length c, .agg #[.bool free.1, .int .i64 free.2]] w fun e w' => e = .returned (.bool true) ∧ Keep w w' := by
  by_cases hn : l.length ≤ 25
  rotate_left
  · have Hf := Lib.hid (few_no A none none l.length 0 0 c 0 0 (w.alloc (.cells #[.bool free.1, .int .i64 free.2] 24)) hm (by simp [maxLen]) (by simp [maxLen]) (fun h => hn h.1))
    have Ha := Lib.hid (alive_calls (w.alloc (.cells #[.bool free.1, .int .i64 free.2] 24)))
    clear hn
    go_enter Try.func4, Try.ntmps4
    go_wp2_with fail
    refine Hf.out.mono ?_
    rintro e w1 ⟨rfl, rfl⟩
    go_wp2_with fail
    refine Ha.out.mono ?_
    rintro e w2 ⟨rfl, hk⟩
    go_wp2
    go_ret
    exact ⟨rfl, ((Keep.refl _).alloc _).trans hk⟩
  · have Hf := Lib.hid (few_yes A none none l.length 0 0 c 0 0 (w.alloc (.cells #[.bool free.1, .int .i64 free.2] 24)) hn (by omega) (by omega))
    have hblk := Blk.new w 24 [.bool free.1, .int .i64 free.2]
    have hsl : (orderSpec l free).length ≤ 1000000 := by
      have := order_len l free; omega
    obtain ⟨hself, hcount⟩ := order_few l free
    have heq := plc_eql
    have hneq := plc_neq
    go_enter Try.func4, Try.ntmps4
    go_wp2_with fail
    refine Hf.out.mono ?_
    rintro e w1 ⟨rfl, rfl⟩
    obtain ⟨w0, hw0⟩ : ∃ w0 : World, w0 = w.alloc (.cells #[.bool free.1, .int .i64 free.2] 24) := ⟨_, rfl⟩
    have hk00 : Keep w w0 := by rw [hw0]; exact (Keep.refl _).alloc _
    have hblk0 : Blk w0 w.heap.size 24 [.bool free.1, .int .i64 free.2] := by rw [hw0]; exact hblk
    rw [← hw0]
    clear hw0 hblk Hf
    have hs0 := hs.keep hk00
    have p0 : w0.cell? ⟨w.heap.size, 0, none⟩ = some (.bool free.1) := hblk0.cell 0
    have p1 : w0.cell? ⟨w.heap.size, 1, none⟩ = some (.int .i64 free.2) := hblk0.cell 1
    go_wp2_with fail
    refine (order_calls l A c free w0 hs0 hwf (by omega)).mono ?_
    rintro e w1 ⟨v1, rfl, hown, hk1⟩
    obtain ⟨A3, c3, rfl, _⟩ := hown.form
    have ho := hown.seg
    have hs1 := hs0.keep hk1
    have q0 := hk1.cell p0
    have q1 := hk1.cell p1
    clear p0 p1 hown
    obtain ⟨O, hO⟩ : ∃ O, O = orderSpec l free := ⟨_, rfl⟩
    rw [← hO] at hself hcount hsl ho ⊢
    clear hO
    go_wp2
    go_loopw [6, 7] (fun r i wr => ∃ k : Nat, k ≤ l.length ∧ i = .int .i64 k ∧ r = .int .i64 ((effective (l.take k)).length : Nat) ∧ Keep w1 wr) (fun _ i _ => l.length - (intOf i).toNat)
    case atStart => exact ⟨0, Nat.zero_le _, rfl, rfl, Keep.refl _⟩
    case round =>
      obtain ⟨k, hk, rfl, rfl, hkeep⟩ := hrel
      by_cases hlt : k < l.length
      · have hkk : (k : Int) < (l.length : Int) := by omega
        have hk0 : (0 : Int) ≤ (k : Int) := by omega
        obtain ⟨b, off, rfl, hb, c0, c1, c2, c3⟩ := mv_at hs1 hkeep hlt
        have hnx := effective_next hlt
        have hel : (effective (l.take k)).length ≤ k := by
          have := List.length_filter_le (fun m : Mv => m.1 != m.2) (l.take k)
          unfold effective; simp at this ⊢; omega
        cases hq : plcEq l[k].1 l[k].2
        · have Hf := Lib.hid (show (effective (l.take (k + 1))).length = (effective (l.take k)).length + 1 by rw [hnx, hq]; simp)
          clear hnx
          go_wp2_with fail
          go_quiet (fail)
          go_wp2
          go_roundw
          case rel => exact ⟨k + 1, hlt, by go_num, by rw [Hf.out]; go_num, hkeep.drewN _⟩
          case measure => simp [intOf]; omega
        · have Hf := Lib.hid (show (effective (l.take (k + 1))).length = (effective (l.take k)).length by rw [hnx, hq]; simp)
          clear hnx
          go_wp2_with fail
          go_quiet (fail)
          go_wp2
          go_roundw
          case rel => exact ⟨k + 1, hlt, by go_num, by rw [Hf.out], hkeep.drewN _⟩
          case measure => simp [intOf]; omega
      · have hke : k = l.length := by omega
        subst hke
        rw [List.take_length]
        obtain ⟨R, hR⟩ : ∃ R, R = (effective l).length := ⟨_, rfl⟩
        have hRl : R ≤ 25 := by
          have := List.length_filter_le (fun m : Mv => m.1 != m.2) l
          rw [hR]; unfold effective; omega
        rw [← hR] at hcount ⊢
        clear hR
        obtain ⟨w2, rfl⟩ : ∃ w2 : World, w2 = wr := ⟨_, rfl⟩
        have ho2 := ho.keep hkeep
        have r0 := hkeep.cell q0
        have r1 := hkeep.cell q1
        clear q0 q1 ho
        go_wp2
        go_loopw [8, 9, 10] (fun t f i wr => ∃ k : Nat, k ≤ O.length ∧ i = .int .i64 k ∧ t = .int .i64 (toC free (O.take k) : Nat) ∧ f = .int .i64 (fromC free (O.take k) : Nat) ∧ Keep w2 wr) (fun _ _ i _ => O.length - (intOf i).toNat)
        case atStart => exact ⟨0, Nat.zero_le _, rfl, rfl, rfl, Keep.refl _⟩
        case round =>
          obtain ⟨k, hk, rfl, rfl, rfl, hkp⟩ := hrel
          by_cases hlt : k < O.length
          · have hkk : (k : Int) < (O.length : Int) := by omega
            have hk0 : (0 : Int) ≤ (k : Int) := by omega
            obtain ⟨b, off, rfl, hb, c0, c1, c2, c3⟩ := mv_at ho2 hkp hlt
            have s0 := hkp.cell r0
            have s1 := hkp.cell r1
            have ht := toC_next (free := free) hlt
            have hf := fromC_next (free := free) hlt
            have htl : toC free (O.take k) ≤ k := by unfold toC; exact Nat.le_trans List.countP_le_length (by simp; omega)
            have hfl : fromC free (O.take k) ≤ k := by unfold fromC; exact Nat.le_trans List.countP_le_length (by simp; omega)
            have hsf := plcEq_false (hself O[k] (List.getElem_mem hlt))
            cases hq : plcEq O[k].2 free <;> cases hq' : plcEq O[k].1 free
            all_goals
              rw [hq] at ht
              rw [hq'] at hf
              simp only [Bool.false_eq_true, if_false, if_true, Nat.add_zero] at ht hf
              have Ht := Lib.hid ht
              have Hf := Lib.hid hf
              clear ht hf hself hcount
              go_wp2_with fail
              go_quiet (fail)
              go_wp2_with fail
              go_quiet (fail)
              go_wp2_with fail
              go_quiet (fail)
              go_wp2
              go_roundw
              case rel => exact ⟨k + 1, hlt, by go_num, by rw [Ht.out]; try go_num, by rw [Hf.out]; try go_num, hkp.drewN _⟩
              case measure => simp [intOf]; omega
          · have hke : k = O.length := by omega
            subst hke
            rw [List.take_length]
            obtain ⟨T, hT⟩ : ∃ T, T = toC free O := ⟨_, rfl⟩
            obtain ⟨F, hF⟩ : ∃ F, F = fromC free O := ⟨_, rfl⟩
            have htl : T ≤ O.length := by rw [hT]; unfold toC; exact List.countP_le_length
            have hfl : F ≤ O.length := by rw [hF]; unfold fromC; exact List.countP_le_length
            rw [← hT, ← hF] at hcount
            rw [← hT, ← hF]
            clear hT hF hself
            have Ha := Lib.hid (alive_calls wr)
            rcases hcount with h0 | ⟨h1, h2, h3⟩
            · have z : O.length = 0 := by rw [h0]; rfl
              clear h0
              have hz : ((O.length : Int) == 0) = true := by rw [z]; rfl
              go_wp2_with fail
              refine Ha.out.mono ?_
              rintro e w3 ⟨rfl, hk3⟩
              go_wp2
              go_ret
              exact ⟨rfl, (((hk00.trans hk1).trans hkeep).trans hkp).trans hk3⟩
            · by_cases hz0 : O.length = 0
              · have hz : ((O.length : Int) == 0) = true := by rw [hz0]; rfl
                clear h1 h2 h3
                go_wp2_with fail
                refine Ha.out.mono ?_
                rintro e w3 ⟨rfl, hk3⟩
                go_wp2
                go_ret
                exact ⟨rfl, (((hk00.trans hk1).trans hkeep).trans hkp).trans hk3⟩
              · have hz : ((O.length : Int) == 0) = false := by simp; intro h; rw [h] at hz0; exact hz0 rfl
                have e1 : ((O.length : Int) == (R : Int) + (T : Int)) = true := by rw [h1]; simp
                have e2 : (T : Int) ≤ (R : Int) / 2 := by omega
                have e3 : T ≤ F := by omega
                clear h1 h2 h3
                go_wp2_with fail
                refine Ha.out.mono ?_
                rintro e w3 ⟨rfl, hk3⟩
                go_wp2
                go_ret
                exact ⟨rfl, (((hk00.trans hk1).trans hkeep).trans hkp).trans hk3⟩
end Go.Proofs.Ytpjckgmhcbhphaa
