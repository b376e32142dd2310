/-
  The law MovesSame returns true, whatever the moves.
-/
import Derived.Test.YtpjckgmhcbhphaaAlive
import Derived.Test.YtpjckgmhcbhphaaDo
import Derived.Test.YtpjckgmhcbhphaaSame
import Derived.Test.YtpjckgmhcbhphaaRef1
namespace Go.Proofs.Ytpjckgmhcbhphaa
open Go Go.RowKit

def others (free : Plc) (l : List Plc) : List Plc := l.filter fun p => !plcEq p free
theorem others_next {free : Plc} {l : List Plc} {k : Nat} (h : k < l.length) : others free (l.take (k + 1)) = others free (l.take k) ++ (if plcEq l[k] free then [] else [l[k]]) := by
  rw [take_snoc l h]
  unfold others
  rw [List.filter_append]
  congr 1
  cases h0 : plcEq l[k] free <;> simp [h0]
theorem others_len {free : Plc} (l : List Plc) : (others free l).length ≤ l.length := List.length_filter_le _ _
theorem order_named {l : List Mv} {free : Plc} (h : namesB l free = true) : orderSpec l free = [] := by
  unfold orderSpec; rw [h]; simp
theorem main_both {l : List Mv} {free : Plc} (h1 : rightB l = true) (h2 : namesB l free = false) (at_ : List Plc) (vals : List Int) :
    oneByOneSpec (orderSpec l free) (others free at_) vals = atOnceSpec l (others free at_) vals := by
  unfold atOnceSpec oneByOneSpec
  refine List.map_congr_left fun p hp => ?_
  refine order_par h1 h2 _ ?_
  have := (List.mem_filter.1 hp).2
  intro he
  simp [plcEq, he] at this

theorem step_ok {free : Plc} (hf : PlOk free) {left : List Mv} (hne : left ≠ []) (h : ∀ m ∈ left, MvOk m) : MvOk (stepR free left).1 ∧ ∀ m ∈ (stepR free left).2, MvOk m := by
  unfold stepR
  cases hr : readyR left with
  | some i =>
    have hi : i < left.length := by simpa using List.mem_of_find?_eq_some hr
    refine ⟨?_, fun m hm => h m (List.mem_of_mem_eraseIdx hm)⟩
    show MvOk (left.getD i default)
    rw [List.getD_eq_getElem?_getD, List.getElem?_eq_getElem hi]
    exact h _ (List.getElem_mem hi)
  | none =>
    obtain ⟨x, r, rfl⟩ := List.exists_cons_of_ne_nil hne
    refine ⟨⟨(h x (by simp)).1, hf⟩, fun m hm => ?_⟩
    obtain ⟨y, hy, rfl⟩ := List.mem_map.1 hm
    unfold turn
    split
    · exact ⟨hf, (h y hy).2⟩
    · exact h y hy
theorem orderN_ok {free : Plc} (hf : PlOk free) : ∀ (n : Nat) (left : List Mv), (∀ m ∈ left, MvOk m) → ∀ m ∈ orderN free n left, MvOk m
  | 0, _, _, m, hm => by simp [orderN] at hm
  | n + 1, left, h, m, hm => by
    unfold orderN at hm
    split at hm
    · simp at hm
    · rename_i hne
      have hs := step_ok hf hne h
      rcases List.mem_cons.1 hm with rfl | hm
      · exact hs.1
      · exact orderN_ok hf n _ hs.2 m hm
theorem order_ok (l : List Mv) (free : Plc) (h : ∀ m ∈ l, MvOk m) (hf : PlOk free) : ∀ m ∈ orderSpec l free, MvOk m := by
  unfold orderSpec
  split
  · exact orderN_ok hf _ _ fun m hm => h m (List.mem_filter.1 hm).1
  · simp

theorem movesSame_walk (l : List Mv) (free : Plc) (at_ : List Plc) (vals : List Int) (A A1 A2 : Option Addr) (c c1 c2 : Nat) (w : World) (hs : Seg w A (l.flatMap mvC)) (ha : Seg w A1 (at_.flatMap plcC)) (hv : Seg w A2 (vals.flatMap u64C))
    (hwf : ∀ m ∈ l, MvOk m) (hok : ∀ p ∈ at_, PlOk p) (hm : l.length ≤ maxLen) (hm1 : at_.length ≤ maxLen) (hm2 : vals.length ≤ maxLen) (hpf : PlOk free) :
    Calls Try.prog 6 #[.slice A l.length c, .agg #[.bool free.1, .int .i64 free.2], .slice A1 at_.length c1, .slice A2 vals.length c2] w fun e w' => e = .returned (.bool true) ∧ Keep w w' := by
  obtain ⟨w0, hw0⟩ : ∃ w0 : World, w0 = w.alloc (.cells (plcC free).toArray 24) := ⟨_, rfl⟩
  have hk0 : Keep w w0 := by rw [hw0]; exact (Keep.refl _).alloc _
  have hb0 : Blk w0 w.heap.size 24 (plcC free) := by rw [hw0]; exact Blk.new _ _ _
  by_cases hn : l.length ≤ 25 ∧ at_.length ≤ 40 ∧ vals.length ≤ 60
  rotate_left
  · have Hf := Lib.hid (few_no A A1 A2 l.length at_.length vals.length c c1 c2 w0 hm hm1 hm2 hn)
    have Ha := Lib.hid (alive_calls w0)
    clear hn
    go_enter Try.func6, Try.ntmps6
    go_wp2_with fail
    show Calls Try.prog _ _ (w.alloc (.cells (plcC free).toArray 24)) _
    rw [← hw0]
    clear hw0
    refine Hf.out.mono ?_
    rintro e w1 ⟨rfl, rfl⟩
    go_wp2_with fail
    refine Ha.out.mono ?_
    rintro e w2 ⟨rfl, hk⟩
    go_wp2
    go_ret
    exact ⟨rfl, hk0.trans hk⟩
  · obtain ⟨hn0, hn1, hn2⟩ := hn
    have Hf := Lib.hid (few_yes A A1 A2 l.length at_.length vals.length c c1 c2 w0 hn0 hn1 hn2)
    have f0 : w0.cell? ⟨w.heap.size, 0, none⟩ = some (.bool free.1) := hb0.cell 0
    have f1 : w0.cell? ⟨w.heap.size, 1, none⟩ = some (.int .i64 free.2) := hb0.cell 1
    have hfl := hb0.lt
    have hs0 := hs.keep hk0
    have ha0 := ha.keep hk0
    have hv0 := hv.keep hk0
    have Hr := right_calls l A c w0 hs0 hwf (by omega)
    have heq := plc_eql
    have hneq := plc_neq
    cases hright : rightB l
    · rw [hright] at Hr
      have Hr := Lib.hid Hr
      go_enter Try.func6, Try.ntmps6
      go_wp2_with fail
      show Calls Try.prog _ _ (w.alloc (.cells (plcC free).toArray 24)) _
      rw [← hw0]
      clear hw0
      refine Hf.out.mono ?_
      rintro e w1 ⟨rfl, rfl⟩
      go_wp2_with fail
      refine Hr.out.mono ?_
      rintro e w1 ⟨rfl, hk1⟩
      go_wp2_with fail
      refine (alive_calls w1).mono ?_
      rintro e w2 ⟨rfl, hk⟩
      go_wp2
      go_ret
      exact ⟨rfl, (hk0.trans hk1).trans hk⟩
    · rw [hright] at Hr
      have Hr := Lib.hid Hr
      go_enter Try.func6, Try.ntmps6
      go_wp2_with fail
      show Calls Try.prog _ _ (w.alloc (.cells (plcC free).toArray 24)) _
      rw [← hw0]
      clear hw0
      refine Hf.out.mono ?_
      rintro e w1 ⟨rfl, rfl⟩
      go_wp2_with fail
      refine Hr.out.mono ?_
      rintro e w1 ⟨rfl, hk1⟩
      clear Hf Hr
      have hs1 := hs0.keep hk1
      have ha1 := ha0.keep hk1
      have hv1 := hv0.keep hk1
      have q0 := hk1.cell f0
      have q1 := hk1.cell f1
      have hfl1 : w.heap.size < w1.heap.size := Nat.lt_of_lt_of_le hfl hk1.size
      clear f0 f1 hb0
      go_wp2
      go_loopw [9] (fun i wr => ∃ k : Nat, k ≤ l.length ∧ i = .int .i64 k ∧ namesB (l.take k) free = false ∧ Keep w1 wr) (fun i _ => l.length - (intOf i).toNat)
      case atStart => exact ⟨0, Nat.zero_le _, rfl, by simp [namesB], Keep.refl _⟩
      case round =>
        obtain ⟨k, hk, rfl, hnd, hkeep⟩ := hrel
        have r0 := hkeep.cell q0
        have r1 := hkeep.cell q1
        by_cases hlt : k < l.length
        · obtain ⟨b, off, rfl, hb, c0, c1, c2, c3⟩ := mv_at hs1 hkeep hlt
          have hkk : (k : Int) < (l.length : Int) := by omega
          have hk0' : (0 : Int) ≤ (k : Int) := by omega
          have hnx := namesB_next hlt hnd
          cases hq1 : plcEq l[k].1 free <;> cases hq2 : plcEq l[k].2 free
          · rw [hq1, hq2] at hnx
            have Hf := Lib.hid hnx
            clear hnx hnd
            go_wp2_with fail
            go_quiet (fail)
            go_wp2
            go_roundw
            case rel => exact ⟨k + 1, hlt, by go_num, Hf.out, hkeep.drewN _⟩
            case measure => simp [intOf]; omega
          all_goals
            rw [hq1, hq2] at hnx
            have hall := namesB_all hnx
            have hcall := fun wx => order_calls l (some ⟨b, off, none⟩) c free wx
            rw [order_named hall] at hcall
            have Hf := Lib.hid hcall
            have hz0 : ((0 : Int) == 0) = true := rfl
            clear hnx hnd hall hcall
            go_wp2_with fail
            go_quiet (fail)
            have s0 := (hkeep.drewN 1).cell q0
            go_wp2_with fail
            refine (Hf.out _ (hs1.keep (hkeep.drewN _)) hwf (by omega)).mono ?_
            rintro e w2 ⟨v2, rfl, hown, hk2⟩
            obtain ⟨A3, c3, rfl, _⟩ := hown.form
            go_wp2_with fail
            refine (alive_calls w2).mono ?_
            rintro e w3 ⟨rfl, hk3⟩
            go_wp2
            go_ret
            exact ⟨rfl, (((hk0.trans hk1).trans (hkeep.drewN _)).trans hk2).trans hk3⟩
        · have hnm : namesB l free = false := by rwa [List.take_of_length_le (by omega)] at hnd
          obtain ⟨w2, rfl⟩ : ∃ w2 : World, w2 = wr := ⟨_, rfl⟩
          have hs2 := hs1.keep hkeep
          have ha2 := ha1.keep hkeep
          have hv2 := hv1.keep hkeep
          have hk02 := (hk0.trans hk1).trans hkeep
          have hfl2 : w.heap.size < w2.heap.size := Nat.lt_of_lt_of_le hfl1 hkeep.size
          clear hnd q0 q1 hs0 ha0 hv0 hs1 ha1 hv1
          go_wp2
          go_loopw [10, 11] (fun v i wr => ∃ k : Nat, k ≤ at_.length ∧ i = .int .i64 k ∧ Own plcC 2 24 wr w2.heap.size v (others free (at_.take k)) ∧ Keep w2 wr) (fun _ i _ => at_.length - (intOf i).toNat)
          case atStart => exact ⟨0, Nat.zero_le _, rfl, Own.nil _ _ _ _ _, Keep.refl _⟩
          case round =>
            obtain ⟨k, hk, rfl, hown, hkp⟩ := hrel
            obtain ⟨A3, c3, rfl, hc3, hm3⟩ := hown.form
            have t0 := hkp.cell r0
            have t1 := hkp.cell r1
            by_cases hlt : k < at_.length
            · obtain ⟨b, off, rfl, hb, d0, d1⟩ := plc_at ha2 hkp hlt
              have hkk : (k : Int) < (at_.length : Int) := by omega
              have hk0' : (0 : Int) ≤ (k : Int) := by omega
              have hnx := others_next (free := free) hlt
              have hol := others_len (free := free) (at_.take k)
              cases hq : plcEq at_[k] free
              · rw [hq] at hnx
                obtain ⟨nq, hnq⟩ : ∃ nq : Nat, nq = 0 := ⟨_, rfl⟩
                have hAp := fun n : Nat => append_run (ys := [at_[k]]) elPl ((hown.keep ((Keep.refl wr).drewN n)).alloc (.cells (plcC at_[k]).toArray 24)) (Seg.of_blk (Blk.new (wr.drewN n) 24 (plcC at_[k]))) 1 33 (by simp only [List.length_singleton, maxLen]; simp at hol; omega) (by simp only [List.length_singleton]; simp at hol; omega) (by have := hkp.size; simp; omega)
                have hnB : ∀ j, (Value.slice A3 (others free (at_.take k)).length c3).ownBlock = some j → w2.heap.size ≤ j := fun j hj => (hown.lt j hj).1
                have Hf := Lib.hid hnx
                have HA := Lib.hid hAp
                have HB := Lib.hid hnB
                clear hnx hAp hnB hnq nq
                go_wp2_with fail
                go_quiet (fail)
                obtain ⟨v', w3, hap0, hown3, hg3, _⟩ := HA.out nq
                have hap : (Builtin.append_ #[33, 33] 33 #[.slice A3 (others free (at_.take k)).length c3, .slice (some ⟨wr.heap.size, 0, none⟩) 1 1]).run Try.prog ((wr.drewN nq).alloc (.cells #[.bool at_[k].1, .int .i64 at_[k].2] 24)) = .ok v' w3 := hap0
                have Ho := Lib.hid (show Own plcC 2 24 w3 w2.heap.size v' (others free (at_.take (k + 1))) by
                  rw [Hf.out]; exact hown3)
                have Hk := Lib.hid (show Keep w2 w3 from ((hkp.drewN nq).alloc _).grown hg3 HB.out)
                clear hap0 hown3 hg3 HA HB Hf
                go_wp2_with (at_builtin; refine wpList_append_eq rfl _ _ _ rfl _ _ rfl rfl _ _ hap ?_)
                go_roundw
                case rel => exact ⟨k + 1, hlt, by go_num, Ho.out, Hk.out⟩
                case measure => simp [intOf]; omega
              · rw [hq] at hnx
                have Hf := Lib.hid (show others free (at_.take (k + 1)) = others free (at_.take k) by rw [hnx]; simp)
                clear hnx
                go_wp2_with fail
                go_quiet (fail)
                go_wp2
                go_roundw
                case rel => exact ⟨k + 1, hlt, by go_num, by rw [Hf.out]; exact hown.keep ((Keep.refl _).drewN _), hkp.drewN _⟩
                case measure => simp [intOf]; omega
            · rw [List.take_of_length_le (by omega)] at hown ⊢
              have hsp := hown.seg
              have hol := others_len (free := free) at_
              have hoo : ∀ p ∈ others free at_, PlOk p := fun p hp => hok p (List.mem_filter.1 hp).1
              have hmain := main_both hright hnm at_ vals
              have hsl : (orderSpec l free).length ≤ 1000000 := by
                have := order_len l free; omega
              have hO := order_calls l A c free wr (hs2.keep hkp) hwf (by omega)
              have hOok := order_ok l free hwf hpf
              obtain ⟨N, hN⟩ : ∃ N, N = others free at_ := ⟨_, rfl⟩
              obtain ⟨O, hOO⟩ : ∃ O, O = orderSpec l free := ⟨_, rfl⟩
              rw [← hN, ← hOO] at hmain
              rw [← hN] at hsp hol hoo ⊢
              rw [← hOO] at hsl hO hOok
              have HO := Lib.hid hO
              clear hown hN hOO hO
              go_wp2_with fail
              refine HO.out.mono ?_
              rintro e w3 ⟨v3, rfl, hown3, hk3⟩
              obtain ⟨A4, c4, rfl, _⟩ := hown3.form
              have hk23 := hkp.trans hk3
              go_wp2_with fail
              refine (oneByOne_calls O N vals A4 A3 A2 c4 c3 c2 w3 hown3.seg (hsp.keep hk3) (hv2.keep hk23) hOok hoo hsl (by omega) (by omega)).mono ?_
              rintro e w4 ⟨v4, rfl, hown4, hk4⟩
              obtain ⟨A5, c5, rfl, _⟩ := hown4.form
              have hk24 := hk23.trans hk4
              go_wp2_with fail
              refine (atOnce_calls l N vals A A3 A2 c c3 c2 w4 (hs2.keep hk24) ((hsp.keep hk3).keep hk4) (hv2.keep hk24) hwf hoo (by omega) (by omega) (by omega)).mono ?_
              rintro e w5 ⟨v5, rfl, hown5, hk5⟩
              obtain ⟨A6, c6, rfl, _⟩ := hown5.form
              have hk25 := hk24.trans hk5
              have hsame := same_calls (atOnceSpec l N vals) A5 A6 c5 c6 w5 (by rw [← hmain]; exact hown4.seg.keep hk5) hown5.seg (by simp [atOnceSpec]; omega)
              clear hown4 hown5 hmain
              go_wp2_with fail
              refine hsame.mono ?_
              rintro e w6 ⟨rfl, hk6⟩
              clear hsame
              go_wp2_with fail
              refine (alive_calls w6).mono ?_
              rintro e w7 ⟨rfl, hk7⟩
              go_wp2
              go_ret
              exact ⟨rfl, ((hk02.trans hk25).trans hk6).trans hk7⟩
end Go.Proofs.Ytpjckgmhcbhphaa
