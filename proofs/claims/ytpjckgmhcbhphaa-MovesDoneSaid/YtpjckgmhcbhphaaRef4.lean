/-
  The reference: find, has, AtOnce.
-/
import Derived.Test.YtpjckgmhcbhphaaValue
import Derived.Test.YtpjckgmhcbhphaaDo
import Derived.Test.YtpjckgmhcbhphaaRef2
namespace Go.Proofs.Ytpjckgmhcbhphaa
open Go Go.RowKit

theorem refFind_calls (l : List Plc) (A : Option Addr) (c : Nat) (p : Plc) (w : World) (hs : Seg w A (l.flatMap plcC)) (hn : l.length ≤ 1000000) :
    Calls Try.prog 32 #[.slice A l.length c, .agg #[.bool p.1, .int .i64 p.2]] w fun e w' => e = .returned (.int .i64 (idxP l p)) ∧ Keep w w' := by
  have heq := plc_eql
  go_enter Try.func32, Try.ntmps32
  go_wp2
  go_loopw [5] (fun i wr => ∃ k : Nat, k ≤ l.length ∧ i = .int .i64 k ∧ (¬ p ∈ l.take k) ∧ Keep (w.alloc (.cells (plcC p).toArray 24)) wr) (fun i _ => l.length - (intOf i).toNat)
  case atStart => exact ⟨0, Nat.zero_le _, rfl, by simp, Keep.refl _⟩
  case round =>
    obtain ⟨k, hk, rfl, hnd, hkeep⟩ := hrel
    have hw0 : Keep w wr := ((Keep.refl w).alloc _).trans hkeep
    have hblk := (Blk.new w 24 (plcC p)).keep hkeep
    have p0 : wr.cell? ⟨w.heap.size, 0, none⟩ = some (.bool p.1) := hblk.cell 0
    have p1 : wr.cell? ⟨w.heap.size, 1, none⟩ = some (.int .i64 p.2) := hblk.cell 1
    clear hblk
    by_cases hlt : k < l.length
    · obtain ⟨b, off, rfl, hb, c0, c1⟩ := plc_at hs hw0 hlt
      have hkk : (k : Int) < (l.length : Int) := by omega
      have hk0 : (0 : Int) ≤ (k : Int) := by omega
      by_cases hq : l[k] = p
      · have hd := plcEq_true hq
        have Hf := Lib.hid (idxP_found hlt hq hnd)
        clear hq hnd
        go_wp2_with fail
        go_quiet (fail)
        go_wp2
        go_ret
        exact ⟨by rw [Hf.out]; rfl, (hw0.drewN _)⟩
      · have hd := plcEq_false hq
        have hnx : ¬ p ∈ l.take (k + 1) := fun hm => by
          rw [take_snoc l hlt] at hm
          rcases List.mem_append.1 hm with h | h
          · exact hnd h
          · exact hq (List.mem_singleton.1 h).symm
        have Hf := Lib.hid hnx
        clear hq hnd hnx
        go_wp2_with fail
        go_quiet (fail)
        go_wp2
        go_roundw
        case rel => exact ⟨k + 1, hlt, by go_num, Hf.out, hkeep.drewN _⟩
        case measure => simp [intOf]; omega
    · have hf : idxP l p = -1 := by
        unfold idxP
        rw [List.take_of_length_le (by omega)] at hnd
        rw [if_neg hnd]
      have Hf := Lib.hid hf
      clear hf hnd
      go_wp2
      go_ret
      exact ⟨by rw [Hf.out]; rfl, hw0⟩

theorem refHas_calls (p : Plc) (l : List Plc) (vals : List Int) (A A2 : Option Addr) (c c2 : Nat) (w : World) (hs : Seg w A (l.flatMap plcC)) (hv : Seg w A2 (vals.flatMap u64C)) (hn : l.length ≤ 1000000) (hm : vals.length ≤ 1000000) :
    Calls Try.prog 29 #[.slice A l.length c, .slice A2 vals.length c2, .agg #[.bool p.1, .int .i64 p.2]] w fun e w' => e = .returned (.int .u64 (valueOf l vals p)) ∧ Keep w w' := by
  have hcall := refFind_calls l A c p (w.alloc (.cells #[.bool p.1, .int .i64 p.2] 24)) (hs.keep ((Keep.refl _).alloc _)) hn
  rcases idxP_cases l p with ⟨hi, hp⟩ | ⟨k, hi, hp, hk, hkl⟩
  · rw [hi] at hcall
    have Hcall := Lib.hid hcall
    have Hv := Lib.hid (show valueOf l vals p = 0 by unfold valueOf; rw [if_neg hp])
    clear hcall hi hp
    go_enter Try.func29, Try.ntmps29
    go_wp2_with fail
    refine Hcall.out.mono ?_
    rintro e w1 ⟨rfl, hk1⟩
    go_wp2
    go_ret
    exact ⟨by rw [Hv.out]; rfl, ((Keep.refl _).alloc _).trans hk1⟩
  · rw [hi] at hcall
    have Hcall := Lib.hid hcall
    by_cases hlt : k < vals.length
    · have Hv := Lib.hid (show valueOf l vals p = vals[k] by unfold valueOf; rw [if_pos hp, hk, List.getElem?_eq_getElem hlt]; rfl)
      clear hcall hi hp hk
      go_enter Try.func29, Try.ntmps29
      go_wp2_with fail
      refine Hcall.out.mono ?_
      rintro e w1 ⟨rfl, hk1⟩
      have hkw : Keep w w1 := ((Keep.refl _).alloc _).trans hk1
      obtain ⟨b, off, rfl, hb, c0⟩ := val_at hv hkw hlt
      go_wp2
      go_ret
      exact ⟨by rw [Hv.out]; rfl, hkw⟩
    · have Hv := Lib.hid (show valueOf l vals p = 0 by unfold valueOf; rw [if_pos hp, hk, List.getElem?_eq_none (by omega)]; rfl)
      clear hcall hi hp hk
      go_enter Try.func29, Try.ntmps29
      go_wp2_with fail
      refine Hcall.out.mono ?_
      rintro e w1 ⟨rfl, hk1⟩
      go_wp2
      go_ret
      exact ⟨by rw [Hv.out]; rfl, ((Keep.refl _).alloc _).trans hk1⟩

def atOnceSpecK (l : List Mv) (at_ : List Plc) (vals : List Int) (k : Nat) : List Int := (at_.take k).map (parS (valueOf at_ vals) l)

theorem refAtOnce_calls (l : List Mv) (at_ : List Plc) (vals : List Int) (A A1 A2 : Option Addr) (c c1 c2 : Nat) (w : World) (hs : Seg w A (l.flatMap mvC)) (ha : Seg w A1 (at_.flatMap plcC)) (hv : Seg w A2 (vals.flatMap u64C))
    (hn : l.length ≤ 1000000) (hn1 : at_.length ≤ 1000000) (hn2 : vals.length ≤ 1000000) :
    Calls Try.prog 19 #[.slice A l.length c, .slice A1 at_.length c1, .slice A2 vals.length c2] w fun e w' => ∃ v, e = .returned v ∧ Own u64C 1 39 w' w.heap.size v (atOnceSpec l at_ vals) ∧ Keep w w' := by
  have heq := plc_eql
  go_enter Try.func19, Try.ntmps19
  go_wp2
  go_loopw [7, 8] (fun v i wr => ∃ k : Nat, k ≤ at_.length ∧ i = .int .i64 k ∧ Own u64C 1 39 wr w.heap.size v (atOnceSpecK l at_ vals k) ∧ Keep w wr) (fun _ i _ => at_.length - (intOf i).toNat)
  case atStart => exact ⟨0, Nat.zero_le _, rfl, Own.nil _ _ _ _ _, Keep.refl _⟩
  case round =>
    obtain ⟨k, hk, rfl, hown, hkeep⟩ := hrel
    by_cases hlt : k < at_.length
    · obtain ⟨b1, off1, rfl, hb1, d0, d1⟩ := plc_at ha hkeep hlt
      have hkk : (k : Int) < (at_.length : Int) := by omega
      have hk0 : (0 : Int) ≤ (k : Int) := by omega
      have Hc := Lib.hid (refHas_calls at_[k] at_ vals (some ⟨b1, off1, none⟩) A2 c1 c2 wr (ha.keep hkeep) (hv.keep hkeep) hn1 hn2)
      have Hown := Lib.hid hown
      clear hown
      go_wp2_with fail
      refine Hc.out.mono ?_
      rintro e w1 ⟨rfl, hk1⟩
      have hkw := hkeep.trans hk1
      clear Hc
      have hob := Lib.hid (Hown.out.keep hk1)
      clear Hown
      go_wp2
      go_loopw [9, 10] (fun n i wi => ∃ j : Nat, j ≤ l.length ∧ i = .int .i64 j ∧ n = .int .u64 (parS (valueOf at_ vals) (l.take j) at_[k]) ∧ Keep w1 wi) (fun _ i _ => l.length - (intOf i).toNat)
      case atStart => exact ⟨0, Nat.zero_le _, rfl, rfl, Keep.refl _⟩
      case round =>
        obtain ⟨j, hj, rfl, rfl, hki⟩ := hrel
        have hkw2 := hkw.trans hki
        obtain ⟨wi, rfl⟩ : ∃ wi : World, wi = wr := ⟨_, rfl⟩
        by_cases hlj : j < l.length
        · obtain ⟨b, off, rfl, hb, c0, c1', c2', c3⟩ := mv_at hs hkw2 hlj
          have e0 := (hk1.trans hki).cell d0
          have e1 := (hk1.trans hki).cell d1
          have hjj : (j : Int) < (l.length : Int) := by omega
          have hj0 : (0 : Int) ≤ (j : Int) := by omega
          have hnx : parS (valueOf at_ vals) (l.take (j + 1)) at_[k] = if l[j].2 = at_[k] then valueOf at_ vals l[j].1 else parS (valueOf at_ vals) (l.take j) at_[k] := by
            rw [take_snoc l hlj, parS_snoc]
          by_cases hq : l[j].2 = at_[k]
          · have hd := plcEq_true hq
            rw [if_pos hq] at hnx
            have Hf := Lib.hid hnx
            have Hc := Lib.hid (fun n : Nat => refHas_calls l[j].1 at_ vals (some ⟨b1, off1, none⟩) A2 c1 c2 (wi.drewN n) (ha.keep (hkw2.drewN n)) (hv.keep (hkw2.drewN n)) hn1 hn2)
            clear hq hnx
            go_wp2_with fail
            go_quiet (fail)
            go_wp2_with fail
            refine (Hc.out _).mono ?_
            rintro e w2 ⟨rfl, hk2⟩
            go_wp2
            go_roundw
            case rel => exact ⟨j + 1, hlj, by go_num, by rw [Hf.out], (hki.drewN _).trans hk2⟩
            case measure => simp [intOf]; omega
          · have hd := plcEq_false hq
            rw [if_neg hq] at hnx
            have Hf := Lib.hid hnx
            clear hq hnx
            go_wp2_with fail
            go_quiet (fail)
            go_wp2
            go_roundw
            case rel => exact ⟨j + 1, hlj, by go_num, by rw [Hf.out], hki.drewN _⟩
            case measure => simp [intOf]; omega
        · rw [List.take_of_length_le (by omega)]
          obtain ⟨x, hx⟩ : ∃ x, x = parS (valueOf at_ vals) l at_[k] := ⟨_, rfl⟩
          rw [← hx]
          have hown2 := (hob.out).keep hki
          have hlen : (atOnceSpecK l at_ vals k).length = k := by simp [atOnceSpecK]; omega
          have hnB : ∀ j, u7.ownBlock = some j → w.heap.size ≤ j := fun j hj => (hown2.lt j hj).1
          obtain ⟨v', w2, hap0, hown3, hg2, _⟩ := append_run (ys := [x]) elU (hown2.alloc (.cells (u64C x).toArray 39)) (Seg.of_blk (Blk.new wi 39 (u64C x))) 1 34 (by rw [hlen]; simp only [List.length_singleton, maxLen]; omega) (by rw [hlen]; simp only [List.length_singleton]; omega) (by have := hkw2.size; simp; omega)
          have hap : (Builtin.append_ #[34, 34] 34 #[u7, .slice (some ⟨wi.heap.size, 0, none⟩) 1 1]).run Try.prog (wi.alloc (.cells #[.int .u64 x] 39)) = .ok v' w2 := hap0
          have Hf := Lib.hid (show Own u64C 1 39 w2 w.heap.size v' (atOnceSpecK l at_ vals (k + 1)) by
            unfold atOnceSpecK; rw [take_snoc at_ hlt, List.map_append, List.map_singleton, ← hx]; exact hown3)
          have Hk := Lib.hid (show Keep w w2 from (hkw2.alloc _).grown hg2 hnB)
          clear hap0 hown3 hg2 hx hnB hown2 hlen
          go_wp2_with (at_builtin; refine wpList_append_eq rfl _ _ _ rfl _ _ rfl rfl _ _ hap ?_)
          go_roundw
          case rel => exact ⟨k + 1, hlt, by go_num, Hf.out, Hk.out⟩
          case measure => simp [intOf]; omega
    · have Hf := Lib.hid (show Own u64C 1 39 wr w.heap.size u7 (atOnceSpec l at_ vals) by
        have : atOnceSpecK l at_ vals k = atOnceSpec l at_ vals := by unfold atOnceSpecK atOnceSpec; rw [List.take_of_length_le (by omega)]
        rw [← this]; exact hown)
      clear hown
      go_wp2
      go_ret
      exact ⟨u7, rfl, Hf.out, hkeep⟩
end Go.Proofs.Ytpjckgmhcbhphaa
