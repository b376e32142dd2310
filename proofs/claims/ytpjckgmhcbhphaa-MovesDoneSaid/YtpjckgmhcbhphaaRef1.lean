/-
  The reference: Right, names, ready, Same.
-/
import Derived.Test.YtpjckgmhcbhphaaRight
import Derived.Deep.QuietTactic
import Derived.BigQuiet
namespace Go.Proofs.Ytpjckgmhcbhphaa
open Go Go.RowKit

theorem refRight_calls (l : List Mv) (A : Option Addr) (c : Nat) (w : World) (hs : Seg w A (l.flatMap mvC)) (hn : l.length ≤ 1000000) :
    Calls Try.prog 11 #[.slice A l.length c] w fun e w' => e = .returned (.bool (rightB l)) ∧ Keep w w' := by
  have heq := plc_eql
  go_enter Try.func11, Try.ntmps11
  go_wp2
  go_loopw [3] (fun i wr => ∃ k : Nat, k ≤ l.length ∧ i = .int .i64 k ∧ ((l.take k).map Prod.snd).Nodup ∧ Keep w wr) (fun i _ => l.length - (intOf i).toNat)
  case atStart => exact ⟨0, Nat.zero_le _, rfl, by simp, Keep.refl _⟩
  case round =>
    obtain ⟨i, hi, rfl, hnd, hkeep⟩ := hrel
    by_cases hlt : i < l.length
    · have hii : (i : Int) < (l.length : Int) := by omega
      have hi0 : (0 : Int) ≤ (i : Int) := by omega
      go_wp2
      obtain ⟨wo, rfl⟩ : ∃ wo : World, wo = wr := ⟨_, rfl⟩
      go_loopw [4] (fun kk wi => ∃ k : Nat, k ≤ i ∧ kk = .int .i64 k ∧ (¬ l[i].2 ∈ (l.take k).map Prod.snd) ∧ Keep wo wi) (fun kk _ => i - (intOf kk).toNat)
      case atStart => exact ⟨0, Nat.zero_le _, rfl, by simp, Keep.refl _⟩
      case round =>
        obtain ⟨k, hk, rfl, hno, hki⟩ := hrel
        have hkw := hkeep.trans hki
        by_cases hki2 : k < i
        · have hkl : k < l.length := by omega
          obtain ⟨b, off, rfl, hb, c0, c1, c2, c3⟩ := mv_at hs hkw hlt
          obtain ⟨b', off', he, hb', d0, d1, d2, d3⟩ := mv_at hs hkw hkl
          cases he
          have hkk : (k : Int) < (l.length : Int) := by omega
          have hk0 : (0 : Int) ≤ (k : Int) := by omega
          by_cases hq : l[i].2 = l[k].2
          · have hd := plcEq_true hq
            have hin : l[i].2 ∈ (l.take i).map Prod.snd := by
              rw [hq]
              exact List.mem_map.2 ⟨l[k], List.mem_take_iff_getElem.2 ⟨k, by omega, rfl⟩, rfl⟩
            have Hf := Lib.hid (right_dup hlt hin)
            clear hq hno hin
            go_wp2_with fail
            go_quiet (fail)
            go_wp2
            go_ret
            exact ⟨by rw [Hf.out]; rfl, hkw.drewN _⟩
          · have hd := plcEq_false hq
            have hno' : ¬ l[i].2 ∈ (l.take (k + 1)).map Prod.snd := fun hm => by
              rw [take_snoc l hkl, List.map_append] at hm
              rcases List.mem_append.1 hm with h | h
              · exact hno h
              · exact hq (by simpa using h)
            have Hf := Lib.hid hno'
            clear hq hno hno'
            go_wp2_with fail
            go_quiet (fail)
            go_wp2
            go_roundw
            case rel => exact ⟨k + 1, hki2, by go_num, Hf.out, hki.drewN _⟩
            case measure => simp [intOf]; omega
        · have hke : k = i := by omega
          subst hke
          have Hf := Lib.hid (right_more hlt hnd hno)
          clear hno
          go_wp2
          go_roundw
          case rel => exact ⟨k + 1, hlt, by go_num, Hf.out, hkw⟩
          case measure => simp [intOf]; omega
    · have Hf := Lib.hid (show rightB l = true by
        unfold rightB
        rw [List.take_of_length_le (by omega)] at hnd
        exact decide_eq_true hnd)
      go_wp2
      go_ret
      exact ⟨by rw [Hf.out]; rfl, hkeep⟩

theorem namesB_next {l : List Mv} {p : Plc} {k : Nat} (hlt : k < l.length) (h : namesB (l.take k) p = false) : namesB (l.take (k + 1)) p = (plcEq l[k].1 p || plcEq l[k].2 p) := by
  rw [take_snoc l hlt]
  unfold namesB at h ⊢
  rw [List.any_append, h]
  rw [Bool.eq_iff_iff]; simp [plcEq]
theorem namesB_all {l : List Mv} {p : Plc} {k : Nat} (h : namesB (l.take k) p = true) : namesB l p = true := by
  unfold namesB at h ⊢
  obtain ⟨x, hx, he⟩ := List.any_eq_true.1 h
  exact List.any_eq_true.2 ⟨x, List.mem_of_mem_take hx, he⟩

theorem refNames_calls (l : List Mv) (A : Option Addr) (c : Nat) (p : Plc) (w : World) (hs : Seg w A (l.flatMap mvC)) (hn : l.length ≤ 1000000) :
    Calls Try.prog 24 #[.slice A l.length c, .agg #[.bool p.1, .int .i64 p.2]] w fun e w' => e = .returned (.bool (namesB l p)) ∧ Keep w w' := by
  have heq := plc_eql
  go_enter Try.func24, Try.ntmps24
  go_wp2
  go_loopw [5] (fun i wr => ∃ k : Nat, k ≤ l.length ∧ i = .int .i64 k ∧ namesB (l.take k) p = false ∧ Keep (w.alloc (.cells (plcC p).toArray 24)) wr) (fun i _ => l.length - (intOf i).toNat)
  case atStart => exact ⟨0, Nat.zero_le _, rfl, by simp [namesB], Keep.refl _⟩
  case round =>
    obtain ⟨k, hk, rfl, hnd, hkeep⟩ := hrel
    have hw0 : Keep w wr := ((Keep.refl w).alloc _).trans hkeep
    have hblk := (Blk.new w 24 (plcC p)).keep hkeep
    have p0 : wr.cell? ⟨w.heap.size, 0, none⟩ = some (.bool p.1) := hblk.cell 0
    have p1 : wr.cell? ⟨w.heap.size, 1, none⟩ = some (.int .i64 p.2) := hblk.cell 1
    clear hblk
    by_cases hlt : k < l.length
    · obtain ⟨b, off, rfl, hb, c0, c1, c2, c3⟩ := mv_at hs hw0 hlt
      have hkk : (k : Int) < (l.length : Int) := by omega
      have hk0 : (0 : Int) ≤ (k : Int) := by omega
      have hnx := namesB_next hlt hnd
      cases hq1 : plcEq l[k].1 p <;> cases hq2 : plcEq l[k].2 p
      · rw [hq1, hq2] at hnx
        have Hf := Lib.hid hnx
        clear hnx hnd
        go_wp2_with fail
        go_quiet (fail)
        go_wp2
        go_roundw
        case rel => exact ⟨k + 1, hlt, by go_num, Hf.out, hkeep.drewN _⟩
        case measure => simp [intOf]; omega
      all_goals
        rw [hq1, hq2] at hnx
        have Hf := Lib.hid (namesB_all hnx)
        clear hnx hnd
        go_wp2_with fail
        go_quiet (fail)
        go_wp2
        go_ret
        exact ⟨by rw [Hf.out]; rfl, hw0.drewN _⟩
    · have Hf := Lib.hid (show namesB l p = false by rwa [List.take_of_length_le (by omega)] at hnd)
      clear hnd
      go_wp2
      go_ret
      exact ⟨by rw [Hf.out]; rfl, hw0⟩

/-! ### ready -/
def wantTo (l : List Mv) (i k : Nat) : Bool := (List.range k).any fun k => k != i && (l[k]?.map Prod.fst == l[i]?.map Prod.snd)
theorem wantTo_all (l : List Mv) (i : Nat) : wantTo l i l.length = wantedB l i := rfl
theorem wantTo_self (l : List Mv) (i : Nat) : wantTo l i (i + 1) = wantTo l i i := by unfold wantTo; rw [List.range_succ, List.any_append]; simp
theorem wantTo_succ (l : List Mv) {i k : Nat} (hi : i < l.length) (hk : k < l.length) (hne : ¬ k = i) : wantTo l i (k + 1) = (wantTo l i k || plcEq l[k].1 l[i].2) := by
  unfold wantTo
  rw [List.range_succ, List.any_append]
  simp only [List.any_cons, List.any_nil, Bool.or_false]
  have h1 : (k != i) = true := by simpa using hne
  rw [h1, Bool.true_and, List.getElem?_eq_getElem hk, List.getElem?_eq_getElem hi]
  congr 1
  rw [Bool.eq_iff_iff]; simp [plcEq]

def RefReadyIs (l : List Mv) (r : Int) : Prop := (r = -1 ∧ readyR l = none) ∨ ∃ i : Nat, r = i ∧ readyR l = some i ∧ i < l.length

theorem refReady_calls (l : List Mv) (A : Option Addr) (c : Nat) (w : World) (hs : Seg w A (l.flatMap mvC)) (hn : l.length ≤ 1000000) :
    Calls Try.prog 25 #[.slice A l.length c] w fun e w' => ∃ r : Int, e = .returned (.int .i64 r) ∧ RefReadyIs l r ∧ Keep w w' := by
  have heq := plc_eql
  go_enter Try.func25, Try.ntmps25
  go_wp2
  go_loopw [3] (fun i wr => ∃ k : Nat, k ≤ l.length ∧ i = .int .i64 k ∧ (∀ j, j < k → wantedB l j = true) ∧ Keep w wr) (fun i _ => l.length - (intOf i).toNat)
  case atStart => exact ⟨0, Nat.zero_le _, rfl, fun j h => absurd h (Nat.not_lt_zero _), Keep.refl _⟩
  case round =>
    obtain ⟨i, hi, rfl, hup0, hkeep⟩ := hrel
    have Hup := Lib.hid hup0
    clear hup0
    by_cases hlt : i < l.length
    · have hii : (i : Int) < (l.length : Int) := by omega
      have hi0 : (0 : Int) ≤ (i : Int) := by omega
      go_wp2
      obtain ⟨wo, rfl⟩ : ∃ wo : World, wo = wr := ⟨_, rfl⟩
      go_loopw [4, 5] (fun nd kk wi => ∃ k : Nat, k ≤ l.length ∧ kk = .int .i64 k ∧ nd = .bool (wantTo l i k) ∧ Keep wo wi) (fun _ kk _ => l.length - (intOf kk).toNat)
      case atStart => exact ⟨0, Nat.zero_le _, rfl, rfl, Keep.refl _⟩
      case round =>
        obtain ⟨k, hk, rfl, rfl, hki⟩ := hrel
        have hkw := hkeep.trans hki
        by_cases hkl : k < l.length
        · obtain ⟨b, off, rfl, hb, c0, c1, c2, c3⟩ := mv_at hs hkw hlt
          obtain ⟨b', off', he, hb', d0, d1, d2, d3⟩ := mv_at hs hkw hkl
          cases he
          have hkk : (k : Int) < (l.length : Int) := by omega
          have hk0 : (0 : Int) ≤ (k : Int) := by omega
          by_cases hik : k = i
          · subst hik
            have Hs := Lib.hid (wantTo_self l k)
            cases hnd : wantTo l k k
            all_goals
              rw [hnd] at Hs
              go_wp2_with fail
              go_quiet (fail)
              go_wp2
              go_roundw
              case rel => exact ⟨k + 1, hkl, by go_num, by rw [Hs.out], hki.drewN _⟩
              case measure => simp [intOf]; omega
          · have Hs := Lib.hid (wantTo_succ l hlt hkl hik)
            have hne : ((k : Int) != (i : Int)) = true := bne_iff_ne.2 (by omega)
            cases hnd : wantTo l i k <;> cases hpe : plcEq l[k].1 l[i].2
            all_goals
              rw [hnd, hpe] at Hs
              go_wp2_with fail
              go_quiet (fail)
              go_wp2
              go_roundw
              case rel => exact ⟨k + 1, hkl, by go_num, by rw [Hs.out]; rfl, hki.drewN _⟩
              case measure => simp [intOf]; omega
        · have hke : k = l.length := by omega
          have hall : wantTo l i k = wantedB l i := by rw [hke]; rfl
          cases hnb : wantedB l i
          · rw [hnb] at hall
            have Hf := Lib.hid (show RefReadyIs l (i : Int) from .inr ⟨i, rfl, readyR_eq_some hlt hnb Hup.out, hlt⟩)
            clear hke hnb
            go_wp2
            go_ret
            exact ⟨i, rfl, Hf.out, hkw⟩
          · rw [hnb] at hall
            have Hf := Lib.hid (show ∀ j, j < i + 1 → wantedB l j = true from fun j hj => by
              rcases Nat.lt_succ_iff_lt_or_eq.1 hj with h | rfl
              · exact Hup.out j h
              · exact hnb)
            clear hke hnb
            go_wp2
            go_roundw
            case rel => exact ⟨i + 1, hlt, by go_num, Hf.out, hkw⟩
            case measure => simp [intOf]; omega
    · have Hf := Lib.hid (show RefReadyIs l (-1) from .inl ⟨rfl, readyR_eq_none fun j hj => Hup.out j (by omega)⟩)
      go_wp2
      go_ret
      exact ⟨-1, rfl, Hf.out, hkeep⟩
end Go.Proofs.Ytpjckgmhcbhphaa
