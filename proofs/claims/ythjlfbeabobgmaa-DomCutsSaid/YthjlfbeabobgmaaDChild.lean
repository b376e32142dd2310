/-
  Ints, few; Children, the program's and the reference's.
-/
import Derived.Test.YthjlfbeabobgmaaDUp
namespace Go.Proofs.Ythjlfbeabobgmaa
open Go Go.RowKit

theorem refInts_drew (l : List Int) (A B : Option Addr) (c d : Nat) (w : World) (hs : Seg w A (l.flatMap intC)) (ht : Seg w B (l.flatMap intC)) (hn : l.length ≤ 1000000) :
    Calls Try.prog 11 #[.slice A l.length c, .slice B l.length d] w fun e w' => e = .returned (.bool true) ∧ ∃ nq, w' = w.drewN nq := by
  have hll : ((l.length : Int) != (l.length : Int)) = false := by simp
  go_enter Try.func11, Try.ntmps11
  go_wp2
  go_loopw [5] (fun i wr => ∃ k : Nat, k ≤ l.length ∧ i = .int .i64 k ∧ ∃ nq, wr = w.drewN nq) (fun i _ => l.length - (intOf i).toNat)
  case atStart => exact ⟨0, Nat.zero_le _, rfl, 0, rfl⟩
  case round =>
    obtain ⟨k, hk, rfl, nw, hnw⟩ := hrel
    have hkeep : Keep w wr := by rw [hnw]; exact (Keep.refl _).drewN _
    have Hnw := Lib.hid hnw
    clear hnw
    by_cases hlt : k < l.length
    · have hkk : (k : Int) < (l.length : Int) := by omega
      have hk0 : (0 : Int) ≤ (k : Int) := by omega
      obtain ⟨b, off, rfl, hb, c0⟩ := int_at hs hkeep hlt
      obtain ⟨b', off', rfl, hb', d0⟩ := int_at ht hkeep hlt
      have hne : (l[k] != l[k]) = false := by simp
      go_wp2_with fail
      go_quiet (fail)
      go_wp2
      go_roundw
      case rel => exact ⟨k + 1, hlt, by go_num, _, by rw [Hnw.out, World.drewN_drewN]⟩
      case measure => simp [intOf]; omega
    · go_wp2
      go_ret
      exact ⟨rfl, nw, Hnw.out⟩

theorem refInts_calls (l : List Int) (A B : Option Addr) (c d : Nat) (w : World) (hs : Seg w A (l.flatMap intC)) (ht : Seg w B (l.flatMap intC)) (hn : l.length ≤ 1000000) :
    Calls Try.prog 11 #[.slice A l.length c, .slice B l.length d] w fun e w' => e = .returned (.bool true) ∧ Keep w w' :=
  (refInts_drew l A B c d w hs ht hn).mono fun e w' ⟨h1, nq, h2⟩ => ⟨h1, by rw [h2]; exact (Keep.refl _).drewN _⟩

/-- The lengths of the first rows. -/
def lens (rs : List Row) (k : Nat) : Nat := ((rs.take k).map (fun x => x.l.length)).foldl (· + ·) 0
theorem lens_succ {rs : List Row} {k : Nat} (hk : k < rs.length) : lens rs (k + 1) = lens rs k + rs[k].l.length := by
  unfold lens; rw [take_snoc rs hk, List.map_append, List.foldl_append]; rfl
theorem lens_le {rs : List Row} (hb : ∀ x ∈ rs, x.l.length ≤ 17592186044416) : ∀ k, lens rs k ≤ k * 17592186044416
  | 0 => by simp [lens]
  | k + 1 => by
    rcases Nat.lt_or_ge k rs.length with h | h
    · rw [lens_succ h]
      have := lens_le hb k
      have := hb rs[k] (List.getElem_mem h)
      omega
    · have e : lens rs (k + 1) = lens rs k := by
        unfold lens; rw [List.take_of_length_le (by omega), List.take_of_length_le (by omega)]
      have := lens_le hb k
      omega
def fewB (rs : List Row) (most : Nat) : Bool := decide (rs.length ≤ most) && decide (lens rs 200 ≤ 6 * most)

theorem few_calls (rs : List Row) (A : Option Addr) (c : Nat) (w : World) (hg : Graph w A rs) (hb : ∀ x ∈ rs, x.l.length ≤ 17592186044416) (most : Nat) (hmost : most ≤ 199) :
    Calls Try.prog 7 #[.slice A rs.length c, .int .i64 (most : Int)] w fun e w' => e = .returned (.bool (fewB rs most)) ∧ w = w' := by
  have hlen := hg.len
  unfold maxLen at hlen
  have Hg := Lib.hid hg
  have Hb := Lib.hid hb
  clear hg hb
  go_enter Try.func7, Try.ntmps7
  go_wp2
  go_loop [5, 6] (fun n i => ∃ k : Nat, k ≤ rs.length ∧ k ≤ 200 ∧ i = .int .i64 k ∧ n = .int .i64 (lens rs k : Int)) (fun _ i => rs.length - (intOf i).toNat)
  case atStart => exact ⟨0, Nat.zero_le _, Nat.zero_le _, rfl, rfl⟩
  case round =>
    obtain ⟨k, hk, hk2, rfl, rfl⟩ := hrel
    have hle := lens_le Hb.out k
    by_cases hlt : k < rs.length
    · by_cases h2 : k < 200
      · have hkk : (k : Int) < (rs.length : Int) := by omega
        have hk0 : (0 : Int) ≤ (k : Int) := by omega
        have d2 : decide ((k : Int) < 200) = true := decide_eq_true (by omega)
        obtain ⟨b, off, rfl, hb, c0⟩ := row_at Hg.out.seg (Keep.refl _) hlt
        have hx := Hb.out rs[k] (List.getElem_mem hlt)
        have Hs := Lib.hid (lens_succ hlt)
        obtain ⟨m, hm⟩ : ∃ m, m = lens rs k := ⟨_, rfl⟩
        rw [← hm] at Hs hle ⊢
        clear hm
        have s1 : (0 : Int) ≤ (m : Int) + (rs[k].l.length : Int) := by omega
        have s2 : (m : Int) + (rs[k].l.length : Int) ≤ 9000000000000000 := by omega
        go_wp2
        go_round
        case rel => exact ⟨k + 1, hlt, by omega, by go_num, by rw [Hs.out]; go_num⟩
        case measure => simp [intOf]; omega
      · have e200 : k = 200 := by omega
        subst e200
        have d2 : decide (((200 : Nat) : Int) < 200) = false := by decide
        by_cases h3 : rs.length ≤ most
        · exfalso; omega
        · have Hf := Lib.hid (show fewB rs most = false by unfold fewB; rw [decide_eq_false h3]; rfl)
          have d3 : decide ((rs.length : Int) ≤ (most : Int)) = false := decide_eq_false (by omega)
          have d3' : decide (rs.length ≤ most) = false := decide_eq_false h3
          clear h3
          go_wp2
          go_ret
          exact ⟨by rw [Hf.out]; rfl, rfl⟩
    · have hkl : k = rs.length := by omega
      have Hl := Lib.hid (show lens rs 200 = lens rs k by unfold lens; rw [List.take_of_length_le (by omega), List.take_of_length_le (by omega)])
      have hge : ¬ (k : Int) < (rs.length : Int) := by omega
      by_cases h3 : rs.length ≤ most
      · have d3' : decide (rs.length ≤ most) = true := decide_eq_true h3
        have Hf := Lib.hid (show fewB rs most = decide (lens rs k ≤ 6 * most) by unfold fewB; rw [decide_eq_true h3, Hl.out]; rfl)
        have Hd := Lib.hid (show decide ((lens rs k : Int) ≤ 6 * (most : Int)) = decide (lens rs k ≤ 6 * most) from decide_eq_decide.2 ⟨fun h => by omega, fun h => by omega⟩)
        obtain ⟨m, hm⟩ : ∃ m, m = lens rs k := ⟨_, rfl⟩
        rw [← hm] at Hf Hd hle ⊢
        clear hm hkl
        have m6 : (0 : Int) ≤ 6 * (most : Int) := by omega
        have m7 : 6 * (most : Int) ≤ 6000 := by omega
        go_wp2
        go_ret
        exact ⟨by rw [Hf.out, ← Hd.out]; rfl, rfl⟩
      · have Hf := Lib.hid (show fewB rs most = false by unfold fewB; rw [decide_eq_false h3]; rfl)
        have d3' : decide (rs.length ≤ most) = false := decide_eq_false h3
        clear h3 hkl
        go_wp2
        go_ret
        exact ⟨by rw [Hf.out]; rfl, rfl⟩

/-! ### Children -/
def childTo (l : List Int) (k : Nat) : List (List Int) := (List.range l.length).map (Dom.childF l k)
theorem childF_zero (l : List Int) (a : Nat) : Dom.childF l 0 a = [] := rfl
theorem childF_succ (l : List Int) (k a : Nat) : Dom.childF l (k + 1) a = if Dom.upF l k = (a : Int) then Dom.childF l k a ++ [(k : Int)] else Dom.childF l k a := by
  unfold Dom.childF
  rw [List.range_succ, List.filter_append, List.map_append]
  by_cases h : Dom.upF l k = (a : Int)
  · rw [if_pos h]; simp [h]
  · rw [if_neg h]; simp [h]
theorem childTo_zero (l : List Int) : childTo l 0 = List.replicate l.length [] := by
  unfold childTo
  apply List.ext_getElem
  · simp
  · intro i h1 h2; simp [childF_zero]
theorem childTo_len (l : List Int) (k : Nat) : (childTo l k).length = l.length := by simp [childTo]
theorem childTo_get (l : List Int) (k : Nat) {a : Nat} (ha : a < (childTo l k).length) : (childTo l k)[a] = Dom.childF l k a := by simp [childTo]
theorem childTo_no {l : List Int} {k : Nat} (h : Dom.upF l k < 0) : childTo l (k + 1) = childTo l k := by
  unfold childTo
  apply List.map_congr_left
  intro a _
  rw [childF_succ, if_neg (by omega)]
theorem childTo_yes {l : List Int} {k a : Nat} (h : Dom.upF l k = (a : Int)) (ha : a < (childTo l k).length) : childTo l (k + 1) = (childTo l k).set a ((childTo l k)[a] ++ [(k : Int)]) := by
  apply List.ext_getElem
  · simp [childTo]
  · intro i h1 h2
    rw [childTo_get, childF_succ, List.getElem_set]
    by_cases e : a = i
    · subst e; rw [if_pos h, if_pos rfl, childTo_get]
    · rw [if_neg (by omega), if_neg e, childTo_get]
theorem childF_le (l : List Int) (k a : Nat) : (Dom.childF l k a).length ≤ k := by
  unfold Dom.childF
  rw [List.length_map]
  have := List.length_filter_le (fun i : Nat => decide (Dom.upF l i = (a : Int))) (List.range k)
  simpa using this

set_option maxHeartbeats 1000000 in
theorem children_calls (l : List Int) (A : Option Addr) (c : Nat) (w : World) (hs : Seg w A (l.flatMap intC)) (hm : l.length < 1000000) :
    Calls Try.prog 16 #[.slice A l.length c] w fun e w' => e = .returned (.slice (some ⟨w.heap.size, 0, none⟩) l.length l.length) ∧ IRows w' w.heap.size w.heap.size (childTo l l.length) ∧ Keep w w' := by
  obtain ⟨w1, hmake, hblk, hk1⟩ := make_rows w l.length (by omega)
  have Hu := Lib.hid (fun (wr : World) (hk : Keep w wr) x => up_calls l A c wr (hs.keep hk) (by unfold maxLen; omega) x)
  have Hst := Lib.hid (show IRows w1 w.heap.size w.heap.size (childTo l 0) by rw [childTo_zero]; exact RowsAt.made _ _ _ _ _ hblk)
  have Hk1 := Lib.hid hk1
  have hz := hblk.lt
  clear hs hblk hk1
  go_enter Try.func16, Try.ntmps16
  go_wp2_with (refine wpList_make_eq rfl _ _ _ rfl _ _ rfl rfl _ _ hmake ?_; clear hmake)
  go_loopw [4, 5, 11] (fun _ _ i wr => ∃ k : Nat, k ≤ l.length ∧ i = .int .i64 k ∧ IRows wr w.heap.size w.heap.size (childTo l k) ∧ Keep w wr) (fun _ _ i _ => l.length - (intOf i).toNat)
  case atStart => exact ⟨0, Nat.zero_le _, rfl, Hst.out, Hk1.out⟩
  case round =>
    obtain ⟨k, hk, rfl, hrows, hkeep⟩ := hrel
    clear Hst Hk1
    by_cases hlt : k < l.length
    · have hkk : (k : Int) < (l.length : Int) := by omega
      have Hc := Lib.hid (Hu.out wr hkeep (k : Int))
      have Hw := Lib.hid hkeep
      by_cases hu : Dom.upF l (k : Int) < 0
      · have du : decide (0 ≤ Dom.upF l (k : Int)) = false := decide_eq_false (by omega)
        have Hr := Lib.hid hrows
        have Hn := Lib.hid (childTo_no hu)
        clear hrows hkeep
        go_wp2_with (go_at_call 24; refine Hc.out.mono ?_; rintro e w' ⟨rfl, rfl⟩)
        go_roundw
        case rel => exact ⟨k + 1, hlt, by go_num, by rw [Hn.out]; exact Hr.out, Hw.out⟩
        case measure => simp [intOf]; omega
      · have hub := (Dom.upF_cases l (k : Int)).resolve_left (by omega)
        obtain ⟨a, hae⟩ : ∃ a : Nat, Dom.upF l (k : Int) = (a : Int) := ⟨(Dom.upF l (k : Int)).toNat, by omega⟩
        have hal : a < (childTo l k).length := by rw [childTo_len]; omega
        have hal0 : a < l.length := by omega
        have hlr : (childTo l k)[a].length < 1000000 := by
          rw [childTo_get]; have := childF_le l k a; omega
        have Hn := Lib.hid (childTo_yes hae hal)
        obtain ⟨B, d, hcell, _, w2, ⟨B', d', rfl⟩, hrun, hcell2, hfr2, hb2, hrows2, hE, _⟩ := RowsAt.push elI (by decide) hrows hal (k : Int) hlr (by omega) hkeep.size 29
        have Hr2 := Lib.hid hrows2
        have hk2 := Keep.of_ext hkeep hE (fun i hi h => by rcases h with h | h <;> omega)
        have Hk2 := Lib.hid hk2
        rw [hae] at Hc
        have da : decide (0 ≤ (a : Int)) = true := decide_eq_true (by omega)
        have a0 : (0 : Int) ≤ (a : Int) := by omega
        have a1 : (a : Int) < (l.length : Int) := by omega
        have hz1 := Nat.lt_of_lt_of_le hz (show w1.heap.size ≤ w1.heap.size from Nat.le_refl _)
        clear hrows hrows2 hkeep hu hub hae hE hk2 hlr
        go_wp2_with (first | (go_at_call 24; refine Hc.out.mono ?_; rintro e w' ⟨rfl, rfl⟩) | (at_builtin; refine wpList_append_eq rfl _ _ _ rfl _ _ rfl rfl _ _ hrun ?_; clear hrun))
        go_roundw
        case rel => exact ⟨k + 1, hlt, by go_num, by rw [Hn.out]; exact Hr2.out, Hk2.out⟩
        case measure => simp [intOf]; omega
    · have hge : ¬ (k : Int) < (l.length : Int) := by omega
      have hkl : k = l.length := by omega
      have Hr := Lib.hid (show IRows wr w.heap.size w.heap.size (childTo l l.length) by rw [← hkl]; exact hrows)
      have Hw := Lib.hid hkeep
      clear hrows hkeep hkl
      go_wp2
      go_ret
      exact ⟨rfl, Hr.out, Hw.out⟩
end Go.Proofs.Ythjlfbeabobgmaa
