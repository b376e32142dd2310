/-
  The library's Equal, of rows of bools.
-/
import Derived.Test.YtjpmiejgcnfiiaaLBegin
set_option linter.unusedVariables false
set_option linter.unusedSimpArgs false
namespace Go.Proofs.Ytjpmiejgcnfiiaa
open Go Go.RowKit

set_option maxHeartbeats 2000000 in
theorem equal_drew (a b : List Bool) (A B : Option Addr) (c d : Nat) (w : World) (hs : Seg w A (a.flatMap boolC)) (ht : Seg w B (b.flatMap boolC)) (hl : b.length = a.length) (hn : a.length ≤ 1000000) :
    Calls Try.prog 33 #[.slice A a.length c, .slice B b.length d] w fun e w' => e = .returned (.bool (decide (a = b))) ∧ ∃ nq, w' = w.drewN nq := by
  obtain ⟨n, hna⟩ : ∃ n, a.length = n := ⟨_, rfl⟩
  have Ha := Lib.hid hna
  have Hb := Lib.hid (show b.length = n by omega)
  rw [hl, hna]
  rw [hna] at hn
  clear hl hna
  have hll : ((n : Int) != (n : Int)) = false := by simp
  have Hs := Lib.hid hs
  have Ht := Lib.hid ht
  obtain ⟨rr, hr⟩ : ∃ r, decide (a = b) = r := ⟨_, rfl⟩
  have Hr := Lib.hid hr
  rw [hr]
  clear hs ht hr
  go_enter Try.func33, Try.ntmps33
  go_wp2
  go_loopw [13] (fun i wr => ∃ k : Nat, k ≤ n ∧ i = .int .i64 k ∧ Hid (a.take k = b.take k) ∧ ∃ nq, wr = w.drewN nq) (fun i _ => n - (intOf i).toNat)
  case atStart => exact ⟨0, Nat.zero_le _, rfl, Lib.hid rfl, 0, rfl⟩
  case round =>
    obtain ⟨k, hk, rfl, hpre, nw, hnw⟩ := hrel
    have hkeep : Keep w wr := by rw [hnw]; exact (Keep.refl _).drewN _
    have Hnw := Lib.hid hnw
    clear hnw
    by_cases hlt : k < n
    · have hka : k < a.length := by rw [Ha.out]; exact hlt
      have hkb : k < b.length := by rw [Hb.out]; exact hlt
      have hkk : (k : Int) < (n : Int) := by omega
      have hk0 : (0 : Int) ≤ (k : Int) := by omega
      obtain ⟨b1, o1, rfl, hb1, c0⟩ := bool_at Hs.out hkeep hka
      obtain ⟨b2, o2, rfl, hb2, d0⟩ := bool_at Ht.out hkeep hkb
      obtain ⟨u, hu⟩ : ∃ u, a[k] = u := ⟨_, rfl⟩
      obtain ⟨v, hv⟩ : ∃ v, b[k] = v := ⟨_, rfl⟩
      rw [hu] at c0
      rw [hv] at d0
      have Hstep := Lib.hid (show u = v → a.take (k + 1) = b.take (k + 1) from fun e => by
        rw [List.take_succ_eq_append_getElem hka, List.take_succ_eq_append_getElem hkb, hpre.out, hu, hv, e])
      have Hno := Lib.hid (show u ≠ v → rr = false from fun e => by
        rw [← Hr.out, decide_eq_false]
        intro e'
        subst e'
        exact e (hu.symm.trans hv))
      clear hu hv hka hkb
      by_cases huv : u = v
      · subst huv
        have Hs1 := Lib.hid (Hstep.out rfl)
        have hne : (u != u) = false := by simp
        clear Hstep Hno
        cases u <;> (
          go_wp2_with fail
          go_quiet (fail)
          go_wp2
          go_roundw
          case rel => exact ⟨k + 1, hlt, by go_num, Hs1, _, by rw [Hnw.out, World.drewN_drewN]⟩
          case measure => simp [intOf]; omega)
      · have Hn1 := Lib.hid (Hno.out huv)
        have Hnq := Lib.hid (show ∀ m, ∃ nq, wr.drewN m = w.drewN nq from fun m => ⟨_, by rw [Hnw.out, World.drewN_drewN]⟩)
        clear Hstep Hno
        have huv2 : v = !u := by cases u <;> cases v <;> simp_all
        subst huv2
        clear huv
        cases u <;> (
          go_wp2_with fail
          go_quiet (fail)
          go_wp2
          go_ret
          exact ⟨by rw [Hn1.out]; rfl, Hnq.out _⟩)
    · have Hfin := Lib.hid (show rr = true by
        rw [← Hr.out, decide_eq_true_iff]
        have := hpre.out
        rwa [List.take_of_length_le (by rw [Ha.out]; omega), List.take_of_length_le (by rw [Hb.out]; omega)] at this)
      clear hpre
      go_wp2
      go_ret
      exact ⟨by rw [Hfin.out]; rfl, nw, Hnw.out⟩
theorem equal_calls (a b : List Bool) (A B : Option Addr) (c d : Nat) (w : World) (hs : Seg w A (a.flatMap boolC)) (ht : Seg w B (b.flatMap boolC)) (hl : b.length = a.length) (hn : a.length ≤ 1000000) :
    Calls Try.prog 33 #[.slice A a.length c, .slice B b.length d] w fun e w' => e = .returned (.bool (decide (a = b))) ∧ Keep w w' :=
  (equal_drew a b A B c d w hs ht hl hn).mono fun e w' ⟨h1, nq, h2⟩ => ⟨h1, by rw [h2]; exact (Keep.refl _).drewN _⟩
end Go.Proofs.Ytjpmiejgcnfiiaa
