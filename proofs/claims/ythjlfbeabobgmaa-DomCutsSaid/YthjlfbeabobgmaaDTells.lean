/-
  The law DomTells returns true.
-/
import Derived.Test.YthjlfbeabobgmaaDAlive
namespace Go.Proofs.Ythjlfbeabobgmaa
open Go Go.RowKit

theorem fewB_lens {rs : List Row} {most : Nat} (h : fewB rs most = true) (hm : most ≤ 160) : rs.length ≤ most ∧ ∀ x ∈ rs, x.l.length ≤ 1000 := by
  unfold fewB at h
  rw [Bool.and_eq_true] at h
  have h1 := of_decide_eq_true h.1
  have h2 := of_decide_eq_true h.2
  refine ⟨h1, fun x hx => ?_⟩
  obtain ⟨i, hi, rfl⟩ := List.getElem_of_mem hx
  have key : ∀ k, i < k → k ≤ rs.length → rs[i].l.length ≤ lens rs k := by
    intro k
    induction k with
    | zero => intro h; omega
    | succ k ih =>
      intro h3 h4
      rw [lens_succ (by omega)]
      rcases Nat.lt_or_ge i k with h5 | h5
      · have := ih h5 (by omega); omega
      · obtain rfl : i = k := by omega
        omega
  have e : lens rs 200 = lens rs rs.length := by unfold lens; rw [List.take_of_length_le (by omega), List.take_length]
  have := key rs.length hi (Nat.le_refl _)
  omega

set_option maxHeartbeats 4000000 in
set_option maxRecDepth 100000 in
theorem domTells_walk (rs : List Row) (A : Option Addr) (c : Nat) (w : World) (hg : Graph w A rs) (hb : ∀ x ∈ rs, x.l.length ≤ 17592186044416) :
    Calls Try.prog 3 #[.slice A rs.length c] w fun e w' => e = .returned (.bool true) ∧ Keep w w' := by
  have hfew := few_calls rs A c w hg hb 60 (by omega)
  cases hfb : fewB rs 60 with
  | false =>
    rw [hfb] at hfew
    have Hf := Lib.hid hfew
    have Ha := Lib.hid (alive_calls w)
    clear hfew hfb hg hb
    go_enter Try.func3, Try.ntmps3
    go_wp2_with fail
    refine Hf.out.mono ?_
    rintro e w2 ⟨rfl, rfl⟩
    go_wp2_with fail
    refine Ha.out.mono ?_
    rintro e w2 ⟨rfl, hk⟩
    go_wp2_with fail
    go_ret
    exact ⟨rfl, hk⟩
  | true =>
    rw [hfb] at hfew
    obtain ⟨h60, hrow⟩ := fewB_lens hfb (by omega)
    have Hf := Lib.hid hfew
    have Hlo := Lib.hid (loops_calls rs A c w hg (by omega) hrow)
    have Hrl := Lib.hid (fun (wx : World) (hk : Keep w wx) => refLoops_calls rs A c wx (hg.keep hk) (by omega) hrow)
    have Hof := Lib.hid (fun (wx : World) (hk : Keep w wx) => of_calls rs A c wx (hg.keep hk) (by omega) hrow)
    have Hro := Lib.hid (fun (wx : World) (hk : Keep w wx) {I : List Int} (hI : Dom.Idom (gr rs) I) => refOf_calls rs A c wx (hg.keep hk) (by omega) hI)
    have Hle := Lib.hid (show (loopsTo (gr rs) (gr rs).length).length ≤ 1000000 by
      have h1 := loopsTo_le (gr_row_le hrow) (gr rs).length
      rw [gr_len] at h1 ⊢
      have h3 : rs.length * 1000 ≤ 60 * 1000 := Nat.mul_le_mul_right _ h60
      omega)
    have Hgl := Lib.hid (gr_len rs)
    clear hfew hfb hg hb hrow
    go_enter Try.func3, Try.ntmps3
    go_wp2_with fail
    refine Hf.out.mono ?_
    rintro e w0 ⟨rfl, rfl⟩
    go_wp2_with fail
    refine Hlo.out.mono ?_
    rintro e w1 ⟨v, rfl, hown, hk1⟩
    go_wp2_with fail
    refine (Hrl.out w1 hk1).mono ?_
    rintro e w2 ⟨u, rfl, hown2, hk2⟩
    obtain ⟨L, hL⟩ : ∃ L, L = loopsTo (gr rs) (gr rs).length := ⟨_, rfl⟩
    rw [← hL] at hown hown2 Hle
    obtain ⟨B1, d1, rfl, _⟩ := hown.form
    obtain ⟨B2, d2, rfl, _⟩ := hown2.form
    have hll := Hle.out
    have Hs := Lib.hid (show Seg w2 B1 (L.flatMap pairC) ∧ Seg w2 B2 (L.flatMap pairC) from ⟨hown.seg.keep hk2, hown2.seg⟩)
    have Hk := Lib.hid (hk1.trans hk2)
    have dll : ((L.length : Int) != (L.length : Int)) = false := by simp
    clear hown hown2 hk1 hk2 hL Hlo Hrl
    go_wp2_with fail
    go_loopw [5] (fun i wr => ∃ k : Nat, k ≤ L.length ∧ i = .int .i64 (k : Int) ∧ Keep w2 wr) (fun i _ => L.length - (intOf i).toNat)
    case atStart => exact ⟨0, Nat.zero_le _, rfl, Keep.refl _⟩
    case round =>
      obtain ⟨k, hk, rfl, hkw⟩ := hrel
      by_cases hlk : k < L.length
      · have hkk : (k : Int) < (L.length : Int) := by omega
        have k0 : (0 : Int) ≤ (k : Int) := by omega
        obtain ⟨b1, o1, rfl, _, q1⟩ := Hs.out.1.elem 2 (fun _ => rfl) (by omega) hlk
        obtain ⟨b2, o2, rfl, _, q2⟩ := Hs.out.2.elem 2 (fun _ => rfl) (by omega) hlk
        have r0 := hkw.cell (q1 0 _ rfl)
        have r1 := hkw.cell (q1 1 _ rfl)
        have t0 := hkw.cell (q2 0 _ rfl)
        have t1 := hkw.cell (q2 1 _ rfl)
        obtain ⟨x, hx⟩ : ∃ x : Int, x = ((L[k].1 : Nat) : Int) := ⟨_, rfl⟩
        obtain ⟨y, hy⟩ : ∃ y : Int, y = ((L[k].2 : Nat) : Int) := ⟨_, rfl⟩
        rw [← hx] at r0 t0
        rw [← hy] at r1 t1
        have r0' : wr.cell? ⟨b1, o1 + k * 2, none⟩ = some (.int .i64 x) := r0
        have r1' : wr.cell? ⟨b1, o1 + k * 2 + 1, none⟩ = some (.int .i64 y) := by rw [Nat.add_assoc]; exact r1
        have t0' : wr.cell? ⟨b2, o2 + k * 2, none⟩ = some (.int .i64 x) := t0
        have t1' : wr.cell? ⟨b2, o2 + k * 2 + 1, none⟩ = some (.int .i64 y) := by rw [Nat.add_assoc]; exact t1
        have hq : ∀ wx : World, (binOp .neq 27 (.agg #[.int .i64 x, .int .i64 y]) (.agg #[.int .i64 x, .int .i64 y])).run Try.prog wx = .ok (.bool false) wx := fun wx => neq_pair x y wx
        have Hkw := Lib.hid hkw
        clear hx hy r0 r1 t0 t1 q1 q2 hkw
        go_wp2_with fail
        go_quiet (fail)
        go_wp2_with fail
        go_roundw
        case rel => exact ⟨k + 1, hlk, by go_num, Hkw.out.drewN _⟩
        case measure => simp [intOf] <;> omega
      · have hge : ¬ (k : Int) < (L.length : Int) := by omega
        have Hkw := Lib.hid (Hk.out.trans hkw)
        clear hkw
        obtain ⟨wq, rfl⟩ : ∃ wq, wq = wr := ⟨_, rfl⟩
        go_wp2_with fail
        refine (Hof.out wq Hkw.out).mono ?_
        rintro e w3 ⟨bi, I, rfl, hbi, hI, hid, hk3⟩
        have Hid := Lib.hid hid
        have HIl := Lib.hid (show I.length = rs.length by rw [hid.len, Hgl.out])
        have HI := Lib.hid hI
        have Hk3 := Lib.hid (Hkw.out.trans hk3)
        clear hbi hI hid hk3
        go_wp2_with fail
        refine (Hro.out w3 Hk3.out Hid.out).mono ?_
        rintro e w4 ⟨v4, rfl, hown4, hk4⟩
        obtain ⟨B4, d4, rfl, _⟩ := hown4.form
        rw [HIl.out]
        have Hin := Lib.hid (show Calls Try.prog 11 #[.slice (some ⟨bi, 0, none⟩) rs.length rs.length, .slice B4 rs.length d4] w4 fun e w' => e = .returned (.bool true) ∧ Keep w4 w' by
          have := refInts_calls I (some ⟨bi, 0, none⟩) B4 rs.length d4 w4 (IBlk.seg (Blk.keep HI.out hk4)) hown4.seg (by rw [HIl.out]; omega)
          rw [HIl.out] at this; exact this)
        have Hk4 := Lib.hid (Hk3.out.trans hk4)
        clear hown4 hk4
        go_wp2_with fail
        refine Hin.out.mono ?_
        rintro e w5 ⟨rfl, hk5⟩
        go_wp2_with fail
        refine (alive_calls w5).mono ?_
        rintro e w6 ⟨rfl, hk6⟩
        go_wp2_with fail
        go_ret
        exact ⟨rfl, (Hk4.out.trans hk5).trans hk6⟩
end Go.Proofs.Ythjlfbeabobgmaa
