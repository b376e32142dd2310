/-
  The law on Scan.
-/
import Derived.Test.YtigidchignlpmaaRRefC
import Derived.Test.YtigidchignlpmaaRMovedLaw
namespace Go.Proofs.Ytigidchignlpmaa
open Go Go.RowKit Rg

set_option maxHeartbeats 4000000 in
set_option maxRecDepth 100000 in
theorem same_calls (P1 P2 : Option Addr) (pl : List (Bool × Int)) (c1 c2 : Nat) (z : Int) (w : World) (h1 : Seg w P1 (pl.flatMap plI)) (h2 : Seg w P2 (pl.flatMap plI)) (hn : pl.length ≤ 1000000) :
    Calls Try.prog 12 #[.agg #[.slice P1 pl.length c1, .int .i64 z], .agg #[.slice P2 pl.length c2, .int .i64 z]] w fun e w' => e = .returned (.bool true) ∧ Keep w w' := by
  obtain ⟨wa, hwa⟩ : ∃ wa : World, (w.alloc (.cells #[.slice P1 pl.length c1, .int .i64 z] 27)).alloc (.cells #[.slice P2 pl.length c2, .int .i64 z] 31) = wa := ⟨_, rfl⟩
  have hka : Keep w wa := by rw [← hwa]; exact ((Keep.refl _).alloc _).alloc _
  have b1 : Blk wa w.heap.size 27 [.slice P1 pl.length c1, .int .i64 z] := by rw [← hwa]; exact (Blk.new w _ [.slice P1 pl.length c1, .int .i64 z]).keep ((Keep.refl _).alloc _)
  have b2 : Blk wa (w.heap.size + 1) 31 [.slice P2 pl.length c2, .int .i64 z] := by
    rw [← hwa]
    have := Blk.new (w.alloc (.cells #[.slice P1 pl.length c1, .int .i64 z] 27)) 31 [.slice P2 pl.length c2, .int .i64 z]
    simpa using this
  have g0 : wa.cell? ⟨w.heap.size, 0, none⟩ = some (.slice P1 pl.length c1) := b1.cell 0
  have g1 : wa.cell? ⟨w.heap.size, 1, none⟩ = some (.int .i64 z) := b1.cell 1
  have gl := b1.lt
  have h0 : wa.cell? ⟨w.heap.size + 1, 0, none⟩ = some (.slice P2 pl.length c2) := b2.cell 0
  have h1' : wa.cell? ⟨w.heap.size + 1, 1, none⟩ = some (.int .i64 z) := b2.cell 1
  have hl := b2.lt
  have Hs := Lib.hid (And.intro (h1.keep hka) (h2.keep hka))
  have hmg : Try.prog.eqGuardType Try.prog.depth 47 = false := by kernel_rfl
  clear b1 b2 h1 h2
  go_enter Try.func12, Try.ntmps12
  go_wp2_with fail
  clear hwa
  go_loopw [5] (fun vi wr => ∃ i : Nat, i ≤ pl.length ∧ vi = .int .i64 i ∧ Hid (Keep wa wr)) (fun vi _ => pl.length - (intOf vi).toNat)
  case atStart => exact ⟨0, Nat.zero_le _, rfl, Lib.hid (Keep.refl _)⟩
  case round =>
    obtain ⟨i, hi, rfl, hkeep⟩ := hrel
    have g0r := hkeep.out.cell g0
    have glr := Nat.lt_of_lt_of_le gl hkeep.out.size
    have h0r := hkeep.out.cell h0
    have hlr := Nat.lt_of_lt_of_le hl hkeep.out.size
    by_cases hin : i < pl.length
    · obtain ⟨p, hp⟩ := get_some hin
      obtain ⟨b1, off1, e1, hb1, p0, p1⟩ := pl_get Hs.out.1 hkeep.out hp
      obtain ⟨b2, off2, e2, hb2, q0, q1⟩ := pl_get Hs.out.2 hkeep.out hp
      subst e1
      subst e2
      have hb1l := Nat.lt_of_lt_of_le hb1 hkeep.out.size
      have hb2l := Nat.lt_of_lt_of_le hb2 hkeep.out.size
      have hii : (i : Int) < (pl.length : Int) := by omega
      have hi0 : (0 : Int) ≤ (i : Int) := by omega
      have kg := fun z : KW wr => z.cell g0r
      have kh := fun z : KW wr => z.cell h0r
      have kp0 := fun z : KW wr => z.cell p0
      have kp1 := fun z : KW wr => z.cell p1
      have kq0 := fun z : KW wr => z.cell q0
      have kq1 := fun z : KW wr => z.cell q1
      have hd : Keep wr wr.drew := (Keep.refl _).drew
      have eqv : ∀ z : KW wr, (binOp .neq 47 (.agg #[.bool p.1, .int .i64 p.2]) (.agg #[.bool p.1, .int .i64 p.2])).run Try.prog z.val = .ok (.bool false) z.val := fun z => placeNe p p rfl z.val
      have Hrel := Lib.hid (hkeep.out.trans hd)
      clear hp p0 p1 q0 q1
      go_wp2_with fail
      refine region_begin (S := fun w' => ∃ z : KW wr, w' = z.val) (by kernel_rfl) ?_
      refine region_take [0, 1, 2, 3, 4, 5, 6, 7, 8, 9, 10] [] 0 (by kernel_rfl) (by kernel_rfl) (InK.mk' hd) ?_
      show wpQuiet _ _ _ _ [_, _, _, _, _, _, _, _, _, _, _] _
      repeat (go_big_quiet_step (fail))
      refine wpQuiet_nil ?_
      refine region_done (by kernel_rfl) ?_
      clear kg kh kp0 kp1 kq0 kq1 eqv g0r h0r
      go_wp2
      go_roundw
      case rel => exact ⟨i + 1, hin, by go_num, Hrel⟩
      case measure => simp [intOf]; omega
    · go_wp2
      go_ret
      exact ⟨rfl, hka.trans hkeep.out⟩

/-- What a scan says, whatever it says. -/
def Res (pl : List (Bool × Int)) (z er : Int) (w : World) (e : Ending) (w' : World) : Prop :=
  Keep w w' ∧ ∃ P c, Seg w' P (pl.flatMap plI) ∧ e = .returned (.tuple #[.agg #[.slice P pl.length c, .int .i64 z], .int .i64 er])
theorem both_scan (A : Option Addr) (ls : List LvD) (c : Nat) (regs slots : Int) (w : World) (hl : Lives w A ls) (h60 : ls.length ≤ 60) :
    ∃ (pl : List (Bool × Int)) (z er : Int), pl.length ≤ 60 ∧ (∀ wz, Keep w wz → Calls Try.prog 10 #[.slice A ls.length c, .int .i64 regs, .int .i64 slots] wz (Res pl z er wz)) ∧
      ∀ wz, Keep w wz → Calls Try.prog 11 #[.slice A ls.length c, .int .i64 regs, .int .i64 slots] wz (Res pl z er wz) := by
  have nil : ∀ (er : Int) (wz : World) e w', e = .returned (.tuple #[.agg #[.slice none 0 0, .int .i64 0], .int .i64 er]) ∧ Keep wz w' → Res [] 0 er wz e w' := fun er wz e w' h => ⟨h.2, none, 0, Seg.nil _ _, h.1⟩
  by_cases h0 : regs < 0 ∨ 16 < regs
  · exact ⟨[], 0, 31, by simp, fun wz _ => (scan_regs A ls c regs slots wz h0).mono (nil 31 wz), fun wz _ => (rScan_regs A ls c regs slots wz h0).mono (nil 31 wz)⟩
  · by_cases h1 : slots < 0 ∨ 65536 < slots
    · exact ⟨[], 0, 1, by simp, fun wz hz => (scan_bad A ls c regs slots wz (hl.keep hz) (by omega) (by omega) (by omega) (by omega)).mono (nil 1 wz), fun wz _ => (rScan_slots A ls c regs slots wz (by omega) (by omega) h1).mono (nil 1 wz)⟩
    · obtain ⟨k, rfl, hk⟩ : ∃ k : Nat, regs = (k : Int) ∧ k ≤ 16 := ⟨regs.toNat, by omega, by omega⟩
      obtain ⟨s0, rfl, hs⟩ : ∃ s : Nat, slots = (s : Int) ∧ s ≤ 65536 := ⟨slots.toNat, by omega, by omega⟩
      cases hany : ls.any (fun x => !may x.l) with
      | true =>
        refine ⟨[], 0, 1, by simp, fun wz hz => (scan_bad A ls c _ _ wz (hl.keep hz) (by omega) (by omega) (by omega) (.inr (.inr hany))).mono (nil 1 wz), fun wz hz => (rScan_main A ls c k s0 wz (hl.keep hz) h60 hk hs).mono ?_⟩
        rintro e w' ⟨kk, ⟨_, he⟩ | ⟨hf, _⟩⟩
        · exact nil 1 wz e w' ⟨he, kk⟩
        · rw [hany] at hf; cases hf
      | false =>
        obtain ⟨S, hS, hpl, _⟩ := scan_bounds (may_all hany) k s0
        have hlen : (toI S.pl).length = ls.length := by rw [toI_len, hpl]
        refine ⟨toI S.pl, (S.slots : Int), 0, by rw [hlen]; exact h60, fun wz hz => (scan_good A ls c k s0 wz (hl.keep hz) h60 hk hs hany).mono ?_, fun wz hz => (rScan_main A ls c k s0 wz (hl.keep hz) h60 hk hs).mono ?_⟩
        · rintro e w' ⟨kk, gb, _, bg, he⟩
          rw [hS] at bg he
          exact ⟨kk, some ⟨gb, 0, none⟩, ls.length, by rw [toI_flat]; exact Seg.of_blk bg, by rw [hlen]; exact he⟩
        · rintro e w' ⟨kk, ⟨hf, _⟩ | ⟨_, P, cp, hseg, he⟩⟩
          · rw [hany] at hf; cases hf
          · rw [hS] at hseg he
            exact ⟨kk, P, cp, by rw [toI_flat]; exact hseg, by rw [hlen]; exact he⟩

set_option maxHeartbeats 4000000 in
set_option maxRecDepth 100000 in
theorem regsScan_walk (A : Option Addr) (ls : List LvD) (c : Nat) (n1 n2 : Int) (w : World) (hl : Lives w A ls) :
    Calls Try.prog 3 #[.slice A ls.length c, .int .i64 n1, .int .i64 n2] w fun e w' => e = .returned (.bool true) ∧ Keep w w' := by
  have Hf := Lib.hid (few_calls A ls c w hl)
  have HA := Lib.hid (fun wz => alive_calls wz)
  cases hfb : fewB ls with
  | false =>
    rw [hfb] at Hf
    clear hl hfb
    go_enter Try.func3, Try.ntmps3
    go_wp2_with fail
    refine Hf.out.mono ?_
    rintro e w1 ⟨rfl, k1⟩
    go_wp2_with fail
    refine (HA.out w1).mono ?_
    rintro e w2 ⟨rfl, k2⟩
    go_wp2_with fail
    go_ret
    exact ⟨rfl, k1.trans k2⟩
  | true =>
    rw [hfb] at Hf
    obtain ⟨pl, z, er, hpl, hG, hR⟩ := both_scan A ls c n1 n2 w hl (few_true hfb).1
    have HG := Lib.hid hG
    have HR := Lib.hid hR
    have HSm := Lib.hid (fun (P1 P2 : Option Addr) (c1 c2 : Nat) (wz : World) (h1 : Seg wz P1 (pl.flatMap plI)) (h2 : Seg wz P2 (pl.flatMap plI)) => same_calls P1 P2 pl c1 c2 z wz h1 h2 (by omega))
    have eer : (er == er) = true := beq_self_eq_true er
    clear hl hfb hG hR
    go_enter Try.func3, Try.ntmps3
    go_wp2_with fail
    refine Hf.out.mono ?_
    rintro e w1 ⟨rfl, k1⟩
    go_wp2_with fail
    refine (HG.out w1 k1).mono ?_
    rintro e w2 ⟨k2, P1, c1, hs1, rfl⟩
    obtain ⟨w3, hw3, k3, b3⟩ := box2 w2 27 (.slice P1 pl.length c1) (.int .i64 z)
    have kk3 := (k1.trans k2).trans k3
    go_wp2_with fail
    rw [← hw3]
    clear hw3
    refine (HR.out w3 kk3).mono ?_
    rintro e w4 ⟨k4, P2, c2, hs2, rfl⟩
    obtain ⟨w5, hw5, k5, b5⟩ := box2 w4 31 (.slice P2 pl.length c2) (.int .i64 z)
    have k45 := k4.trans k5
    have g0 : w5.cell? ⟨w2.heap.size, 0, none⟩ = some (.slice P1 pl.length c1) := (b3.keep k45).cell 0
    have g1 : w5.cell? ⟨w2.heap.size, 1, none⟩ = some (.int .i64 z) := (b3.keep k45).cell 1
    have gl := (b3.keep k45).lt
    have h0 : w5.cell? ⟨w4.heap.size, 0, none⟩ = some (.slice P2 pl.length c2) := b5.cell 0
    have h1 : w5.cell? ⟨w4.heap.size, 1, none⟩ = some (.int .i64 z) := b5.cell 1
    have hl5 := b5.lt
    have Hsm := Lib.hid (HSm.out P1 P2 c1 c2 w5 (hs1.keep (k3.trans k45)) (hs2.keep k5))
    have Hk5 := Lib.hid (kk3.trans k45)
    rw [hw5] at g0 g1 gl h0 h1 hl5
    clear b3 b5 hs1 hs2 k1 k2 k3 k4 k5 k45 kk3
    go_wp2_with fail
    rw [← hw5]
    refine Hsm.out.mono ?_
    rintro e w6 ⟨rfl, k6⟩
    go_wp2_with fail
    refine (HA.out w6).mono ?_
    rintro e w7 ⟨rfl, k7⟩
    go_wp2_with fail
    go_ret
    exact ⟨rfl, (Hk5.out.trans k6).trans k7⟩
end Go.Proofs.Ytigidchignlpmaa
