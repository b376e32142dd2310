/-
  The law on sound allocations.
-/
import Derived.Test.YtigidchignlpmaaRAlive
import Derived.Test.YtigidchignlpmaaRRef2
namespace Go.Proofs.Ytigidchignlpmaa
open Go Go.RowKit Rg

theorem u8_nat {n : Int} (h : (Lit.int .u8 n).wf = true) : ∃ a : Nat, n = (a : Int) ∧ a < 256 := by
  simp [Lit.wf] at h
  have h1 : IntKind.u8.min = 0 := by decide
  have h2 : IntKind.u8.max = 255 := by decide
  exact ⟨n.toNat, by omega, by omega⟩
theorem few_true {ls : List LvD} (h : fewB ls = true) : ls.length ≤ 60 ∧ ∀ x ∈ ls, x.l.length ≤ 20 := by
  unfold fewB at h
  rw [Bool.and_eq_true] at h
  exact ⟨of_decide_eq_true h.1, fun x hx => by have := List.all_eq_true.1 h.2 x hx; exact of_decide_eq_true this⟩

theorem mod17 (a : Nat) : ∃ k : Nat, (a : Int) % 17 = (k : Int) ∧ k ≤ 16 := ⟨a % 17, by omega, by omega⟩
theorem all_take {ls : List LvD} {i : Nat} {x : LvD} (h : (ls.take i).all (fun x => may x.l) = true) (hx : ls[i]? = some x) (hm : may x.l = true) : (ls.take (i + 1)).all (fun x => may x.l) = true := by
  rw [List.take_add_one, hx, List.all_append, h]; simp [hm]
theorem all_end {ls : List LvD} {i : Nat} (h : (ls.take i).all (fun x => may x.l) = true) (hi : ls.length ≤ i) : ls.any (fun x => !may x.l) = false := by
  rw [List.take_of_length_le hi] at h
  rw [List.any_eq_false]
  intro x hx
  have := List.all_eq_true.1 h x hx
  simp [this]

set_option maxHeartbeats 2000000 in
/-- Some live range list may not be. -/
theorem regsSound_bad (A : Option Addr) (ls : List LvD) (c : Nat) (a b : Nat) (ha : a < 256) (hb : b < 256) (w : World) (hl : Lives w A ls) (hfb : fewB ls = true) (hbad : ls.any (fun x => !may x.l) = true) :
    Calls Try.prog 5 #[.slice A ls.length c, .int .u8 (a : Int), .int .u8 (b : Int)] w fun e w' => e = .returned (.bool true) ∧ Keep w w' := by
  have Hf := Lib.hid (few_calls A ls c w hl)
  rw [hfb] at Hf
  have HA := Lib.hid (fun wz => alive_calls wz)
  have h60 := (few_true hfb).1
  obtain ⟨k, hak, hk⟩ := mod17 a
  have HSc := Lib.hid (fun (wz : World) (hz : Keep w wz) => scan_bad A ls c (k : Int) (b : Int) wz (hl.keep hz) (by omega) (by omega) (by omega) (.inr (.inr hbad)))
  have Hl := Lib.hid hl
  have Hbad := Lib.hid hbad
  clear hl hfb hbad
  go_enter Try.func5, Try.ntmps5
  go_wp2_with fail
  refine Hf.out.mono ?_
  rintro e w1 ⟨rfl, k1⟩
  go_wp2_with fail
  refine (HSc.out w1 k1).mono ?_
  rintro e w2 ⟨rfl, k2⟩
  obtain ⟨w3, hw3, k3, bx⟩ := box2 w2 27 (.slice none 0 0) (.int .i64 0)
  have hk3 := (k1.trans k2).trans k3
  go_wp2_with fail
  rw [← hw3]
  clear hw3 k1 k2 k3
  have g0 : w3.cell? ⟨w2.heap.size, 0, none⟩ = some (.slice none 0 0) := bx.cell 0
  have lg := bx.lt
  clear bx
  go_loopw [10] (fun vi wr => ∃ i : Nat, i ≤ ls.length ∧ vi = .int .i64 i ∧ Hid ((ls.take i).all (fun x => may x.l) = true) ∧ Keep w3 wr) (fun i _ => ls.length - (intOf i).toNat)
  case atStart => exact ⟨0, Nat.zero_le _, rfl, Lib.hid rfl, Keep.refl _⟩
  case round =>
    obtain ⟨i, hi, rfl, hall, hkeep⟩ := hrel
    by_cases hin : i < ls.length
    · obtain ⟨x, hx⟩ := get_some hin
      obtain ⟨b1, off1, rfl, hb1, x0, x1, xok⟩ := Hl.out.get (hk3.trans hkeep) hx
      have hbl := Nat.lt_of_lt_of_le hb1 (hk3.trans hkeep).size
      have hii : (i : Int) < (ls.length : Int) := by omega
      have hi0 : (0 : Int) ≤ (i : Int) := by omega
      have HM := Lib.hid (rMay_calls x.val x.a x.l x.c wr xok.seg xok.len)
      have Hx := Lib.hid hx
      clear hx xok
      cases hm : may x.l with
      | true =>
        rw [hm] at HM
        have Hn := Lib.hid (all_take hall.out Hx.out hm)
        go_wp2_with fail
        refine HM.out.mono ?_
        rintro e w4 ⟨rfl, k4⟩
        go_wp2
        go_roundw
        case rel => exact ⟨i + 1, hin, by go_num, Hn, hkeep.trans k4⟩
        case measure => simp [intOf]; omega
      | false =>
        rw [hm] at HM
        go_wp2_with fail
        refine HM.out.mono ?_
        rintro e w4 ⟨rfl, k4⟩
        have g04 := (hkeep.trans k4).cell g0
        have lg4 := Nat.lt_of_lt_of_le lg (hkeep.trans k4).size
        go_wp2_with fail
        refine (HA.out w4).mono ?_
        rintro e w5 ⟨rfl, k5⟩
        go_wp2_with fail
        go_ret
        exact ⟨rfl, ((hk3.trans hkeep).trans k4).trans k5⟩
    · have := all_end hall.out (by omega)
      rw [Hbad.out] at this
      cases this

set_option maxHeartbeats 4000000 in
set_option maxRecDepth 100000 in
/-- All may be. -/
theorem regsSound_good (A : Option Addr) (ls : List LvD) (c : Nat) (a b : Nat) (ha : a < 256) (hb : b < 256) (w : World) (hl : Lives w A ls) (hfb : fewB ls = true) (hgood : ls.any (fun x => !may x.l) = false) :
    Calls Try.prog 5 #[.slice A ls.length c, .int .u8 (a : Int), .int .u8 (b : Int)] w fun e w' => e = .returned (.bool true) ∧ Keep w w' := by
  have Hf := Lib.hid (few_calls A ls c w hl)
  rw [hfb] at Hf
  have HA := Lib.hid (fun wz => alive_calls wz)
  have h60 := (few_true hfb).1
  have hm := may_all hgood
  obtain ⟨k, hak, hk⟩ := mod17 a
  have HSc := Lib.hid (fun (wz : World) (hz : Keep w wz) => scan_good A ls c k b wz (hl.keep hz) h60 hk (by omega) hgood)
  have Hap := Lib.hid (fun (i j : Nat) (h1 : i < j) (h2 : j < ls.length) => scan_apart hm k b h1 h2)
  obtain ⟨S, hS, hpl, hs0, hsp, hspn, hsn, hp⟩ := scan_bounds hm k b
  unfold ScanPost at HSc
  rw [hS] at HSc Hap
  have Hl := Lib.hid hl
  have Hm := Lib.hid hm
  have Hp := Lib.hid hp
  have hlen : (toI S.pl).length = ls.length := by rw [toI_len, hpl]
  have hslt : ¬ (S.slots : Int) < (b : Int) := by omega
  have hsltd : decide ((S.slots : Int) < (b : Int)) = false := decide_eq_false hslt
  have hsltn : decide (S.slots < b) = false := decide_eq_false (by omega)
  have hsubn : decide (Rg.spilled S.pl < S.slots - b) = false := decide_eq_false (by omega)
  have s1 : IntKind.i64.wrap ((S.slots : Int) - (b : Int)) = ((S.slots - b : Nat) : Int) := by rw [show (S.slots : Int) - (b : Int) = ((S.slots - b : Nat) : Int) by omega]; exact IntWalk.i64_in _ (by omega)
  have hsub : ¬ ((Rg.spilled S.pl : Nat) : Int) < ((S.slots - b : Nat) : Int) := by omega
  have hsubd : decide (((Rg.spilled S.pl : Nat) : Int) < ((S.slots - b : Nat) : Int)) = false := decide_eq_false hsub
  clear hl hfb hgood hm hp hS
  go_enter Try.func5, Try.ntmps5
  go_wp2_with fail
  refine Hf.out.mono ?_
  rintro e w1 ⟨rfl, k1⟩
  go_wp2_with fail
  refine (HSc.out w1 k1).mono ?_
  rintro e w2 ⟨k2, gb, hgb, bg, rfl⟩
  obtain ⟨w3, hw3, k3, bx⟩ := box2 w2 27 (.slice (some ⟨gb, 0, none⟩) ls.length ls.length) (.int .i64 (S.slots : Int))
  have hk3 := (k1.trans k2).trans k3
  have hseg : Seg w3 (some ⟨gb, 0, none⟩) ((toI S.pl).flatMap plI) := by rw [toI_flat]; exact Seg.of_blk (bg.keep k3)
  go_wp2_with fail
  rw [← hw3]
  clear hw3 k1 k2 k3 bg HSc
  have g0 : w3.cell? ⟨w2.heap.size, 0, none⟩ = some (.slice (some ⟨gb, 0, none⟩) ls.length ls.length) := bx.cell 0
  have g1 : w3.cell? ⟨w2.heap.size, 1, none⟩ = some (.int .i64 (S.slots : Int)) := bx.cell 1
  have lg := bx.lt
  have HSp := Lib.hid (fun (wz : World) (hz : Keep w3 wz) => spilled_calls (some ⟨gb, 0, none⟩) (toI S.pl) ls.length (S.slots : Int) wz (hseg.keep hz) (by rw [hlen]; unfold maxLen; omega))
  have HCl := Lib.hid (fun (wz : World) (hz : Keep w3 wz) => clash_calls A ls c (some ⟨gb, 0, none⟩) (toI S.pl) ls.length (S.slots : Int) wz (Hl.out.keep (hk3.trans hz)) (hseg.keep hz) (by omega) (by rw [hlen]; unfold maxLen; omega))
  rw [hlen, spillN_toI] at HSp
  rw [hlen, Nat.min_self] at HCl
  have Hseg := Lib.hid hseg
  clear bx hseg
  go_loopw [10] (fun vi wr => ∃ i : Nat, i ≤ ls.length ∧ vi = .int .i64 i ∧ Keep w3 wr) (fun i _ => ls.length - (intOf i).toNat)
  case atStart => exact ⟨0, Nat.zero_le _, rfl, Keep.refl _⟩
  case round =>
    obtain ⟨i, hi, rfl, hkeep⟩ := hrel
    by_cases hin : i < ls.length
    · obtain ⟨x, hx⟩ := get_some hin
      obtain ⟨b1, off1, rfl, hb1, x0, x1, xok⟩ := Hl.out.get (hk3.trans hkeep) hx
      have hbl := Nat.lt_of_lt_of_le hb1 (hk3.trans hkeep).size
      have hii : (i : Int) < (ls.length : Int) := by omega
      have hi0 : (0 : Int) ≤ (i : Int) := by omega
      have HM := Lib.hid (rMay_calls x.val x.a x.l x.c wr xok.seg xok.len)
      rw [Hm.out x (List.mem_of_getElem? hx)] at HM
      clear hx xok
      go_wp2_with fail
      refine HM.out.mono ?_
      rintro e w4 ⟨rfl, k4⟩
      go_wp2
      go_roundw
      case rel => exact ⟨i + 1, hin, by go_num, hkeep.trans k4⟩
      case measure => simp [intOf]; omega
    · have kg0 := fun z : KW wr => z.cell (hkeep.cell g0)
      have kg1 := fun z : KW wr => z.cell (hkeep.cell g1)
      have lgr := Nat.lt_of_lt_of_le lg hkeep.size
      have hd : Keep wr wr.drew := (Keep.refl _).drew
      go_wp2_with fail
      refine region_begin (S := fun w' => ∃ z : KW wr, w' = z.val) (by kernel_rfl) ?_
      refine region_take [0, 1, 2, 3, 4, 5, 6, 7, 8, 9, 10, 11, 12, 13, 14, 15, 16] [] 10 (by kernel_rfl) (by kernel_rfl) (InK.mk' hd) ?_
      show wpQuiet _ _ _ _ [_, _, _, _, _, _, _, _, _, _, _, _, _, _, _, _, _] _
      repeat (go_big_quiet_step (fail))
      refine wpQuiet_nil ?_
      refine region_take [17, 18, 19, 20, 21, 22, 23] [0, 1, 2, 3, 4, 5, 6, 7, 8, 9, 10, 11, 12, 13, 14, 15, 16] 3 (by kernel_rfl) (by kernel_rfl) (InK.mk' hd) ?_
      show wpQuiet _ _ _ _ [_, _, _, _, _, _, _] _
      repeat (go_big_quiet_step (fail))
      refine wpQuiet_nil ?_
      refine region_fix (i := 24) (fuel := 2) rfl (by kernel_rfl) (fun K hK => ?_)
      go_simp
      refine (HSp.out _ (hkeep.trans hd)).mono ?_
      rintro e w4 ⟨rfl, k4'⟩
      have k4 := hd.trans k4'
      refine hK _ _ (InK.mk' k4) ?_
      clear hK K
      refine region_take [25, 26] [0, 1, 2, 3, 4, 5, 6, 7, 8, 9, 10, 11, 12, 13, 14, 15, 16, 17, 18, 19, 20, 21, 22, 23, 24] 0 (by kernel_rfl) (by kernel_rfl) (InK.mk' k4) ?_
      show wpQuiet _ _ _ _ [_, _] _
      repeat (go_big_quiet_step (fail))
      refine wpQuiet_nil ?_
      refine region_done (by kernel_rfl) ?_
      have hkeepO := hkeep.trans k4
      clear kg0 kg1 lgr HSp hkeep hd k4' k4
      go_wp2
      go_loopw [11] (fun vi wr => ∃ i : Nat, i ≤ ls.length ∧ vi = .int .i64 i ∧ Keep w3 wr) (fun i _ => ls.length - (intOf i).toNat)
      case atStart => exact ⟨0, Nat.zero_le _, rfl, hkeepO⟩
      case round =>
        obtain ⟨j, hj, rfl, hkeep⟩ := hrel
        have g0r := hkeep.cell g0
        have g1r := hkeep.cell g1
        have lgr := Nat.lt_of_lt_of_le lg hkeep.size
        by_cases hjn : j < ls.length
        · obtain ⟨p, hpj⟩ := get_some (l := S.pl) (k := j) (by omega)
          obtain ⟨b2, off2, e2, hb2, p0, p1⟩ := pl_get Hseg.out hkeep (toI_get hpj)
          cases e2
          simp only [Nat.zero_add] at p0 p1
          have hb2l := Nat.lt_of_lt_of_le hb2 hkeep.size
          obtain ⟨hp1, hp2⟩ := Hp.out j p hpj
          have hjj : (j : Int) < (ls.length : Int) := by omega
          have hj0 : (0 : Int) ≤ (j : Int) := by omega
          obtain ⟨wb, hwb, kb, bb⟩ := box2 wr 47 (.bool p.1) (.int .i64 (p.2 : Int))
          have y0 : wb.cell? ⟨wr.heap.size, 0, none⟩ = some (.bool p.1) := bb.cell 0
          have y1 : wb.cell? ⟨wr.heap.size, 1, none⟩ = some (.int .i64 (p.2 : Int)) := bb.cell 1
          have yl := bb.lt
          have z1 := kb.cell g1r
          have zl := Nat.lt_of_lt_of_le lgr kb.size
          rw [hwb] at y0 y1 yl z1 zl
          have hn0 : ¬ (p.2 : Int) < 0 := by omega
          have hn0d : decide ((p.2 : Int) < 0) = false := decide_eq_false hn0
          cases hp0 : p.1 with
          | false =>
            rw [hp0] at p0 y0 y1 yl z1 zl hwb
            have hq : ¬ (k : Int) ≤ (p.2 : Int) := by have := hp1 hp0; omega
            have hqd : decide ((k : Int) ≤ (p.2 : Int)) = false := decide_eq_false hq
            clear hpj hp1 hp2 bb
            go_wp2
            rw [← hwb]
            go_roundw
            case rel => exact ⟨j + 1, hjn, by go_num, hkeep.trans kb⟩
            case measure => simp [intOf]; omega
          | true =>
            rw [hp0] at p0 y0 y1 yl z1 zl hwb
            have hq : ¬ (p.2 : Int) < (b : Int) := by have := hp2 hp0; omega
            have hqd : decide ((p.2 : Int) < (b : Int)) = false := decide_eq_false hq
            have hr : ¬ (S.slots : Int) ≤ (p.2 : Int) := by have := hp2 hp0; omega
            have hrd : decide ((S.slots : Int) ≤ (p.2 : Int)) = false := decide_eq_false hr
            clear hpj hp1 hp2 bb
            go_wp2
            rw [← hwb]
            go_roundw
            case rel => exact ⟨j + 1, hjn, by go_num, hkeep.trans kb⟩
            case measure => simp [intOf]; omega
        · go_wp2_with fail
          refine (HCl.out wr hkeep).mono ?_
          rintro e w5 ⟨h5, k5⟩
          obtain rfl := h5.unique (.inr ⟨fun i j h1 h2 => Hap.out i j h1 h2, rfl⟩)
          clear h5
          go_wp2_with fail
          refine (HA.out w5).mono ?_
          rintro e w6 ⟨rfl, k6⟩
          go_wp2_with fail
          go_ret
          exact ⟨rfl, ((hk3.trans hkeep).trans k5).trans k6⟩
theorem regsSound_walk (A : Option Addr) (ls : List LvD) (c : Nat) (n1 n2 : Int) (w : World) (hl : Lives w A ls) (h1 : (Lit.int .u8 n1).wf = true) (h2 : (Lit.int .u8 n2).wf = true) :
    Calls Try.prog 5 #[.slice A ls.length c, .int .u8 n1, .int .u8 n2] w fun e w' => e = .returned (.bool true) ∧ Keep w w' := by
  obtain ⟨a, rfl, ha⟩ := u8_nat h1
  obtain ⟨b, rfl, hb⟩ := u8_nat h2
  cases hfb : fewB ls with
  | false =>
    have Hf := Lib.hid (few_calls A ls c w hl)
    have HA := Lib.hid (fun wz => alive_calls wz)
    rw [hfb] at Hf
    clear hl h1 h2 hfb
    go_enter Try.func5, Try.ntmps5
    go_wp2_with fail
    refine Hf.out.mono ?_
    rintro e w1 ⟨rfl, k1⟩
    go_wp2_with fail
    refine (HA.out w1).mono ?_
    rintro e w2 ⟨rfl, k2⟩
    go_wp2_with fail
    go_ret
    exact ⟨rfl, k1.trans k2⟩
  | true =>
    cases hany : ls.any (fun x => !may x.l) with
    | true => exact regsSound_bad A ls c a b ha hb w hl hfb hany
    | false => exact regsSound_good A ls c a b ha hb w hl hfb hany
end Go.Proofs.Ytigidchignlpmaa
