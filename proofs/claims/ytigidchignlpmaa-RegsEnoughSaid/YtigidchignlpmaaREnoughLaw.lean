/-
  The law on enough registers.
-/
import Derived.Test.YtigidchignlpmaaRSoundLaw
namespace Go.Proofs.Ytigidchignlpmaa
open Go Go.RowKit Rg

/-- m is the most of the first i laps. -/
structure MostAt (f : Nat → Nat) (i : Nat) (m : Int) : Prop where
  le : 0 ≤ m ∧ m ≤ 60
  up : ∀ j, j < i → (f j : Int) ≤ m
  at_ : m = 0 ∨ ∃ j, j < i ∧ (f j : Int) = m
theorem MostAt.big {f : Nat → Nat} {i : Nat} {m l : Int} (h : MostAt f i m) (hl : (f i : Int) = l) (h60 : l ≤ 60) (hg : m ≤ l) : MostAt f (i + 1) l :=
  ⟨⟨by have := h.le.1; omega, h60⟩, fun j hj => by
    by_cases e : j = i
    · rw [e, hl]; omega
    · have := h.up j (by omega); omega, .inr ⟨i, by omega, hl⟩⟩
theorem MostAt.small {f : Nat → Nat} {i : Nat} {m l : Int} (h : MostAt f i m) (hl : (f i : Int) = l) (hg : l ≤ m) : MostAt f (i + 1) m :=
  ⟨h.le, fun j hj => by
    by_cases e : j = i
    · rw [e, hl]; exact hg
    · exact h.up j (by omega), by
    rcases h.at_ with h1 | ⟨j, h1, h2⟩
    · exact .inl h1
    · exact .inr ⟨j, by omega, h2⟩⟩
theorem MostAt.iff {f : Nat → Nat} {n k : Nat} {m : Int} (h : MostAt f n m) : m ≤ (k : Int) ↔ ∀ i, i < n → f i ≤ k := by
  constructor
  · intro h1 i hi
    have := h.up i hi; omega
  · intro h1
    rcases h.at_ with h2 | ⟨j, h2, h3⟩
    · omega
    · have := h1 j h2; omega

set_option maxHeartbeats 4000000 in
set_option maxRecDepth 100000 in
theorem regsEnough_good (A : Option Addr) (ls : List LvD) (c : Nat) (a : Nat) (ha : a < 256) (w : World) (hl : Lives w A ls) (hfb : fewB ls = true) (hgood : ls.any (fun x => !may x.l) = false) :
    Calls Try.prog 6 #[.slice A ls.length c, .int .u8 (a : Int)] w fun e w' => e = .returned (.bool true) ∧ Keep w w' := by
  have Hf := Lib.hid (few_calls A ls c w hl)
  rw [hfb] at Hf
  have HA := Lib.hid (fun wz => alive_calls wz)
  have h60 := (few_true hfb).1
  have hm := may_all hgood
  have hne : ∀ x ∈ ls, 0 < x.l.length := fun x hx => may_len (hm x hx)
  obtain ⟨k, hak, hk⟩ := mod17 a
  have HSc := Lib.hid (fun (wz : World) (hz : Keep w wz) => scan_good A ls c k 0 wz (hl.keep hz) h60 hk (by omega) hgood)
  have hen := enough (s0 := 0) (k := k) (may_lt hgood)
  obtain ⟨S, hS, hpl, hs0, hsp, hspn, hsn, hp⟩ := scan_bounds hm k 0
  unfold ScanPost at HSc
  rw [hS] at HSc hen
  have Hl := Lib.hid hl
  have Hm := Lib.hid hm
  have Hen := Lib.hid hen
  have HLp := Lib.hid (fun (p : Int) (wz : World) (hz : Keep w wz) => lap_calls A ls c p wz (hl.keep hz) h60 hne)
  have hlen : (toI S.pl).length = ls.length := by rw [toI_len, hpl]
  clear hl hfb hgood hm hp hS hen
  go_enter Try.func6, Try.ntmps6
  go_wp2_with fail
  refine Hf.out.mono ?_
  rintro e w1 ⟨rfl, k1⟩
  go_wp2_with fail
  simp only [hak]
  clear hak
  go_loopw [6] (fun vi wr => ∃ i : Nat, i ≤ ls.length ∧ vi = .int .i64 i ∧ Keep w wr) (fun i _ => ls.length - (intOf i).toNat)
  case atStart => exact ⟨0, Nat.zero_le _, rfl, k1⟩
  case round =>
    clear k1
    obtain ⟨i, hi, rfl, hkeep⟩ := hrel
    by_cases hin : i < ls.length
    · obtain ⟨x, hx⟩ := get_some hin
      obtain ⟨b1, off1, rfl, hb1, x0, x1, xok⟩ := Hl.out.get hkeep hx
      have hbl := Nat.lt_of_lt_of_le hb1 hkeep.size
      have hii : (i : Int) < (ls.length : Int) := by omega
      have hi0 : (0 : Int) ≤ (i : Int) := by omega
      have HM := Lib.hid (rMay_calls x.val x.a x.l x.c wr xok.seg xok.len)
      rw [Hm.out x (List.mem_of_getElem? hx)] at HM
      clear hx xok
      go_wp2_with fail
      refine HM.out.mono ?_
      rintro e w4 ⟨rfl, k4⟩
      go_wp2
      go_roundw
      case rel => exact ⟨i + 1, hin, by go_num, hkeep.trans k4⟩
      case measure => simp [intOf]; omega
    · have hkeepO := hkeep
      clear hkeep
      go_wp2
      go_loopw [7, 8] (fun vm vi wr => ∃ (i : Nat) (m : Int), i ≤ ls.length ∧ vi = .int .i64 i ∧ vm = .int .i64 m ∧ Hid (MostAt (fun j => Rg.lap (BL ls) (EL ls) ls.length (BL ls j)) i m) ∧ Keep w wr) (fun _ i _ => ls.length - (intOf i).toNat)
      case atStart => exact ⟨0, 0, Nat.zero_le _, rfl, rfl, Lib.hid ⟨⟨by omega, by omega⟩, fun j hj => by omega, .inl rfl⟩, hkeepO⟩
      case round =>
        clear hkeepO
        obtain ⟨i, m, hi, rfl, rfl, Hmost, hkeep⟩ := hrel
        by_cases hin : i < ls.length
        · obtain ⟨x, hx⟩ := get_some hin
          obtain ⟨b1, off1, rfl, hb1, x0, x1, xok⟩ := Hl.out.get hkeep hx
          have hbl := Nat.lt_of_lt_of_le hb1 hkeep.size
          have hii : (i : Int) < (ls.length : Int) := by omega
          have hi0 : (0 : Int) ≤ (i : Int) := by omega
          have HB := Lib.hid (rBegin_calls x.val x.a x.l x.c wr xok.seg (hne x (List.mem_of_getElem? hx)))
          have hBx := BL_get hx
          obtain ⟨L, hL⟩ : ∃ L : Int, (Rg.lap (BL ls) (EL ls) ls.length (BL ls i) : Int) = L := ⟨_, rfl⟩
          have hL60 : L ≤ 60 := by have := lapN_le (BL ls) (EL ls) (BL ls i) ls.length; omega
          have HL := Lib.hid (HLp.out (bgn x.l))
          rw [← hBx, hL] at HL
          rw [hBx] at HL
          have HhL := Lib.hid hL
          clear hx xok hBx hL
          go_wp2_with fail
          refine HB.out.mono ?_
          rintro e w4 ⟨rfl, k4⟩
          go_wp2_with fail
          refine (HL.out w4 (hkeep.trans k4)).mono ?_
          rintro e w5 ⟨rfl, k5⟩
          by_cases g : m < L
          · have Hn := Lib.hid (Hmost.out.big HhL.out hL60 (by omega))
            have g2 : m ≤ L := by omega
            have g3 : ¬ L ≤ m := by omega
            have g4 : ¬ L < m := by omega
            go_wp2
            go_roundw
            case rel => exact ⟨i + 1, L, hin, by go_num, by simp [g, g2, g3, g4], Hn, (hkeep.trans k4).trans k5⟩
            case measure => simp [intOf]; omega
          · have Hn := Lib.hid (Hmost.out.small HhL.out (by omega))
            have g2 : L ≤ m := by omega
            go_wp2
            go_roundw
            case rel => exact ⟨i + 1, m, hin, by go_num, by simp [g, g2], Hn, (hkeep.trans k4).trans k5⟩
            case measure => simp [intOf]; omega
        · have hkeepO := hkeep
          have Hiff := Lib.hid (show m ≤ (k : Int) ↔ Rg.spilled S.pl = 0 from by
            have h1 := Hmost.out
            rw [show i = ls.length by omega] at h1
            rw [h1.iff, Hen.out])
          clear hkeep
          go_wp2_with fail
          refine (HSc.out wr hkeepO).mono ?_
          rintro e w2 ⟨k2, gb, hgb, bg, rfl⟩
          obtain ⟨w3, hw3, k3, bx⟩ := box2 w2 27 (.slice (some ⟨gb, 0, none⟩) ls.length ls.length) (.int .i64 (S.slots : Int))
          have hk3 := (hkeepO.trans k2).trans k3
          have hseg : Seg w3 (some ⟨gb, 0, none⟩) ((toI S.pl).flatMap plI) := by rw [toI_flat]; exact Seg.of_blk (bg.keep k3)
          have g0 : w3.cell? ⟨w2.heap.size, 0, none⟩ = some (.slice (some ⟨gb, 0, none⟩) ls.length ls.length) := bx.cell 0
          have g1 : w3.cell? ⟨w2.heap.size, 1, none⟩ = some (.int .i64 (S.slots : Int)) := bx.cell 1
          have lg := bx.lt
          rw [hw3] at g0 g1 lg
          have HSp := Lib.hid (spilled_calls (some ⟨gb, 0, none⟩) (toI S.pl) ls.length (S.slots : Int) w3 hseg (by rw [hlen]; unfold maxLen; omega))
          rw [hlen, spillN_toI] at HSp
          clear hseg bg bx
          obtain ⟨sp, hsp⟩ : ∃ sp : Int, ((Rg.spilled S.pl : Nat) : Int) = sp := ⟨_, rfl⟩
          rw [hsp] at HSp
          by_cases h0 : sp = 0
          · have hmk : m ≤ (k : Int) := Hiff.out.2 (by omega)
            rw [h0] at HSp
            go_wp2_with fail
            rw [← hw3]
            refine HSp.out.mono ?_
            rintro e w6 ⟨rfl, k6⟩
            go_wp2_with fail
            refine (HA.out w6).mono ?_
            rintro e w7 ⟨rfl, k7⟩
            go_wp2_with fail
            go_ret
            exact ⟨rfl, (hk3.trans k6).trans k7⟩
          · have hmk : ¬ m ≤ (k : Int) := fun h => by have := Hiff.out.1 h; omega
            have hmkd : decide (m ≤ (k : Int)) = false := decide_eq_false hmk
            have h0d : decide (sp = 0) = false := decide_eq_false h0
            have h0b : (sp == 0) = false := beq_eq_false_iff_ne.2 h0
            go_wp2_with fail
            rw [← hw3]
            refine HSp.out.mono ?_
            rintro e w6 ⟨rfl, k6⟩
            go_wp2_with fail
            refine (HA.out w6).mono ?_
            rintro e w7 ⟨rfl, k7⟩
            go_wp2_with fail
            go_ret
            exact ⟨rfl, (hk3.trans k6).trans k7⟩

set_option maxHeartbeats 2000000 in
theorem regsEnough_bad (A : Option Addr) (ls : List LvD) (c : Nat) (a : Nat) (ha : a < 256) (w : World) (hl : Lives w A ls) (hfb : fewB ls = true) (hbad : ls.any (fun x => !may x.l) = true) :
    Calls Try.prog 6 #[.slice A ls.length c, .int .u8 (a : Int)] w fun e w' => e = .returned (.bool true) ∧ Keep w w' := by
  have Hf := Lib.hid (few_calls A ls c w hl)
  rw [hfb] at Hf
  have HA := Lib.hid (fun wz => alive_calls wz)
  have h60 := (few_true hfb).1
  obtain ⟨k, hak, hk⟩ := mod17 a
  have Hl := Lib.hid hl
  have Hbad := Lib.hid hbad
  clear hl hfb hbad
  go_enter Try.func6, Try.ntmps6
  go_wp2_with fail
  refine Hf.out.mono ?_
  rintro e w1 ⟨rfl, k1⟩
  go_wp2_with fail
  simp only [hak]
  clear hak
  go_loopw [6] (fun vi wr => ∃ i : Nat, i ≤ ls.length ∧ vi = .int .i64 i ∧ Hid ((ls.take i).all (fun x => may x.l) = true) ∧ Keep w wr) (fun i _ => ls.length - (intOf i).toNat)
  case atStart => exact ⟨0, Nat.zero_le _, rfl, Lib.hid rfl, k1⟩
  case round =>
    clear k1
    obtain ⟨i, hi, rfl, hall, hkeep⟩ := hrel
    by_cases hin : i < ls.length
    · obtain ⟨x, hx⟩ := get_some hin
      obtain ⟨b1, off1, rfl, hb1, x0, x1, xok⟩ := Hl.out.get hkeep hx
      have hbl := Nat.lt_of_lt_of_le hb1 hkeep.size
      have hii : (i : Int) < (ls.length : Int) := by omega
      have hi0 : (0 : Int) ≤ (i : Int) := by omega
      have HM := Lib.hid (rMay_calls x.val x.a x.l x.c wr xok.seg xok.len)
      have Hx := Lib.hid hx
      clear hx xok
      cases hm : may x.l with
      | true =>
        rw [hm] at HM
        have Hn := Lib.hid (all_take hall.out Hx.out hm)
        go_wp2_with fail
        refine HM.out.mono ?_
        rintro e w4 ⟨rfl, k4⟩
        go_wp2
        go_roundw
        case rel => exact ⟨i + 1, hin, by go_num, Hn, hkeep.trans k4⟩
        case measure => simp [intOf]; omega
      | false =>
        rw [hm] at HM
        go_wp2_with fail
        refine HM.out.mono ?_
        rintro e w4 ⟨rfl, k4⟩
        go_wp2_with fail
        refine (HA.out w4).mono ?_
        rintro e w5 ⟨rfl, k5⟩
        go_wp2_with fail
        go_ret
        exact ⟨rfl, (hkeep.trans k4).trans k5⟩
    · have := all_end hall.out (by omega)
      rw [Hbad.out] at this
      cases this

theorem regsEnough_walk (A : Option Addr) (ls : List LvD) (c : Nat) (n1 : Int) (w : World) (hl : Lives w A ls) (h1 : (Lit.int .u8 n1).wf = true) :
    Calls Try.prog 6 #[.slice A ls.length c, .int .u8 n1] w fun e w' => e = .returned (.bool true) ∧ Keep w w' := by
  obtain ⟨a, rfl, ha⟩ := u8_nat h1
  cases hfb : fewB ls with
  | false =>
    have Hf := Lib.hid (few_calls A ls c w hl)
    have HA := Lib.hid (fun wz => alive_calls wz)
    rw [hfb] at Hf
    clear hl h1 hfb
    go_enter Try.func6, Try.ntmps6
    go_wp2_with fail
    refine Hf.out.mono ?_
    rintro e w1 ⟨rfl, k1⟩
    go_wp2_with fail
    refine (HA.out w1).mono ?_
    rintro e w2 ⟨rfl, k2⟩
    go_wp2_with fail
    go_ret
    exact ⟨rfl, k1.trans k2⟩
  | true =>
    cases hany : ls.any (fun x => !may x.l) with
    | true => exact regsEnough_bad A ls c a ha w hl hfb hany
    | false => exact regsEnough_good A ls c a ha w hl hfb hany
end Go.Proofs.Ytigidchignlpmaa
