/-
  The reference's slot.
-/
import Derived.Test.YtigidchignlpmaaRRef5
import Derived.Test.YtigidchignlpmaaRRef2
namespace Go.Proofs.Ytigidchignlpmaa
open Go Go.RowKit Rg

/-- A row of taken slots is no longer than there are elements. -/
theorem low_le {B E : Nat → Int} {t : Rf} {x s0 m : Nat} (h : ∀ j, s0 ≤ j → j < m → t.taken B E x j = true) : m ≤ s0 + t.slots.length := by
  have h1 : ((List.range' s0 (m - s0)).map some).length ≤ t.slots.length := by
    refine nodup_sub (List.Pairwise.map some (fun a b h e => h (Option.some.inj e)) List.nodup_range') fun o ho => ?_
    obtain ⟨j, hj, rfl⟩ := List.mem_map.1 ho
    rw [List.mem_range'_1] at hj
    have h2 := h j hj.1 (by omega)
    unfold Rf.taken at h2
    obtain ⟨y, hy, h3⟩ := List.any_eq_true.1 h2
    unfold Rf.takes at h3
    rw [Bool.and_eq_true] at h3
    have h4 := of_decide_eq_true h3.1
    rw [List.getD_eq_getElem?_getD] at h4
    have hy' : y < t.slots.length := by simpa using hy
    rw [List.getElem?_eq_getElem hy'] at h4
    simp only [Option.getD_some] at h4
    rw [← h4]
    exact List.getElem_mem hy'
  simp only [List.length_map, List.length_range'] at h1
  omega
theorem taken_of {B E : Nat → Int} {t : Rf} {x m k : Nat} (hk : k < t.slots.length) (h : t.takes B E x m k = true) : t.taken B E x m = true := by
  unfold Rf.taken
  exact List.any_eq_true.2 ⟨k, by simpa using hk, h⟩
theorem taken_none {B E : Nat → Int} {t : Rf} {x m : Nat} (h : ∀ y, y < t.slots.length → t.takes B E x m y = false) : t.taken B E x m = false := by
  unfold Rf.taken
  rw [List.any_eq_false]
  intro y hy
  rw [h y (by simpa using hy)]
  simp
/-- Where the inner loop is. -/
structure SlotAt (B E : Nat → Int) (s0 : Nat) (t : Rf) (x m m' k : Nat) : Prop where
  le : s0 ≤ m ∧ m ≤ m'
  low : ∀ j, s0 ≤ j → j < m' → t.taken B E x j = true
  here : m' = m → ∀ y, y < k → t.takes B E x m y = false
theorem SlotAt.no {B E : Nat → Int} {s0 : Nat} {t : Rf} {x m m' k : Nat} (h : SlotAt B E s0 t x m m' k) (hk : t.takes B E x m' k = false) : SlotAt B E s0 t x m m' (k + 1) :=
  ⟨h.le, h.low, fun e y hy => by
    by_cases e2 : y = k
    · rw [e2, ← e]; exact hk
    · exact h.here e y (by omega)⟩
theorem SlotAt.yes {B E : Nat → Int} {s0 : Nat} {t : Rf} {x m m' k : Nat} (h : SlotAt B E s0 t x m m' k) (hk : t.takes B E x m' k = true) (hl : k < t.slots.length) : SlotAt B E s0 t x m (m' + 1) (k + 1) :=
  ⟨⟨h.le.1, by have := h.le.2; omega⟩, fun j h1 h2 => by
    by_cases e : j = m'
    · rw [e]; exact taken_of hl hk
    · exact h.low j h1 (by omega), fun e => by have := h.le.2; omega⟩

def slotM (n : Nat) (vn va : Value) : Nat := 2 * (n - (intOf vn).toNat) + (match va with | .bool true => 1 | _ => 0)

set_option maxHeartbeats 4000000 in
set_option maxRecDepth 100000 in
theorem rSlot_calls (x : RfD) (A : Option Addr) (ls : List LvD) (c : Nat) (i s0 : Nat) (w : World) (h : RfOk w x) (hl : Lives w A ls) (hn : ls.length ≤ 60) (hne : ∀ x ∈ ls, 0 < x.l.length) (hlen : x.t.slots.length = ls.length) (hi : i < ls.length) (hs : s0 ≤ 65536) :
    Calls Try.prog 48 #[.agg x.cells.toArray, .slice A ls.length c, .int .i64 (i : Int), .int .i64 (s0 : Int)] w fun e w' => ∃ m : Nat, e = .returned (.int .i64 (m : Int)) ∧ x.t.IsSlot (BL ls) (EL ls) s0 i m ∧ Keep w w' := by
  obtain ⟨a1, c1, a2, c2, t⟩ := x
  obtain ⟨wa, hwa⟩ : ∃ wa : World, wa = w.alloc (.cells #[.slice a1 t.regs.length c1, .slice a2 t.slots.length c2] 66) := ⟨_, rfl⟩
  have hka : Keep w wa := by rw [hwa]; exact (Keep.refl _).alloc _
  have b0 : Blk wa w.heap.size 66 [.slice a1 t.regs.length c1, .slice a2 t.slots.length c2] := by rw [hwa]; exact Blk.new w _ _
  have hseg : Seg wa a2 (t.slots.flatMap optF) := (h.keep hka).slots
  replace hlen : t.slots.length = ls.length := hlen
  show Calls Try.prog 48 #[.agg #[.slice a1 t.regs.length c1, .slice a2 t.slots.length c2], .slice A ls.length c, .int .i64 (i : Int), .int .i64 (s0 : Int)] w fun e w' => ∃ m : Nat, e = .returned (.int .i64 (m : Int)) ∧ t.IsSlot (BL ls) (EL ls) s0 i m ∧ Keep w w'
  obtain ⟨x, hx⟩ := get_some hi
  have h0x := hne x (List.mem_of_getElem? hx)
  have g1 : wa.cell? ⟨w.heap.size, 1, none⟩ = some (.slice a2 t.slots.length c2) := b0.cell 1
  have lg := b0.lt
  have Hseg := Lib.hid hseg
  have Hl := Lib.hid (hl.keep hka)
  have hii : (i : Int) < (ls.length : Int) := by omega
  have hi0 : (0 : Int) ≤ (i : Int) := by omega
  have Hlow := Lib.hid (fun (m : Nat) => low_le (B := BL ls) (E := EL ls) (t := t) (x := i) (s0 := s0) (m := m))
  have HT := Lib.hid (show ∀ k y o m, ls[k]? = some y → t.slots[k]? = some o → t.takes (BL ls) (EL ls) i m k = (decide (o = some m) && lapsB (bgn y.l) (fin y.l) (bgn x.l) (fin x.l)) from fun k y o m hy ho => by
    unfold Rf.takes laps
    rw [BL_get hy, EL_get hy, BL_get hx, EL_get hx, List.getD_eq_getElem?_getD, ho]; rfl)
  have Hx := Lib.hid hx
  clear h hl b0 hseg hx
  rw [hlen] at g1 ⊢
  rw [hlen] at Hlow
  go_enter Try.func48, Try.ntmps48
  go_wp2_with fail
  rw [hlen] at hwa
  rw [← hwa]
  clear hwa
  go_wp2
  go_loopw [9, 10] (fun vn va wr => ∃ (m : Nat) (ag : Bool), vn = .int .i64 m ∧ va = .bool ag ∧ Hid (s0 ≤ m ∧ (∀ j, s0 ≤ j → j < m → t.taken (BL ls) (EL ls) i j = true) ∧ (ag = false → t.taken (BL ls) (EL ls) i m = false)) ∧ Keep wa wr) (fun vn va _ => slotM (s0 + ls.length) vn va)
  case atStart => exact ⟨s0, true, rfl, rfl, Lib.hid ⟨Nat.le_refl _, fun j h1 h2 => by omega, fun h => by cases h⟩, Keep.refl _⟩
  case round =>
    obtain ⟨m, ag, rfl, rfl, hm, hkeep⟩ := hrel
    cases ag with
    | false =>
      have Hr := Lib.hid (show t.IsSlot (BL ls) (EL ls) s0 i m from ⟨hm.out.1, hm.out.2.2 rfl, hm.out.2.1⟩)
      go_wp2
      go_ret
      exact ⟨m, rfl, Hr.out, hka.trans hkeep⟩
    | true =>
      have hkeepO := hkeep
      clear hkeep
      go_wp2
      go_loopw [9, 10, 11] (fun vn va vk wr => ∃ m' k : Nat, k ≤ ls.length ∧ vn = .int .i64 m' ∧ va = .bool (decide (m' ≠ m)) ∧ vk = .int .i64 k ∧ Hid (SlotAt (BL ls) (EL ls) s0 t i m m' k) ∧ Keep wa wr) (fun _ _ vk _ => ls.length - (intOf vk).toNat)
      case atStart => exact ⟨m, 0, Nat.zero_le _, rfl, by simp, rfl, Lib.hid ⟨⟨hm.out.1, Nat.le_refl _⟩, hm.out.2.1, fun _ y hy => by omega⟩, hkeepO⟩
      case round =>
        obtain ⟨m', k, hk, rfl, rfl, rfl, hat, hkeep⟩ := hrel
        by_cases hkn : k < ls.length
        · obtain ⟨y, hy⟩ := get_some hkn
          obtain ⟨o, ho⟩ := get_some (l := t.slots) (k := k) (by omega)
          obtain ⟨b1, off1, hA, hb1, x0, x1, xok⟩ := Hl.out.get hkeep Hx.out
          obtain ⟨b2, off2, e2, _, y0, y1, yok⟩ := Hl.out.get hkeep hy
          obtain ⟨b3, off3, hP, hb3, p0⟩ := opt_at Hseg.out hkeep ho
          subst hA
          cases e2
          subst hP
          have hb := Nat.lt_of_lt_of_le hb1 hkeep.size
          have hbb := Nat.lt_of_lt_of_le hb3 hkeep.size
          have hkk : (k : Int) < (ls.length : Int) := by omega
          have hk0 : (0 : Int) ≤ (k : Int) := by omega
          obtain ⟨z, hz⟩ := optC_int o
          rw [hz] at p0
          have kx0 := fun z : KW wr => z.cell x0
          have kx1 := fun z : KW wr => z.cell x1
          have ky0 := fun z : KW wr => z.cell y0
          have ky1 := fun z : KW wr => z.cell y1
          have kp0 := fun z : KW wr => z.cell p0
          have kg := fun z : KW wr => z.cell (hkeep.cell g1)
          have lgr := Nat.lt_of_lt_of_le lg hkeep.size
          have hd : Keep wr wr.drew := (Keep.refl _).drew
          have HM := Lib.hid (fun (wz : World) (hk : Keep wr wz) => rLaps_calls y.val x.val y.a x.a y.l x.l y.c x.c wz (yok.keep hk).seg (xok.keep hk).seg (hne y (List.mem_of_getElem? hy)) h0x yok.len xok.len)
          have hzo : decide (z = (m' : Int)) = decide (o = some m') := by
            rw [decide_eq_decide]
            cases o with
            | none =>
              have : z = -1 := by cases hz; rfl
              subst this
              constructor
              · intro h; omega
              · intro h; cases h
            | some j =>
              have : z = (j : Int) := by cases hz; rfl
              subst this
              constructor
              · intro h; rw [show j = m' by omega]
              · intro h; rw [Option.some.inj h]
          have Hc := Lib.hid (HT.out k y o m' hy ho)
          have hmm : m' ≤ s0 + ls.length := Hlow.out m' hat.out.low
          have s1 : IntKind.i64.wrap ((m' : Int) + 1) = ((m' + 1 : Nat) : Int) := by rw [show (m' : Int) + 1 = ((m' + 1 : Nat) : Int) by omega]; exact IntWalk.i64_in _ (by omega)
          have hml := hat.out.le.2
          rw [← hzo] at Hc
          clear xok yok hy ho x0 x1 y0 y1 p0 hz hzo
          by_cases dz : z = (m' : Int)
          rotate_left
          · have d : decide (z = (m' : Int)) = false := decide_eq_false dz
            have d3 : (z == (m' : Int)) = false := beq_eq_false_iff_ne.2 dz
            have Hno := Lib.hid (hat.out.no (by rw [Hc.out, d]; rfl))
            go_wp2_with fail
            refine region_begin (S := fun w' => ∃ z : KW wr, w' = z.val) (by kernel_rfl) ?_
            refine region_take [0, 1, 2, 3, 4, 5, 6, 7, 8, 9, 10, 11, 12, 13, 14, 15] [] 2 (by kernel_rfl) (by kernel_rfl) (InK.mk' hd) ?_
            show wpQuiet _ _ _ _ [_, _, _, _, _, _, _, _, _, _, _, _, _, _, _, _] _
            repeat (go_big_quiet_step (fail))
            refine wpQuiet_nil ?_
            refine region_fix (i := 16) (fuel := 1) rfl (by kernel_rfl) (fun K hK => ?_)
            go_simp
            refine hK _ _ (InK.mk' hd) ?_
            clear hK K
            refine region_take [17] [0, 1, 2, 3, 4, 5, 6, 7, 8, 9, 10, 11, 12, 13, 14, 15, 16] 0 (by kernel_rfl) (by kernel_rfl) (InK.mk' hd) ?_
            show wpQuiet _ _ _ _ [_] _
            repeat (go_big_quiet_step (fail))
            refine wpQuiet_nil ?_
            refine region_done (by kernel_rfl) ?_
            clear kx0 kx1 ky0 ky1 kp0 kg HM
            go_wp2
            go_roundw
            case rel => exact ⟨m', k + 1, hkn, rfl, by simp, by go_num, Hno, hkeep.trans hd⟩
            case measure => simp [intOf]; omega
          · have d : decide (z = (m' : Int)) = true := decide_eq_true dz
            subst dz
            go_wp2_with fail
            refine region_begin (S := fun w' => ∃ z : KW wr, w' = z.val) (by kernel_rfl) ?_
            refine region_take [0, 1, 2, 3, 4, 5, 6, 7, 8, 9, 10, 11, 12, 13, 14, 15] [] 2 (by kernel_rfl) (by kernel_rfl) (InK.mk' hd) ?_
            show wpQuiet _ _ _ _ [_, _, _, _, _, _, _, _, _, _, _, _, _, _, _, _] _
            repeat (go_big_quiet_step (fail))
            refine wpQuiet_nil ?_
            refine region_fix (i := 16) (fuel := 1) rfl (by kernel_rfl) (fun K hK => ?_)
            go_simp
            refine (HM.out _ hd).mono ?_
            rintro e w1 ⟨rfl, k1'⟩
            have k1 := hd.trans k1'
            refine hK _ _ (InK.mk' k1) ?_
            clear hK K
            refine region_take [17] [0, 1, 2, 3, 4, 5, 6, 7, 8, 9, 10, 11, 12, 13, 14, 15, 16] 0 (by kernel_rfl) (by kernel_rfl) (InK.mk' k1) ?_
            show wpQuiet _ _ _ _ [_] _
            repeat (go_big_quiet_step (fail))
            refine wpQuiet_nil ?_
            refine region_done (by kernel_rfl) ?_
            clear kx0 kx1 ky0 ky1 kp0 kg HM
            cases dm : lapsB (bgn y.l) (fin y.l) (bgn x.l) (fin x.l)
            · have Hno := Lib.hid (hat.out.no (by rw [Hc.out, d, dm]; rfl))
              go_wp2
              go_roundw
              case rel => exact ⟨m', k + 1, hkn, rfl, by simp, by go_num, Hno, hkeep.trans k1⟩
              case measure => simp [intOf]; omega
            · have Hyes := Lib.hid (hat.out.yes (by rw [Hc.out, d, dm]; rfl) (by omega))
              have dt : decide (m' + 1 ≠ m) = true := decide_eq_true (by omega)
              go_wp2
              go_roundw
              case rel => exact ⟨m' + 1, k + 1, hkn, by go_num, by rw [dt], by go_num, Hyes, hkeep.trans k1⟩
              case measure => simp [intOf]; omega
        · have hkl : k = ls.length := by omega
          have Hend := Lib.hid (show s0 ≤ m' ∧ (∀ j, s0 ≤ j → j < m' → t.taken (BL ls) (EL ls) i j = true) ∧ (decide (m' ≠ m) = false → t.taken (BL ls) (EL ls) i m' = false) from
            ⟨Nat.le_trans hat.out.le.1 hat.out.le.2, hat.out.low, fun e => by
              have e1 : m' = m := by simpa using e
              rw [e1]
              exact taken_none fun y hy => hat.out.here e1 y (by omega)⟩)
          have hmm : m' ≤ s0 + ls.length := Hlow.out m' hat.out.low
          have hml := hat.out.le.2
          clear hkl
          go_wp2
          go_roundw
          case rel => exact ⟨m', decide (m' ≠ m), rfl, rfl, Hend, hkeep⟩
          case measure =>
            by_cases e : m' = m
            · subst e
              simp [slotM, intOf]
            · have e2 : decide (m' ≠ m) = true := decide_eq_true e
              simp only [e2, slotM, intOf, Int.toNat_natCast]
              omega
end Go.Proofs.Ytigidchignlpmaa
