/-
  The reference's Order returns the specified sequence.
-/
import Derived.Test.YtpjckgmhcbhphaaRef2
namespace Go.Proofs.Ytpjckgmhcbhphaa
open Go Go.RowKit

/-- What holds at the head of the reference's main loop. -/
def RefSt (l : List Mv) (free : Plc) (w1 : World) (g : Nat) (vL vO : Value) (wr : World) : Prop :=
  ∃ (left out : List Mv), Pend free left ∧ mu free left ≤ g ∧ out ++ orderN free g left = orderSpec l free ∧ out.length + g ≤ 2 * l.length ∧ left.length ≤ l.length ∧
    Own mvC 4 32 wr w1.heap.size vL left ∧ Own mvC 4 32 wr w1.heap.size vO out ∧ (vO.ownBlock = none ∨ vO.ownBlock ≠ vL.ownBlock) ∧ Keep w1 wr

theorem effective_snoc (l : List Mv) {k : Nat} (hk : k < l.length) : effective (l.take (k + 1)) = effective (l.take k) ++ (if l[k].1 != l[k].2 then [l[k]] else []) := by
  rw [take_snoc l hk]
  unfold effective
  rw [List.filter_append]
  congr 1
  rw [List.filter_cons]; simp

theorem effective_len (l : List Mv) : (effective l).length ≤ l.length := List.length_filter_le _ _

theorem refOrder_no (l : List Mv) (A : Option Addr) (c : Nat) (free : Plc) (w : World) (hs : Seg w A (l.flatMap mvC)) (hn : l.length ≤ 1000000) (hno : (rightB l && !namesB l free) = false) :
    Calls Try.prog 14 #[.slice A l.length c, .agg #[.bool free.1, .int .i64 free.2]] w fun e w' => e = .returned (.slice none 0 0) ∧ Keep w w' := by
  have hcr := Lib.hid (refRight_calls l A c (w.alloc (.cells #[.bool free.1, .int .i64 free.2] 24)) (hs.keep ((Keep.refl _).alloc _)) hn)
  cases hr : rightB l
  · rw [hr] at hcr
    go_enter Try.func14, Try.ntmps14
    go_wp2_with (go_at_call 11; refine hcr.out.mono ?_; rintro e w1 ⟨rfl, hk1⟩)
    go_ret
    exact ⟨rfl, ((Keep.refl _).alloc _).trans hk1⟩
  · have hnm : namesB l free = true := by rw [hr] at hno; simpa using hno
    rw [hr] at hcr
    go_enter Try.func14, Try.ntmps14
    go_wp2_with fail
    refine hcr.out.mono ?_
    rintro e w1 ⟨rfl, hk1⟩
    have hblk := (Blk.new w 24 [.bool free.1, .int .i64 free.2]).keep hk1
    have f0 : w1.cell? ⟨w.heap.size, 0, none⟩ = some (.bool free.1) := hblk.cell 0
    have f1 : w1.cell? ⟨w.heap.size, 1, none⟩ = some (.int .i64 free.2) := hblk.cell 1
    have hcc := refNames_calls l A c free w1 (hs.keep (((Keep.refl _).alloc _).trans hk1)) hn
    rw [hnm] at hcc
    have Hcc := Lib.hid hcc
    clear hcc hnm hblk
    go_wp2_with fail
    refine Hcc.out.mono ?_
    rintro e w2 ⟨rfl, hk2⟩
    go_wp2
    go_ret
    exact ⟨rfl, (((Keep.refl _).alloc _).trans hk1).trans hk2⟩

theorem refOrder_yes (l : List Mv) (A : Option Addr) (c : Nat) (free : Plc) (w : World) (hs : Seg w A (l.flatMap mvC)) (hn : l.length ≤ 1000000) (hr : rightB l = true) (hnm : namesB l free = false) :
    Calls Try.prog 14 #[.slice A l.length c, .agg #[.bool free.1, .int .i64 free.2]] w fun e w' => ∃ v, e = .returned v ∧ Own mvC 4 32 w' w.heap.size v (orderSpec l free) ∧ Keep w w' := by
  have hcr := Lib.hid (refRight_calls l A c (w.alloc (.cells #[.bool free.1, .int .i64 free.2] 24)) (hs.keep ((Keep.refl _).alloc _)) hn)
  rw [hr] at hcr
  have hpe := Lib.hid (effective_pend hr hnm)
  have Hsp := Lib.hid (show orderSpec l free = orderN free (2 * l.length) (effective l) by unfold orderSpec; rw [hr, hnm]; rfl)
  have heq := plc_eql
  have hneq := plc_neq
  clear hr
  go_enter Try.func14, Try.ntmps14
  go_wp2_with fail
  refine hcr.out.mono ?_
  rintro e w1 ⟨rfl, hk1⟩
  have hblk := (Blk.new w 24 [.bool free.1, .int .i64 free.2]).keep hk1
  have f0 : w1.cell? ⟨w.heap.size, 0, none⟩ = some (.bool free.1) := hblk.cell 0
  have f1 : w1.cell? ⟨w.heap.size, 1, none⟩ = some (.int .i64 free.2) := hblk.cell 1
  have hcc := refNames_calls l A c free w1 (hs.keep (((Keep.refl _).alloc _).trans hk1)) hn
  rw [hnm] at hcc
  have Hcc := Lib.hid hcc
  clear hcc hnm
  go_wp2_with fail
  refine Hcc.out.mono ?_
  rintro e w2 ⟨rfl, hk2⟩
  have hkw : Keep w w2 := (((Keep.refl _).alloc _).trans hk1).trans hk2
  have hblk2 := hblk.keep hk2
  clear hcr Hcc hblk hk1 hk2 f0 f1
  go_wp2
  go_loopw [5, 7] (fun v i wr => ∃ k : Nat, k ≤ l.length ∧ i = .int .i64 k ∧ Own mvC 4 32 wr w2.heap.size v (effective (l.take k)) ∧ Keep w2 wr) (fun _ i _ => l.length - (intOf i).toNat)
  case atStart => exact ⟨0, Nat.zero_le _, rfl, Own.nil _ _ _ _ _, Keep.refl _⟩
  case round =>
    obtain ⟨k, hk, rfl, hown, hkeep⟩ := hrel
    by_cases hlt : k < l.length
    · obtain ⟨b, off, rfl, hb, c0, c1, c2, c3⟩ := mv_at (hs.keep hkw) hkeep hlt
      have hk0 : (0 : Int) ≤ (k : Int) := by omega
      have hkk : (k : Int) < (l.length : Int) := by omega
      have hst := effective_snoc l hlt
      have hel : (effective (l.take k)).length ≤ k := by have := effective_len (l.take k); simp at this; omega
      by_cases heq' : l[k].1 = l[k].2
      · have hpe' := plcEq_true heq'
        rw [if_neg (by simpa using heq'), List.append_nil] at hst
        have Hst := Lib.hid hst
        clear heq' hst
        go_wp2_with fail
        go_quiet (fail)
        go_wp2
        go_roundw
        case rel => exact ⟨k + 1, hlt, by go_num, by rw [Hst.out]; exact hown.keep ((Keep.refl _).drewN _), hkeep.drewN _⟩
        case measure => simp [intOf]; omega
      · have hpe' := plcEq_false heq'
        rw [if_pos (by simpa using heq')] at hst
        have Hst := Lib.hid hst
        have hnB : ∀ j, u5.ownBlock = some j → w2.heap.size ≤ j := fun j hj => (hown.lt j hj).1
        clear heq' hst
        go_wp2_with fail
        go_quiet (fail)
        have hkq := hkeep.drewN nq
        have e0 : (wr.drewN nq).cell? ⟨b, off + k * 4, none⟩ = some (.bool l[k].1.1) := c0
        have e1 : (wr.drewN nq).cell? ⟨b, off + k * 4 + 1, none⟩ = some (.int .i64 l[k].1.2) := c1
        have e2 : (wr.drewN nq).cell? ⟨b, off + k * 4 + 2, none⟩ = some (.bool l[k].2.1) := c2
        have e3 : (wr.drewN nq).cell? ⟨b, off + k * 4 + 3, none⟩ = some (.int .i64 l[k].2.2) := c3
        have hown' := hown.keep ((Keep.refl wr).drewN nq)
        have hsz : wr.heap.size = (wr.drewN nq).heap.size := rfl
        generalize wr.drewN nq = wq at *
        clear c0 c1 c2 c3
        obtain ⟨v', w5, hap0, hown5, hg5, hblk5⟩ := append_run (ys := [l[k]]) elMv (hown'.alloc (.cells (mvC l[k]).toArray 32)) (Seg.of_blk (Blk.new wq 32 (mvC l[k]))) 1 22 (by simp only [List.length_singleton, maxLen]; omega) (by simp only [List.length_singleton]; omega) (by have := hkq.size; simp; omega)
        have hap : (Builtin.append_ #[22, 22] 22 #[u5, .slice (some ⟨wq.heap.size, 0, none⟩) 1 1]).run Try.prog (wq.alloc (.cells #[.bool l[k].1.1, .int .i64 l[k].1.2, .bool l[k].2.1, .int .i64 l[k].2.2] 32)) = .ok v' w5 := hap0
        have Hk := Lib.hid (show Keep w2 w5 from (hkq.alloc _).grown hg5 hnB)
        clear hap0 hg5 hblk5 hsz
        go_wp2_with (at_builtin; refine wpList_append_eq rfl _ _ _ rfl _ _ rfl rfl _ _ hap ?_)
        go_roundw
        case rel => exact ⟨k + 1, hlt, by go_num, by rw [Hst.out]; exact hown5, Hk.out⟩
        case measure => simp [intOf]; omega
    · have hown2 : Own mvC 4 32 wr w2.heap.size u5 (effective l) := by rw [List.take_of_length_le (by omega)] at hown; exact hown
      obtain ⟨w3, rfl⟩ : ∃ w3 : World, w3 = wr := ⟨_, rfl⟩
      have hst : RefSt l free w2 (2 * l.length) u5 (.slice none 0 0) w3 :=
        ⟨effective l, [], hpe.out, effective_mu, by rw [Hsp.out]; rfl, by simp, effective_len l, hown2, Own.nil _ _ _ _ _, .inl rfl, hkeep⟩
      clear hown hown2 hk
      go_wp2
      go_loopg [5, 6] (2 * l.length) (fun g vL vO wr => RefSt l free w2 g vL vO wr)
      case atStart => exact hst
      case round =>
        obtain ⟨left, out, hp, hmu, hout, hol, hll, hownL, hownO, hapart, hkeep2⟩ := hrel
        obtain ⟨AL, cL, hvL, hcL, _⟩ := hownL.form
        subst hvL
        by_cases hne : left = []
        · have Hf := Lib.hid (show out = orderSpec l free by rw [← hout, hne, orderN_nil, List.append_nil])
          subst hne
          clear hout
          go_wp2
          go_ret
          exact ⟨_, rfl, by rw [← Hf.out]; exact hownO.mono hkw.size, hkw.trans hkeep2⟩
        · have hpos : 0 < left.length := List.length_pos_iff.2 hne
          obtain ⟨g, rfl, hstep, hmu'⟩ := orderN_step hp hne hmu
          have hp' := step_pend hp
          have Hcall := Lib.hid (refReady_calls left AL cL wr hownL.seg (by omega))
          have Hstep := Lib.hid hstep
          have Hout := Lib.hid hout
          clear hstep hout
          go_wp2_with fail
          refine Hcall.out.mono ?_
          rintro e w4 ⟨r, rfl, hr, hk4⟩
          have hownL4 := hownL.keep hk4
          have hownO4 := hownO.keep hk4
          have hk24 := hkeep2.trans hk4
          have hnL : ∀ j, (Value.slice AL left.length cL).ownBlock = some j → w2.heap.size ≤ j ∧ j < w4.heap.size := fun j hj => hownL4.lt j hj
          have hnO : ∀ j, u6.ownBlock = some j → w2.heap.size ≤ j ∧ j < w4.heap.size := fun j hj => hownO4.lt j hj
          rcases hr with ⟨rfl, hrd⟩ | ⟨i, rfl, hrd, hilt⟩
          rotate_left
          · have hst' := Lib.hid (show stepR free left = (left[i], left.eraseIdx i) by
              unfold stepR; rw [hrd]; simp [List.getD, List.getElem?_eq_getElem hilt])
            obtain ⟨b, off, hAL, hb, c0, c1, c2, c3⟩ := mv_at hownL4.seg (Keep.refl w4) hilt
            subst hAL
            generalize hm : left[i] = m at c0 c1 c2 c3
            obtain ⟨v', w5, hap0, hown5, hg5, hblk5⟩ := append_run (ys := [m]) elMv (hownO4.alloc (.cells (mvC m).toArray 32)) (Seg.of_blk (Blk.new w4 32 (mvC m))) 1 22 (by simp only [List.length_singleton, maxLen]; omega) (by simp only [List.length_singleton]; omega) (by have := hk24.size; simp; omega)
            have hap : (Builtin.append_ #[22, 22] 22 #[u6, .slice (some ⟨w4.heap.size, 0, none⟩) 1 1]).run Try.prog (w4.alloc (.cells #[.bool m.1.1, .int .i64 m.1.2, .bool m.2.1, .int .i64 m.2.2] 32)) = .ok v' w5 := hap0
            have hk25 : Keep w2 w5 := (hk24.alloc _).grown hg5 (fun j hj => (hnO j hj).1)
            have hownL5 : Own mvC 4 32 w5 w2.heap.size (.slice (some ⟨b, off, none⟩) left.length cL) left := by
              refine (hownL4.alloc _).grown hg5 (.inr fun e => ?_)
              rcases hapart with h | h
              · rw [h] at e; cases e
              · exact h e.symm
            have Hcw := Lib.hid (refWithout_calls left (some ⟨b, off, none⟩) cL i w5 hownL5.seg (by omega) hcL hilt)
            have Hm := Lib.hid hm
            clear hap0 hm
            go_wp2_with (first | (at_builtin; refine wpList_append_eq rfl _ _ _ rfl _ _ rfl rfl _ _ hap ?_) | fail)
            refine Hcw.out.mono ?_
            rintro e w6 ⟨v6, rfl, hown6, hk56⟩
            have Hfin := Lib.hid (show RefSt l free w2 g v6 v' w6 by
              have e1 := hst'.out
              refine ⟨left.eraseIdx i, out ++ [m], by rw [e1] at hp'; exact hp', by rw [e1] at hmu'; exact hmu', by rw [← Hout.out, Hstep.out, e1, Hm.out]; simp, by simp; omega, ?_, hown6.mono hk25.size, hown5.keep hk56, ?_, hk25.trans hk56⟩
              · have := List.length_eraseIdx_le left i; omega
              · cases hvo : v'.ownBlock with
                | none => exact .inl rfl
                | some j =>
                  refine .inr fun e => ?_
                  have h1 := (hown5.lt j hvo).2
                  have h2 := (hown6.lt j e.symm).1
                  omega)
            clear hown5 hown6 hownL5 hownL4 hownO4 hp hp' hmu hmu' hol
            go_wp2
            go_roundg g
            case measure => omega
            case rel => exact Hfin.out
          · have hhd : left.headD default = left[0] := by cases left with | nil => exact absurd rfl hne | cons x t => rfl
            have hst' := show stepR free left = ((left[0].1, free), left.map (turn left[0].1 free)) by
              unfold stepR; rw [hrd, hhd]
            obtain ⟨b, off, hAL, hb, c0, c1, _, _⟩ := mv_at hownL4.seg (Keep.refl w4) hpos
            subst hAL
            rw [Nat.zero_mul, Nat.add_zero] at c0 c1
            generalize left[0].1 = f at hst' c0 c1
            have Hst := Lib.hid hst'
            clear hst' hhd hrd
            have hfb := hblk2.keep hk24
            have hfl := hfb.lt
            have f0 : w4.cell? ⟨w.heap.size, 0, none⟩ = some (.bool free.1) := hfb.cell 0
            have f1 : w4.cell? ⟨w.heap.size, 1, none⟩ = some (.int .i64 free.2) := hfb.cell 1
            obtain ⟨v', w6, hap0, hown6, hg6, hblk6⟩ := append_run (ys := [((f, free) : Mv)]) elMv ((hownO4.alloc (.cells (plcC f).toArray 24)).alloc (.cells (mvC (f, free)).toArray 32)) (Seg.of_blk (Blk.new (w4.alloc (.cells (plcC f).toArray 24)) 32 (mvC (f, free)))) 1 22 (by simp only [List.length_singleton, maxLen]; omega) (by simp only [List.length_singleton]; omega) (by have := hk24.size; simp; omega)
            have hap : (Builtin.append_ #[22, 22] 22 #[u6, .slice (some ⟨w4.heap.size + 1, 0, none⟩) 1 1]).run Try.prog ((w4.alloc (.cells #[.bool f.1, .int .i64 f.2] 24)).alloc (.cells #[.bool f.1, .int .i64 f.2, .bool free.1, .int .i64 free.2] 32)) = .ok v' w6 := by
              rw [show w4.heap.size + 1 = (w4.alloc (.cells (plcC f).toArray 24)).heap.size by simp]; exact hap0
            have hx6 : Ext (fun j => u6.ownBlock = some j) w4 w6 := ((Ext.refl _ _).alloc _ |>.alloc _).grown hg6 (fun j hj _ => hj)
            have hk26 : Keep w2 w6 := ((hk24.alloc _).alloc _).grown hg6 (fun j hj => (hnO j hj).1)
            have hfr6 : Blk w6 w4.heap.size 24 (plcC f) := by
              have h1 : Blk ((w4.alloc (.cells (plcC f).toArray 24)).alloc (.cells (mvC (f, free)).toArray 32)) w4.heap.size 24 (plcC f) := (Blk.new w4 _ _).keep ((Keep.refl _).alloc _)
              exact (hg6.block _ h1.lt (fun e => by have := (hnO _ e.symm).2; omega)).trans h1
            have hww : w.heap.size < w2.heap.size := hblk2.lt
            have hfb6 : Blk w6 w.heap.size 24 [.bool free.1, .int .i64 free.2] := hfb.ext hx6 (fun e => by have := (hnO _ e).1; omega)
            have hownL6 : Own mvC 4 32 w6 w2.heap.size (.slice (some ⟨b, off, none⟩) left.length cL) left := by
              refine hownL4.ext hx6 (fun j hj e => ?_)
              rcases hapart with h | h
              · rw [h] at e; cases e
              · exact h (by rw [e, hj])
            have hownO6 : Own mvC 4 32 w6 w2.heap.size v' (out ++ [(f, free)]) := hown6
            clear hap0 hown6 hg6 hblk6 hownL4 hownO4 hfb
            go_wp2_with (at_builtin; refine wpList_append_eq rfl _ _ _ rfl _ _ rfl rfl _ _ hap ?_)
            clear hap f0 f1 c0 c1
            obtain ⟨wq, rfl⟩ : ∃ wq : World, wq = wr := ⟨_, rfl⟩
            go_loopw [10, 11] (fun v i wi => ∃ k : Nat, k ≤ left.length ∧ i = .int .i64 k ∧ Own mvC 4 32 wi w6.heap.size v ((left.take k).map (turn f free)) ∧ Keep w6 wi) (fun _ i _ => left.length - (intOf i).toNat)
            case atStart => exact ⟨0, Nat.zero_le _, rfl, Own.nil _ _ _ _ _, Keep.refl _⟩
            case round =>
              obtain ⟨k3, hk3, rfl, hown3, hx3⟩ := hrel
              have hs3 := hx3.size
              by_cases hlt3 : k3 < left.length
              · obtain ⟨b3, off3, he3, hb3, c0, c1, c2, c3⟩ := mv_at hownL6.seg hx3 hlt3
                cases he3
                have d0 : wr.cell? ⟨w4.heap.size, 0, none⟩ = some (.bool f.1) := (hfr6.keep hx3).cell 0
                have d1 : wr.cell? ⟨w4.heap.size, 1, none⟩ = some (.int .i64 f.2) := (hfr6.keep hx3).cell 1
                have dl : w4.heap.size < wr.heap.size := (hfr6.keep hx3).lt
                have g0 : wr.cell? ⟨w.heap.size, 0, none⟩ = some (.bool free.1) := (hfb6.keep hx3).cell 0
                have g1 : wr.cell? ⟨w.heap.size, 1, none⟩ = some (.int .i64 free.2) := (hfb6.keep hx3).cell 1
                have gl : w.heap.size < wr.heap.size := (hfb6.keep hx3).lt
                have hl3 : ((left.take k3).map (turn f free)).length = k3 := by simp; omega
                have Hl3 := Lib.hid hl3
                have hn3 : ∀ j, u10.ownBlock = some j → w6.heap.size ≤ j := fun j hj => (hown3.lt j hj).1
                clear hl3
                by_cases hxf : left[k3].1 = f
                · have Hs := Lib.hid (show (left.take (k3 + 1)).map (turn f free) = (left.take k3).map (turn f free) ++ [(free, left[k3].2)] by
                    rw [take_snoc left hlt3, List.map_append]; simp [turn, hxf])
                  have hpq := plcEq_true hxf
                  generalize left[k3] = x at *
                  obtain ⟨v3, w7, hap0, hown7, hg7, _⟩ := append_run (ys := [((free, x.2) : Mv)]) elMv ((hown3.alloc (.cells (mvC (free, x.2)).toArray 32)).alloc (.cells (mvC (free, x.2)).toArray 32)) (Seg.of_blk (Blk.new (wr.alloc (.cells (mvC (free, x.2)).toArray 32)) 32 (mvC (free, x.2)))) 1 22 (by rw [Hl3.out]; simp only [List.length_singleton, maxLen]; omega) (by rw [Hl3.out]; simp only [List.length_singleton]; omega) (by simp; omega)
                  have hap : (Builtin.append_ #[22, 22] 22 #[u10, .slice (some ⟨wr.heap.size + 1, 0, none⟩) 1 1]).run Try.prog ((wr.alloc (.cells #[.bool free.1, .int .i64 free.2, .bool x.2.1, .int .i64 x.2.2] 32)).alloc (.cells #[.bool free.1, .int .i64 free.2, .bool x.2.1, .int .i64 x.2.2] 32)) = .ok v3 w7 := by
                    rw [show wr.heap.size + 1 = (wr.alloc (.cells (mvC (free, x.2)).toArray 32)).heap.size by simp]; exact hap0
                  have Hk := Lib.hid (show Keep w6 w7 from ((hx3.alloc _).alloc _).grown hg7 hn3)
                  clear hap0 hg7 hxf
                  go_wp2_with (at_builtin; refine wpList_append_eq rfl _ _ _ rfl _ _ rfl rfl _ _ hap ?_)
                  go_roundw
                  case rel => exact ⟨k3 + 1, hlt3, by go_num, by rw [Hs.out]; exact hown7, Hk.out⟩
                  case measure => simp [intOf]; omega
                · have Hs := Lib.hid (show (left.take (k3 + 1)).map (turn f free) = (left.take k3).map (turn f free) ++ [left[k3]] by
                    rw [take_snoc left hlt3, List.map_append]; simp [turn, hxf])
                  have hpq := plcEq_false hxf
                  generalize left[k3] = x at *
                  obtain ⟨v3, w7, hap0, hown7, hg7, _⟩ := append_run (ys := [x]) elMv ((hown3.alloc (.cells (mvC x).toArray 32)).alloc (.cells (mvC x).toArray 32)) (Seg.of_blk (Blk.new (wr.alloc (.cells (mvC x).toArray 32)) 32 (mvC x))) 1 22 (by rw [Hl3.out]; simp only [List.length_singleton, maxLen]; omega) (by rw [Hl3.out]; simp only [List.length_singleton]; omega) (by simp; omega)
                  have hap : (Builtin.append_ #[22, 22] 22 #[u10, .slice (some ⟨wr.heap.size + 1, 0, none⟩) 1 1]).run Try.prog ((wr.alloc (.cells #[.bool x.1.1, .int .i64 x.1.2, .bool x.2.1, .int .i64 x.2.2] 32)).alloc (.cells #[.bool x.1.1, .int .i64 x.1.2, .bool x.2.1, .int .i64 x.2.2] 32)) = .ok v3 w7 := by
                    rw [show wr.heap.size + 1 = (wr.alloc (.cells (mvC x).toArray 32)).heap.size by simp]; exact hap0
                  have Hk := Lib.hid (show Keep w6 w7 from ((hx3.alloc _).alloc _).grown hg7 hn3)
                  clear hap0 hg7 hxf
                  go_wp2_with (at_builtin; refine wpList_append_eq rfl _ _ _ rfl _ _ rfl rfl _ _ hap ?_)
                  go_roundw
                  case rel => exact ⟨k3 + 1, hlt3, by go_num, by rw [Hs.out]; exact hown7, Hk.out⟩
                  case measure => simp [intOf]; omega
              · have Hfin := Lib.hid (show RefSt l free w2 g u10 v' wr by
                  have e1 := Hst.out
                  rw [List.take_of_length_le (by omega)] at hown3
                  refine ⟨_, out ++ [(f, free)], by rw [e1] at hp'; exact hp', by rw [e1] at hmu'; exact hmu', by rw [← Hout.out, Hstep.out, e1]; simp, by simp; omega, by simpa using hll, hown3.mono hk26.size, hownO6.keep hx3, ?_, hk26.trans hx3⟩
                  cases hvo : v'.ownBlock with
                  | none => exact .inl rfl
                  | some j =>
                    refine .inr fun e => ?_
                    have h1 := (hownO6.lt j hvo).2
                    have h2 := (hown3.lt j e.symm).1
                    omega)
                clear hown3 hp hp' hmu hmu' hol
                go_wp2
                go_roundg g
                case measure => omega
                case rel => exact Hfin.out

theorem refOrder_calls (l : List Mv) (A : Option Addr) (c : Nat) (free : Plc) (w : World) (hs : Seg w A (l.flatMap mvC)) (hn : l.length ≤ 1000000) :
    Calls Try.prog 14 #[.slice A l.length c, .agg #[.bool free.1, .int .i64 free.2]] w fun e w' => ∃ v, e = .returned v ∧ Own mvC 4 32 w' w.heap.size v (orderSpec l free) ∧ Keep w w' := by
  cases h : (rightB l && !namesB l free)
  · refine (refOrder_no l A c free w hs hn h).mono fun e w' ⟨he, hk⟩ => ⟨_, he, ?_, hk⟩
    unfold orderSpec
    rw [if_neg (by rw [h]; simp)]
    exact Own.nil _ _ _ _ _
  · simp only [Bool.and_eq_true, Bool.not_eq_true'] at h
    exact refOrder_yes l A c free w hs hn h.1 h.2
end Go.Proofs.Ytpjckgmhcbhphaa
