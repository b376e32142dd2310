/-
  The program's ends.
-/
import Derived.Test.YtjpmiejgcnfiiaaLNext
set_option linter.unusedVariables false
set_option linter.unusedSimpArgs false
namespace Go.Proofs.Ytjpmiejgcnfiiaa
open Go Go.RowKit

/-- append of a row onto a row of the call's own. -/
theorem intApp {w : World} {base : Nat} {v : Value} {xs : List Int} (h : Own intC 1 3 w base v xs) {B : Option Addr} {ys : List Int} (hs : Seg w B (ys.flatMap intC)) (c : Nat) (hn : xs.length + ys.length ≤ 17592186044416) (hb : base ≤ w.heap.size) :
    ∃ A k, v = .slice A xs.length k ∧ ∃ A' c' w2, (Builtin.append_ #[33, 33] 33 #[.slice A xs.length k, .slice B ys.length c]).run Try.prog w = .ok (.slice A' (xs ++ ys).length c') w2 ∧
      Own intC 1 3 w2 base (.slice A' (xs ++ ys).length c') (xs ++ ys) ∧ Ext (fun k => v.ownBlock = some k) w w2 := by
  obtain ⟨A, k, hform, _⟩ := h.form
  obtain ⟨v', w2, hrun, hown, hg, _⟩ := append_run elI h hs c 33 (by simp [maxLen]; omega) (by omega) hb
  obtain ⟨A', c', rfl, _⟩ := hown.form
  subst hform
  exact ⟨A, k, rfl, A', c', w2, hrun, hown, (Ext.refl _ _).grown hg (fun j hj _ => hj)⟩
def endsL (x : BkD) (k : Nat) : List Int := x.args.l ++ (if x.kind = 1 ∨ x.kind = 2 then [x.cond] else []) ++ (x.to.l.take k).flatMap (fun e => e.args.l)
theorem endsL_snoc {x : BkD} {k : Nat} {e : EdD} (h : x.to.l[k]? = some e) : endsL x (k + 1) = endsL x k ++ e.args.l := by
  unfold endsL
  rw [List.take_add_one, h]
  simp
theorem endsL_end {x : BkD} {k : Nat} (h : x.to.l.length ≤ k) : endsL x k = x.endsI := by
  unfold endsL BkD.endsI
  rw [List.take_of_length_le h]
theorem endsL_le (x : BkD) (k : Nat) : (endsL x k).length ≤ x.endsI.length := by
  unfold endsL BkD.endsI
  simp only [List.length_append]
  have : ((x.to.l.take k).flatMap fun e => e.args.l).length ≤ (x.to.l.flatMap fun e => e.args.l).length := by
    rw [← List.take_append_drop k x.to.l, List.flatMap_append, List.length_append]
    simp
  omega

set_option maxHeartbeats 4000000 in
theorem ends_calls (x : BkD) (w : World) (h : BkOk w x) (hsum : x.endsI.length ≤ 2000000) :
    Calls Try.prog 30 #[.agg #[.int .i64 x.kind, .int .i64 x.cond, x.args.v, x.to.v, .int .i64 x.trap]] w fun e w' => ∃ v, e = .returned v ∧ Own intC 1 3 w' w.heap.size v x.endsI ∧ Keep w w' := by
  obtain ⟨xp, xi, xk, xc, ⟨aa, al, ac⟩, ⟨ta, tl, tc⟩, xt⟩ := x
  obtain ⟨wa, hwa⟩ : ∃ wa : World, w.alloc (.cells #[.int .i64 xk, .int .i64 xc, .slice aa al.length ac, .slice ta tl.length tc, .int .i64 xt] 42) = wa := ⟨_, rfl⟩
  have hka : Keep w wa := by rw [← hwa]; exact (Keep.refl _).alloc _
  have bx : Blk wa w.heap.size 42 [.int .i64 xk, .int .i64 xc, .slice aa al.length ac, .slice ta tl.length tc, .int .i64 xt] := by rw [← hwa]; exact Blk.new w _ _
  have ho : Own intC 1 3 (wa.alloc (.cells #[] 3)) wa.heap.size (.slice (some ⟨wa.heap.size, 0, none⟩) 0 0) [] := Own.empty_made intC 1 3 wa (Nat.le_refl _)
  have hke : Keep wa (wa.alloc (.cells #[] 3)) := (Keep.refl _).alloc _
  have Htl := Lib.hid (show tl.length ≤ maxLen from h.toLen)
  have HtoSeg := Lib.hid (show Seg w ta (tl.flatMap edC) from h.toSeg)
  have Hto := Lib.hid (show ∀ e ∈ tl, EdOk w e from h.to)
  obtain ⟨EL, hEL⟩ : ∃ EL : Nat → List Int, endsL ⟨xp, xi, xk, xc, ⟨aa, al, ac⟩, ⟨ta, tl, tc⟩, xt⟩ = EL := ⟨_, rfl⟩
  obtain ⟨EN, hEN⟩ : ∃ EN : List Int, BkD.endsI ⟨xp, xi, xk, xc, ⟨aa, al, ac⟩, ⟨ta, tl, tc⟩, xt⟩ = EN := ⟨_, rfl⟩
  have HEL := Lib.hid (show ∀ k e, tl[k]? = some e → EL (k + 1) = EL k ++ e.args.l from fun k e he => by rw [← hEL]; exact endsL_snoc he)
  have HEnd := Lib.hid (show EL tl.length = EN from by rw [← hEL, ← hEN]; exact endsL_end (Nat.le_refl _))
  have HLe := Lib.hid (show ∀ k, (EL k).length ≤ 2000000 from fun k => by rw [← hEL]; exact Nat.le_trans (endsL_le _ k) hsum)
  have HE0 := Lib.hid (show EL 0 = al ++ (if xk = 1 ∨ xk = 2 then [xc] else []) from by rw [← hEL]; unfold endsL; simp)
  have hal : al.length ≤ 2000000 := by have := HLe.out 0; rw [HE0.out, List.length_append] at this; omega
  have hargs0 : Seg w aa (al.flatMap intC) := h.args.seg
  obtain ⟨A0, k0, hv0, A1, c1, w1, hrun1, hown1, hE1⟩ := intApp ho ((hargs0.keep hka).keep hke) ac (by simp; omega) hke.size
  cases hv0
  have k1 : Keep wa w1 := Keep.of_ext hke hE1 (fun k hk e => by simp [Value.ownBlock] at e; omega)
  rw [List.nil_append] at hrun1 hown1
  have htm : tl.length ≤ maxLen := Htl.out
  unfold maxLen at htm
  have q0 : wa.cell? ⟨w.heap.size, 0, none⟩ = some (.int .i64 xk) := bx.cell 0
  have q1 : wa.cell? ⟨w.heap.size, 1, none⟩ = some (.int .i64 xc) := bx.cell 1
  have q2 : wa.cell? ⟨w.heap.size, 2, none⟩ = some (.slice aa al.length ac) := bx.cell 2
  have q3 : wa.cell? ⟨w.heap.size, 3, none⟩ = some (.slice ta tl.length tc) := bx.cell 3
  have lq := bx.lt
  have r0 := k1.cell q0
  have r1 := k1.cell q1
  have r3 := k1.cell q3
  have rl := Nat.lt_of_lt_of_le lq k1.size
  have Hka := Lib.hid hka
  show Calls Try.prog 30 #[.agg #[.int .i64 xk, .int .i64 xc, .slice aa al.length ac, .slice ta tl.length tc, .int .i64 xt]] w fun e w' => ∃ v, e = .returned v ∧ Own intC 1 3 w' w.heap.size v (BkD.endsI ⟨xp, xi, xk, xc, ⟨aa, al, ac⟩, ⟨ta, tl, tc⟩, xt⟩) ∧ Keep w w'
  rw [hEN]
  clear bx ho hke hE1 h hargs0 hsum hka hEL hEN
  by_cases hk1 : xk = 1
  · have HK : xk = 1 ∨ xk = 2 := .inl hk1
    subst hk1
    obtain ⟨A2, k2, hv2, A3, c3, w2, hrun2, hown2, hE2⟩ := intPush hown1 xc (by omega) k1.size
    cases hv2
    have Hst1 := Lib.hid (show Own intC 1 3 w2 wa.heap.size (.slice A3 (al.length + 1) c3) (EL 0) from by rw [HE0.out, if_pos HK]; exact hown2)
    have Hst2 := Lib.hid (show Keep wa w2 from Keep.of_ext k1 hE2 (fun k hk e => by have := (hown1.lt k e).1; omega))
    have s3 := Hst2.out.cell q3
    have sl := Nat.lt_of_lt_of_le lq Hst2.out.size
    clear hown1 hown2 hE2
    go_enter Try.func30, Try.ntmps30
    go_wp2_with (first | (at_builtin; refine wpList_append_eq rfl _ _ _ rfl _ _ rfl rfl _ _ hrun1 ?_; clear hrun1) | (at_builtin; refine wpList_append_eq rfl _ _ _ rfl _ _ rfl rfl _ _ hrun2 ?_; clear hrun2))
    clear r0 r1 r3 s3 q0 q1 q2 q3 k1
    go_loopw [3, 26] (fun vo vi wr => ∃ k : Nat, k ≤ tl.length ∧ vi = .int .i64 k ∧ Hid (Own intC 1 3 wr wa.heap.size vo (EL k)) ∧ Hid (Keep wa wr)) (fun _ i _ => tl.length - (intOf i).toNat)
    case atStart => exact ⟨0, Nat.zero_le _, rfl, Hst1, Hst2⟩
    case round =>
      clear Hst1 Hst2
      obtain ⟨k, hk, rfl, hown, hkeep⟩ := hrel
      by_cases hin : k < tl.length
      · obtain ⟨e, he⟩ := get_some hin
        obtain ⟨bE, offE, hE, hbE, e0, e1⟩ := ed_get HtoSeg.out (Hka.out.trans hkeep.out) he
        have Hne := Lib.hid (HEL.out k e he)
        have hargs := (Hto.out e (List.mem_of_getElem? he)).args.seg.keep (Hka.out.trans hkeep.out)
        subst hE
        have hbEl := Nat.lt_of_lt_of_le hbE (Hka.out.trans hkeep.out).size
        have hkk : (k : Int) < (tl.length : Int) := by omega
        have hk0 : (0 : Int) ≤ (k : Int) := by omega
        obtain ⟨et, ⟨ea, el, ec⟩⟩ := e
        replace e0 : wr.cell? ⟨bE, offE + k * 2, none⟩ = some (.int .i64 et) := e0
        replace e1 : wr.cell? ⟨bE, offE + k * 2 + 1, none⟩ = some (.slice ea el.length ec) := e1
        replace hargs : Seg wr ea (el.flatMap intC) := hargs
        obtain ⟨wb, hwb, kb, bb⟩ := box2 wr 92 (.int .i64 et) (.slice ea el.length ec)
        have y1 : wb.cell? ⟨wr.heap.size, 1, none⟩ = some (.slice ea el.length ec) := bb.cell 1
        have yl := bb.lt
        have hle := HLe.out (k + 1)
        rw [Hne.out, List.length_append] at hle
        replace hle : (EL k).length + el.length ≤ 2000000 := hle
        obtain ⟨Ao, co, rfl, A', c', w7, hrun, hown7, hE7⟩ := intApp (hown.out.keep kb) (hargs.keep kb) ec (by omega) (Nat.le_trans hkeep.out.size kb.size)
        have hown0 := hown.out
        obtain ⟨m, hm⟩ : ∃ m, (EL k).length = m := ⟨_, rfl⟩
        obtain ⟨m2, hm2⟩ : ∃ m, (EL k ++ el).length = m := ⟨_, rfl⟩
        rw [hm] at hrun hE7 hown0 ⊢
        rw [hm2] at hrun hown7
        have Hn := Lib.hid (show Own intC 1 3 w7 wa.heap.size (.slice A' m2 c') (EL (k + 1)) ∧ Keep wa w7 from ⟨by rw [Hne.out]; exact hown7, Keep.of_ext (hkeep.out.trans kb) hE7 (fun j hj e => by have := (hown0.lt j e).1; omega)⟩)
        rw [hwb] at hrun y1 yl
        clear hown hkeep hown7 hE7 hown0 he bb kb hle hm hm2 hargs
        go_wp2_with (at_builtin; refine wpList_append_eq rfl _ _ _ rfl _ _ rfl rfl _ _ hrun ?_; clear hrun)
        go_roundw
        case rel => exact ⟨k + 1, hin, by go_num, Lib.hid Hn.out.1, Lib.hid Hn.out.2⟩
        case measure => simp [intOf]; omega
      · have hown2 := hown.out
        rw [show k = tl.length by omega, HEnd.out] at hown2
        have Hr := Lib.hid (show Own intC 1 3 wr w.heap.size u3 EN ∧ Keep w wr from ⟨hown2.mono Hka.out.size, Hka.out.trans hkeep.out⟩)
        clear hown hown2 hkeep
        go_wp2
        go_ret
        exact ⟨_, rfl, Hr.out.1, Hr.out.2⟩
  · by_cases hk2 : xk = 2
    · have HK : xk = 1 ∨ xk = 2 := .inr hk2
      subst hk2
      obtain ⟨A2, k2, hv2, A3, c3, w2, hrun2, hown2, hE2⟩ := intPush hown1 xc (by omega) k1.size
      cases hv2
      have Hst1 := Lib.hid (show Own intC 1 3 w2 wa.heap.size (.slice A3 (al.length + 1) c3) (EL 0) from by rw [HE0.out, if_pos HK]; exact hown2)
      have Hst2 := Lib.hid (show Keep wa w2 from Keep.of_ext k1 hE2 (fun k hk e => by have := (hown1.lt k e).1; omega))
      have s3 := Hst2.out.cell q3
      have sl := Nat.lt_of_lt_of_le lq Hst2.out.size
      clear hown1 hown2 hE2
      go_enter Try.func30, Try.ntmps30
      go_wp2_with (first | (at_builtin; refine wpList_append_eq rfl _ _ _ rfl _ _ rfl rfl _ _ hrun1 ?_; clear hrun1) | (at_builtin; refine wpList_append_eq rfl _ _ _ rfl _ _ rfl rfl _ _ hrun2 ?_; clear hrun2))
      clear r0 r1 r3 s3 q0 q1 q2 q3 k1
      go_loopw [3, 26] (fun vo vi wr => ∃ k : Nat, k ≤ tl.length ∧ vi = .int .i64 k ∧ Hid (Own intC 1 3 wr wa.heap.size vo (EL k)) ∧ Hid (Keep wa wr)) (fun _ i _ => tl.length - (intOf i).toNat)
      case atStart => exact ⟨0, Nat.zero_le _, rfl, Hst1, Hst2⟩
      case round =>
        clear Hst1 Hst2
        obtain ⟨k, hk, rfl, hown, hkeep⟩ := hrel
        by_cases hin : k < tl.length
        · obtain ⟨e, he⟩ := get_some hin
          obtain ⟨bE, offE, hE, hbE, e0, e1⟩ := ed_get HtoSeg.out (Hka.out.trans hkeep.out) he
          have Hne := Lib.hid (HEL.out k e he)
          have hargs := (Hto.out e (List.mem_of_getElem? he)).args.seg.keep (Hka.out.trans hkeep.out)
          subst hE
          have hbEl := Nat.lt_of_lt_of_le hbE (Hka.out.trans hkeep.out).size
          have hkk : (k : Int) < (tl.length : Int) := by omega
          have hk0 : (0 : Int) ≤ (k : Int) := by omega
          obtain ⟨et, ⟨ea, el, ec⟩⟩ := e
          replace e0 : wr.cell? ⟨bE, offE + k * 2, none⟩ = some (.int .i64 et) := e0
          replace e1 : wr.cell? ⟨bE, offE + k * 2 + 1, none⟩ = some (.slice ea el.length ec) := e1
          replace hargs : Seg wr ea (el.flatMap intC) := hargs
          obtain ⟨wb, hwb, kb, bb⟩ := box2 wr 92 (.int .i64 et) (.slice ea el.length ec)
          have y1 : wb.cell? ⟨wr.heap.size, 1, none⟩ = some (.slice ea el.length ec) := bb.cell 1
          have yl := bb.lt
          have hle := HLe.out (k + 1)
          rw [Hne.out, List.length_append] at hle
          replace hle : (EL k).length + el.length ≤ 2000000 := hle
          obtain ⟨Ao, co, rfl, A', c', w7, hrun, hown7, hE7⟩ := intApp (hown.out.keep kb) (hargs.keep kb) ec (by omega) (Nat.le_trans hkeep.out.size kb.size)
          have hown0 := hown.out
          obtain ⟨m, hm⟩ : ∃ m, (EL k).length = m := ⟨_, rfl⟩
          obtain ⟨m2, hm2⟩ : ∃ m, (EL k ++ el).length = m := ⟨_, rfl⟩
          rw [hm] at hrun hE7 hown0 ⊢
          rw [hm2] at hrun hown7
          have Hn := Lib.hid (show Own intC 1 3 w7 wa.heap.size (.slice A' m2 c') (EL (k + 1)) ∧ Keep wa w7 from ⟨by rw [Hne.out]; exact hown7, Keep.of_ext (hkeep.out.trans kb) hE7 (fun j hj e => by have := (hown0.lt j e).1; omega)⟩)
          rw [hwb] at hrun y1 yl
          clear hown hkeep hown7 hE7 hown0 he bb kb hle hm hm2 hargs
          go_wp2_with (at_builtin; refine wpList_append_eq rfl _ _ _ rfl _ _ rfl rfl _ _ hrun ?_; clear hrun)
          go_roundw
          case rel => exact ⟨k + 1, hin, by go_num, Lib.hid Hn.out.1, Lib.hid Hn.out.2⟩
          case measure => simp [intOf]; omega
        · have hown2 := hown.out
          rw [show k = tl.length by omega, HEnd.out] at hown2
          have Hr := Lib.hid (show Own intC 1 3 wr w.heap.size u3 EN ∧ Keep w wr from ⟨hown2.mono Hka.out.size, Hka.out.trans hkeep.out⟩)
          clear hown hown2 hkeep
          go_wp2
          go_ret
          exact ⟨_, rfl, Hr.out.1, Hr.out.2⟩
    · have HK : ¬ (xk = 1 ∨ xk = 2) := fun h => h.elim hk1 hk2
      have d1 : (xk == 1) = false := beq_eq_false_iff_ne.2 hk1
      have d2 : (xk == 2) = false := beq_eq_false_iff_ne.2 hk2
      have d1' : decide (xk = 1) = false := decide_eq_false hk1
      have d2' : decide (xk = 2) = false := decide_eq_false hk2
      have Hst1 := Lib.hid (show Own intC 1 3 w1 wa.heap.size (.slice A1 al.length c1) (EL 0) from by rw [HE0.out, if_neg HK, List.append_nil]; exact hown1)
      have Hst2 := Lib.hid k1
      clear hown1
      go_enter Try.func30, Try.ntmps30
      go_wp2_with (at_builtin; refine wpList_append_eq rfl _ _ _ rfl _ _ rfl rfl _ _ hrun1 ?_; clear hrun1)
      clear r0 r1 r3 q0 q1 q2 q3 k1
      go_loopw [3, 26] (fun vo vi wr => ∃ k : Nat, k ≤ tl.length ∧ vi = .int .i64 k ∧ Hid (Own intC 1 3 wr wa.heap.size vo (EL k)) ∧ Hid (Keep wa wr)) (fun _ i _ => tl.length - (intOf i).toNat)
      case atStart => exact ⟨0, Nat.zero_le _, rfl, Hst1, Hst2⟩
      case round =>
        clear Hst1 Hst2
        obtain ⟨k, hk, rfl, hown, hkeep⟩ := hrel
        by_cases hin : k < tl.length
        · obtain ⟨e, he⟩ := get_some hin
          obtain ⟨bE, offE, hE, hbE, e0, e1⟩ := ed_get HtoSeg.out (Hka.out.trans hkeep.out) he
          have Hne := Lib.hid (HEL.out k e he)
          have hargs := (Hto.out e (List.mem_of_getElem? he)).args.seg.keep (Hka.out.trans hkeep.out)
          subst hE
          have hbEl := Nat.lt_of_lt_of_le hbE (Hka.out.trans hkeep.out).size
          have hkk : (k : Int) < (tl.length : Int) := by omega
          have hk0 : (0 : Int) ≤ (k : Int) := by omega
          obtain ⟨et, ⟨ea, el, ec⟩⟩ := e
          replace e0 : wr.cell? ⟨bE, offE + k * 2, none⟩ = some (.int .i64 et) := e0
          replace e1 : wr.cell? ⟨bE, offE + k * 2 + 1, none⟩ = some (.slice ea el.length ec) := e1
          replace hargs : Seg wr ea (el.flatMap intC) := hargs
          obtain ⟨wb, hwb, kb, bb⟩ := box2 wr 92 (.int .i64 et) (.slice ea el.length ec)
          have y1 : wb.cell? ⟨wr.heap.size, 1, none⟩ = some (.slice ea el.length ec) := bb.cell 1
          have yl := bb.lt
          have hle := HLe.out (k + 1)
          rw [Hne.out, List.length_append] at hle
          replace hle : (EL k).length + el.length ≤ 2000000 := hle
          obtain ⟨Ao, co, rfl, A', c', w7, hrun, hown7, hE7⟩ := intApp (hown.out.keep kb) (hargs.keep kb) ec (by omega) (Nat.le_trans hkeep.out.size kb.size)
          have hown0 := hown.out
          obtain ⟨m, hm⟩ : ∃ m, (EL k).length = m := ⟨_, rfl⟩
          obtain ⟨m2, hm2⟩ : ∃ m, (EL k ++ el).length = m := ⟨_, rfl⟩
          rw [hm] at hrun hE7 hown0 ⊢
          rw [hm2] at hrun hown7
          have Hn := Lib.hid (show Own intC 1 3 w7 wa.heap.size (.slice A' m2 c') (EL (k + 1)) ∧ Keep wa w7 from ⟨by rw [Hne.out]; exact hown7, Keep.of_ext (hkeep.out.trans kb) hE7 (fun j hj e => by have := (hown0.lt j e).1; omega)⟩)
          rw [hwb] at hrun y1 yl
          clear hown hkeep hown7 hE7 hown0 he bb kb hle hm hm2 hargs
          go_wp2_with (at_builtin; refine wpList_append_eq rfl _ _ _ rfl _ _ rfl rfl _ _ hrun ?_; clear hrun)
          go_roundw
          case rel => exact ⟨k + 1, hin, by go_num, Lib.hid Hn.out.1, Lib.hid Hn.out.2⟩
          case measure => simp [intOf]; omega
        · have hown2 := hown.out
          rw [show k = tl.length by omega, HEnd.out] at hown2
          have Hr := Lib.hid (show Own intC 1 3 wr w.heap.size u3 EN ∧ Keep w wr from ⟨hown2.mono Hka.out.size, Hka.out.trans hkeep.out⟩)
          clear hown hown2 hkeep
          go_wp2
          go_ret
          exact ⟨_, rfl, Hr.out.1, Hr.out.2⟩
end Go.Proofs.Ytjpmiejgcnfiiaa
