import Derived.Test.YtjpmiejgcnfiiaaGreatQ3
import Derived.Test.YtjpmiejgcnfiiaaGreatQ6
set_option linter.unusedVariables false
set_option linter.unusedSimpArgs false
namespace Go.Proofs.YtjpmiejgcnfiiaaGreat
open Go Go.RowKit

/-- append of a row onto a row of the call's own. -/
theorem intApp {w : World} {base : Nat} {v : Value} {xs : List Int} (h : Own intC 1 3 w base v xs) {B : Option Addr} {ys : List Int} (hs : Seg w B (ys.flatMap intC)) (c : Nat) (hn : xs.length + ys.length ≤ 17592186044416) (hb : base ≤ w.heap.size) :
  ∃ A k, v = .slice A xs.length k ∧ ∃ A' c' w2, (Builtin.append_ #[45, 45] 45 #[.slice A xs.length k, .slice B ys.length c]).run Tryz.prog w = .ok (.slice A' (xs ++ ys).length c') w2 ∧
   Own intC 1 3 w2 base (.slice A' (xs ++ ys).length c') (xs ++ ys) ∧ Ext (fun k => v.ownBlock = some k) w w2 := by
 obtain ⟨A, k, hform, _⟩ := h.form
 obtain ⟨v', w2, hrun, hown, hg, _⟩ := append_run elI h hs c 45 (by simp [maxLen]; omega) (by omega) hb
 obtain ⟨A', c', rfl, _⟩ := hown.form
 subst hform
 exact ⟨A, k, rfl, A', c', w2, hrun, hown, (Ext.refl _ _).grown hg (fun j hj _ => hj)⟩
def endsL (x : BkD) (k : Nat) : List Int := x.args.l ++ (if x.kind = 1 ∨ x.kind = 2 then [x.cond] else []) ++ (x.to.l.take k).flatMap (fun e => e.args.l)
theorem endsL_snoc {x : BkD} {k : Nat} {e : EdD} (h : x.to.l[k]? = some e) : endsL x (k + 1) = endsL x k ++ e.args.l := by
 unfold endsL
 rw [List.take_add_one, h]
 simp
theorem endsL_end {x : BkD} {k : Nat} (h : x.to.l.length ≤ k) : endsL x k = x.endsI := by
 unfold endsL BkD.endsI
 rw [List.take_of_length_le h]
theorem endsL_le (x : BkD) (k : Nat) : (endsL x k).length ≤ x.endsI.length := by
 unfold endsL BkD.endsI
 simp only [List.length_append]
 have : ((x.to.l.take k).flatMap fun e => e.args.l).length ≤ (x.to.l.flatMap fun e => e.args.l).length := by
  rw [← List.take_append_drop k x.to.l, List.flatMap_append, List.length_append]
  simp
 omega

set_option maxHeartbeats 4000000 in
theorem ends_calls (x : BkD) (w : World) (h : BkOk w x) (hsum : x.endsI.length ≤ 2000000) :
  Calls Tryz.prog 46 #[.agg #[.int .i64 x.kind, .int .i64 x.cond, x.args.v, x.to.v, .int .i64 x.trap]] w fun e w' => ∃ v, e = .returned v ∧ Own intC 1 3 w' w.heap.size v x.endsI ∧ Keep w w' := by
 obtain ⟨xp, xi, xk, xc, ⟨aa, al, ac⟩, ⟨ta, tl, tc⟩, xt⟩ := x
 obtain ⟨wa, hwa⟩ : ∃ wa : World, w.alloc (.cells #[.int .i64 xk, .int .i64 xc, .slice aa al.length ac, .slice ta tl.length tc, .int .i64 xt] 55) = wa := ⟨_, rfl⟩
 have hka : Keep w wa := by rw [← hwa]; exact (Keep.refl _).alloc _
 have bx : Blk wa w.heap.size 55 [.int .i64 xk, .int .i64 xc, .slice aa al.length ac, .slice ta tl.length tc, .int .i64 xt] := by rw [← hwa]; exact Blk.new w _ _
 have ho : Own intC 1 3 (wa.alloc (.cells #[] 3)) wa.heap.size (.slice (some ⟨wa.heap.size, 0, none⟩) 0 0) [] := Own.empty_made intC 1 3 wa (Nat.le_refl _)
 have hke : Keep wa (wa.alloc (.cells #[] 3)) := (Keep.refl _).alloc _
 have Htl := Lib.hid (show tl.length ≤ maxLen from h.toLen)
 have HtoSeg := Lib.hid (show Seg w ta (tl.flatMap edC) from h.toSeg)
 have Hto := Lib.hid (show ∀ e ∈ tl, EdOk w e from h.to)
 obtain ⟨EL, hEL⟩ : ∃ EL : Nat → List Int, endsL ⟨xp, xi, xk, xc, ⟨aa, al, ac⟩, ⟨ta, tl, tc⟩, xt⟩ = EL := ⟨_, rfl⟩
 obtain ⟨EN, hEN⟩ : ∃ EN : List Int, BkD.endsI ⟨xp, xi, xk, xc, ⟨aa, al, ac⟩, ⟨ta, tl, tc⟩, xt⟩ = EN := ⟨_, rfl⟩
 have HEL := Lib.hid (show ∀ k e, tl[k]? = some e → EL (k + 1) = EL k ++ e.args.l from fun k e he => by rw [← hEL]; exact endsL_snoc he)
 have HEnd := Lib.hid (show EL tl.length = EN from by rw [← hEL, ← hEN]; exact endsL_end (Nat.le_refl _))
 have HLe := Lib.hid (show ∀ k, (EL k).length ≤ 2000000 from fun k => by rw [← hEL]; exact Nat.le_trans (endsL_le _ k) hsum)
 have HE0 := Lib.hid (show EL 0 = al ++ (if xk = 1 ∨ xk = 2 then [xc] else []) from by rw [← hEL]; unfold endsL; simp)
 have hal : al.length ≤ 2000000 := by have := HLe.out 0; rw [HE0.out, List.length_append] at this; omega
 have hargs0 : Seg w aa (al.flatMap intC) := h.args.seg
 obtain ⟨A0, k0, hv0, A1, c1, w1, hrun1, hown1, hE1⟩ := intApp ho ((hargs0.keep hka).keep hke) ac (by simp; omega) hke.size
 cases hv0
 have k1 : Keep wa w1 := Keep.of_ext hke hE1 (fun k hk e => by simp [Value.ownBlock] at e; omega)
 rw [List.nil_append] at hrun1 hown1
 have htm : tl.length ≤ maxLen := Htl.out
 unfold maxLen at htm
 have q0 : wa.cell? ⟨w.heap.size, 0, none⟩ = some (.int .i64 xk) := bx.cell 0
 have q1 : wa.cell? ⟨w.heap.size, 1, none⟩ = some (.int .i64 xc) := bx.cell 1
 have q2 : wa.cell? ⟨w.heap.size, 2, none⟩ = some (.slice aa al.length ac) := bx.cell 2
 have q3 : wa.cell? ⟨w.heap.size, 3, none⟩ = some (.slice ta tl.length tc) := bx.cell 3
 have lq := bx.lt
 have r0 := k1.cell q0
 have r1 := k1.cell q1
 have r3 := k1.cell q3
 have rl := Nat.lt_of_lt_of_le lq k1.size
 have Hka := Lib.hid hka
 show Calls Tryz.prog 46 #[.agg #[.int .i64 xk, .int .i64 xc, .slice aa al.length ac, .slice ta tl.length tc, .int .i64 xt]] w fun e w' => ∃ v, e = .returned v ∧ Own intC 1 3 w' w.heap.size v (BkD.endsI ⟨xp, xi, xk, xc, ⟨aa, al, ac⟩, ⟨ta, tl, tc⟩, xt⟩) ∧ Keep w w'
 rw [hEN]
 clear bx ho hke hE1 h hargs0 hsum hka hEL hEN
 by_cases hk1 : xk = 1
 ·have HK : xk = 1 ∨ xk = 2 := .inl hk1
  subst hk1
  obtain ⟨A2, k2, hv2, A3, c3, w2, hrun2, hown2, hE2⟩ := intPush hown1 xc (by omega) k1.size
  cases hv2
  have Hst1 := Lib.hid (show Own intC 1 3 w2 wa.heap.size (.slice A3 (al.length + 1) c3) (EL 0) from by rw [HE0.out, if_pos HK]; exact hown2)
  have Hst2 := Lib.hid (show Keep wa w2 from Keep.of_ext k1 hE2 (fun k hk e => by have := (hown1.lt k e).1; omega))
  have s3 := Hst2.out.cell q3
  have sl := Nat.lt_of_lt_of_le lq Hst2.out.size
  clear hown1 hown2 hE2
  go_enter Tryz.func46, Tryz.ntmps46
  go_wp2_with (first | (at_builtin; refine wpList_append_eq rfl _ _ _ rfl _ _ rfl rfl _ _ hrun1 ?_; clear hrun1) | (at_builtin; refine wpList_append_eq rfl _ _ _ rfl _ _ rfl rfl _ _ hrun2 ?_; clear hrun2))
  clear r0 r1 r3 s3 q0 q1 q2 q3 k1
  go_loopw [3, 26] (fun vo vi wr => ∃ k : Nat, k ≤ tl.length ∧ vi = .int .i64 k ∧ Hid (Own intC 1 3 wr wa.heap.size vo (EL k)) ∧ Hid (Keep wa wr)) (fun _ i _ => tl.length - (intOf i).toNat)
  case atStart => exact ⟨0, Nat.zero_le _, rfl, Hst1, Hst2⟩
  case round =>
   clear Hst1 Hst2
   obtain ⟨k, hk, rfl, hown, hkeep⟩ := hrel
   by_cases hin : k < tl.length
   ·obtain ⟨e, he⟩ := get_some hin
    obtain ⟨bE, offE, hE, hbE, e0, e1⟩ := ed_get HtoSeg.out (Hka.out.trans hkeep.out) he
    have Hne := Lib.hid (HEL.out k e he)
    have hargs := (Hto.out e (List.mem_of_getElem? he)).args.seg.keep (Hka.out.trans hkeep.out)
    subst hE
    have hbEl := Nat.lt_of_lt_of_le hbE (Hka.out.trans hkeep.out).size
    have hkk : (k : Int) < (tl.length : Int) := by omega
    have hk0 : (0 : Int) ≤ (k : Int) := by omega
    obtain ⟨et, ⟨ea, el, ec⟩⟩ := e
    replace e0 : wr.cell? ⟨bE, offE + k * 2, none⟩ = some (.int .i64 et) := e0
    replace e1 : wr.cell? ⟨bE, offE + k * 2 + 1, none⟩ = some (.slice ea el.length ec) := e1
    replace hargs : Seg wr ea (el.flatMap intC) := hargs
    obtain ⟨wb, hwb, kb, bb⟩ := box2 wr 65 (.int .i64 et) (.slice ea el.length ec)
    have y1 : wb.cell? ⟨wr.heap.size, 1, none⟩ = some (.slice ea el.length ec) := bb.cell 1
    have yl := bb.lt
    have hle := HLe.out (k + 1)
    rw [Hne.out, List.length_append] at hle
    replace hle : (EL k).length + el.length ≤ 2000000 := hle
    obtain ⟨Ao, co, rfl, A', c', w7, hrun, hown7, hE7⟩ := intApp (hown.out.keep kb) (hargs.keep kb) ec (by omega) (Nat.le_trans hkeep.out.size kb.size)
    have hown0 := hown.out
    obtain ⟨m, hm⟩ : ∃ m, (EL k).length = m := ⟨_, rfl⟩
    obtain ⟨m2, hm2⟩ : ∃ m, (EL k ++ el).length = m := ⟨_, rfl⟩
    rw [hm] at hrun hE7 hown0 ⊢
    rw [hm2] at hrun hown7
    have Hn := Lib.hid (show Own intC 1 3 w7 wa.heap.size (.slice A' m2 c') (EL (k + 1)) ∧ Keep wa w7 from ⟨by rw [Hne.out]; exact hown7, Keep.of_ext (hkeep.out.trans kb) hE7 (fun j hj e => by have := (hown0.lt j e).1; omega)⟩)
    rw [hwb] at hrun y1 yl
    clear hown hkeep hown7 hE7 hown0 he bb kb hle hm hm2 hargs
    go_wp2_with (at_builtin; refine wpList_append_eq rfl _ _ _ rfl _ _ rfl rfl _ _ hrun ?_; clear hrun)
    go_roundw
    case rel => exact ⟨k + 1, hin, by go_num, Lib.hid Hn.out.1, Lib.hid Hn.out.2⟩
    case measure => simp [intOf]; omega
   ·have hown2 := hown.out
    rw [show k = tl.length by omega, HEnd.out] at hown2
    have Hr := Lib.hid (show Own intC 1 3 wr w.heap.size u3 EN ∧ Keep w wr from ⟨hown2.mono Hka.out.size, Hka.out.trans hkeep.out⟩)
    clear hown hown2 hkeep
    go_wp2
    go_ret
    exact ⟨_, rfl, Hr.out.1, Hr.out.2⟩
 ·by_cases hk2 : xk = 2
  ·have HK : xk = 1 ∨ xk = 2 := .inr hk2
   subst hk2
   obtain ⟨A2, k2, hv2, A3, c3, w2, hrun2, hown2, hE2⟩ := intPush hown1 xc (by omega) k1.size
   cases hv2
   have Hst1 := Lib.hid (show Own intC 1 3 w2 wa.heap.size (.slice A3 (al.length + 1) c3) (EL 0) from by rw [HE0.out, if_pos HK]; exact hown2)
   have Hst2 := Lib.hid (show Keep wa w2 from Keep.of_ext k1 hE2 (fun k hk e => by have := (hown1.lt k e).1; omega))
   have s3 := Hst2.out.cell q3
   have sl := Nat.lt_of_lt_of_le lq Hst2.out.size
   clear hown1 hown2 hE2
   go_enter Tryz.func46, Tryz.ntmps46
   go_wp2_with (first | (at_builtin; refine wpList_append_eq rfl _ _ _ rfl _ _ rfl rfl _ _ hrun1 ?_; clear hrun1) | (at_builtin; refine wpList_append_eq rfl _ _ _ rfl _ _ rfl rfl _ _ hrun2 ?_; clear hrun2))
   clear r0 r1 r3 s3 q0 q1 q2 q3 k1
   go_loopw [3, 26] (fun vo vi wr => ∃ k : Nat, k ≤ tl.length ∧ vi = .int .i64 k ∧ Hid (Own intC 1 3 wr wa.heap.size vo (EL k)) ∧ Hid (Keep wa wr)) (fun _ i _ => tl.length - (intOf i).toNat)
   case atStart => exact ⟨0, Nat.zero_le _, rfl, Hst1, Hst2⟩
   case round =>
    clear Hst1 Hst2
    obtain ⟨k, hk, rfl, hown, hkeep⟩ := hrel
    by_cases hin : k < tl.length
    ·obtain ⟨e, he⟩ := get_some hin
     obtain ⟨bE, offE, hE, hbE, e0, e1⟩ := ed_get HtoSeg.out (Hka.out.trans hkeep.out) he
     have Hne := Lib.hid (HEL.out k e he)
     have hargs := (Hto.out e (List.mem_of_getElem? he)).args.seg.keep (Hka.out.trans hkeep.out)
     subst hE
     have hbEl := Nat.lt_of_lt_of_le hbE (Hka.out.trans hkeep.out).size
     have hkk : (k : Int) < (tl.length : Int) := by omega
     have hk0 : (0 : Int) ≤ (k : Int) := by omega
     obtain ⟨et, ⟨ea, el, ec⟩⟩ := e
     replace e0 : wr.cell? ⟨bE, offE + k * 2, none⟩ = some (.int .i64 et) := e0
     replace e1 : wr.cell? ⟨bE, offE + k * 2 + 1, none⟩ = some (.slice ea el.length ec) := e1
     replace hargs : Seg wr ea (el.flatMap intC) := hargs
     obtain ⟨wb, hwb, kb, bb⟩ := box2 wr 65 (.int .i64 et) (.slice ea el.length ec)
     have y1 : wb.cell? ⟨wr.heap.size, 1, none⟩ = some (.slice ea el.length ec) := bb.cell 1
     have yl := bb.lt
     have hle := HLe.out (k + 1)
     rw [Hne.out, List.length_append] at hle
     replace hle : (EL k).length + el.length ≤ 2000000 := hle
     obtain ⟨Ao, co, rfl, A', c', w7, hrun, hown7, hE7⟩ := intApp (hown.out.keep kb) (hargs.keep kb) ec (by omega) (Nat.le_trans hkeep.out.size kb.size)
     have hown0 := hown.out
     obtain ⟨m, hm⟩ : ∃ m, (EL k).length = m := ⟨_, rfl⟩
     obtain ⟨m2, hm2⟩ : ∃ m, (EL k ++ el).length = m := ⟨_, rfl⟩
     rw [hm] at hrun hE7 hown0 ⊢
     rw [hm2] at hrun hown7
     have Hn := Lib.hid (show Own intC 1 3 w7 wa.heap.size (.slice A' m2 c') (EL (k + 1)) ∧ Keep wa w7 from ⟨by rw [Hne.out]; exact hown7, Keep.of_ext (hkeep.out.trans kb) hE7 (fun j hj e => by have := (hown0.lt j e).1; omega)⟩)
     rw [hwb] at hrun y1 yl
     clear hown hkeep hown7 hE7 hown0 he bb kb hle hm hm2 hargs
     go_wp2_with (at_builtin; refine wpList_append_eq rfl _ _ _ rfl _ _ rfl rfl _ _ hrun ?_; clear hrun)
     go_roundw
     case rel => exact ⟨k + 1, hin, by go_num, Lib.hid Hn.out.1, Lib.hid Hn.out.2⟩
     case measure => simp [intOf]; omega
    ·have hown2 := hown.out
     rw [show k = tl.length by omega, HEnd.out] at hown2
     have Hr := Lib.hid (show Own intC 1 3 wr w.heap.size u3 EN ∧ Keep w wr from ⟨hown2.mono Hka.out.size, Hka.out.trans hkeep.out⟩)
     clear hown hown2 hkeep
     go_wp2
     go_ret
     exact ⟨_, rfl, Hr.out.1, Hr.out.2⟩
  ·have HK : ¬ (xk = 1 ∨ xk = 2) := fun h => h.elim hk1 hk2
   have d1 : (xk == 1) = false := beq_eq_false_iff_ne.2 hk1
   have d2 : (xk == 2) = false := beq_eq_false_iff_ne.2 hk2
   have d1' : decide (xk = 1) = false := decide_eq_false hk1
   have d2' : decide (xk = 2) = false := decide_eq_false hk2
   have Hst1 := Lib.hid (show Own intC 1 3 w1 wa.heap.size (.slice A1 al.length c1) (EL 0) from by rw [HE0.out, if_neg HK, List.append_nil]; exact hown1)
   have Hst2 := Lib.hid k1
   clear hown1
   go_enter Tryz.func46, Tryz.ntmps46
   go_wp2_with (at_builtin; refine wpList_append_eq rfl _ _ _ rfl _ _ rfl rfl _ _ hrun1 ?_; clear hrun1)
   clear r0 r1 r3 q0 q1 q2 q3 k1
   go_loopw [3, 26] (fun vo vi wr => ∃ k : Nat, k ≤ tl.length ∧ vi = .int .i64 k ∧ Hid (Own intC 1 3 wr wa.heap.size vo (EL k)) ∧ Hid (Keep wa wr)) (fun _ i _ => tl.length - (intOf i).toNat)
   case atStart => exact ⟨0, Nat.zero_le _, rfl, Hst1, Hst2⟩
   case round =>
    clear Hst1 Hst2
    obtain ⟨k, hk, rfl, hown, hkeep⟩ := hrel
    by_cases hin : k < tl.length
    ·obtain ⟨e, he⟩ := get_some hin
     obtain ⟨bE, offE, hE, hbE, e0, e1⟩ := ed_get HtoSeg.out (Hka.out.trans hkeep.out) he
     have Hne := Lib.hid (HEL.out k e he)
     have hargs := (Hto.out e (List.mem_of_getElem? he)).args.seg.keep (Hka.out.trans hkeep.out)
     subst hE
     have hbEl := Nat.lt_of_lt_of_le hbE (Hka.out.trans hkeep.out).size
     have hkk : (k : Int) < (tl.length : Int) := by omega
     have hk0 : (0 : Int) ≤ (k : Int) := by omega
     obtain ⟨et, ⟨ea, el, ec⟩⟩ := e
     replace e0 : wr.cell? ⟨bE, offE + k * 2, none⟩ = some (.int .i64 et) := e0
     replace e1 : wr.cell? ⟨bE, offE + k * 2 + 1, none⟩ = some (.slice ea el.length ec) := e1
     replace hargs : Seg wr ea (el.flatMap intC) := hargs
     obtain ⟨wb, hwb, kb, bb⟩ := box2 wr 65 (.int .i64 et) (.slice ea el.length ec)
     have y1 : wb.cell? ⟨wr.heap.size, 1, none⟩ = some (.slice ea el.length ec) := bb.cell 1
     have yl := bb.lt
     have hle := HLe.out (k + 1)
     rw [Hne.out, List.length_append] at hle
     replace hle : (EL k).length + el.length ≤ 2000000 := hle
     obtain ⟨Ao, co, rfl, A', c', w7, hrun, hown7, hE7⟩ := intApp (hown.out.keep kb) (hargs.keep kb) ec (by omega) (Nat.le_trans hkeep.out.size kb.size)
     have hown0 := hown.out
     obtain ⟨m, hm⟩ : ∃ m, (EL k).length = m := ⟨_, rfl⟩
     obtain ⟨m2, hm2⟩ : ∃ m, (EL k ++ el).length = m := ⟨_, rfl⟩
     rw [hm] at hrun hE7 hown0 ⊢
     rw [hm2] at hrun hown7
     have Hn := Lib.hid (show Own intC 1 3 w7 wa.heap.size (.slice A' m2 c') (EL (k + 1)) ∧ Keep wa w7 from ⟨by rw [Hne.out]; exact hown7, Keep.of_ext (hkeep.out.trans kb) hE7 (fun j hj e => by have := (hown0.lt j e).1; omega)⟩)
     rw [hwb] at hrun y1 yl
     clear hown hkeep hown7 hE7 hown0 he bb kb hle hm hm2 hargs
     go_wp2_with (at_builtin; refine wpList_append_eq rfl _ _ _ rfl _ _ rfl rfl _ _ hrun ?_; clear hrun)
     go_roundw
     case rel => exact ⟨k + 1, hin, by go_num, Lib.hid Hn.out.1, Lib.hid Hn.out.2⟩
     case measure => simp [intOf]; omega
    ·have hown2 := hown.out
     rw [show k = tl.length by omega, HEnd.out] at hown2
     have Hr := Lib.hid (show Own intC 1 3 wr w.heap.size u3 EN ∧ Keep w wr from ⟨hown2.mono Hka.out.size, Hka.out.trans hkeep.out⟩)
     clear hown hown2 hkeep
     go_wp2
     go_ret
     exact ⟨_, rfl, Hr.out.1, Hr.out.2⟩
end Go.Proofs.YtjpmiejgcnfiiaaGreat
namespace Go.Proofs.YtjpmiejgcnfiiaaGreat
open Go Go.RowKit

structure Opened (x : SsD) (vp vr : Value) (va : Option Addr) (nv vc : Nat) (ba : Option Addr) (nb bc : Nat) : Prop where
 agg : (Value.agg (ssC x).toArray) = .agg #[vp, vr, .slice va nv vc, .slice ba nb bc]
 nv : x.vals.l.length = nv
 nb : x.blocks.l.length = nb
 ba : x.blocks.a = ba
theorem SsD.opened (x : SsD) : ∃ vp vr va nv vc ba nb bc, Opened x vp vr va nv vc ba nb bc := ⟨_, _, _, _, _, _, _, _, rfl, rfl, rfl, rfl⟩
/-- A block of the form. -/
theorem bk_open {x : SsD} {vp vr : Value} {va : Option Addr} {nv vc : Nat} {ba : Option Addr} {nb bc : Nat} (hop : Opened x vp vr va nv vc ba nb bc) {w wr : World} (h : SsOk w x) (hkeep : Keep w wr) {b : Nat} {y : BkD} (hy : x.blocks.l[b]? = some y) :
  ∃ B off, ba = some ⟨B, off, none⟩ ∧ B < w.heap.size ∧ b < nb ∧ wr.cell? ⟨B, off + b * 7, none⟩ = some (.slice y.params.a y.params.l.length y.params.c) ∧ wr.cell? ⟨B, off + b * 7 + 1, none⟩ = some (.slice y.ins.a y.ins.l.length y.ins.c) ∧
   wr.cell? ⟨B, off + b * 7 + 2, none⟩ = some (.int .i64 y.kind) ∧ wr.cell? ⟨B, off + b * 7 + 2 + 1, none⟩ = some (.int .i64 y.cond) ∧ wr.cell? ⟨B, off + b * 7 + 2 + 2, none⟩ = some (.slice y.args.a y.args.l.length y.args.c) ∧
   wr.cell? ⟨B, off + b * 7 + 2 + 3, none⟩ = some (.slice y.to.a y.to.l.length y.to.c) ∧ wr.cell? ⟨B, off + b * 7 + 2 + 4, none⟩ = some (.int .i64 y.trap) := by
 obtain ⟨B, off, e, hB, hc⟩ := bk_get h.seg hkeep hy
 have hl := (List.getElem?_eq_some_iff.1 hy).1
 rw [hop.nb] at hl
 rw [hop.ba] at e
 exact ⟨B, off, e, hB, hl, by have := hc 0 _ rfl; simpa [RwD.v] using this, hc 1 _ rfl, hc 2 _ rfl, hc 3 _ rfl, hc 4 _ rfl, hc 5 _ rfl, hc 6 _ rfl⟩
/-- An instruction of a block. -/
theorem in_open {w wr : World} {y : BkD} (h : BkOk w y) (hkeep : Keep w wr) {k : Nat} {i : InD} (hi : y.ins.l[k]? = some i) :
  ∃ B off, y.ins.a = some ⟨B, off, none⟩ ∧ B < w.heap.size ∧ k < y.ins.l.length ∧ wr.cell? ⟨B, off + k * 7, none⟩ = some (.int .i64 i.kind) ∧ wr.cell? ⟨B, off + k * 7 + 1, none⟩ = some (.int .i64 i.op) ∧ wr.cell? ⟨B, off + k * 7 + 2, none⟩ = some (.int .i64 i.a) ∧
   wr.cell? ⟨B, off + k * 7 + 3, none⟩ = some (.int .i64 i.b) ∧ wr.cell? ⟨B, off + k * 7 + 4, none⟩ = some (.int .u64 i.n) ∧ wr.cell? ⟨B, off + k * 7 + 5, none⟩ = some (.slice i.args.a i.args.l.length i.args.c) ∧ wr.cell? ⟨B, off + k * 7 + 6, none⟩ = some (.slice i.outs.a i.outs.l.length i.outs.c) := by
 obtain ⟨B, off, e, hB, hc⟩ := in_get h.insSeg hkeep hi
 have hl := (List.getElem?_eq_some_iff.1 hi).1
 exact ⟨B, off, e, hB, hl, by have := hc 0 _ rfl; simpa [RwD.v] using this, hc 1 _ rfl, hc 2 _ rfl, hc 3 _ rfl, hc 4 _ rfl, hc 5 _ rfl, hc 6 _ rfl⟩
/-- An instruction is laid into a box. -/
theorem box7 (w : World) (T : TypeId) (v0 v1 v2 v3 v4 v5 v6 : Value) : ∃ W : World, w.alloc (.cells #[v0, v1, v2, v3, v4, v5, v6] T) = W ∧ Keep w W ∧ W.cell? ⟨w.heap.size, 5, none⟩ = some v5 ∧ W.cell? ⟨w.heap.size, 6, none⟩ = some v6 ∧ w.heap.size < W.heap.size ∧ W.heap.size = w.heap.size + 1 := by
 have b := Blk.new w T [v0, v1, v2, v3, v4, v5, v6]
 exact ⟨_, rfl, (Keep.refl _).alloc _, b.cell 5, b.cell 6, b.lt, by simp⟩
theorem NumOk.away {w : World} {x : RwD Int} (h : NumOk w x) {ob : Nat} (hob : w.heap.size ≤ ob) : ∀ ad, x.a = some ad → x.l ≠ [] → ad.block ≠ ob := fun ad ha hl => by
 obtain ⟨b, off, e, hb, _⟩ := h.seg.addr (by rw [flat_int, List.length_map]; exact List.length_pos_iff.2 hl)
 rw [ha] at e; cases e
 show b ≠ ob
 omega
theorem Own.blk_apart_int {w : World} {base n c b o g : Nat} {xs : List Int} {t : TypeId} {cs : List Value} (h : Own intC 1 3 w base (.slice (some ⟨b, o, none⟩) n c) xs) (h' : Blk w g t cs) (hne : 3 ≠ t) : b ≠ g := h.blk_apart h' hne rfl
end Go.Proofs.YtjpmiejgcnfiiaaGreat
namespace Go.Proofs.YtjpmiejgcnfiiaaGreat
open Go Go.RowKit

/-- A slice of which only the form counts. -/
structure SlD where
 a : Option Addr
 n : Nat
 c : Nat
def SlD.v (x : SlD) : Value := .slice x.a x.n x.c
/-- A signature. -/
structure FnD where
 params : RwD Int
 results : RwD Int
def fnC (x : FnD) : List Value := [x.params.v, x.results.v]
/-- An import. -/
structure ImD where
 mo : ByteArray
 na : ByteArray
 kind : Int
 func : Int
 te : Int
 tmin : Int
 tmax : Int
 th : Bool
 mmin : Int
 mmax : Int
 mh : Bool
 gv : Int
 gm : Bool
def imC (x : ImD) : List Value := [.string x.mo, .string x.na, .int .i64 x.kind, .int .i64 x.func, .int .i64 x.te, .int .i64 x.tmin, .int .i64 x.tmax, .bool x.th, .int .i64 x.mmin, .int .i64 x.mmax, .bool x.mh, .int .i64 x.gv, .bool x.gm]
/-- An instruction of a module. -/
structure IrD where
 op : Int
 a : Int
 b : Int
 n : Int
 bk : Int
 bv : Int
 bi : Int
 types : SlD
 labels : SlD
def irC (x : IrD) : List Value := [.int .i64 x.op, .int .i64 x.a, .int .i64 x.b, .int .u64 x.n, .int .i64 x.bk, .int .i64 x.bv, .int .i64 x.bi, x.types.v, x.labels.v]
structure CdD where
 type : Int
 locals : SlD
 body : SlD
def cdC (x : CdD) : List Value := [.int .i64 x.type, x.locals.v, x.body.v]
structure LmD where
 min : Int
 max : Int
 has : Bool
def lmC (x : LmD) : List Value := [.int .i64 x.min, .int .i64 x.max, .bool x.has]
structure TbD where
 elem : Int
 min : Int
 max : Int
 has : Bool
def tbC (x : TbD) : List Value := [.int .i64 x.elem, .int .i64 x.min, .int .i64 x.max, .bool x.has]
structure GlD where
 gv : Int
 gm : Bool
 init : RwD IrD
def glC (x : GlD) : List Value := [.int .i64 x.gv, .bool x.gm, x.init.v]
structure ExD where
 name : ByteArray
 kind : Int
 index : Int
def exC (x : ExD) : List Value := [.string x.name, .int .i64 x.kind, .int .i64 x.index]
structure ElD where
 mode : Int
 table : Int
 offset : SlD
 type : Int
 items : RwD (RwD IrD)
def elC (x : ElD) : List Value := [.int .i64 x.mode, .int .i64 x.table, x.offset.v, .int .i64 x.type, x.items.v]
def itC (x : RwD IrD) : List Value := [x.v]
/-- A module. -/
structure MdD where
 types : RwD FnD
 imports : RwD ImD
 funcs : RwD CdD
 tables : RwD TbD
 mems : RwD LmD
 globals : RwD GlD
 exports : RwD ExD
 hasStart : Bool
 start : Int
 elems : RwD ElD
 datas : SlD
 customs : SlD
def mdC (m : MdD) : List Value := [m.types.v, m.imports.v, m.funcs.v, m.tables.v, m.mems.v, m.globals.v, m.exports.v, .bool m.hasStart, .int .i64 m.start, m.elems.v, m.datas.v, m.customs.v]
/-- A row in memory, not too long. -/
structure RowOk {α : Type} (f : α → List Value) (w : World) (x : RwD α) : Prop where
 seg : Seg w x.a (x.l.flatMap f)
 len : x.l.length ≤ 2000000
structure MdOk (w : World) (m : MdD) : Prop where
 types : RowOk fnC w m.types
 params : ∀ t ∈ m.types.l, RowOk intC w t.params ∧ RowOk intC w t.results
 imports : RowOk imC w m.imports
 funcs : RowOk cdC w m.funcs
 tables : RowOk tbC w m.tables
 mems : RowOk lmC w m.mems
 globals : RowOk glC w m.globals
 inits : ∀ g ∈ m.globals.l, RowOk irC w g.init
 exports : RowOk exC w m.exports
 elems : RowOk elC w m.elems
 items : ∀ e ∈ m.elems.l, RowOk itC w e.items ∧ ∀ i ∈ e.items.l, RowOk irC w i
 datas : m.datas.n ≤ 2000000
 few : ∀ t ∈ m.types.l, t.params.l.length ≤ 1500000
theorem RowOk.keep {α : Type} {f : α → List Value} {w w' : World} {x : RwD α} (h : RowOk f w x) (hk : Keep w w') : RowOk f w' x := ⟨h.seg.keep hk, h.len⟩
theorem MdOk.keep {w w' : World} {m : MdD} (h : MdOk w m) (hk : Keep w w') : MdOk w' m where
 types := h.types.keep hk
 params := fun t ht => ⟨(h.params t ht).1.keep hk, (h.params t ht).2.keep hk⟩
 imports := h.imports.keep hk
 funcs := h.funcs.keep hk
 tables := h.tables.keep hk
 mems := h.mems.keep hk
 globals := h.globals.keep hk
 inits := fun g hg => (h.inits g hg).keep hk
 exports := h.exports.keep hk
 elems := h.elems.keep hk
 items := fun e he => ⟨(h.items e he).1.keep hk, fun i hi => ((h.items e he).2 i hi).keep hk⟩
 datas := h.datas
 few := h.few
/-- The k-th element of a row of elements of s cells. -/
theorem rw_get {α : Type} {f : α → List Value} {s : Nat} (hf : ∀ x, (f x).length = s) (h0 : 0 < s) {w wr : World} {x : RwD α} (h : RowOk f w x) (hkeep : Keep w wr) {k : Nat} {y : α} (hy : x.l[k]? = some y) :
  ∃ b off, x.a = some ⟨b, off, none⟩ ∧ b < w.heap.size ∧ ∀ j v, (f y)[j]? = some v → wr.cell? ⟨b, off + k * s + j, none⟩ = some v := by
 obtain ⟨hk, e⟩ := List.getElem?_eq_some_iff.1 hy
 obtain ⟨b, off, e', hb, hc⟩ := h.seg.elem s hf h0 hk
 rw [e] at hc
 exact ⟨b, off, e', hb, fun j v hv => by have := hkeep.cell (hc j v hv); rwa [← Nat.add_assoc] at this⟩
/-- A new block. -/
theorem boxN (w : World) (T : TypeId) (vs : List Value) : ∃ W : World, w.alloc (.cells vs.toArray T) = W ∧ Keep w W ∧ Blk W w.heap.size T vs ∧ W.heap.size = w.heap.size + 1 :=
 ⟨_, rfl, (Keep.refl _).alloc _, Blk.new w _ vs, by simp⟩
/-- Integers that can be read. -/
def IntsAt (w : World) (A : Option Addr) (n : Nat) : Prop := ∃ l : List Int, l.length = n ∧ Seg w A (l.flatMap intC) ∧ n ≤ 2000000
theorem IntsAt.keep {w w' : World} {A : Option Addr} {n : Nat} (h : IntsAt w A n) (hk : Keep w w') : IntsAt w' A n := by
 obtain ⟨l, h1, h2, h3⟩ := h
 exact ⟨l, h1, h2.keep hk, h3⟩
theorem IntsAt.nil (w : World) (A : Option Addr) : IntsAt w A 0 := ⟨[], rfl, Seg.nil _ _, by omega⟩
theorem IntsAt.blk {w : World} {g : Nat} {T : TypeId} {l : List Int} (h : Blk w g T (l.map (Value.int .i64))) (hl : l.length ≤ 2000000) : IntsAt w (some ⟨g, 0, none⟩) l.length :=
 ⟨l, rfl, by rw [flat_int]; exact Seg.of_blk h, hl⟩
theorem RowOk.ints {w : World} {x : RwD Int} (h : RowOk intC w x) : IntsAt w x.a x.l.length := ⟨x.l, rfl, h.seg, h.len⟩
theorem elVal : ElT Tryz.prog 34 74 1 8 intC where
 slice := Tryz.underlying34
 info := info_of (z := .int .i64 0) (by kernel_rfl) rfl
 pos := by omega
 len := fun _ => rfl
 one := fun x u hu => by simp [intC] at hu; subst hu; rfl
/-- A signature that can be read. -/
structure SigAt (w : World) (A : Option Addr) (n : Nat) (B : Option Addr) (k : Nat) : Prop where
 params : IntsAt w A n
 results : IntsAt w B k
theorem SigAt.keep {w w' : World} {A B : Option Addr} {n k : Nat} (h : SigAt w A n B k) (hk : Keep w w') : SigAt w' A n B k := ⟨h.params.keep hk, h.results.keep hk⟩
theorem IntsAt.one {w : World} {g : Nat} {x : Int} (h : w.cell? ⟨g, 0, none⟩ = some (.int .i64 x)) : IntsAt w (some ⟨g, 0, none⟩) 1 :=
 ⟨[x], rfl, fun j u hu => by
  have hj : j = 0 := by have := (List.getElem?_eq_some_iff.1 hu).1; simp [intC] at this; omega
  subst hj
  exact ⟨_, rfl, by simp [intC] at hu; subst hu; exact h⟩, by omega⟩
theorem IntsAt.two {w : World} {g : Nat} {x y : Int} (h : w.cell? ⟨g, 0, none⟩ = some (.int .i64 x)) (h1 : w.cell? ⟨g, 1, none⟩ = some (.int .i64 y)) : IntsAt w (some ⟨g, 0, none⟩) 2 :=
 ⟨[x, y], rfl, fun j u hu => by
  have hj : j = 0 ∨ j = 1 := by have := (List.getElem?_eq_some_iff.1 hu).1; simp [intC] at this; omega
  rcases hj with rfl | rfl
  ·exact ⟨_, rfl, by simp [intC] at hu; subst hu; exact h⟩
  ·exact ⟨_, rfl, by simp [intC] at hu; subst hu; exact h1⟩, by omega⟩
theorem IntsAt.three {w : World} {g : Nat} {x y z : Int} (h : w.cell? ⟨g, 0, none⟩ = some (.int .i64 x)) (h1 : w.cell? ⟨g, 1, none⟩ = some (.int .i64 y)) (h2 : w.cell? ⟨g, 2, none⟩ = some (.int .i64 z)) : IntsAt w (some ⟨g, 0, none⟩) 3 :=
 ⟨[x, y, z], rfl, fun j u hu => by
  have hj : j = 0 ∨ j = 1 ∨ j = 2 := by have := (List.getElem?_eq_some_iff.1 hu).1; simp [intC] at this; omega
  rcases hj with rfl | rfl | rfl
  ·exact ⟨_, rfl, by simp [intC] at hu; subst hu; exact h⟩
  ·exact ⟨_, rfl, by simp [intC] at hu; subst hu; exact h1⟩
  ·exact ⟨_, rfl, by simp [intC] at hu; subst hu; exact h2⟩, by omega⟩
theorem IntsAt.ext {S : Nat → Prop} {w w' : World} {A : Option Addr} {n : Nat} (h : IntsAt w A n) (hE : Ext S w w') (hA : ∀ ad, A = some ad → ¬ S ad.block) : IntsAt w' A n := by
 obtain ⟨l, h1, h2, h3⟩ := h
 exact ⟨l, h1, h2.ext hE (fun ad ha _ => hA ad ha), h3⟩
theorem IntsAt.set2 {w : World} {A : Option Addr} {n b : Nat} (h : IntsAt w A n) (hA : ∀ ad, A = some ad → ad.block ≠ b) (u v : Value) : IntsAt ((w.setCell ⟨b, 0, none⟩ u).setCell ⟨b, 1, none⟩ v) A n :=
 h.ext ((Ext.one b 0 u).trans (Ext.one b 1 v) (fun _ _ e => e)) hA
theorem IntsAt.alloc {w : World} {A : Option Addr} {n : Nat} (h : IntsAt w A n) (o : Obj) : IntsAt (w.alloc o) A n := h.keep ((Keep.refl _).alloc o)
/-- A row of integers is no box of two slices. -/
theorem IntsAt.box {w : World} {A : Option Addr} {n b : Nat} {T : TypeId} {a1 a2 : Option Addr} {n1 c1 n2 c2 : Nat} (h : IntsAt w A n) (hb : Blk w b T [.slice a1 n1 c1, .slice a2 n2 c2]) (u v : Value) : IntsAt ((w.setCell ⟨b, 0, none⟩ u).setCell ⟨b, 1, none⟩ v) A n := by
 by_cases h0 : n = 0
 ·subst h0; exact IntsAt.nil _ _
 ·obtain ⟨l, h1, h2, h3⟩ := h
  obtain ⟨b', off, e, _, hc⟩ := h2.addr (by rw [flat_int, List.length_map]; omega)
  refine IntsAt.set2 ⟨l, h1, h2, h3⟩ (fun ad ha hbe => ?_) u v
  rw [e] at ha
  cases ha
  have hbe' : b' = b := hbe
  subst hbe'
  have h4 := hc 0 (.int .i64 (l[0]'(by omega))) (by rw [flat_int]; simp [List.getElem?_eq_getElem (show 0 < l.length by omega)])
  rw [hb.cell] at h4
  rcases off with _ | _ | off
  ·cases h4
  ·cases h4
  ·cases h4
theorem IntsAt.box2 {w : World} {A : Option Addr} {n b : Nat} {T : TypeId} {a1 a2 : Option Addr} {n1 c1 n2 c2 : Nat} (hb : Blk w b T [.slice a1 n1 c1, .slice a2 n2 c2]) {u v : Value} (h : IntsAt w A n) : IntsAt ((w.setCell ⟨b, 0, none⟩ u).setCell ⟨b, 1, none⟩ v) A n := h.box hb u v
/-- The box of a call's result: two cells. -/
structure Box2 (w : World) (b : Nat) (u v : Value) : Prop where
 c0 : w.cell? ⟨b, 0, none⟩ = some u
 c1 : w.cell? ⟨b, 1, none⟩ = some v
 f0 : w.frozen? ⟨b, 0, none⟩ = false
 f1 : w.frozen? ⟨b, 1, none⟩ = false
 lt : b < w.heap.size
theorem Blk.box2 {w : World} {b : Nat} {T : TypeId} {u v : Value} (h : Blk w b T [u, v]) : Box2 w b u v := ⟨h.cell 0, h.cell 1, h.frozen 0, h.frozen 1, h.lt⟩
/-- A call that tells a truth value. -/
def RB (w : World) (Q : Bool → Prop) (e : Ending) (w' : World) : Prop := ∃ r, e = .returned (.bool r) ∧ Q r ∧ Keep w w'
theorem RB.mk {w w' : World} {Q : Bool → Prop} {e : Ending} {r : Bool} (he : e = .returned (.bool r)) (hq : Q r) (hk : Keep w w') : RB w Q e w' := ⟨r, he, hq, hk⟩
/-- A call that gives a signature. -/
def RS (w : World) (e : Ending) (w' : World) : Prop := ∃ A n c B k d, e = .returned (.agg #[.slice A n c, .slice B k d]) ∧ SigAt w' A n B k ∧ Keep w w'
/-- A call that gives a signature, and a truth value. -/
def RSB (w : World) (Q : Nat → Bool → Prop) (e : Ending) (w' : World) : Prop := ∃ A n c B k d r, e = .returned (.tuple #[.agg #[.slice A n c, .slice B k d], .bool r]) ∧ SigAt w' A n B k ∧ Q k r ∧ Keep w w'
theorem RSB.mk {w w' : World} {Q : Nat → Bool → Prop} {e : Ending} {A B : Option Addr} {n c k d : Nat} {r : Bool} (he : e = .returned (.tuple #[.agg #[.slice A n c, .slice B k d], .bool r])) (hs : SigAt w' A n B k) (hq : Q k r) (hk : Keep w w') : RSB w Q e w' := ⟨A, n, c, B, k, d, r, he, hs, hq, hk⟩
/-- A call that gives an integer. -/
def RI (w : World) (Q : Int → Prop) (e : Ending) (w' : World) : Prop := ∃ r, e = .returned (.int .i64 r) ∧ Q r ∧ Keep w w'
theorem RI.mk {w w' : World} {Q : Int → Prop} {e : Ending} {r : Int} (he : e = .returned (.int .i64 r)) (hq : Q r) (hk : Keep w w') : RI w Q e w' := ⟨r, he, hq, hk⟩
end Go.Proofs.YtjpmiejgcnfiiaaGreat
