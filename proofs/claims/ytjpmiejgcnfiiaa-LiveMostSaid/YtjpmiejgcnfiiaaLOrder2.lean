/-
  The program's Order: the walk.
-/
import Derived.Test.YtjpmiejgcnfiiaaLOrder
set_option linter.unusedVariables false
set_option linter.unusedSimpArgs false
namespace Go.Proofs.Ytjpmiejgcnfiiaa
open Go Go.RowKit

set_option maxHeartbeats 4000000 in
set_option maxRecDepth 100000 in
theorem order_calls (x : SsD) (w : World) (h : SsOk w x) (hto : ∀ y ∈ x.blocks.l, y.to.l.length < 17592186044416) (hn : x.blocks.l.length ≤ 100000) :
    Calls Try.prog 12 #[.agg (ssC x).toArray] w fun e w' => ∃ v ds, e = .returned v ∧ Own intC 1 3 w' w.heap.size v (ints ds) ∧ Keep w w' ∧ OrdOk x ds := by
  obtain ⟨N, hN⟩ : ∃ N, x.N = N := ⟨_, rfl⟩
  have HNx := Lib.hid (show ∀ W, Keep w W → ∀ b, b < N.length → Calls Try.prog 21 #[.agg (ssC x).toArray, .int .i64 (b : Int)] W fun e w' => ∃ A c, e = .returned (.slice A (N.getD b []).length c) ∧ Own intC 1 3 w' W.heap.size (.slice A (N.getD b []).length c) (ints (N.getD b [])) ∧ Keep W w' ∧ (N.getD b []).length ≤ c ∧ c ≤ maxLen from
    fun W hW b hb => by rw [← hN] at hb ⊢; exact next2 x b W (h.keep hW) hto hb)
  have HNlt := Lib.hid (show ∀ l ∈ N, ∀ t ∈ l, t < N.length from by rw [← hN]; exact SsD.N_lt x)
  have HNlen := Lib.hid (show N.length = x.blocks.l.length from by rw [← hN]; exact SsD.N_len x)
  have HOrd := Lib.hid (show ∀ d, (∃ d', Lv.IsPost N d' ∧ d' = d) → x.blocks.l ≠ [] → OrdOk x d.reverse from by
    rintro d ⟨_, hd, rfl⟩ hne; unfold OrdOk; rw [if_neg hne, List.reverse_reverse, hN]; exact hd)
  have HOrd0 := Lib.hid (show x.blocks.l = [] → OrdOk x [] from fun e => by unfold OrdOk; rw [if_pos e])
  obtain ⟨OO, hOO⟩ : ∃ OO, OrdOk x = OO := ⟨_, rfl⟩
  rw [hOO] at HOrd HOrd0 ⊢
  clear hOO hN
  obtain ⟨xp, xr, xv, ⟨ba, bl, bc⟩⟩ := x
  obtain ⟨vp, hvp⟩ : ∃ v, xp.v = v := ⟨_, rfl⟩
  obtain ⟨vr, hvr⟩ : ∃ v, xr.v = v := ⟨_, rfl⟩
  obtain ⟨vv, hvv⟩ : ∃ v, xv.v = v := ⟨_, rfl⟩
  have eag : (Value.agg (ssC ⟨xp, xr, xv, ⟨ba, bl, bc⟩⟩).toArray) = .agg #[vp, vr, vv, .slice ba bl.length bc] := by rw [← hvp, ← hvr, ← hvv]; rfl
  rw [eag] at HNx ⊢
  replace hn : bl.length ≤ 100000 := hn
  replace HNlen : Hid (N.length = bl.length) := HNlen
  replace HOrd : Hid (∀ d, (∃ d', Lv.IsPost N d' ∧ d' = d) → bl ≠ [] → OO d.reverse) := HOrd
  replace HOrd0 : Hid (bl = [] → OO []) := HOrd0
  clear h hto eag hvp hvr hvv
  obtain ⟨wa, hwa⟩ : ∃ wa : World, w.alloc (.cells #[vp, vr, vv, .slice ba bl.length bc] 47) = wa := ⟨_, rfl⟩
  have hka : Keep w wa := by rw [← hwa]; exact (Keep.refl _).alloc _
  have bx : Blk wa w.heap.size 47 [vp, vr, vv, .slice ba bl.length bc] := by rw [← hwa]; exact Blk.new w _ _
  have d0 : wa.cell? ⟨w.heap.size, 0, none⟩ = some vp := bx.cell 0
  have d1 : wa.cell? ⟨w.heap.size, 1, none⟩ = some vr := bx.cell 1
  have d2 : wa.cell? ⟨w.heap.size, 2, none⟩ = some vv := bx.cell 2
  have d3 : wa.cell? ⟨w.heap.size, 3, none⟩ = some (.slice ba bl.length bc) := bx.cell 3
  have lt := bx.lt
  clear bx
  have Hbl := Lib.hid (show bl.length = 0 → bl = [] from List.eq_nil_of_length_eq_zero)
  have Hbl2 := Lib.hid (show bl = [] → bl.length = 0 from fun e => by rw [e]; rfl)
  obtain ⟨n, hnl⟩ : ∃ n, bl.length = n := ⟨_, rfl⟩
  rw [hnl] at HNx HNlen Hbl Hbl2 hn hwa d3 ⊢
  clear hnl
  obtain ⟨ws, hmake, hblk, hks⟩ := make_bools wa n (by omega)
  by_cases hn0 : n = 0
  · subst hn0
    have Hf := Lib.hid (HOrd0.out (Hbl.out rfl))
    clear hmake hblk hks
    have Hka := Lib.hid hka
    clear hka
    go_enter Try.func12, Try.ntmps12
    go_wp2_with fail
    go_ret
    exact ⟨_, rfl, [], Own.nil _ _ _ _ _, Hka.out, Hf.out⟩
  · have hnp : 0 < n := by omega
    have hne : ((n : Int) == 0) = false := beq_eq_false_iff_ne.2 (by omega)
    have hnd : decide ((n : Int) = 0) = false := decide_eq_false (by omega)
    have HNe := Lib.hid (show bl ≠ [] from fun e => hn0 (Hbl2.out e))
    have hz1 : ws.heap.size = ws.heap.size := rfl
    have e0 := hks.cell d0
    have e1 := hks.cell d1
    have e2 := hks.cell d2
    have e3 := hks.cell d3
    have lts := Nat.lt_of_lt_of_le lt hks.size
    have hN0 := HNx.out ws (hka.trans hks) 0 (by rw [HNlen.out]; exact hnp)
    have HN0 := Lib.hid hN0
    clear hN0
    have Hblk := Lib.hid hblk
    have Hks := Lib.hid hks
    have Hka := Lib.hid hka
    clear hblk hks hka hn0 hz1
    go_enter Try.func12, Try.ntmps12
    go_wp2_with (refine wpList_make_eq rfl _ _ _ rfl _ _ rfl rfl _ _ hmake ?_; clear hmake)
    refine HN0.out.mono ?_
    clear HN0
    rintro e w1 ⟨A, c, rfl, hown, hk1, hcl, hcm⟩
    have hOM0 : OM wa w1 wa.heap.size [] [] (List.replicate n false) (.slice none 0 0) (.slice none 0 0) :=
      ⟨Hblk.out.keep hk1, Own.nil _ _ _ _ _, Own.nil _ _ _ _ _, fun s hs => by simp at hs, Hks.out.trans hk1, Nat.le_refl _⟩
    obtain ⟨l0, hl0⟩ : ∃ l0, N.getD 0 [] = l0 := ⟨_, rfl⟩
    rw [hl0] at hown hcl ⊢
    have HPS := Lib.hid (show ∃ d, Lv.IsPost N d ∧ ∀ a c, PS N [⟨0, a, l0, c⟩] [] ((List.replicate n false).set 0 true) d from by
      obtain ⟨d, hd⟩ := Lv.IsPost.ex N
      refine ⟨d, hd, fun a c => ⟨?_, by rw [List.length_set, List.length_replicate]; exact HNlen.out.symm, ?_, fun s hs => ?_⟩⟩
      · have h1 := hd.stack
        rw [HNlen.out, hl0] at h1
        exact h1
      · have h1 := Lv.count_set (m := List.replicate n false) (c := 0) (by rw [List.getD_eq_getElem?_getD, List.getElem?_replicate, if_pos hnp]; rfl)
        rw [List.count_replicate_self] at h1
        simp only [List.length_cons, List.length_nil]
        have := HNlen.out
        omega
      · obtain rfl : s = ⟨0, a, l0, c⟩ := by simpa using hs
        refine ⟨by show 0 < N.length; rw [HNlen.out]; exact hnp, fun t ht => ?_⟩
        have ht : t ∈ l0 := ht
        rw [← hl0, List.getD_eq_getElem?_getD] at ht
        cases hg : N[0]? with
        | none => rw [hg] at ht; simp at ht
        | some q => rw [hg] at ht; exact HNlt.out q (List.mem_of_getElem? hg) t ht)
    clear hl0
    have hRst : Rst w1 wa.heap.size (.slice none 0 0) ⟨0, A, l0, c⟩ := Rst.made 0 hown Hks.out.size (fun k hk => by cases hk)
    have hOM1 : OM wa (w1.alloc (.cells #[.int .i64 (0 : Int), .slice A l0.length c] 75)) wa.heap.size [⟨0, A, l0, c⟩] [] (List.replicate n false) (.slice (some ⟨w1.heap.size, 0, none⟩) 1 1) (.slice none 0 0) := by
      have hk : Keep w1 (w1.alloc (.cells #[.int .i64 (0 : Int), .slice A l0.length c] 75)) := (Keep.refl _).alloc _
      have hf := hOM0.far hk
      refine ⟨hf.seen, ?_, hf.out, fun s hs => ?_, hf.keep, hf.base⟩
      · exact Own.of_row (f := rsC) (s := 2) (xs := [⟨0, A, l0, c⟩]) (Blk.new w1 75 [.int .i64 (0 : Int), .slice A l0.length c]) (fun _ => rfl) hOM0.keep.size (by simp [maxLen])
      · obtain rfl : s = ⟨0, A, l0, c⟩ := by simpa using hs
        exact hRst.ext (hk.ext (fun _ => False)) (fun _ _ _ _ _ _ hf => hf)
    have HOM := Lib.hid (hOM1.mark 0)
    have s0 : (w1.alloc (.cells #[.int .i64 (0 : Int), .slice A l0.length c] 75)).cell? ⟨wa.heap.size, 0, none⟩ = some (.bool false) := by
      have := hOM1.seen.get (k := 0) (by simpa using hnp)
      simpa using this
    have f0 := hOM1.seen.frozen 0
    clear hOM0 hOM1 hRst hown hcl hcm e0 e1 e2 e3 lts hk1
    go_wp2_with fail
    obtain ⟨dd, hdd, HP⟩ := HPS.out
    have HDd := Lib.hid hdd
    obtain ⟨st0, hst0⟩ : ∃ st : List RsD, [⟨0, A, l0, c⟩] = st := ⟨_, rfl⟩
    have HP1 := Lib.hid (show PS N st0 [] ((List.replicate n false).set 0 true) dd from by rw [← hst0]; exact HP A c)
    rw [hst0] at HOM
    clear hdd HP HPS hst0 s0 f0 Hblk Hks
    go_loopg [4, 5] (fuelS N ((List.replicate n false).set 0 true) st0) (fun g vo vs wr => ∃ st out seen, OM wa wr wa.heap.size st out seen vs vo ∧ PS N st out seen dd ∧ fuelS N seen st ≤ g)
    case atStart => exact ⟨st0, [], _, HOM.out, HP1.out, Nat.le_refl _⟩
    case round =>
      clear HOM HP1
      obtain ⟨st, out, seen, hOM, hD, hf⟩ := hrel
      obtain ⟨vo, rfl⟩ : ∃ vo, vo = u4 := ⟨_, rfl⟩
      obtain ⟨vs, rfl⟩ : ∃ vs, vs = u5 := ⟨_, rfl⟩
      have e0 := hOM.keep.cell d0
      have e1 := hOM.keep.cell d1
      have e2 := hOM.keep.cell d2
      have e3 := hOM.keep.cell d3
      have ltr := Nat.lt_of_lt_of_le lt hOM.keep.size
      cases st with
      | nil =>
        obtain ⟨B, d, hv, _⟩ := hOM.stk.form
        have hv' : vs = .slice B 0 d := hv
        subst hv'
        have hdo : dd = out := hD.vis.done
        obtain ⟨g, cc, hvo, hgl, hgb, _⟩ := own_at hOM.out (by rw [ints_len, ← hdo]; obtain ⟨_, d1, _, rfl⟩ := HDd.out; simp)
        rw [ints_len] at hvo
        have hown := hOM.out
        have hlen : out.length ≤ 1000000 := by
          have h1 := hD.cnt
          rw [HNlen.out] at h1
          simp only [List.length_nil] at h1
          omega
        subst hvo
        have hrev := reverse_calls (ints out) wa.heap.size g out.length cc wr hown (by rw [ints_len]; exact hlen)
        have Hfin := Lib.hid (show OO out.reverse from HOrd.out _ ⟨dd, HDd.out, hdo⟩ HNe.out)
        have Hkr := Lib.hid hOM.keep
        have Hsz := Lib.hid hgb
        have Hlo := Lib.hid (show (ints out).length = out.length from ints_len out)
        clear hv hOM hD hdo hown e0 e1 e2 e3
        go_wp2_with fail
        refine hrev.mono ?_
        clear hrev
        rintro e w9 ⟨⟨v9, rfl⟩, hown9, hE9⟩
        have Hr9 := Lib.hid (show Own intC 1 3 w9 w.heap.size (.slice (some ⟨g, 0, none⟩) out.length cc) (ints out.reverse) ∧ Keep w w9 from
          ⟨by rw [ints_rev]; exact hown9.mono Hka.out.size, Hka.out.trans (Keep.of_ext Hkr.out hE9 (fun k hk e => by have := Hsz.out; omega))⟩)
        clear hown9 hE9
        go_wp2
        go_ret
        exact ⟨_, _, rfl, Hr9.out.1, Hr9.out.2, Hfin.out⟩
      | cons s r =>
        obtain ⟨x, a, l, c⟩ := s
        obtain ⟨g, cc, rfl, h1, h2, hgl, hgb, cx, ck, hfr, hne⟩ := hOM.top
        replace cx : wr.cell? ⟨g, r.length * 2, none⟩ = some (.int .i64 (x : Int)) := cx
        replace ck : wr.cell? ⟨g, r.length * 2 + 1, none⟩ = some (.slice a l.length c) := ck
        obtain ⟨M, hM⟩ : ∃ M, M = r.length + 1 := ⟨_, rfl⟩
        rw [← hM] at hOM h1 ⊢
        unfold maxLen at h2
        have hcnt := hD.cnt
        rw [HNlen.out] at hcnt
        simp only [List.length_cons] at hcnt
        have hM1 : (M : Int) - 1 = (r.length : Int) := by omega
        have hw : IntKind.i64.wrap ((M : Int) - 1) = (r.length : Int) := by rw [hM1]; exact IntWalk.i64_in _ (by omega)
        have m0 : (0 : Int) ≤ (r.length : Int) := by omega
        have m1 : (r.length : Int) < (M : Int) := by omega
        have m2 : (r.length : Int) ≤ (cc : Int) := by omega
        have mp : decide (0 < M) = true := decide_eq_true (by omega)
        have HM := Lib.hid hM
        cases l with
        | nil =>
          obtain ⟨A0, c0, rfl, A', c', w2, hrun, hOM2⟩ := hOM.leave (by omega) (by rw [hM])
          have Hpop := Lib.hid hD.pop
          have HOM2 := Lib.hid hOM2
          clear hOM hD hM hM1 hOM2 hcnt
          go_wp2_with (at_builtin; refine wpList_append_eq rfl _ _ _ rfl _ _ rfl rfl _ _ hrun ?_; clear hrun)
          go_roundg (fuelS N seen r)
          case measure => exact Nat.lt_of_lt_of_le Hpop.out.2 hf
          case rel => exact ⟨r, _, seen, HOM2.out, Hpop.out.1, Nat.le_refl _⟩
        | cons t l =>
          have hR := hOM.rest _ (List.mem_cons_self ..)
          obtain ⟨b, o, ha, hbl, hbc⟩ := hR.1.addr (by simp [ints, intC])
          replace ha : a = some ⟨b, o, none⟩ := ha
          subst ha
          have ct : wr.cell? ⟨b, o, none⟩ = some (.int .i64 (t : Int)) := hbc 0 _ rfl
          have hcc : l.length + 1 ≤ c := hR.2.1
          have hcm : c ≤ maxLen := hR.2.2.1
          unfold maxLen at hcm
          have htN := hD.tlt
          have hts : t < seen.length := by rw [hD.len]; exact htN
          have cs := hOM.seen.get hts
          have fs := hOM.seen.frozen t
          have ls := hOM.seen.lt
          have ht0 : (0 : Int) ≤ (t : Int) := by omega
          have htn : (t : Int) < (n : Int) := by rw [HNlen.out] at htN; omega
          have hne' : wa.heap.size ≠ g := fun e => hne e.symm
          have f1 := hfr (r.length * 2 + 1)
          have hq1 : w.heap.size ≠ g := by omega
          have hq2 : w.heap.size ≠ wa.heap.size := by omega
          rcases Nat.lt_or_ge 1 c with hc1 | hc1
          · have hc2 : ¬ c = 1 := by omega
            have hb := hOM.bump (a2 := some ⟨b, o + 1, none⟩) (cc := cc) (g := g) (fun h => by first | rfl | exact absurd rfl h) (by rw [hM])
            cases hsb : seen[t] with
            | true =>
              rw [hsb] at cs
              have Hs := Lib.hid (hD.skip (a' := some ⟨b, o + 1, none⟩) (c' := c - 1) (by rw [List.getD_eq_getElem?_getD, List.getElem?_eq_getElem hts, hsb]; rfl))
              have HOM2 := Lib.hid hb
              clear hOM hD hM hM1 hcnt hb hR hbc hsb hts htN
              go_wp2_with fail
              go_roundg (fuelS N seen (⟨x, some ⟨b, o + 1, none⟩, l, c - 1⟩ :: r))
              case measure => exact Nat.lt_of_lt_of_le Hs.out.2 hf
              case rel => exact ⟨_, _, seen, HOM2.out, Hs.out.1, Nat.le_refl _⟩
            | false =>
              rw [hsb] at cs
              have hsf : seen.getD t true = false := by rw [List.getD_eq_getElem?_getD, List.getElem?_eq_getElem hts, hsb]; rfl
              have Hs := Lib.hid (fun (b2 : Option Addr) (k2 : Nat) => hD.push (a' := some ⟨b, o + 1, none⟩) (c' := c - 1) (b := b2) (e := k2) HNlt.out hsf)
              have hb2 := hb.mark t
              have hN1 := HNx.out _ (Hka.out.trans hb2.keep) t htN
              obtain ⟨wm, hwm⟩ : ∃ wm : World, wm = (wr.setCell ⟨g, r.length * 2 + 1, none⟩ (.slice (some ⟨b, o + 1, none⟩) (l : List Nat).length (c - 1))).setCell ⟨wa.heap.size, t, none⟩ (.bool true) := ⟨_, rfl⟩
              rw [← hwm] at hN1 hb2
              have HN1 := Lib.hid hN1
              have HOM2 := Lib.hid hb2
              have Hcnt := Lib.hid (show r.length + 1 < 900000 by omega)
              clear hOM hD hM hM1 hcnt hb hb2 hR hbc hsb hts htN hsf hN1
              go_wp2_with fail
              rw [← hwm]
              refine HN1.out.mono ?_
              clear HN1
              rintro e w5 ⟨A5, c5, rfl, hown5, hk5, hcl5, hcm5⟩
              obtain ⟨l5, hl5⟩ : ∃ l5, N.getD t [] = l5 := ⟨_, rfl⟩
              rw [hl5] at hown5 hcl5 Hs ⊢
              have hOM5 := HOM2.out.far hk5
              have hR5 : Rst w5 wa.heap.size vo ⟨t, A5, l5, c5⟩ := Rst.made t hown5 HOM2.out.keep.size (fun k hk => (HOM2.out.out.lt k hk).2)
              obtain ⟨A6, c6, e6, A7, c7, w7, hrun, hOM7⟩ := hOM5.push (by have := Hcnt.out; simp only [List.length_cons]; omega) ⟨t, A5, l5, c5⟩ hR5
              simp only [List.length_cons] at e6 hrun hOM7
              rw [← HM.out] at e6 hrun hOM7
              cases e6
              have HOM7 := Lib.hid hOM7
              have Hs7 := Lib.hid (Hs.out A5 c5)
              clear hown5 hk5 hcl5 hcm5 hOM5 hR5 hOM7 Hs HOM2 hl5 hwm
              go_wp2_with (at_builtin; refine wpList_append_eq rfl _ _ _ rfl _ _ rfl rfl _ _ hrun ?_; clear hrun)
              go_roundg (fuelS N (seen.set t true) (⟨t, A5, l5, c5⟩ :: ⟨x, some ⟨b, o + 1, none⟩, l, c - 1⟩ :: r))
              case measure => exact Nat.lt_of_lt_of_le Hs7.out.2 hf
              case rel => exact ⟨_, _, _, HOM7.out, Hs7.out.1, Nat.le_refl _⟩
          · obtain rfl : c = 1 := by omega
            obtain rfl : l = [] := List.eq_nil_of_length_eq_zero (by omega)
            have hb := hOM.bump (a2 := some ⟨b, o, none⟩) (cc := cc) (g := g) (fun h => by first | rfl | exact absurd rfl h) (by rw [hM])
            cases hsb : seen[t] with
            | true =>
              rw [hsb] at cs
              have Hs := Lib.hid (hD.skip (a' := some ⟨b, o, none⟩) (c' := 1 - 1) (by rw [List.getD_eq_getElem?_getD, List.getElem?_eq_getElem hts, hsb]; rfl))
              have HOM2 := Lib.hid hb
              clear hOM hD hM hM1 hcnt hb hR hbc hsb hts htN
              go_wp2_with fail
              go_roundg (fuelS N seen (⟨x, some ⟨b, o, none⟩, [], 1 - 1⟩ :: r))
              case measure => exact Nat.lt_of_lt_of_le Hs.out.2 hf
              case rel => exact ⟨_, _, seen, HOM2.out, Hs.out.1, Nat.le_refl _⟩
            | false =>
              rw [hsb] at cs
              have hsf : seen.getD t true = false := by rw [List.getD_eq_getElem?_getD, List.getElem?_eq_getElem hts, hsb]; rfl
              have Hs := Lib.hid (fun (b2 : Option Addr) (k2 : Nat) => hD.push (a' := some ⟨b, o, none⟩) (c' := 1 - 1) (b := b2) (e := k2) HNlt.out hsf)
              have hb2 := hb.mark t
              have hN1 := HNx.out _ (Hka.out.trans hb2.keep) t htN
              obtain ⟨wm, hwm⟩ : ∃ wm : World, wm = (wr.setCell ⟨g, r.length * 2 + 1, none⟩ (.slice (some ⟨b, o, none⟩) 0 0)).setCell ⟨wa.heap.size, t, none⟩ (.bool true) := ⟨_, rfl⟩
              have hwm2 : (wr.setCell ⟨g, r.length * 2 + 1, none⟩ (.slice (some ⟨b, o, none⟩) ([] : List Nat).length (1 - 1))).setCell ⟨wa.heap.size, t, none⟩ (.bool true) = wm := hwm.symm
              rw [hwm2] at hN1 hb2
              have HN1 := Lib.hid hN1
              have HOM2 := Lib.hid hb2
              have Hcnt := Lib.hid (show r.length + 1 < 900000 by omega)
              clear hOM hD hM hM1 hcnt hb hb2 hR hbc hsb hts htN hsf hN1
              go_wp2_with fail
              rw [← hwm]
              refine HN1.out.mono ?_
              clear HN1
              rintro e w5 ⟨A5, c5, rfl, hown5, hk5, hcl5, hcm5⟩
              obtain ⟨l5, hl5⟩ : ∃ l5, N.getD t [] = l5 := ⟨_, rfl⟩
              rw [hl5] at hown5 hcl5 Hs ⊢
              have hOM5 := HOM2.out.far hk5
              have hR5 : Rst w5 wa.heap.size vo ⟨t, A5, l5, c5⟩ := Rst.made t hown5 HOM2.out.keep.size (fun k hk => (HOM2.out.out.lt k hk).2)
              obtain ⟨A6, c6, e6, A7, c7, w7, hrun, hOM7⟩ := hOM5.push (by have := Hcnt.out; simp only [List.length_cons]; omega) ⟨t, A5, l5, c5⟩ hR5
              simp only [List.length_cons] at e6 hrun hOM7
              rw [← HM.out] at e6 hrun hOM7
              cases e6
              have HOM7 := Lib.hid hOM7
              have Hs7 := Lib.hid (Hs.out A5 c5)
              clear hown5 hk5 hcl5 hcm5 hOM5 hR5 hOM7 Hs HOM2 hl5 hwm hwm2
              go_wp2_with (at_builtin; refine wpList_append_eq rfl _ _ _ rfl _ _ rfl rfl _ _ hrun ?_; clear hrun)
              go_roundg (fuelS N (seen.set t true) (⟨t, A5, l5, c5⟩ :: ⟨x, some ⟨b, o, none⟩, [], 1 - 1⟩ :: r))
              case measure => exact Nat.lt_of_lt_of_le Hs7.out.2 hf
              case rel => exact ⟨_, _, _, HOM7.out, Hs7.out.1, Nat.le_refl _⟩
end Go.Proofs.Ytjpmiejgcnfiiaa
