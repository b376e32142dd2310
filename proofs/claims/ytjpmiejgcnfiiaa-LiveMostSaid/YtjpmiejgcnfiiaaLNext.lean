/-
  The program's next.
-/
import Derived.Test.YtjpmiejgcnfiiaaLBase
set_option linter.unusedVariables false
set_option linter.unusedSimpArgs false
namespace Go.Proofs.Ytjpmiejgcnfiiaa
open Go Go.RowKit

theorem elI : ElT Try.prog 33 3 1 8 intC where
  slice := Try.underlying33
  info := info_of (z := .int .i64 0) (by kernel_rfl) rfl
  pos := by omega
  len := fun _ => rfl
  one := fun x u hu => by simp [intC] at hu; subst hu; rfl
/-- A box of two cells. -/
theorem box2 (w : World) (T : TypeId) (v0 v1 : Value) : ∃ W : World, W = w.alloc (.cells #[v0, v1] T) ∧ Keep w W ∧ Blk W w.heap.size T [v0, v1] :=
  ⟨_, rfl, (Keep.refl _).alloc _, Blk.new w T [v0, v1]⟩
theorem intPush {w : World} {base : Nat} {v : Value} {xs : List Int} (h : Own intC 1 3 w base v xs) (x : Int) (hn : xs.length + 1 ≤ 17592186044416) (hb : base ≤ w.heap.size) :
    ∃ A c, v = .slice A xs.length c ∧ ∃ A' c' w2, (Builtin.append_ #[33, 33] 33 #[.slice A xs.length c, .slice (some ⟨w.heap.size, 0, none⟩) 1 1]).run Try.prog (w.alloc (.cells #[.int .i64 x] 3)) = .ok (.slice A' (xs.length + 1) c') w2 ∧
      Own intC 1 3 w2 base (.slice A' (xs.length + 1) c') (xs ++ [x]) ∧ Ext (fun k => v.ownBlock = some k) w w2 := by
  obtain ⟨A, c, hform, _⟩ := h.form
  have hka : Keep w (w.alloc (.cells #[.int .i64 x] 3)) := (Keep.refl _).alloc _
  have hseg : Seg (w.alloc (.cells #[.int .i64 x] 3)) (some ⟨w.heap.size, 0, none⟩) (([x] : List Int).flatMap intC) := Seg.of_blk (Blk.new w 3 [.int .i64 x])
  obtain ⟨v', w2, hrun, hown, hg, _⟩ := append_run (ys := [x]) elI (h.keep hka) hseg 1 33 (by simp [maxLen]; omega) (by simp; omega) (Nat.le_trans hb hka.size)
  obtain ⟨A', c', rfl, _⟩ := hown.form
  have e : (xs ++ [x]).length = xs.length + 1 := by simp
  rw [e] at hrun hown
  subst hform
  exact ⟨A, c, rfl, A', c', w2, hrun, hown, (hka.ext _).grown hg (fun k hk _ => hk)⟩

def nextL (n : Nat) (l : List EdD) : List Int := (l.map (·.to)).filter fun t => decide (0 ≤ t ∧ t < (n : Int))
theorem nextL_snoc (n : Nat) {l : List EdD} {k : Nat} {e : EdD} (h : l[k]? = some e) : nextL n (l.take (k + 1)) = if 0 ≤ e.to ∧ e.to < (n : Int) then nextL n (l.take k) ++ [e.to] else nextL n (l.take k) := by
  unfold nextL
  rw [List.take_add_one, h, List.map_append, List.filter_append]
  by_cases g : 0 ≤ e.to ∧ e.to < (n : Int)
  · rw [if_pos g]; simp [g]
  · rw [if_neg g]
    have : ([e].map (·.to)).filter (fun t => decide (0 ≤ t ∧ t < (n : Int))) = [] := by
      rw [List.filter_eq_nil_iff]; intro t ht; simp at ht; subst ht; simpa using g
    show _ ++ List.filter _ ([e].map (·.to)) = _
    rw [this, List.append_nil]
theorem nextL_len (n : Nat) (l : List EdD) : (nextL n l).length ≤ l.length := by
  unfold nextL
  exact Nat.le_trans (List.length_filter_le _ _) (by simp)

set_option maxHeartbeats 2000000 in
theorem next_calls (x : SsD) (b : Nat) (y : BkD) (w : World) (h : SsOk w x) (hy : x.blocks.l[b]? = some y) (hto : y.to.l.length < 17592186044416) :
    Calls Try.prog 21 #[.agg (ssC x).toArray, .int .i64 (b : Int)] w fun e w' => ∃ v, e = .returned v ∧ Own intC 1 3 w' w.heap.size v (y.nextI x.blocks.l.length) ∧ Keep w w' := by
  obtain ⟨xp, xr, xv, ⟨ba, bl, bc⟩⟩ := x
  obtain ⟨yp, yi, yk, yc, ya, ⟨ta, tl, tc⟩, yt⟩ := y
  replace hto : tl.length < 17592186044416 := hto
  replace hy : bl[b]? = some ⟨yp, yi, yk, yc, ya, ⟨ta, tl, tc⟩, yt⟩ := hy
  obtain ⟨wa, hwa⟩ : ∃ wa : World, wa = w.alloc (.cells #[xp.v, xr.v, xv.v, .slice ba bl.length bc] 47) := ⟨_, rfl⟩
  have hka : Keep w wa := by rw [hwa]; exact (Keep.refl _).alloc _
  have bx : Blk wa w.heap.size 47 [xp.v, xr.v, xv.v, .slice ba bl.length bc] := by rw [hwa]; exact Blk.new w _ _
  have c2 : wa.cell? ⟨w.heap.size, 3, none⟩ = some (.slice ba bl.length bc) := bx.cell 3
  have lt := bx.lt
  obtain ⟨B, off, hA, hB, hcB⟩ := bk_get h.seg (Keep.refl w) hy
  replace hA : ba = some ⟨B, off, none⟩ := hA
  subst hA
  have hbl := (List.getElem?_eq_some_iff.1 hy).1
  have hBl := Nat.lt_of_lt_of_le hB hka.size
  have hbi : (b : Int) < (bl.length : Int) := by omega
  have hb0 : (0 : Int) ≤ (b : Int) := by omega
  have t5 : w.cell? ⟨B, off + b * 7 + 2 + 3, none⟩ = some (.slice ta tl.length tc) := hcB 5 _ rfl
  have Hok := Lib.hid (h.blocks _ (List.mem_of_getElem? hy))
  have Hka := Lib.hid hka
  have htl : tl.length ≤ maxLen := (h.blocks _ (List.mem_of_getElem? hy)).toLen
  unfold maxLen at htl
  obtain ⟨n, hn⟩ : ∃ n, bl.length = n := ⟨_, rfl⟩
  have HN := Lib.hid (show BkD.nextI ⟨yp, yi, yk, yc, ya, ⟨ta, tl, tc⟩, yt⟩ bl.length = nextL n tl by unfold BkD.nextI nextL; rw [hn])
  show Calls Try.prog 21 #[.agg #[xp.v, xr.v, xv.v, .slice (some ⟨B, off, none⟩) bl.length bc], .int .i64 (b : Int)] w fun e w' => ∃ v, e = .returned v ∧ Own intC 1 3 w' w.heap.size v (BkD.nextI ⟨yp, yi, yk, yc, ya, ⟨ta, tl, tc⟩, yt⟩ bl.length) ∧ Keep w w'
  rw [HN.out]
  rw [hn] at c2 hbi hwa ⊢
  clear h hy bx hcB hka hn hbl
  unfold RwD.v at *
  go_enter Try.func21, Try.ntmps21
  go_wp2_with fail
  rw [← hwa]
  clear hwa
  go_loopw [5, 16] (fun vo vi wr => ∃ k : Nat, k ≤ tl.length ∧ vi = .int .i64 k ∧ Hid (Own intC 1 3 wr wa.heap.size vo (nextL n (tl.take k))) ∧ Hid (Keep wa wr)) (fun _ i _ => tl.length - (intOf i).toNat)
  case atStart => exact ⟨0, Nat.zero_le _, rfl, Lib.hid (Own.nil _ _ _ _ _), Lib.hid (Keep.refl _)⟩
  case round =>
    obtain ⟨k, hk, rfl, hown, hkeep⟩ := hrel
    have c2r := hkeep.out.cell c2
    have ltr := Nat.lt_of_lt_of_le lt hkeep.out.size
    by_cases hin : k < tl.length
    · obtain ⟨e, he⟩ := get_some hin
      obtain ⟨bE, offE, hE, hbE, e0, e1⟩ := ed_get Hok.out.toSeg (Hka.out.trans hkeep.out) he
      replace hE : ta = some ⟨bE, offE, none⟩ := hE
      subst hE
      have hbEl := Nat.lt_of_lt_of_le hbE (Hka.out.trans hkeep.out).size
      have hkk : (k : Int) < (tl.length : Int) := by omega
      have hk0 : (0 : Int) ≤ (k : Int) := by omega
      obtain ⟨et, ⟨ea, el, ec⟩⟩ := e
      replace e0 : wr.cell? ⟨bE, offE + k * 2, none⟩ = some (.int .i64 et) := e0
      replace e1 : wr.cell? ⟨bE, offE + k * 2 + 1, none⟩ = some (.slice ea el.length ec) := e1
      have hsn := nextL_snoc n he
      obtain ⟨wb, hwb, kb, bb⟩ := box2 wr 92 (.int .i64 et) (.slice ea el.length ec)
      have hzb : wb.heap.size = wr.heap.size + 1 := by rw [hwb]; simp
      have y0 : wb.cell? ⟨wr.heap.size, 0, none⟩ = some (.int .i64 et) := bb.cell 0
      have yl := bb.lt
      have z2 := kb.cell c2r
      have zl := Nat.lt_of_lt_of_le ltr kb.size
      have hlen : (nextL n (tl.take k)).length ≤ k := by have := nextL_len n (tl.take k); rw [List.length_take] at this; omega
      by_cases g1 : 0 ≤ et
      · by_cases g2 : et < (n : Int)
        · rw [if_pos ⟨g1, g2⟩] at hsn
          obtain ⟨Ao, co, rfl, A', c', w7, hrun, hown7, hE7⟩ := intPush (hown.out.keep kb) et (by omega) (Nat.le_trans hkeep.out.size kb.size)
          have hown0 := hown.out
          obtain ⟨m, hm⟩ : ∃ m, (nextL n (tl.take k)).length = m := ⟨_, rfl⟩
          rw [hm] at hrun hown7 hE7 hown0 ⊢
          have Hn := Lib.hid (show Own intC 1 3 w7 wa.heap.size (.slice A' (m + 1) c') (nextL n (tl.take (k + 1))) ∧ Keep wa w7 from ⟨by rw [hsn]; exact hown7, Keep.of_ext (hkeep.out.trans kb) hE7 (fun j hj e => by have := (hown0.lt j e).1; omega)⟩)
          rw [hzb] at hrun
          rw [hwb] at hrun y0 yl z2 zl
          clear hown hkeep hown7 hE7 hown0 hsn he bb kb hlen hm hzb
          go_wp2_with (at_builtin; refine wpList_append_eq rfl _ _ _ rfl _ _ rfl rfl _ _ hrun ?_; clear hrun)
          go_roundw
          case rel => exact ⟨k + 1, hin, by go_num, Lib.hid Hn.out.1, Lib.hid Hn.out.2⟩
          case measure => simp [intOf]; omega
        · rw [if_neg (fun h => g2 h.2)] at hsn
          have g2d : decide (et < (n : Int)) = false := decide_eq_false g2
          have Hn := Lib.hid (show Own intC 1 3 wb wa.heap.size u5 (nextL n (tl.take (k + 1))) ∧ Keep wa wb from ⟨by rw [hsn]; exact hown.out.keep kb, hkeep.out.trans kb⟩)
          rw [hwb] at y0 yl z2 zl
          clear hown hkeep hsn he bb kb hlen hzb
          go_wp2
          rw [← hwb]
          go_roundw
          case rel => exact ⟨k + 1, hin, by go_num, Lib.hid Hn.out.1, Lib.hid Hn.out.2⟩
          case measure => simp [intOf]; omega
      · rw [if_neg (fun h => g1 h.1)] at hsn
        have g1d : decide (0 ≤ et) = false := decide_eq_false g1
        have Hn := Lib.hid (show Own intC 1 3 wb wa.heap.size u5 (nextL n (tl.take (k + 1))) ∧ Keep wa wb from ⟨by rw [hsn]; exact hown.out.keep kb, hkeep.out.trans kb⟩)
        rw [hwb] at y0 yl z2 zl
        clear hown hkeep hsn he bb kb hlen hzb
        go_wp2
        rw [← hwb]
        go_roundw
        case rel => exact ⟨k + 1, hin, by go_num, Lib.hid Hn.out.1, Lib.hid Hn.out.2⟩
        case measure => simp [intOf]; omega
    · have hown2 := hown.out
      rw [List.take_of_length_le (by omega)] at hown2
      have Hr := Lib.hid (show Own intC 1 3 wr w.heap.size u5 (nextL n tl) ∧ Keep w wr from ⟨hown2.mono Hka.out.size, Hka.out.trans hkeep.out⟩)
      clear hown hown2 hkeep
      go_wp2
      go_ret
      exact ⟨_, rfl, Hr.out.1, Hr.out.2⟩
end Go.Proofs.Ytjpmiejgcnfiiaa
