/-
  The reference: Open, Loose.
-/
import Derived.Test.YtkeefajfndmpeaaRefPop
import Derived.Test.YtkeefajfndmpeaaTail
namespace Go.Proofs.Ytkeefajfndmpeaa
open Go Go.RowKit

theorem refOpen_calls {G : Nat → Prop} {w : World} {v : Value} {s : Stk} (h : RefAt G w v s) (hn : s.T.length ≤ 1000000) (hm : s.P.length ≤ 1000000) :
    Calls Try.prog 51 #[v] w fun e w' => ∃ v', e = .returned v' ∧ RefAt (Grow G w) w' v' s.opened ∧ Keep w w' := by
  obtain ⟨A1, A2, A3, c1, c2, c3, most, rfl, s1, s2, s3, ho, hc1, hc2, hc3, hmost, g1, g2, g3⟩ := h
  obtain ⟨wa, hwa⟩ : ∃ wa : World, wa = (w.alloc (.cells (rcells A1 A2 A3 s.T.length s.P.length c1 c2 c3 most).toArray 31)).alloc (.cells rzero.toArray 31) := ⟨_, rfl⟩
  obtain ⟨hka, ba, bb, hz⟩ := two_boxes w _ hwa
  obtain ⟨v1, w1, ha1, ho1, hg1, _⟩ := append_run (ys := s.P) elM (Own.nil markC 1 3 wa wa.heap.size) (s2.keep hka) c2 28 (by simp [maxLen]; omega) (by simp; omega) (Nat.le_refl _)
  have hk1 : Keep wa w1 := (Keep.refl wa).grown hg1 (fun j hj => by cases hj)
  rw [List.nil_append] at ho1
  obtain ⟨B1, d1, rfl, _⟩ := ho1.form
  obtain ⟨v2, w2, ha2, ho2, hg2, _⟩ := append_run (ys := [((s.T.length, false) : Part)]) elM (ho1.alloc (.cells (([((s.T.length, false) : Part)]).flatMap markC).toArray 3)) (Seg.of_blk (Blk.new w1 3 (([((s.T.length, false) : Part)]).flatMap markC))) 1 28 (by simp [maxLen]; omega) (by simp; omega) (by have := hk1.size; simp; omega)
  have hk2 : Keep wa w2 := (hk1.alloc _).grown hg2 (fun j hj => (ho1.lt j hj).1)
  obtain ⟨B2, d2, rfl, hd2, _⟩ := ho2.form
  obtain ⟨v3, w3, ha3, ho3, hg3, _⟩ := append_run (ys := s.P) elL (Own.nil looseC 1 4 w2 wa.heap.size) (s3.keep (hka.trans hk2)) c3 29 (by simp [maxLen]; omega) (by simp; omega) hk2.size
  have hk23 : Keep w2 w3 := (Keep.refl w2).grown hg3 (fun j hj => by cases hj)
  have hk3 := hk2.trans hk23
  rw [List.nil_append] at ho3
  obtain ⟨B3, d3, rfl, _⟩ := ho3.form
  obtain ⟨v4, w4, ha4, ho4, hg4, _⟩ := append_run (ys := [((s.T.length, false) : Part)]) elL (ho3.alloc (.cells (([((s.T.length, false) : Part)]).flatMap looseC).toArray 4)) (Seg.of_blk (Blk.new w3 4 (([((s.T.length, false) : Part)]).flatMap looseC))) 1 29 (by simp [maxLen]; omega) (by simp; omega) (by have := hk3.size; simp; omega)
  have hk4 : Keep wa w4 := (hk3.alloc _).grown hg4 (fun j hj => (ho3.lt j hj).1)
  obtain ⟨B4, d4, rfl, hd4, _⟩ := ho4.form
  have ho2' : Own markC 1 3 w4 wa.heap.size (.slice B2 (s.P ++ [((s.T.length, false) : Part)]).length d2) (s.P ++ [((s.T.length, false) : Part)]) :=
    ((ho2.keep hk23).alloc (.cells (([((s.T.length, false) : Part)]).flatMap looseC).toArray 4)).grown hg4 (by
      cases hq : (Value.slice B2 (s.P ++ [((s.T.length, false) : Part)]).length d2).ownBlock with
      | none => exact .inl rfl
      | some k => exact .inr fun e => (ho3.type_ne (ho2.keep hk23) (by decide) e.symm) hq)
  have hll : (s.P ++ [((s.T.length, false) : Part)]).length = s.P.length + 1 := by simp
  have hfin : ∀ W : World, Only w.heap.size w4 W → RefAt (Grow G w) W (.agg #[.slice A1 s.T.length c1, .slice B2 (s.P.length + 1) d2, .slice B4 (s.P.length + 1) d4, .int .i64 (most : Int)]) s.opened ∧ Keep w W := fun W hW => by
    have hk := hW.keep (hka.trans hk4)
    refine ⟨⟨A1, B2, B4, c1, d2, d4, most, by rw [← hll]; rfl, s1.keep hk, (ho2'.only hW hz).seg, (ho4.only hW hz).seg, ho, hc1, hd2, hd4, hmost, g1.grow w, InG.own ho2' G hka.size _, InG.own ho4 G hka.size _⟩, hk⟩
  have Hfin := Lib.hid hfin
  have x0 : w1.cell? ⟨w.heap.size, 0, none⟩ = some (.slice A1 s.T.length c1) := (ba.keep hk1).cell 0
  have l1 := (ba.keep hk1).lt
  have z2 : w2.cell? ⟨w.heap.size, 2, none⟩ = some (.slice A3 s.P.length c3) := (ba.keep hk2).cell 2
  have l2 := (ba.keep hk2).lt
  have ba4 := ba.keep hk4
  have bb4 := bb.keep hk4
  have t0 : w4.cell? ⟨w.heap.size, 0, none⟩ = some (.slice A1 s.T.length c1) := ba4.cell 0
  have t1 : w4.cell? ⟨w.heap.size, 1, none⟩ = some (.slice A2 s.P.length c2) := ba4.cell 1
  have t2 : w4.cell? ⟨w.heap.size, 2, none⟩ = some (.slice A3 s.P.length c3) := ba4.cell 2
  have t3 : w4.cell? ⟨w.heap.size, 3, none⟩ = some (.int .i64 (most : Int)) := ba4.cell 3
  have y0 : w4.cell? ⟨w.heap.size + 1, 0, none⟩ = some (.slice none 0 0) := bb4.cell 0
  have y1 : w4.cell? ⟨w.heap.size + 1, 1, none⟩ = some (.slice none 0 0) := bb4.cell 1
  have y2 : w4.cell? ⟨w.heap.size + 1, 2, none⟩ = some (.slice none 0 0) := bb4.cell 2
  have y3 : w4.cell? ⟨w.heap.size + 1, 3, none⟩ = some (.int .i64 0) := bb4.cell 3
  have fx := ba4.frozen
  have fy := bb4.frozen
  have lx := ba4.lt
  have ly := bb4.lt
  rw [hll] at ha2 ha4
  have ha1' : (Builtin.append_ #[28, 28] 28 #[.slice none 0 0, .slice A2 s.P.length c2]).run Try.prog ((w.alloc (.cells #[.slice A1 s.T.length c1, .slice A2 s.P.length c2, .slice A3 s.P.length c3, .int .i64 (most : Int)] 31)).alloc (.cells #[.slice none 0 0, .slice none 0 0, .slice none 0 0, .int .i64 0] 31)) = .ok (.slice B1 s.P.length d1) w1 := by
    have e : wa = (w.alloc (.cells #[.slice A1 s.T.length c1, .slice A2 s.P.length c2, .slice A3 s.P.length c3, .int .i64 (most : Int)] 31)).alloc (.cells #[.slice none 0 0, .slice none 0 0, .slice none 0 0, .int .i64 0] 31) := hwa
    rw [← e]; exact ha1
  have ha2' : (Builtin.append_ #[28, 28] 28 #[.slice B1 s.P.length d1, .slice (some ⟨w1.heap.size, 0, none⟩) 1 1]).run Try.prog (w1.alloc (.cells #[.int .i64 (s.T.length : Int)] 3)) = .ok (.slice B2 (s.P.length + 1) d2) w2 := ha2
  have ha4' : (Builtin.append_ #[29, 29] 29 #[.slice B3 s.P.length d3, .slice (some ⟨w3.heap.size, 0, none⟩) 1 1]).run Try.prog (w3.alloc (.cells #[.bool false] 4)) = .ok (.slice B4 (s.P.length + 1) d4) w4 := ha4
  clear hfin ho1 ho2 ho3 ho4 ho2' hg1 hg2 hg3 hg4 ha1 ha2 ha4 hll ba bb ba4 bb4 hwa ho hz hd2 hd4
  go_enter Try.func51, Try.ntmps51
  go_wp2_with (at_builtin; first | (refine wpList_append_eq rfl _ _ _ rfl _ _ rfl rfl _ _ ha1' ?_; clear ha1') | (refine wpList_append_eq rfl _ _ _ rfl _ _ rfl rfl _ _ ha2' ?_; clear ha2') | (refine wpList_append_eq rfl _ _ _ rfl _ _ rfl rfl _ _ ha3 ?_; clear ha3) | (refine wpList_append_eq rfl _ _ _ rfl _ _ rfl rfl _ _ ha4' ?_; clear ha4'))
  refine bodyPost_ret (v := .agg #[.slice A1 s.T.length c1, .slice B2 (s.P.length + 1) d2, .slice B4 (s.P.length + 1) d4, .int .i64 (most : Int)]) (by simp [results, Try.results51, go_sem, t0, t1, t2, t3, y0, y1, y2, y3]) rfl ⟨_, rfl, Hfin.out _ ?_⟩
  exact ((((((Only.refl _ _).set0 _ _).set0 _ _).set1 _ _).set1 _ _).set1 _ _).set1 _ _

theorem loosen_P (s : Stk) : s.loosen.P = s.B ++ [((s.at_, true) : Part)] := rfl

theorem refLoose_calls {G : Nat → Prop} {w : World} {v : Value} {s : Stk} (h : RefAt G w v s) (hok : s.Ok) (hn : s.T.length ≤ 1000000) (hm : s.P.length ≤ 1000000) :
    Calls Try.prog 53 #[v] w fun e w' => ∃ v', e = .returned v' ∧ RefAt (Grow G w) w' v' s.loosen ∧ Keep w w' := by
  have hR := h
  obtain ⟨A1, A2, A3, c1, c2, c3, most, rfl, s1, s2, s3, ho, hc1, hc2, hc3, hmost, g1, g2, g3⟩ := h
  obtain ⟨wa, hwa⟩ : ∃ wa : World, wa = (w.alloc (.cells (rcells A1 A2 A3 s.T.length s.P.length c1 c2 c3 most).toArray 31)).alloc (.cells rzero.toArray 31) := ⟨_, rfl⟩
  obtain ⟨hka, ba, bb, hz⟩ := two_boxes w _ hwa
  have hle := hok.le
  have hm2 : (s.at_ : Int) ≤ (c1 : Int) := by omega
  have hpl := s.P_len
  have hpi : (s.P.length : Int) - 1 = (s.B.length : Int) := by omega
  have hp0 : (0 : Int) ≤ (s.B.length : Int) := by omega
  have hp1 : (s.B.length : Int) ≤ (c3 : Int) := by omega
  have hw : IntKind.i64.wrap ((s.P.length : Int) - 1) = (s.B.length : Int) := by rw [hpi]; exact IntWalk.i64_in _ (by omega)
  have hBm : s.B.length ≤ 1000000 := by omega
  have Hmark := Lib.hid (fun (w1 : World) (hk : Keep wa w1) => refMark_calls ((hR.keep hka).keep hk) hm)
  have hblk : ∀ x : KB wa w.heap.size, ∀ i, x.val.cell? ⟨w.heap.size, i, none⟩ = (rcells A1 A2 A3 s.T.length s.P.length c1 c2 c3 most)[i]? := fun x i => (World.cell?_of_block x.blk).trans (ba.cell i)
  have k0 := fun x : KB wa w.heap.size => (show x.val.cell? ⟨w.heap.size, 0, none⟩ = some (.slice A1 s.T.length c1) from hblk x 0)
  have k1 := fun x : KB wa w.heap.size => (show x.val.cell? ⟨w.heap.size, 1, none⟩ = some (.slice A2 s.P.length c2) from hblk x 1)
  have k2 := fun x : KB wa w.heap.size => (show x.val.cell? ⟨w.heap.size, 2, none⟩ = some (.slice A3 s.P.length c3) from hblk x 2)
  have k3 := fun x : KB wa w.heap.size => (show x.val.cell? ⟨w.heap.size, 3, none⟩ = some (.int .i64 (most : Int)) from hblk x 3)
  have k4 := fun x : KB wa w.heap.size => x.lt ba.lt
  clear hblk hpl hpi
  have hkd : Keep wa wa.drew := (Keep.refl _).drew
  go_enter Try.func53, Try.ntmps53
  go_wp2_with fail
  show Code.wp _ _ _ _ ((w.alloc (.cells (rcells A1 A2 A3 s.T.length s.P.length c1 c2 c3 most).toArray 31)).alloc (.cells rzero.toArray 31))
  rw [← hwa]
  clear hwa
  refine tail_begin (S := fun w' => ∃ x : KB wa w.heap.size, w' = x.val) [6] (by kernel_rfl) ?_
  refine tail_take [0, 1, 2] [] 4 (by kernel_rfl) (by kernel_rfl) (KB.mk' rfl) ?_
  show wpQuiet _ _ _ _ (_ :: _ :: _ :: []) _
  repeat (go_big_quiet_step (fail))
  refine wpQuiet_nil ?_
  refine tail_fix (i := 3) (fuel := 3) rfl (by kernel_rfl) (fun K hK => ?_)
  go_simp
  refine (Hmark.out _ hkd).mono ?_
  rintro e w1 ⟨rfl, hk1⟩
  have hk := hkd.trans hk1
  refine hK _ _ (fun _ => KB.mk' (hk.block _ ba.lt)) ?_
  clear hK K
  have ba1 := ba.keep hk
  have bb1 := bb.keep hk
  have x0 : w1.cell? ⟨w.heap.size, 0, none⟩ = some (.slice A1 s.T.length c1) := ba1.cell 0
  have x1 : w1.cell? ⟨w.heap.size, 1, none⟩ = some (.slice A2 s.P.length c2) := ba1.cell 1
  have x2 : w1.cell? ⟨w.heap.size, 2, none⟩ = some (.slice A3 s.P.length c3) := ba1.cell 2
  have x3 : w1.cell? ⟨w.heap.size, 3, none⟩ = some (.int .i64 (most : Int)) := ba1.cell 3
  have fx := ba1.frozen
  have lx := ba1.lt
  refine tail_take [4, 5] _ 1 (by kernel_rfl) (by kernel_rfl) (KB.mk' (hk.block _ ba.lt)) ?_
  show wpQuiet _ _ _ _ (_ :: _ :: []) _
  repeat (go_big_quiet_step (fail))
  refine wpQuiet_nil ?_
  refine tail_fix (i := 6) (fuel := 0) rfl (by kernel_rfl) (fun K hK => ?_)
  go_simp
  refine hK _ _ (fun h => absurd h (by decide)) ?_
  clear hK K
  refine tail_done (by kernel_rfl) ?_
  obtain ⟨w2, hw2⟩ : ∃ w2 : World, w2 = w1.setCell ⟨w.heap.size, 0, none⟩ (.slice A1 s.at_ c1) := ⟨_, rfl⟩
  have hkw2 : Keep w w2 := by rw [hw2]; exact (hka.trans hk).setCell (p := ⟨w.heap.size, 0, none⟩) (Nat.le_refl _) _
  have ba2 : Blk w2 w.heap.size 31 (rcells A1 A2 A3 s.at_ s.P.length c1 c2 c3 most) := by rw [hw2]; exact ba1.set_ 0 _
  have bb2 : Blk w2 (w.heap.size + 1) 31 rzero := by rw [hw2]; exact bb1.far (p := ⟨w.heap.size, 0, none⟩) (by show w.heap.size + 1 ≠ w.heap.size; omega) _
  have hsz2 : wa.heap.size ≤ w2.heap.size := by rw [hw2]; simpa [World.setCell] using hk.size
  rw [← hw2]
  clear hw2 k0 k1 k2 k3 k4 Hmark x0 x1 x2 x3 fx lx ba bb ba1 bb1
  have s3' : Seg w A3 (s.B.flatMap looseC) := by
    have := s3.take (s.B.length * 1)
    rw [flat_take looseC 1 (fun _ => rfl)] at this
    have e : s.P.take s.B.length = s.B := by unfold Stk.P; rw [List.take_left' rfl]
    rwa [e] at this
  obtain ⟨v3, w3, ha3, ho3, hg3, _⟩ := append_run (ys := s.B) elL (Own.nil looseC 1 4 w2 wa.heap.size) (s3'.keep hkw2) c3 29 (by simp [maxLen]; omega) (by simp; omega) hsz2
  have hk23 : Keep w2 w3 := (Keep.refl w2).grown hg3 (fun j hj => by cases hj)
  rw [List.nil_append] at ho3
  obtain ⟨B3, d3, rfl, _⟩ := ho3.form
  have hz3 : wa.heap.size ≤ w3.heap.size := Nat.le_trans hsz2 hk23.size
  obtain ⟨v4, w4, ha4, ho4, hg4, _⟩ := append_run (ys := [((s.at_, true) : Part)]) elL (ho3.alloc (.cells (([((s.at_, true) : Part)]).flatMap looseC).toArray 4)) (Seg.of_blk (Blk.new w3 4 (([((s.at_, true) : Part)]).flatMap looseC))) 1 29 (by simp [maxLen]; omega) (by simp; omega) (by simp; omega)
  have hnB : ∀ j, (Value.slice B3 s.B.length d3).ownBlock = some j → wa.heap.size ≤ j := fun j hj => (ho3.lt j hj).1
  have ba3 := ba2.keep hk23
  have bb3 := bb2.keep hk23
  have ba4 : Blk w4 w.heap.size 31 (rcells A1 A2 A3 s.at_ s.P.length c1 c2 c3 most) := (hg4.block _ (ba3.keep ((Keep.refl _).alloc _)).lt (fun e => by have := hnB _ e.symm; omega)).trans (ba3.keep ((Keep.refl _).alloc _))
  have bb4 : Blk w4 (w.heap.size + 1) 31 rzero := (hg4.block _ (bb3.keep ((Keep.refl _).alloc _)).lt (fun e => by have := hnB _ e.symm; omega)).trans (bb3.keep ((Keep.refl _).alloc _))
  have hk4 : Keep w w4 := ((hkw2.trans hk23).alloc _).grown hg4 (fun j hj => by have := hnB j hj; omega)
  obtain ⟨B4, d4, rfl, hd4, _⟩ := ho4.form
  have hll : (s.B ++ [((s.at_, true) : Part)]).length = s.P.length := by simp [Stk.P]
  have hTl : s.loosen.T.length = s.at_ := by simp [Stk.loosen, Stk.cut]; omega
  have hfin : ∀ W : World, Only w.heap.size w4 W → RefAt (Grow G w) W (.agg #[.slice A1 s.at_ c1, .slice A2 s.P.length c2, .slice B4 s.P.length d4, .int .i64 (most : Int)]) s.loosen ∧ Keep w W := fun W hW => by
    have hkW := hW.keep hk4
    refine ⟨⟨A1, A2, B4, c1, c2, d4, most, ?_, ?_, ?_, ?_, ho, by rw [hTl]; omega, by rw [loosen_P, hll]; exact hc2, by rw [loosen_P, hll, ← hll]; exact hd4, hmost, (g1.less (by rw [hTl]; exact hle)).grow w, by rw [loosen_P, hll]; exact g2.grow w, InG.own ho4 G hka.size _⟩, hkW⟩
    · rw [loosen_P, hll, hTl]
    · show Seg W _ ((s.T.take s.at_).flatMap valC)
      rw [← flat_take valC 1 (fun _ => rfl)]
      exact (s1.keep hkW).take _
    · have e : s.loosen.P.flatMap markC = s.P.flatMap markC := by rw [loosen_P]; unfold Stk.P; rw [List.flatMap_append, List.flatMap_append]; rfl
      rw [e]; exact s2.keep hkW
    · exact (ho4.only hW hz).seg
  have Hfin := Lib.hid hfin
  rw [hll] at ha4
  have ha4' : (Builtin.append_ #[29, 29] 29 #[.slice B3 s.B.length d3, .slice (some ⟨w3.heap.size, 0, none⟩) 1 1]).run Try.prog (w3.alloc (.cells #[.bool true] 4)) = .ok (.slice B4 s.P.length d4) w4 := ha4
  have z2 : w2.cell? ⟨w.heap.size, 2, none⟩ = some (.slice A3 s.P.length c3) := ba2.cell 2
  have lz := ba2.lt
  have t0 : w4.cell? ⟨w.heap.size, 0, none⟩ = some (.slice A1 s.at_ c1) := ba4.cell 0
  have t1 : w4.cell? ⟨w.heap.size, 1, none⟩ = some (.slice A2 s.P.length c2) := ba4.cell 1
  have t2 : w4.cell? ⟨w.heap.size, 2, none⟩ = some (.slice A3 s.P.length c3) := ba4.cell 2
  have t3 : w4.cell? ⟨w.heap.size, 3, none⟩ = some (.int .i64 (most : Int)) := ba4.cell 3
  have y0 : w4.cell? ⟨w.heap.size + 1, 0, none⟩ = some (.slice none 0 0) := bb4.cell 0
  have y1 : w4.cell? ⟨w.heap.size + 1, 1, none⟩ = some (.slice none 0 0) := bb4.cell 1
  have y2 : w4.cell? ⟨w.heap.size + 1, 2, none⟩ = some (.slice none 0 0) := bb4.cell 2
  have y3 : w4.cell? ⟨w.heap.size + 1, 3, none⟩ = some (.int .i64 0) := bb4.cell 3
  have fx := ba4.frozen
  have fy := bb4.frozen
  have lx := ba4.lt
  have ly := bb4.lt
  clear hfin ho3 ho4 hg3 hg4 ha4 hll hTl ba2 bb2 ba3 bb3 ba4 bb4 ho hz hd4 hR
  go_wp2_with (at_builtin; first | (refine wpList_append_eq rfl _ _ _ rfl _ _ rfl rfl _ _ ha3 ?_; clear ha3) | (refine wpList_append_eq rfl _ _ _ rfl _ _ rfl rfl _ _ ha4' ?_; clear ha4'))
  refine bodyPost_ret (v := .agg #[.slice A1 s.at_ c1, .slice A2 s.P.length c2, .slice B4 s.P.length d4, .int .i64 (most : Int)]) (by simp [results, Try.results53, go_sem, t0, t1, t2, t3, y0, y1, y2, y3]) rfl ⟨_, rfl, Hfin.out _ ?_⟩
  exact (((((Only.refl _ _).set0 _ _).set1 _ _).set1 _ _).set1 _ _).set1 _ _
end Go.Proofs.Ytkeefajfndmpeaa
