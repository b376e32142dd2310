/-
  The reference: Shut.
-/
import Derived.Test.YtkeefajfndmpeaaRefWant
namespace Go.Proofs.Ytkeefajfndmpeaa
open Go Go.RowKit

theorem three_boxes (w : World) (cs : List Value) (w1 : World) (cs' : List Value) (hk : Keep ((w.alloc (.cells cs.toArray 31)).alloc (.cells rzero.toArray 31)) w1) :
    Keep w (w1.alloc (.cells cs'.toArray 31)) ∧ Blk (w1.alloc (.cells cs'.toArray 31)) w.heap.size 31 cs ∧ Blk (w1.alloc (.cells cs'.toArray 31)) (w.heap.size + 1) 31 rzero ∧
      Blk (w1.alloc (.cells cs'.toArray 31)) w1.heap.size 31 cs' ∧ w.heap.size + 1 < w1.heap.size := by
  obtain ⟨hka, ba, bb, hz⟩ := two_boxes w cs (wa := (w.alloc (.cells cs.toArray 31)).alloc (.cells rzero.toArray 31)) rfl
  exact ⟨(hka.trans hk).alloc _, (ba.keep hk).keep ((Keep.refl _).alloc _), (bb.keep hk).keep ((Keep.refl _).alloc _), Blk.new _ _ _, Nat.lt_of_lt_of_le hz hk.size⟩

theorem RefIs.atG {G : Nat → Prop} {w : World} {A1 A2 A3 : Option Addr} {c1 c2 c3 most : Nat} {s : Stk} (h : RefIs w A1 A2 A3 c1 c2 c3 most s) (g1 : InG G A1 s.T.length) (g2 : InG G A2 s.P.length) (g3 : InG G A3 s.P.length) : RefAt G w (refV A1 A2 A3 c1 c2 c3 most s) s :=
  ⟨A1, A2, A3, c1, c2, c3, most, rfl, h.1, h.2.1, h.2.2.1, h.2.2.2.1, h.2.2.2.2.1, h.2.2.2.2.2.1, h.2.2.2.2.2.2.1, h.2.2.2.2.2.2.2, g1, g2, g3⟩

theorem seg_last (W0 : World) (n : Nat) (h : W0.heap.size = n) (t : TypeId) (u : Value) : Seg (W0.alloc (.cells #[u] t)) (some ⟨n, 0, none⟩) [u] := by
  subst h
  exact Seg.of_blk (Blk.new W0 t [u])

theorem refShut_calls {G : Nat → Prop} {w : World} {A1 A2 A3 : Option Addr} {c1 c2 c3 most : Nat} {s : Stk} (h : RefIs w A1 A2 A3 c1 c2 c3 most s) (g1 : InG G A1 s.T.length) (g2 : InG G A2 s.P.length) (g3 : InG G A3 s.P.length) (hok : s.Ok) (l : List Int) (A : Option Addr) (c : Nat) (hs : Seg w A (l.flatMap valC)) (hn : s.T.length ≤ 1000000) (hm : s.P.length ≤ 1000000) (hl : l.length ≤ 1000000) :
    Calls Try.prog 52 #[.agg #[.slice A1 s.T.length c1, .slice A2 s.P.length c2, .slice A3 s.P.length c3, .int .i64 (most : Int)], .slice A l.length c] w fun e w' =>
      ∃ v', e = .returned (.tuple #[v', .int .i64 (s.shut l).2]) ∧ RefAt (Grow G w) w' v' (s.shut l).1 ∧ Keep w w' := by
  obtain ⟨wa, hwa⟩ : ∃ wa : World, wa = (w.alloc (.cells (rcells A1 A2 A3 s.T.length s.P.length c1 c2 c3 most).toArray 31)).alloc (.cells rzero.toArray 31) := ⟨_, rfl⟩
  obtain ⟨hka, ba, bb, hz⟩ := two_boxes w _ hwa
  have hwantc := refWant_calls (h.keep hka) hok l A c (hs.keep hka) hn hm hl
  rcases Stk.left_cases s l hok with ⟨n, h1, h2, h3, _⟩ | ⟨e, h1, h2, _⟩
  rotate_left
  · have hw : s.want l = (s, e) := by unfold Stk.want; rw [h1, if_neg (by rcases h2 with rfl | rfl <;> decide)]
    have hsh : s.shut l = (s, e) := by unfold Stk.shut; rw [h1, if_neg (by rcases h2 with rfl | rfl <;> decide)]
    rw [hw] at hwantc
    rw [hsh]
    have he : (e != 0) = true := by rcases h2 with rfl | rfl <;> rfl
    have Hw := Lib.hid hwantc
    clear hwantc hw hsh h1 h2
    go_enter Try.func52, Try.ntmps52
    go_wp2_with fail
    show Calls Try.prog _ _ ((w.alloc (.cells (rcells A1 A2 A3 s.T.length s.P.length c1 c2 c3 most).toArray 31)).alloc (.cells rzero.toArray 31)) _
    rw [← hwa]
    clear hwa
    refine Hw.out.mono ?_
    rintro e' w1 ⟨rfl, hk1⟩
    have ba1 := ba.keep hk1
    have bb1 := bb.keep hk1
    have x0 : w1.cell? ⟨w.heap.size, 0, none⟩ = some (.slice A1 s.T.length c1) := ba1.cell 0
    have x1 : w1.cell? ⟨w.heap.size, 1, none⟩ = some (.slice A2 s.P.length c2) := ba1.cell 1
    have x2 : w1.cell? ⟨w.heap.size, 2, none⟩ = some (.slice A3 s.P.length c3) := ba1.cell 2
    have x3 : w1.cell? ⟨w.heap.size, 3, none⟩ = some (.int .i64 (most : Int)) := ba1.cell 3
    have y0 : w1.cell? ⟨w.heap.size + 1, 0, none⟩ = some (.slice none 0 0) := bb1.cell 0
    have y1 : w1.cell? ⟨w.heap.size + 1, 1, none⟩ = some (.slice none 0 0) := bb1.cell 1
    have y2 : w1.cell? ⟨w.heap.size + 1, 2, none⟩ = some (.slice none 0 0) := bb1.cell 2
    have y3 : w1.cell? ⟨w.heap.size + 1, 3, none⟩ = some (.int .i64 0) := bb1.cell 3
    have fy := bb1.frozen
    have lx := ba1.lt
    have ly := bb1.lt
    have hny : w.heap.size + 1 ≠ w1.heap.size := Nat.ne_of_lt ly
    have hny' : ¬ w1.heap.size = w.heap.size + 1 := fun e => hny e.symm
    clear ba bb ba1 bb1
    go_wp2
    have hkf := (((((hka.trans hk1).set1 0 (.slice A1 s.T.length c1)).set1 1 (.slice A2 s.P.length c2)).set1 2 (.slice A3 s.P.length c3)).set1 3 (.int .i64 (most : Int))).alloc (.cells (rcells A1 A2 A3 s.T.length s.P.length c1 c2 c3 most).toArray 31)
    refine bodyPost_ret (v := .tuple #[.agg #[.slice A1 s.T.length c1, .slice A2 s.P.length c2, .slice A3 s.P.length c3, .int .i64 (most : Int)], .int .i64 e]) (by simp [results, Try.results52, go_sem, y0, y1, y2, y3, ly, hny, hny']) rfl ⟨_, rfl, (h.keep hkf).atG (g1.grow w) (g2.grow w) (g3.grow w), hkf⟩
  · have hw : s.want l = (s.cut n, 0) := by unfold Stk.want; rw [h1]; rfl
    have hcl : (s.cut n).T.length = n := by simp [Stk.cut]; omega
    rw [hw] at hwantc
    simp only [hcl] at hwantc
    have Hw := Lib.hid hwantc
    clear hwantc
    have hfirst := hok.first
    go_enter Try.func52, Try.ntmps52
    go_wp2_with fail
    show Calls Try.prog _ _ ((w.alloc (.cells (rcells A1 A2 A3 s.T.length s.P.length c1 c2 c3 most).toArray 31)).alloc (.cells rzero.toArray 31)) _
    rw [← hwa]
    refine Hw.out.mono ?_
    rintro e' w1 ⟨rfl, hk1⟩
    obtain ⟨hk2, b0, b1, bx, hlt1⟩ := three_boxes w (rcells A1 A2 A3 s.T.length s.P.length c1 c2 c3 most) w1 (rcells A1 A2 A3 n s.P.length c1 c2 c3 most) (by rw [← hwa]; exact hk1)
    clear hwa Hw ba bb
    go_wp2_with fail
    obtain ⟨w2, hw2⟩ : ∃ w2 : World, w2 = w1.alloc (.cells (rcells A1 A2 A3 n s.P.length c1 c2 c3 most).toArray 31) := ⟨_, rfl⟩
    show Code.wp _ _ _ _ (w1.alloc (.cells (rcells A1 A2 A3 n s.P.length c1 c2 c3 most).toArray 31))
    rw [← hw2] at hk2 b0 b1 bx ⊢
    clear hw2
    have hcm : RefAt (fun _ => True) w2 (.agg #[.slice A1 n c1, .slice A2 s.P.length c2, .slice A3 s.P.length c3, .int .i64 (most : Int)]) (s.cut n) := by
      have := ((h.cut n).keep hk2).at_
      unfold refV at this
      rw [hcl] at this
      exact this
    have Hmark := Lib.hid (fun (wx : World) (hx : Keep w2 wx) => refMark_calls (hcm.keep hx) hm)
    have k0 := fun x : KW w2 => x.cell (v := .slice A1 n c1) (bx.cell 0)
    have k1 := fun x : KW w2 => x.cell (v := .slice A2 s.P.length c2) (bx.cell 1)
    have k2 := fun x : KW w2 => x.cell (v := .slice A3 s.P.length c3) (bx.cell 2)
    have k3 := fun x : KW w2 => x.cell (v := .int .i64 (most : Int)) (bx.cell 3)
    have hkd : Keep w2 w2.drew := (Keep.refl _).drew
    refine region_begin (S := fun w' => ∃ x : KW w2, w' = x.val) (by kernel_rfl) ?_
    refine region_take [0, 1, 2, 3] [] 2 (by kernel_rfl) (by kernel_rfl) (InK.mk' hkd) ?_
    show wpQuiet _ _ _ _ (_ :: _ :: _ :: _ :: []) _
    repeat (go_big_quiet_step (fail))
    refine wpQuiet_nil ?_
    refine region_fix (i := 4) (fuel := 1) rfl (by kernel_rfl) (fun K hK => ?_)
    go_simp
    refine (Hmark.out _ hkd).mono ?_
    rintro e' w3 ⟨rfl, hk3⟩
    have hk23 := hkd.trans hk3
    refine hK _ _ (InK.mk' hk23) ?_
    clear hK K
    refine region_take [5] _ 0 (by kernel_rfl) (by kernel_rfl) (InK.mk' hk23) ?_
    show wpQuiet _ _ _ _ (_ :: []) _
    repeat (go_big_quiet_step (fail))
    refine wpQuiet_nil ?_
    refine region_done (by kernel_rfl) ?_
    have b03 := b0.keep hk23
    have b13 := b1.keep hk23
    have bx3 := bx.keep hk23
    have x0 : w3.cell? ⟨w.heap.size, 0, none⟩ = some (.slice A1 s.T.length c1) := b03.cell 0
    have x1 : w3.cell? ⟨w.heap.size, 1, none⟩ = some (.slice A2 s.P.length c2) := b03.cell 1
    have x2 : w3.cell? ⟨w.heap.size, 2, none⟩ = some (.slice A3 s.P.length c3) := b03.cell 2
    have x3 : w3.cell? ⟨w.heap.size, 3, none⟩ = some (.int .i64 (most : Int)) := b03.cell 3
    have y0 : w3.cell? ⟨w.heap.size + 1, 0, none⟩ = some (.slice none 0 0) := b13.cell 0
    have y1 : w3.cell? ⟨w.heap.size + 1, 1, none⟩ = some (.slice none 0 0) := b13.cell 1
    have y2 : w3.cell? ⟨w.heap.size + 1, 2, none⟩ = some (.slice none 0 0) := b13.cell 2
    have y3 : w3.cell? ⟨w.heap.size + 1, 3, none⟩ = some (.int .i64 0) := b13.cell 3
    have z0 : w3.cell? ⟨w1.heap.size, 0, none⟩ = some (.slice A1 n c1) := bx3.cell 0
    have z1 : w3.cell? ⟨w1.heap.size, 1, none⟩ = some (.slice A2 s.P.length c2) := bx3.cell 1
    have z2 : w3.cell? ⟨w1.heap.size, 2, none⟩ = some (.slice A3 s.P.length c3) := bx3.cell 2
    have z3 : w3.cell? ⟨w1.heap.size, 3, none⟩ = some (.int .i64 (most : Int)) := bx3.cell 3
    have fy := b13.frozen
    have fz := bx3.frozen
    have lx := b03.lt
    have ly := b13.lt
    have lz := bx3.lt
    have hkw3 : Keep w w3 := hk2.trans hk23
    have hnx : w1.heap.size ≠ w.heap.size + 1 := by omega
    have hnx' : w.heap.size + 1 ≠ w1.heap.size := by omega
    clear k0 k1 k2 k3 Hmark b0 b1 bx b03 b13 bx3 hcm
    by_cases hgt : s.at_ < n
    · have hsh : s.shut l = (s, 14) := by unfold Stk.shut; rw [h1]; simp [hgt]
      have Hsh := Lib.hid hsh
      have hgi : (s.at_ : Int) < (n : Int) := by omega
      have hgi' : ((s.cut n).at_ : Int) < (n : Int) := hgi
      clear hsh h1 hw
      go_wp2
      have hkf := ((((hkw3.set1 0 (.slice A1 s.T.length c1)).set1 1 (.slice A2 s.P.length c2)).set1 2 (.slice A3 s.P.length c3)).set1 3 (.int .i64 (most : Int)))
      refine bodyPost_ret (v := .tuple #[.agg #[.slice A1 s.T.length c1, .slice A2 s.P.length c2, .slice A3 s.P.length c3, .int .i64 (most : Int)], .int .i64 14]) (by simp [results, Try.results52, go_sem, y0, y1, y2, y3]) rfl ⟨_, by rw [Hsh.out], by rw [Hsh.out]; exact (h.keep hkf).atG (g1.grow w) (g2.grow w) (g3.grow w), hkf⟩
    · have hna : n = s.at_ := by omega
      have hsh : s.shut l = ((s.cut n).outer, 0) := by unfold Stk.shut; rw [h1]; simp [hgt]
      have Hsh := Lib.hid hsh
      have hgi : ¬ (s.at_ : Int) < (n : Int) := by omega
      have hgi' : ¬ ((s.cut n).at_ : Int) < (n : Int) := hgi
      obtain ⟨s1, s2, s3, ho, hc1, hc2, hc3, hmost⟩ := h
      have hTc : Seg w A1 (((s.cut n).T).flatMap valC) := by
        show Seg w A1 ((s.T.take n).flatMap valC)
        rw [← flat_take valC 1 (fun _ => rfl)]
        exact s1.take _
      have hpl := s.P_len
      obtain ⟨m, hmm⟩ : ∃ m, m = s.B.length := ⟨_, rfl⟩
      have hpi : (s.P.length : Int) - 1 = (m : Int) := by omega
      have hwr : IntKind.i64.wrap ((s.P.length : Int) - 1) = (m : Int) := by rw [hpi]; exact IntWalk.i64_in _ (by omega)
      have hm0 : (0 : Int) ≤ (m : Int) := by omega
      have hm2 : (m : Int) ≤ (c2 : Int) := by omega
      have hm3 : (m : Int) ≤ (c3 : Int) := by omega
      rcases List.eq_nil_or_concat s.B with hB | ⟨r, p, hB0⟩
      · have hmz : m = 0 := by rw [hmm, hB]; rfl
        have hat : s.at_ = 0 := by
          have := hfirst
          unfold Stk.P at this
          rw [hB] at this
          simpa using this
        have hPl : s.P.length = 1 := by rw [hpl, hB]; rfl
        have hPe : s.P = [(0, s.loose)] := by unfold Stk.P; rw [hB, hat]; rfl
        have hoe : (s.cut n).outer = { s.cut n with at_ := 0, loose := false } := Stk.outer_none hB
        have hPo : (s.cut n).outer.P = [((0, false) : Part)] := by rw [hoe]; simp [Stk.P, Stk.cut, hB]
        have hfin : ∀ W : World, Keep w W → Seg W (some ⟨w3.heap.size, 0, none⟩) [Value.bool false] → RefAt (Grow G w) W (.agg #[.slice A1 n c1, .slice A2 s.P.length c2, .slice (some ⟨w3.heap.size, 0, none⟩) 1 1, .int .i64 (most : Int)]) (s.cut n).outer := fun W hkW hsg => by
          refine ⟨A1, A2, some ⟨w3.heap.size, 0, none⟩, c1, c2, 1, most, ?_, ?_, ?_, ?_, ?_, ?_, ?_, ?_, hmost, ?_, ?_, ?_⟩
          · have e1 : (s.cut n).outer.T.length = n := by rw [hoe]; exact hcl
            rw [hPo, hPl, e1]; rfl
          · rw [hoe]; exact hTc.keep hkW
          · rw [hPo]; rw [hPe] at s2; exact s2.keep hkW
          · rw [hPo]; exact hsg
          · rw [hoe]; exact ho
          · rw [hoe]; show (s.cut n).T.length ≤ c1; rw [hcl]; omega
          · rw [hPo]; show 1 ≤ c2; omega
          · rw [hPo]; exact Nat.le_refl _
          · rw [hoe]; show InG _ A1 (s.cut n).T.length; rw [hcl]; exact (g1.less h3).grow w
          · rw [hPo]; exact (g2.less (by rw [hPl]; exact Nat.le_refl _)).grow w
          · exact fun _ ad ha => by cases ha; exact .inr hkw3.size
        have Hfin := Lib.hid hfin
        have hm00 : ((m : Int) == 0) = true := by rw [hmz]; rfl
        clear hfin hsh h1 hw hB hmz hat hPl hPe hoe hPo hpi hmm hpl hTc hcl hna ho hfirst
        go_wp2
        have hkf := (((((hkw3.setCell (p := ⟨w1.heap.size, 2, none⟩) (by show w.heap.size ≤ w1.heap.size; omega) (.slice (some ⟨w3.heap.size, 0, none⟩) 1 1)).set1 0 (.slice A1 n c1)).set1 1 (.slice A2 s.P.length c2)).set1 2 (.slice (some ⟨w3.heap.size, 0, none⟩) 1 1)).set1 3 (.int .i64 (most : Int))).alloc (.cells #[.bool false] 4)
        have hny : w.heap.size + 1 ≠ w3.heap.size := Nat.ne_of_lt ly
        have hny' : ¬ w3.heap.size = w.heap.size + 1 := fun e => hny e.symm
        refine bodyPost_ret (v := .tuple #[.agg #[.slice A1 n c1, .slice A2 s.P.length c2, .slice (some ⟨w3.heap.size, 0, none⟩) 1 1, .int .i64 (most : Int)], .int .i64 0]) (by simp [results, Try.results52, go_sem, y0, y1, y2, y3, ly, hny, hny', hnx, hnx']) rfl ⟨_, by rw [Hsh.out], by rw [Hsh.out]; exact Hfin.out _ hkf (seg_last _ _ (by simp [World.setCell]) _ _), hkf⟩
      · have hB : s.B = r ++ [p] := by simpa using hB0
        clear hB0
        have hm1 : ((m : Int) == 0) = false := by
          have : 0 < m := by rw [hmm, hB]; simp
          simp; omega
        have hPe : (s.cut n).outer.P = s.P.take m := by
          rw [Stk.outer_P (s := s.cut n) hB]
          show s.B = (s.B ++ [(s.at_, s.loose)]).take m
          rw [List.take_left' hmm.symm]
        have hPm : (s.cut n).outer.P.length = m := by rw [hPe]; simp; omega
        have hoe : (s.cut n).outer = { s.cut n with B := r, at_ := p.1, loose := p.2 } := Stk.outer_some hB
        have hfin : ∀ W : World, Keep w W → RefAt (Grow G w) W (.agg #[.slice A1 n c1, .slice A2 m c2, .slice A3 m c3, .int .i64 (most : Int)]) (s.cut n).outer := fun W hkW => by
          refine ⟨A1, A2, A3, c1, c2, c3, most, ?_, ?_, ?_, ?_, ?_, ?_, ?_, ?_, hmost, ?_, ?_, ?_⟩
          · have e1 : (s.cut n).outer.T.length = n := by rw [hoe]; exact hcl
            rw [hPm, e1]
          · rw [hoe]; exact hTc.keep hkW
          · rw [hPe, ← flat_take markC 1 (fun _ => rfl)]; exact (s2.keep hkW).take _
          · rw [hPe, ← flat_take looseC 1 (fun _ => rfl)]; exact (s3.keep hkW).take _
          · rw [hoe]; exact ho
          · rw [hoe]; show (s.cut n).T.length ≤ c1; rw [hcl]; omega
          · rw [hPm]; omega
          · rw [hPm]; omega
          · rw [hoe]; show InG _ A1 (s.cut n).T.length; rw [hcl]; exact (g1.less h3).grow w
          · rw [hPm]; exact (g2.less (by omega)).grow w
          · rw [hPm]; exact (g3.less (by omega)).grow w
        have Hfin := Lib.hid hfin
        clear hfin hsh h1 hw hB hPe hPm hoe hpi hmm hpl hTc hcl hna ho hfirst
        go_wp2
        have hkf := ((((((hkw3.setCell (p := ⟨w1.heap.size, 1, none⟩) (by show w.heap.size ≤ w1.heap.size; omega) (.slice A2 m c2)).setCell (p := ⟨w1.heap.size, 2, none⟩) (by show w.heap.size ≤ w1.heap.size; omega) (.slice A3 m c3)).set1 0 (.slice A1 n c1)).set1 1 (.slice A2 m c2)).set1 2 (.slice A3 m c3)).set1 3 (.int .i64 (most : Int)))
        refine bodyPost_ret (v := .tuple #[.agg #[.slice A1 n c1, .slice A2 m c2, .slice A3 m c3, .int .i64 (most : Int)], .int .i64 0]) (by simp [results, Try.results52, go_sem, y0, y1, y2, y3, hnx, hnx']) rfl ⟨_, by rw [Hsh.out], by rw [Hsh.out]; exact Hfin.out _ hkf, hkf⟩
end Go.Proofs.Ytkeefajfndmpeaa
