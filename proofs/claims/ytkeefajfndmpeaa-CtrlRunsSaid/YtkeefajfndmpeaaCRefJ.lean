/-
  The reference's State: Enter, the main case.
-/
import Derived.Test.YtkeefajfndmpeaaCRefK
namespace Go.Proofs.Ytkeefajfndmpeaa
open Go Go.RowKit

set_option maxHeartbeats 4000000 in
set_option maxRecDepth 100000 in
/-- Enter of a block or a loop. -/
theorem refEnter_plain {w0 : World} {G : Nat → Prop} {w : World} {v : Value} {c : RC} (h : RefC w0 G w v c) (hw0 : Keep w0 w) (hok : c.s.Ok) (op : Int) (p r : LD) (hp : LOk w0 p) (hr : LOk w0 r) (hb : c.broken = 0) (hop : op = 2 ∨ op = 3) (hz : c.fs ≠ [])
    (hn : c.fs.length ≤ 900000) (hT : c.s.T.length ≤ 800000) (hm : c.s.P.length ≤ 800000) (hpl : p.l.length ≤ 100000) :
    Calls Try.prog 64 #[v, .int .i64 op, .agg #[.slice p.a p.l.length p.c, .slice r.a r.l.length r.c]] w fun e w' => ∃ v', e = .returned (.tuple #[v', .int .i64 (c.enter op p r).2]) ∧ RefC w0 (Grow G w) w' v' (c.enter op p r).1 ∧ Keep w w' := by
  obtain ⟨A1, A2, A3, c1, c2, c3, most, Af, cf, rfl, hra, hfr⟩ := h
  have db : (c.broken != 0) = false := by simpa using hb
  have dz : ((c.fs.length : Int) == 0) = false := by have := List.length_pos_iff.2 hz; rw [beq_eq_false_iff_ne]; omega
  have d4 : (op == 4) = false := by rw [beq_eq_false_iff_ne]; omega
  obtain ⟨wa, hwa⟩ : ∃ wa : World, wa = ((w.alloc (.cells (rcells7 A1 A2 A3 c.s.T.length c.s.P.length c1 c2 c3 most Af c.fs.length cf c.res c.broken).toArray 74)).alloc (.cells (fnC (p, r)).toArray 56)).alloc (.cells rzero7.toArray 74) := ⟨_, rfl⟩
  obtain ⟨hka, ba, bfn, bb, hza⟩ := enter_boxes w _ p r hwa
  have hra' : RefAt (fun k => (G k ∧ k < w.heap.size) ∨ wa.heap.size ≤ k) wa (.agg (rcells A1 A2 A3 c.s.T.length c.s.P.length c1 c2 c3 most).toArray) c.s := (hra.mono (fun k hk hg => (.inl ⟨hg, hk⟩ : (G k ∧ k < w.heap.size) ∨ wa.heap.size ≤ k))).keep hka
  have hfr' : FrAt w0 (fun k => G k ∧ k < w.heap.size) w Af cf c.fs c.res := hfr.mono (fun k hk hg => ⟨hg, hk⟩)
  obtain ⟨his, g1, g2, g3⟩ := hra'.parts
  obtain ⟨s2, e2, hX⟩ : ∃ s2 e2, c.s.want p.l = (s2, e2) := ⟨_, _, rfl⟩
  have hP2 : s2.P.length = c.s.P.length := by have := (Stk.want_le c.s p.l).2; rw [hX] at this; exact congrArg List.length this
  have hT2 : s2.T.length ≤ 800000 := by have := (Stk.want_le c.s p.l).1; rw [hX] at this; simp only [] at this; omega
  have hcut := refAt_cut his g1 g2 g3 (s' := s2) (by have := Stk.want_cut c.s p.l; rw [hX] at this; exact this)
  have Hd := Lib.hid (show c.enter op p r = (if e2 ≠ 0 then ({ c with broken := e2 }, e2) else ({ c with s := s2.opened.push p.l, fs := c.fs ++ [⟨op, p, r, liveTop c.fs, liveTop c.fs⟩] }, 0)) by
    unfold RC.enter RC.enter2; rw [if_neg (by omega), if_neg (by omega), if_neg hz, if_neg (by omega), hX])
  obtain ⟨cd, hcd⟩ : ∃ cd, c.enter op p r = cd := ⟨_, rfl⟩
  rw [hcd] at Hd ⊢
  clear hcd
  have HWt := Lib.hid (refWant_calls his hok p.l p.a p.c (hp.seg.keep (hw0.trans hka)) (by omega) (by omega) (by omega))
  rw [hX] at HWt
  have Hfr := Lib.hid hfr'
  have Hra := Lib.hid hra'
  have Hcut := Lib.hid hcut
  have Hw0 := Lib.hid hw0
  have Hpr := Lib.hid (show LOk w0 p ∧ LOk w0 r from ⟨hp, hr⟩)
  have Hz := Lib.hid hz
  have Hka := Lib.hid hka
  have Hba := Lib.hid ba
  have Hbf := Lib.hid bfn
  have Hbb := Lib.hid bb
  have Hza := Lib.hid hza
  clear hka ba bfn bb hza
  clear hra hfr hfr' hra' his g1 g2 g3 hX hcut hw0 hp hr hz hb hok
  replace hwa : wa = ((w.alloc (.cells #[.slice A1 c.s.T.length c1, .slice A2 c.s.P.length c2, .slice A3 c.s.P.length c3, .int .i64 (most : Int), .slice Af c.fs.length cf, .slice c.res.a c.res.l.length c.res.c, .int .i64 c.broken] 74)).alloc (.cells #[.slice p.a p.l.length p.c, .slice r.a r.l.length r.c] 56)).alloc (.cells #[.slice none 0 0, .slice none 0 0, .slice none 0 0, .int .i64 0, .slice none 0 0, .slice none 0 0, .int .i64 0] 74) := hwa
  unfold rcells7 LD.v at *
  rcases hop with rfl | rfl
  · go_enter Try.func64, Try.ntmps64
    go_wp2_with fail
    rw [← hwa]
    refine HWt.out.mono ?_
    rintro e w2 ⟨rfl, hk2⟩
    have hka2 : Keep w w2 := Hka.out.trans hk2
    have ba2 := Hba.out.keep hk2
    have bfn2 := Hbf.out.keep hk2
    have bb2 := Hbb.out.keep hk2
    go_upto_region 13 with fail
    obtain ⟨w3, hw3⟩ : ∃ w3 : World, w3 = w2.alloc (.cells #[.slice A1 s2.T.length c1, .slice A2 c.s.P.length c2, .slice A3 c.s.P.length c3, .int .i64 (most : Int)] 31) := ⟨_, rfl⟩
    have hk23 : Keep w2 w3 := by rw [hw3]; exact (Keep.refl _).alloc _
    have bt3 : Blk w3 w2.heap.size 31 (rcells A1 A2 A3 s2.T.length c.s.P.length c1 c2 c3 most) := by rw [hw3]; exact Blk.new w2 _ (rcells A1 A2 A3 s2.T.length c.s.P.length c1 c2 c3 most)
    have ba3 := ba2.keep hk23
    have bfn3 := bfn2.keep hk23
    have bb3 := bb2.keep hk23
    have hk3 := hk2.trans hk23
    rw [← hw3]
    clear hw3 hk23 ba2 bfn2 bb2 hwa HWt hka2
    by_cases he : e2 = 0
    rotate_left
    · have de : (e2 != 0) = true := by simpa using he
      have Hcd := Lib.hid (show cd = ({ c with broken := e2 }, e2) by rw [Hd.out, if_pos he])
      have x0 : w3.cell? ⟨w.heap.size, 0, none⟩ = some (.slice A1 c.s.T.length c1) := ba3.cell 0
      have x1 : w3.cell? ⟨w.heap.size, 1, none⟩ = some (.slice A2 c.s.P.length c2) := ba3.cell 1
      have x2 : w3.cell? ⟨w.heap.size, 2, none⟩ = some (.slice A3 c.s.P.length c3) := ba3.cell 2
      have x3 : w3.cell? ⟨w.heap.size, 3, none⟩ = some (.int .i64 (most : Int)) := ba3.cell 3
      have x4 : w3.cell? ⟨w.heap.size, 4, none⟩ = some (.slice Af c.fs.length cf) := ba3.cell 4
      have x5 : w3.cell? ⟨w.heap.size, 5, none⟩ = some (.slice c.res.a c.res.l.length c.res.c) := ba3.cell 5
      have x6 : w3.cell? ⟨w.heap.size, 6, none⟩ = some (.int .i64 c.broken) := ba3.cell 6
      have lx := ba3.lt
      have Hk3 := Lib.hid hk3
      have Hb3 := Lib.hid bb3
      clear he hk3 hk2 ba3 bb3 bfn3 bt3 Hd Hba Hbf Hbb
      go_wp2_with fail
      refine (refBroken_calls A1 A2 A3 _ _ c1 c2 c3 most Af _ cf c.res _ e2).mono ?_
      rintro e w4 ⟨rfl, hk4⟩
      have bb4 := Hb3.out.keep hk4
      have y0 : w4.cell? ⟨w.heap.size + 1 + 1, 0, none⟩ = some (.slice none 0 0) := bb4.cell 0
      have y1 : w4.cell? ⟨w.heap.size + 1 + 1, 1, none⟩ = some (.slice none 0 0) := bb4.cell 1
      have y2 : w4.cell? ⟨w.heap.size + 1 + 1, 2, none⟩ = some (.slice none 0 0) := bb4.cell 2
      have y3 : w4.cell? ⟨w.heap.size + 1 + 1, 3, none⟩ = some (.int .i64 0) := bb4.cell 3
      have y4 : w4.cell? ⟨w.heap.size + 1 + 1, 4, none⟩ = some (.slice none 0 0) := bb4.cell 4
      have y5 : w4.cell? ⟨w.heap.size + 1 + 1, 5, none⟩ = some (.slice none 0 0) := bb4.cell 5
      have y6 : w4.cell? ⟨w.heap.size + 1 + 1, 6, none⟩ = some (.int .i64 0) := bb4.cell 6
      have fy := bb4.frozen
      have ly := bb4.lt
      have Hfin := Lib.hid (fun (W : World) (hE : Ext (fun q => q = w.heap.size + 1 + 1) w4 W) => show RefC w0 (Grow G w) W (.agg (rcells7 A1 A2 A3 c.s.T.length c.s.P.length c1 c2 c3 most Af c.fs.length cf c.res e2).toArray) { c with broken := e2 } ∧ Keep w W from by
        have hkW : Keep w W := Keep.of_ext2 (Hka.out.trans (Hk3.out.trans hk4)) hE (fun q hq h => by omega)
        have hz' := Hza.out
        exact ⟨⟨A1, A2, A3, c1, c2, c3, most, Af, cf, rfl, ((Hra.out.keep (Hk3.out.trans hk4)).ext hE (fun q hq h => by rcases hq with h1 | h1 <;> omega)).mono (fun k _ hg => hg.elim (fun h => .inl h.1) (fun h => .inr (by omega))), (Hfr.out.keep hkW).mono (fun k _ hg => .inl hg.1)⟩, hkW⟩)
      clear bb4 hk4 Hb3 x0 x1 x2 x3 x4 x5 x6 lx
      unfold rcells7 LD.v at *
      go_wp2
      refine bodyPost_ret (v := .tuple #[.agg #[.slice A1 c.s.T.length c1, .slice A2 c.s.P.length c2, .slice A3 c.s.P.length c3, .int .i64 (most : Int), .slice Af c.fs.length cf, .slice c.res.a c.res.l.length c.res.c, .int .i64 e2], .int .i64 e2]) (by simp [results, Try.results64, go_sem, y0, y1, y2, y3, y4, y5, y6]) rfl ⟨_, by rw [Hcd.out], ?_⟩
      rw [Hcd.out]
      exact Hfin.out _ (ext7 _ _ _ _ _ _ _ _ _)
    have de : (e2 != 0) = false := by simpa using he
    have hr3 : RefAt (fun k => (G k ∧ k < w.heap.size) ∨ wa.heap.size ≤ k) w3 (.agg (rcells A1 A2 A3 s2.T.length c.s.P.length c1 c2 c3 most).toArray) s2 := by
      have := Hcut.out.keep hk3
      exact this
    have HO := Lib.hid (fun (wx : World) (hk' : Keep w3 wx) => refOpen_calls (hr3.keep hk') (by omega) (by omega))
    have HP := Lib.hid (fun (G' : Nat → Prop) (wx : World) (v' : Value) (hr' : RefAt G' wx v' s2.opened) (hk' : Keep w3 wx) => refPush_calls hr' p.l p.a p.c (((Hpr.out.1.seg.keep Hw0.out).keep Hka.out).keep (hk3.trans hk')) (by rw [(Stk.opened_len s2).1]; omega))
    have hd3 : Keep w3 w3.drew := (Keep.refl _).drew
    have hza' := Hza.out
    have hz2 := hk2.size
    have hnt : ¬ (w2.heap.size = w.heap.size) := by omega
    have t0 := fun y : KE (fun q => q = w.heap.size) w3 => y.cell (v := .slice A1 s2.T.length c1) (bt3.cell 0) hnt
    have t1 := fun y : KE (fun q => q = w.heap.size) w3 => y.cell (v := .slice A2 c.s.P.length c2) (bt3.cell 1) hnt
    have t2 := fun y : KE (fun q => q = w.heap.size) w3 => y.cell (v := .slice A3 c.s.P.length c3) (bt3.cell 2) hnt
    have t3 := fun y : KE (fun q => q = w.heap.size) w3 => y.cell (v := .int .i64 (most : Int)) (bt3.cell 3) hnt
    have p1 := fun y : KE (fun q => q = w.heap.size) w3 => y.cell (v := .slice p.a p.l.length p.c) (bfn3.cell 0) (by show ¬ (w.heap.size + 1 = w.heap.size); omega)
    go_wp2_with fail
    refine region_begin (S := fun w' => ∃ y : KE (fun q => q = w.heap.size) w3, w' = y.val) (by kernel_rfl) ?_
    refine region_take [0, 2, 3] [] 4 (by kernel_rfl) (by kernel_rfl) (KE.mk' (Ext.drew (Ext.refl _ _))) ?_
    show wpQuiet _ _ _ _ [_, _, _] _
    repeat (go_big_quiet_step (fail))
    refine wpQuiet_nil ?_
    clear t0 t1 t2 t3 p1 hnt
    refine region_fix (i := 1) (fuel := 3) rfl (by kernel_rfl) (fun K hK => ?_)
    go_simp
    refine (HO.out _ hd3).mono ?_
    rintro e w4 ⟨v4, rfl, hr4, hk4⟩
    have hk34 := hd3.trans hk4
    refine hK _ _ (KE.mk' (hk34.ext _)) ?_
    clear hK K HO
    refine region_fix (i := 4) (fuel := 2) rfl (by kernel_rfl) (fun K hK => ?_)
    go_simp
    refine (HP.out _ _ _ hr4 hk34).mono ?_
    rintro e w5 ⟨v5, rfl, hr5, hk5⟩
    have hk35 := hk34.trans hk5
    refine hK _ _ (KE.mk' (hk35.ext _)) ?_
    clear hK K HP
    obtain ⟨s5, hs5⟩ : ∃ s5, s2.opened.push p.l = s5 := ⟨_, rfl⟩
    rw [hs5] at hr5 Hd
    clear hs5
    have hz3 := hk3.size
    have hz4 : w3.heap.size ≤ w4.heap.size := hk34.size
    have hr5' : RefAt (fun k => (G k ∧ k < w.heap.size) ∨ wa.heap.size ≤ k) w5 v5 s5 := hr5.mono (fun k _ hg => hg.elim (fun h => h.elim id (fun h => .inr (by have e : w3.drew.heap.size = w3.heap.size := rfl; omega))) (fun h => .inr (by omega)))
    obtain ⟨C1, C2, C3, e1', e2', e3', mo', rfl, _⟩ := id hr5'
    have ba5 := ba3.keep hk35
    have bb5 := bb3.keep hk35
    have bfn5 := bfn3.keep hk35
    have hk5' := hk3.trans hk35
    clear hr4 hk4 hk34 hk5 hr5 hr3 hk3 hd3 ba3 bb3 bfn3 bt3
    have x0 : w5.cell? ⟨w.heap.size, 0, none⟩ = some (.slice A1 c.s.T.length c1) := ba5.cell 0
    have x1 : w5.cell? ⟨w.heap.size, 1, none⟩ = some (.slice A2 c.s.P.length c2) := ba5.cell 1
    have x2 : w5.cell? ⟨w.heap.size, 2, none⟩ = some (.slice A3 c.s.P.length c3) := ba5.cell 2
    have x3 : w5.cell? ⟨w.heap.size, 3, none⟩ = some (.int .i64 (most : Int)) := ba5.cell 3
    have fx := ba5.frozen
    have lx := ba5.lt
    refine region_fix (i := 5) (fuel := 1) rfl (by kernel_rfl) (fun K hK => ?_)
    go_simp
    refine hK _ _ (KE.mk' (hk35.ext _)) ?_
    clear hK K
    refine region_fix (i := 6) (fuel := 0) rfl (by kernel_rfl) (fun K hK => ?_)
    go_simp
    obtain ⟨w6, hw6⟩ : ∃ w6 : World, w6 = ((((w5.setCell ⟨w.heap.size, 0, none⟩ (.slice C1 s5.T.length e1')).setCell ⟨w.heap.size, 1, none⟩ (.slice C2 s5.P.length e2')).setCell ⟨w.heap.size, 2, none⟩ (.slice C3 s5.P.length e3')).setCell ⟨w.heap.size, 3, none⟩ (.int .i64 (mo' : Int))) := ⟨_, rfl⟩
    have hE6 : Ext (fun k => k = w.heap.size) w5 w6 := by
      rw [hw6]
      refine Ext.setCell (Ext.setCell (Ext.setCell (Ext.setCell (Ext.refl _ _) ?_ _) ?_ _) ?_ _) ?_ _
      all_goals exact fun _ => rfl
    have ba6 : Blk w6 w.heap.size 74 (rcells7 C1 C2 C3 s5.T.length s5.P.length e1' e2' e3' mo' Af c.fs.length cf c.res c.broken) := by rw [hw6]; exact (((ba5.set_ 0 _).set_ 1 _).set_ 2 _).set_ 3 _
    rw [← hw6]
    refine hK _ _ (KE.mk' ((hk35.ext _).trans hE6 (fun _ _ h => h))) ?_
    clear hK K
    refine region_done (by kernel_rfl) ?_
    have hz5 := hk35.size
    have bb6 := bb5.ext hE6 (by omega)
    have bfn6 := bfn5.ext hE6 (by omega)
    have hk6 : Keep w w6 := Keep.of_ext2 (Hka.out.trans hk5') hE6 (fun q hq h => by omega)
    have hr6 := hr5'.ext hE6 (fun q hq h => by rcases hq with h1 | h1 <;> omega)
    have hz6 := hE6.size
    clear hw6 hE6 hk35 ba5 bb5 bfn5 hr5' hk5' x0 x1 x2 x3 fx lx hk2
    have hRC := (⟨C1, C2, C3, e1', e2', e3', mo', Af, cf, rfl, hr6, (Hfr.out.keep hk6).mono (fun k _ hg => .inl hg)⟩ : RefC w0 (fun k => (G k ∧ k < w.heap.size) ∨ wa.heap.size ≤ k) w6 (.agg (rcells7 C1 C2 C3 s5.T.length s5.P.length e1' e2' e3' mo' Af c.fs.length cf c.res c.broken).toArray) { c with s := s5 })
    obtain ⟨k, hk⟩ : ∃ k, k + 1 = c.fs.length := ⟨c.fs.length - 1, by have := List.length_pos_iff.2 Hz.out; omega⟩
    obtain ⟨f, hf⟩ : ∃ f, c.fs[k]'(by omega) = f := ⟨_, rfl⟩
    have Hlt := Lib.hid (show liveTop c.fs = f.live by
      have : c.fs.getLast? = some f := by rw [List.getLast?_eq_getElem?, show c.fs.length - 1 = k by omega, List.getElem?_eq_getElem (by omega), hf]
      unfold liveTop; rw [this])
    have Ht := Lib.hid (refTop_calls (c := { c with s := s5 }) hRC hk (by show c.fs.length ≤ 1000000; omega) hf)
    clear hRC hk hf
    have x0 : w6.cell? ⟨w.heap.size, 0, none⟩ = some (.slice C1 s5.T.length e1') := ba6.cell 0
    have x1 : w6.cell? ⟨w.heap.size, 1, none⟩ = some (.slice C2 s5.P.length e2') := ba6.cell 1
    have x2 : w6.cell? ⟨w.heap.size, 2, none⟩ = some (.slice C3 s5.P.length e3') := ba6.cell 2
    have x3 : w6.cell? ⟨w.heap.size, 3, none⟩ = some (.int .i64 (mo' : Int)) := ba6.cell 3
    have x4 : w6.cell? ⟨w.heap.size, 4, none⟩ = some (.slice Af c.fs.length cf) := ba6.cell 4
    have x5 : w6.cell? ⟨w.heap.size, 5, none⟩ = some (.slice c.res.a c.res.l.length c.res.c) := ba6.cell 5
    have x6 : w6.cell? ⟨w.heap.size, 6, none⟩ = some (.int .i64 c.broken) := ba6.cell 6
    have lx := ba6.lt
    unfold rcells7 LD.v at Ht
    go_wp2_with fail
    refine Ht.out.mono ?_
    rintro e w7 ⟨rfl, hk7⟩
    clear x0 x1 x2 x3 x4 x5 x6 lx Ht
    go_wp2_with fail
    rw [frame_live]
    go_upto_region 17 with fail
    have ba7 := ba6.keep hk7
    have bb7 := bb6.keep hk7
    have bfn7 := bfn6.keep hk7
    have hz7 := hk7.size
    have hr7 := hr6.keep hk7
    have hkw7 := hk6.trans hk7
    obtain ⟨fn, hfn⟩ : ∃ fn : FrD, fn = ⟨2, p, r, f.live, f.live⟩ := ⟨_, rfl⟩
    have Hcd := Lib.hid (show cd = ({ c with s := s5, fs := c.fs ++ [fn] }, 0) by rw [Hd.out, if_neg (by omega), Hlt.out, hfn])
    have hsz7 : wa.heap.size ≤ w7.heap.size := by omega
    have Hend := Lib.hid (fun (W11 W : World) (B : Option Addr) (d : Nat) (hk : Keep w7 W11) (ho : Own frC 5 105 W11 w7.heap.size (.slice B (c.fs ++ [fn]).length d) (c.fs ++ [fn])) (hd : c.fs.length + 1 ≤ d) (hE : Ext (fun q => q = w.heap.size ∨ q = w.heap.size + 1 + 1) W11 W) =>
      enter_end Hza.out hsz7 hkw7 Hfr.out.res Hfr.out.ls (by rw [hfn]; exact Hpr.out) hr7 hk ho hd hE)
    have Hap1 := Lib.hid (fun (W : World) (e0 : Nat) (hk : Keep w7 W) (ho : Own frC 5 105 W w7.heap.size (.slice (some ⟨e0, 0, none⟩) 0 0) []) => fr_app1 (cf := cf) hk ho ((Hfr.out.keep hkw7).seg) (by omega) (Nat.le_refl _) hk.size)
    have Hap2 := Lib.hid (fun (W : World) (B : Option Addr) (d nb : Nat) (hk : Keep w7 W) (ho : Own frC 5 105 W w7.heap.size (.slice B c.fs.length d) c.fs) (hb : Blk W nb 105 (frC fn)) => fr_app2 hk ho hb (by omega) (Nat.le_refl _) hk.size)
    have Hb7 := Lib.hid ba7
    have Hbb7 := Lib.hid bb7
    have q4 := fun y : KW w7 => y.cell (v := .slice Af c.fs.length cf) (ba7.cell 4)
    have u0 := fun y : KW w7 => y.cell (v := .slice p.a p.l.length p.c) (bfn7.cell 0)
    have u1 := fun y : KW w7 => y.cell (v := .slice r.a r.l.length r.c) (bfn7.cell 1)
    have hd7 : Keep w7 w7.drew := (Keep.refl _).drew
    have Hfn := Lib.hid hfn
    clear hk6 hr6 ba6 bb6 bfn6 hk7 hr7 Hlt hfn ba7 bb7 bfn7 hkw7
    refine tail_begin (S := fun w' => ∃ y : KW w7, w' = y.val) [12] (by kernel_rfl) ?_
    refine tail_take [1, 2, 4, 5, 6, 7, 8] [] 6 (by kernel_rfl) (by kernel_rfl) (InK.mk' hd7) ?_
    show wpQuiet _ _ _ _ [_, _, _, _, _, _, _] _
    repeat (go_big_quiet_step (fail))
    refine wpQuiet_nil ?_
    clear q4 u0 u1
    refine tail_any (is := [0, 9]) (fuel := 5) (by kernel_rfl) (by simp) (mem2 (any_plain rfl rfl fun K hK => ?_) (any_plain rfl rfl fun K hK => ?_))
    · refine wp_buildSlice0 _ _ rfl elFr.slice elFr.info.choose_spec.choose_spec.1 ?_
      refine hK _ _ (fun _ => InK.mk' ((hd7).alloc _)) ?_
      clear hK K
      simp only [Act.put, List.setIfInBounds_toArray, List.set_cons_succ, List.set_cons_zero]
      refine gen_wpAnyT (fun W => Keep w7 W ∧ Own frC 5 105 W w7.heap.size (.slice (some ⟨w7.heap.size, 0, none⟩) 0 0) [] ∧ w7.heap.size < W.heap.size) ⟨hd7.alloc _, Own.empty frC 5 105 w7.drew (Nat.le_refl _), by simp⟩ ?_
      rintro w8 ⟨k8, o8, z8⟩
      refine tail_any (is := [3, 9]) (fuel := 4) (by kernel_rfl) (by simp) (mem2 (any_plain rfl rfl fun K hK => ?_) (any_plain rfl rfl fun K hK => ?_))
      · obtain ⟨B1, d1, w9, ha9, o9, k9, z9, _, _⟩ := Hap1.out w8 _ k8 o8
        refine wp_append_eq _ _ _ rfl _ _ rfl rfl _ _ ha9 ?_
        refine hK _ _ (fun _ => InK.mk' k9) ?_
        clear hK K ha9
        simp only [Act.put, List.setIfInBounds_toArray, List.set_cons_succ, List.set_cons_zero]
        refine tail_fixU (i := 9) (fuel := 3) rfl rfl (by kernel_rfl) (fun K hK => ?_)
        go_simp
        refine hK _ _ (fun _ => InK.mk' ((k9).alloc _)) ?_
        clear hK K
        refine gen_wpAnyT (fun W => Keep w7 W ∧ Own frC 5 105 W w7.heap.size (.slice B1 c.fs.length d1) c.fs ∧ Blk W w9.heap.size 105 (frC fn)) ⟨k9.alloc _, o9.alloc _, by rw [Hfn.out]; exact Blk.new w9 _ (frC ⟨2, p, r, f.live, f.live⟩)⟩ ?_
        rintro w10 ⟨k10, o10, b10⟩
        obtain ⟨B2, d2, w11, ha11, ho11, k11, hd2⟩ := Hap2.out w10 _ _ _ k10 o10 b10
        refine tail_fixU (i := 10) (fuel := 2) rfl rfl (by kernel_rfl) (fun K hK => ?_)
        refine wp_append_eq _ _ _ rfl _ _ rfl rfl _ _ ha11 ?_
        refine hK _ _ (fun _ => InK.mk' k11) ?_
        clear hK K
        simp only [Act.put, List.setIfInBounds_toArray, List.set_cons_succ, List.set_cons_zero]
        clear ha11 b10 o10 k10 o9 k9 o8 k8 z8 z9
        have bz := Hb7.out.keep k11
        have z4 : w11.cell? ⟨w.heap.size, 4, none⟩ = some (.slice Af c.fs.length cf) := bz.cell 4
        have fz := bz.frozen
        have lz := bz.lt
        refine tail_take [11] _ 1 (by kernel_rfl) (by kernel_rfl) (InK.mk' k11) ?_
        show wpQuiet _ _ _ _ [_] _
        repeat (go_big_quiet_step (fail))
        refine wpQuiet_nil ?_
        refine tail_fix (i := 12) (fuel := 0) rfl (by kernel_rfl) (fun K hK => ?_)
        go_simp
        refine hK _ _ (fun h => absurd h (by decide)) ?_
        clear hK K
        refine tail_done (by kernel_rfl) ?_
        obtain ⟨w12, hw12⟩ : ∃ w12 : World, w12 = w11.setCell ⟨w.heap.size, 4, none⟩ (.slice B2 (c.fs.length + 1) d2) := ⟨_, rfl⟩
        have hE12 : Ext (fun q => q = w.heap.size) w11 w12 := by
          rw [hw12]
          refine Ext.setCell (Ext.refl _ _) ?_ _
          exact fun _ => rfl
        have ba12 : Blk w12 w.heap.size 74 (rcells7 C1 C2 C3 s5.T.length s5.P.length e1' e2' e3' mo' B2 (c.fs.length + 1) d2 c.res c.broken) := by rw [hw12]; exact bz.set_ 4 _
        have bb12 := (Hbb7.out.keep k11).ext hE12 (by omega)
        have He12 := Lib.hid (fun (W : World) (hE : Ext (fun q => q = w.heap.size + 1 + 1) w12 W) => Hend.out w11 W B2 d2 k11 ho11 hd2 ((hE12.mono (fun k _ h => .inl h)).trans hE (fun i _ h => .inr h)))
        rw [← hw12]
        clear hw12 hE12 bz z4 fz lz Hap1 Hap2 Hend
        have x0 : w12.cell? ⟨w.heap.size, 0, none⟩ = some (.slice C1 s5.T.length e1') := ba12.cell 0
        have x1 : w12.cell? ⟨w.heap.size, 1, none⟩ = some (.slice C2 s5.P.length e2') := ba12.cell 1
        have x2 : w12.cell? ⟨w.heap.size, 2, none⟩ = some (.slice C3 s5.P.length e3') := ba12.cell 2
        have x3 : w12.cell? ⟨w.heap.size, 3, none⟩ = some (.int .i64 (mo' : Int)) := ba12.cell 3
        have x4 : w12.cell? ⟨w.heap.size, 4, none⟩ = some (.slice B2 (c.fs.length + 1) d2) := ba12.cell 4
        have x5 : w12.cell? ⟨w.heap.size, 5, none⟩ = some (.slice c.res.a c.res.l.length c.res.c) := ba12.cell 5
        have x6 : w12.cell? ⟨w.heap.size, 6, none⟩ = some (.int .i64 c.broken) := ba12.cell 6
        have y0 : w12.cell? ⟨w.heap.size + 1 + 1, 0, none⟩ = some (.slice none 0 0) := bb12.cell 0
        have y1 : w12.cell? ⟨w.heap.size + 1 + 1, 1, none⟩ = some (.slice none 0 0) := bb12.cell 1
        have y2 : w12.cell? ⟨w.heap.size + 1 + 1, 2, none⟩ = some (.slice none 0 0) := bb12.cell 2
        have y3 : w12.cell? ⟨w.heap.size + 1 + 1, 3, none⟩ = some (.int .i64 0) := bb12.cell 3
        have y4 : w12.cell? ⟨w.heap.size + 1 + 1, 4, none⟩ = some (.slice none 0 0) := bb12.cell 4
        have y5 : w12.cell? ⟨w.heap.size + 1 + 1, 5, none⟩ = some (.slice none 0 0) := bb12.cell 5
        have y6 : w12.cell? ⟨w.heap.size + 1 + 1, 6, none⟩ = some (.int .i64 0) := bb12.cell 6
        have fx := ba12.frozen
        have lx := ba12.lt
        have fy := bb12.frozen
        have ly := bb12.lt
        clear ba12 bb12
        unfold rcells7 LD.v at *
        go_wp2
        refine bodyPost_ret (v := .tuple #[.agg #[.slice C1 s5.T.length e1', .slice C2 s5.P.length e2', .slice C3 s5.P.length e3', .int .i64 (mo' : Int), .slice B2 (c.fs.length + 1) d2, .slice c.res.a c.res.l.length c.res.c, .int .i64 c.broken], .int .i64 0]) (by simp [results, Try.results64, go_sem, y0, y1, y2, y3, y4, y5, y6]) rfl ⟨_, by rw [Hcd.out], ?_⟩
        rw [Hcd.out]
        exact He12.out _ (ext7 _ _ _ _ _ _ _ _ _)
      · go_simp
        refine hK _ _ (fun _ => InK.mk' ((k8).alloc _)) ?_
        clear hK K
        refine gen_wpAnyT (fun W => Keep w7 W ∧ Own frC 5 105 W w7.heap.size (.slice (some ⟨w7.heap.size, 0, none⟩) 0 0) [] ∧ Blk W w8.heap.size 105 (frC fn)) ⟨k8.alloc _, o8.alloc _, by rw [Hfn.out]; exact Blk.new w8 _ (frC ⟨2, p, r, f.live, f.live⟩)⟩ ?_
        rintro w9 ⟨k9, o9, b9⟩
        obtain ⟨B1, d1, w10, ha10, o10, k10, z10, hb10, _⟩ := Hap1.out w9 _ k9 o9
        have b10 := hb10 _ _ (by omega) b9
        refine tail_fixU (i := 3) (fuel := 3) rfl rfl (by kernel_rfl) (fun K hK => ?_)
        refine wp_append_eq _ _ _ rfl _ _ rfl rfl _ _ ha10 ?_
        refine hK _ _ (fun _ => InK.mk' k10) ?_
        clear hK K
        simp only [Act.put, List.setIfInBounds_toArray, List.set_cons_succ, List.set_cons_zero]
        obtain ⟨B2, d2, w11, ha11, ho11, k11, hd2⟩ := Hap2.out w10 _ _ _ k10 o10 b10
        refine tail_fixU (i := 10) (fuel := 2) rfl rfl (by kernel_rfl) (fun K hK => ?_)
        refine wp_append_eq _ _ _ rfl _ _ rfl rfl _ _ ha11 ?_
        refine hK _ _ (fun _ => InK.mk' k11) ?_
        clear hK K
        simp only [Act.put, List.setIfInBounds_toArray, List.set_cons_succ, List.set_cons_zero]
        clear ha11 ha10 hb10 b10 b9 o10 k10 o9 k9 o8 k8 z8 z10
        have bz := Hb7.out.keep k11
        have z4 : w11.cell? ⟨w.heap.size, 4, none⟩ = some (.slice Af c.fs.length cf) := bz.cell 4
        have fz := bz.frozen
        have lz := bz.lt
        refine tail_take [11] _ 1 (by kernel_rfl) (by kernel_rfl) (InK.mk' k11) ?_
        show wpQuiet _ _ _ _ [_] _
        repeat (go_big_quiet_step (fail))
        refine wpQuiet_nil ?_
        refine tail_fix (i := 12) (fuel := 0) rfl (by kernel_rfl) (fun K hK => ?_)
        go_simp
        refine hK _ _ (fun h => absurd h (by decide)) ?_
        clear hK K
        refine tail_done (by kernel_rfl) ?_
        obtain ⟨w12, hw12⟩ : ∃ w12 : World, w12 = w11.setCell ⟨w.heap.size, 4, none⟩ (.slice B2 (c.fs.length + 1) d2) := ⟨_, rfl⟩
        have hE12 : Ext (fun q => q = w.heap.size) w11 w12 := by
          rw [hw12]
          refine Ext.setCell (Ext.refl _ _) ?_ _
          exact fun _ => rfl
        have ba12 : Blk w12 w.heap.size 74 (rcells7 C1 C2 C3 s5.T.length s5.P.length e1' e2' e3' mo' B2 (c.fs.length + 1) d2 c.res c.broken) := by rw [hw12]; exact bz.set_ 4 _
        have bb12 := (Hbb7.out.keep k11).ext hE12 (by omega)
        have He12 := Lib.hid (fun (W : World) (hE : Ext (fun q => q = w.heap.size + 1 + 1) w12 W) => Hend.out w11 W B2 d2 k11 ho11 hd2 ((hE12.mono (fun k _ h => .inl h)).trans hE (fun i _ h => .inr h)))
        rw [← hw12]
        clear hw12 hE12 bz z4 fz lz Hap1 Hap2 Hend
        have x0 : w12.cell? ⟨w.heap.size, 0, none⟩ = some (.slice C1 s5.T.length e1') := ba12.cell 0
        have x1 : w12.cell? ⟨w.heap.size, 1, none⟩ = some (.slice C2 s5.P.length e2') := ba12.cell 1
        have x2 : w12.cell? ⟨w.heap.size, 2, none⟩ = some (.slice C3 s5.P.length e3') := ba12.cell 2
        have x3 : w12.cell? ⟨w.heap.size, 3, none⟩ = some (.int .i64 (mo' : Int)) := ba12.cell 3
        have x4 : w12.cell? ⟨w.heap.size, 4, none⟩ = some (.slice B2 (c.fs.length + 1) d2) := ba12.cell 4
        have x5 : w12.cell? ⟨w.heap.size, 5, none⟩ = some (.slice c.res.a c.res.l.length c.res.c) := ba12.cell 5
        have x6 : w12.cell? ⟨w.heap.size, 6, none⟩ = some (.int .i64 c.broken) := ba12.cell 6
        have y0 : w12.cell? ⟨w.heap.size + 1 + 1, 0, none⟩ = some (.slice none 0 0) := bb12.cell 0
        have y1 : w12.cell? ⟨w.heap.size + 1 + 1, 1, none⟩ = some (.slice none 0 0) := bb12.cell 1
        have y2 : w12.cell? ⟨w.heap.size + 1 + 1, 2, none⟩ = some (.slice none 0 0) := bb12.cell 2
        have y3 : w12.cell? ⟨w.heap.size + 1 + 1, 3, none⟩ = some (.int .i64 0) := bb12.cell 3
        have y4 : w12.cell? ⟨w.heap.size + 1 + 1, 4, none⟩ = some (.slice none 0 0) := bb12.cell 4
        have y5 : w12.cell? ⟨w.heap.size + 1 + 1, 5, none⟩ = some (.slice none 0 0) := bb12.cell 5
        have y6 : w12.cell? ⟨w.heap.size + 1 + 1, 6, none⟩ = some (.int .i64 0) := bb12.cell 6
        have fx := ba12.frozen
        have lx := ba12.lt
        have fy := bb12.frozen
        have ly := bb12.lt
        clear ba12 bb12
        unfold rcells7 LD.v at *
        go_wp2
        refine bodyPost_ret (v := .tuple #[.agg #[.slice C1 s5.T.length e1', .slice C2 s5.P.length e2', .slice C3 s5.P.length e3', .int .i64 (mo' : Int), .slice B2 (c.fs.length + 1) d2, .slice c.res.a c.res.l.length c.res.c, .int .i64 c.broken], .int .i64 0]) (by simp [results, Try.results64, go_sem, y0, y1, y2, y3, y4, y5, y6]) rfl ⟨_, by rw [Hcd.out], ?_⟩
        rw [Hcd.out]
        exact He12.out _ (ext7 _ _ _ _ _ _ _ _ _)
    · go_simp
      refine hK _ _ (fun _ => InK.mk' ((hd7).alloc _)) ?_
      clear hK K
      refine gen_wpAnyT (fun W => Keep w7 W ∧ Blk W w7.heap.size 105 (frC fn)) ⟨hd7.alloc _, by rw [Hfn.out]; exact Blk.new w7.drew _ (frC ⟨2, p, r, f.live, f.live⟩)⟩ ?_
      rintro w8 ⟨k8, b8⟩
      refine tail_fixU (i := 0) (fuel := 4) rfl rfl (by kernel_rfl) (fun K hK => ?_)
      refine wp_buildSlice0 _ _ rfl elFr.slice elFr.info.choose_spec.choose_spec.1 ?_
      refine hK _ _ (fun _ => InK.mk' ((k8).alloc _)) ?_
      clear hK K
      simp only [Act.put, List.setIfInBounds_toArray, List.set_cons_succ, List.set_cons_zero]
      refine gen_wpAnyT (fun W => Keep w7 W ∧ Own frC 5 105 W w7.heap.size (.slice (some ⟨w8.heap.size, 0, none⟩) 0 0) [] ∧ Blk W w7.heap.size 105 (frC fn)) ⟨k8.alloc _, Own.empty frC 5 105 w8 k8.size, b8.keep ((Keep.refl _).alloc _)⟩ ?_
      rintro w9 ⟨k9, o9, b9⟩
      have l8 := b8.lt
      obtain ⟨B1, d1, w10, ha10, o10, k10, z10, hb10, _⟩ := Hap1.out w9 _ k9 o9
      have b10 := hb10 _ _ (by omega) b9
      refine tail_fixU (i := 3) (fuel := 3) rfl rfl (by kernel_rfl) (fun K hK => ?_)
      refine wp_append_eq _ _ _ rfl _ _ rfl rfl _ _ ha10 ?_
      refine hK _ _ (fun _ => InK.mk' k10) ?_
      clear hK K
      simp only [Act.put, List.setIfInBounds_toArray, List.set_cons_succ, List.set_cons_zero]
      obtain ⟨B2, d2, w11, ha11, ho11, k11, hd2⟩ := Hap2.out w10 _ _ _ k10 o10 b10
      refine tail_fixU (i := 10) (fuel := 2) rfl rfl (by kernel_rfl) (fun K hK => ?_)
      refine wp_append_eq _ _ _ rfl _ _ rfl rfl _ _ ha11 ?_
      refine hK _ _ (fun _ => InK.mk' k11) ?_
      clear hK K
      simp only [Act.put, List.setIfInBounds_toArray, List.set_cons_succ, List.set_cons_zero]
      clear ha11 ha10 hb10 b10 b9 o10 k10 o9 k9 b8 k8 l8 z10
      have bz := Hb7.out.keep k11
      have z4 : w11.cell? ⟨w.heap.size, 4, none⟩ = some (.slice Af c.fs.length cf) := bz.cell 4
      have fz := bz.frozen
      have lz := bz.lt
      refine tail_take [11] _ 1 (by kernel_rfl) (by kernel_rfl) (InK.mk' k11) ?_
      show wpQuiet _ _ _ _ [_] _
      repeat (go_big_quiet_step (fail))
      refine wpQuiet_nil ?_
      refine tail_fix (i := 12) (fuel := 0) rfl (by kernel_rfl) (fun K hK => ?_)
      go_simp
      refine hK _ _ (fun h => absurd h (by decide)) ?_
      clear hK K
      refine tail_done (by kernel_rfl) ?_
      obtain ⟨w12, hw12⟩ : ∃ w12 : World, w12 = w11.setCell ⟨w.heap.size, 4, none⟩ (.slice B2 (c.fs.length + 1) d2) := ⟨_, rfl⟩
      have hE12 : Ext (fun q => q = w.heap.size) w11 w12 := by
        rw [hw12]
        refine Ext.setCell (Ext.refl _ _) ?_ _
        exact fun _ => rfl
      have ba12 : Blk w12 w.heap.size 74 (rcells7 C1 C2 C3 s5.T.length s5.P.length e1' e2' e3' mo' B2 (c.fs.length + 1) d2 c.res c.broken) := by rw [hw12]; exact bz.set_ 4 _
      have bb12 := (Hbb7.out.keep k11).ext hE12 (by omega)
      have He12 := Lib.hid (fun (W : World) (hE : Ext (fun q => q = w.heap.size + 1 + 1) w12 W) => Hend.out w11 W B2 d2 k11 ho11 hd2 ((hE12.mono (fun k _ h => .inl h)).trans hE (fun i _ h => .inr h)))
      rw [← hw12]
      clear hw12 hE12 bz z4 fz lz Hap1 Hap2 Hend
      have x0 : w12.cell? ⟨w.heap.size, 0, none⟩ = some (.slice C1 s5.T.length e1') := ba12.cell 0
      have x1 : w12.cell? ⟨w.heap.size, 1, none⟩ = some (.slice C2 s5.P.length e2') := ba12.cell 1
      have x2 : w12.cell? ⟨w.heap.size, 2, none⟩ = some (.slice C3 s5.P.length e3') := ba12.cell 2
      have x3 : w12.cell? ⟨w.heap.size, 3, none⟩ = some (.int .i64 (mo' : Int)) := ba12.cell 3
      have x4 : w12.cell? ⟨w.heap.size, 4, none⟩ = some (.slice B2 (c.fs.length + 1) d2) := ba12.cell 4
      have x5 : w12.cell? ⟨w.heap.size, 5, none⟩ = some (.slice c.res.a c.res.l.length c.res.c) := ba12.cell 5
      have x6 : w12.cell? ⟨w.heap.size, 6, none⟩ = some (.int .i64 c.broken) := ba12.cell 6
      have y0 : w12.cell? ⟨w.heap.size + 1 + 1, 0, none⟩ = some (.slice none 0 0) := bb12.cell 0
      have y1 : w12.cell? ⟨w.heap.size + 1 + 1, 1, none⟩ = some (.slice none 0 0) := bb12.cell 1
      have y2 : w12.cell? ⟨w.heap.size + 1 + 1, 2, none⟩ = some (.slice none 0 0) := bb12.cell 2
      have y3 : w12.cell? ⟨w.heap.size + 1 + 1, 3, none⟩ = some (.int .i64 0) := bb12.cell 3
      have y4 : w12.cell? ⟨w.heap.size + 1 + 1, 4, none⟩ = some (.slice none 0 0) := bb12.cell 4
      have y5 : w12.cell? ⟨w.heap.size + 1 + 1, 5, none⟩ = some (.slice none 0 0) := bb12.cell 5
      have y6 : w12.cell? ⟨w.heap.size + 1 + 1, 6, none⟩ = some (.int .i64 0) := bb12.cell 6
      have fx := ba12.frozen
      have lx := ba12.lt
      have fy := bb12.frozen
      have ly := bb12.lt
      clear ba12 bb12
      unfold rcells7 LD.v at *
      go_wp2
      refine bodyPost_ret (v := .tuple #[.agg #[.slice C1 s5.T.length e1', .slice C2 s5.P.length e2', .slice C3 s5.P.length e3', .int .i64 (mo' : Int), .slice B2 (c.fs.length + 1) d2, .slice c.res.a c.res.l.length c.res.c, .int .i64 c.broken], .int .i64 0]) (by simp [results, Try.results64, go_sem, y0, y1, y2, y3, y4, y5, y6]) rfl ⟨_, by rw [Hcd.out], ?_⟩
      rw [Hcd.out]
      exact He12.out _ (ext7 _ _ _ _ _ _ _ _ _)
  · go_enter Try.func64, Try.ntmps64
    go_wp2_with fail
    rw [← hwa]
    refine HWt.out.mono ?_
    rintro e w2 ⟨rfl, hk2⟩
    have hka2 : Keep w w2 := Hka.out.trans hk2
    have ba2 := Hba.out.keep hk2
    have bfn2 := Hbf.out.keep hk2
    have bb2 := Hbb.out.keep hk2
    go_upto_region 13 with fail
    obtain ⟨w3, hw3⟩ : ∃ w3 : World, w3 = w2.alloc (.cells #[.slice A1 s2.T.length c1, .slice A2 c.s.P.length c2, .slice A3 c.s.P.length c3, .int .i64 (most : Int)] 31) := ⟨_, rfl⟩
    have hk23 : Keep w2 w3 := by rw [hw3]; exact (Keep.refl _).alloc _
    have bt3 : Blk w3 w2.heap.size 31 (rcells A1 A2 A3 s2.T.length c.s.P.length c1 c2 c3 most) := by rw [hw3]; exact Blk.new w2 _ (rcells A1 A2 A3 s2.T.length c.s.P.length c1 c2 c3 most)
    have ba3 := ba2.keep hk23
    have bfn3 := bfn2.keep hk23
    have bb3 := bb2.keep hk23
    have hk3 := hk2.trans hk23
    rw [← hw3]
    clear hw3 hk23 ba2 bfn2 bb2 hwa HWt hka2
    by_cases he : e2 = 0
    rotate_left
    · have de : (e2 != 0) = true := by simpa using he
      have Hcd := Lib.hid (show cd = ({ c with broken := e2 }, e2) by rw [Hd.out, if_pos he])
      have x0 : w3.cell? ⟨w.heap.size, 0, none⟩ = some (.slice A1 c.s.T.length c1) := ba3.cell 0
      have x1 : w3.cell? ⟨w.heap.size, 1, none⟩ = some (.slice A2 c.s.P.length c2) := ba3.cell 1
      have x2 : w3.cell? ⟨w.heap.size, 2, none⟩ = some (.slice A3 c.s.P.length c3) := ba3.cell 2
      have x3 : w3.cell? ⟨w.heap.size, 3, none⟩ = some (.int .i64 (most : Int)) := ba3.cell 3
      have x4 : w3.cell? ⟨w.heap.size, 4, none⟩ = some (.slice Af c.fs.length cf) := ba3.cell 4
      have x5 : w3.cell? ⟨w.heap.size, 5, none⟩ = some (.slice c.res.a c.res.l.length c.res.c) := ba3.cell 5
      have x6 : w3.cell? ⟨w.heap.size, 6, none⟩ = some (.int .i64 c.broken) := ba3.cell 6
      have lx := ba3.lt
      have Hk3 := Lib.hid hk3
      have Hb3 := Lib.hid bb3
      clear he hk3 hk2 ba3 bb3 bfn3 bt3 Hd Hba Hbf Hbb
      go_wp2_with fail
      refine (refBroken_calls A1 A2 A3 _ _ c1 c2 c3 most Af _ cf c.res _ e2).mono ?_
      rintro e w4 ⟨rfl, hk4⟩
      have bb4 := Hb3.out.keep hk4
      have y0 : w4.cell? ⟨w.heap.size + 1 + 1, 0, none⟩ = some (.slice none 0 0) := bb4.cell 0
      have y1 : w4.cell? ⟨w.heap.size + 1 + 1, 1, none⟩ = some (.slice none 0 0) := bb4.cell 1
      have y2 : w4.cell? ⟨w.heap.size + 1 + 1, 2, none⟩ = some (.slice none 0 0) := bb4.cell 2
      have y3 : w4.cell? ⟨w.heap.size + 1 + 1, 3, none⟩ = some (.int .i64 0) := bb4.cell 3
      have y4 : w4.cell? ⟨w.heap.size + 1 + 1, 4, none⟩ = some (.slice none 0 0) := bb4.cell 4
      have y5 : w4.cell? ⟨w.heap.size + 1 + 1, 5, none⟩ = some (.slice none 0 0) := bb4.cell 5
      have y6 : w4.cell? ⟨w.heap.size + 1 + 1, 6, none⟩ = some (.int .i64 0) := bb4.cell 6
      have fy := bb4.frozen
      have ly := bb4.lt
      have Hfin := Lib.hid (fun (W : World) (hE : Ext (fun q => q = w.heap.size + 1 + 1) w4 W) => show RefC w0 (Grow G w) W (.agg (rcells7 A1 A2 A3 c.s.T.length c.s.P.length c1 c2 c3 most Af c.fs.length cf c.res e2).toArray) { c with broken := e2 } ∧ Keep w W from by
        have hkW : Keep w W := Keep.of_ext2 (Hka.out.trans (Hk3.out.trans hk4)) hE (fun q hq h => by omega)
        have hz' := Hza.out
        exact ⟨⟨A1, A2, A3, c1, c2, c3, most, Af, cf, rfl, ((Hra.out.keep (Hk3.out.trans hk4)).ext hE (fun q hq h => by rcases hq with h1 | h1 <;> omega)).mono (fun k _ hg => hg.elim (fun h => .inl h.1) (fun h => .inr (by omega))), (Hfr.out.keep hkW).mono (fun k _ hg => .inl hg.1)⟩, hkW⟩)
      clear bb4 hk4 Hb3 x0 x1 x2 x3 x4 x5 x6 lx
      unfold rcells7 LD.v at *
      go_wp2
      refine bodyPost_ret (v := .tuple #[.agg #[.slice A1 c.s.T.length c1, .slice A2 c.s.P.length c2, .slice A3 c.s.P.length c3, .int .i64 (most : Int), .slice Af c.fs.length cf, .slice c.res.a c.res.l.length c.res.c, .int .i64 e2], .int .i64 e2]) (by simp [results, Try.results64, go_sem, y0, y1, y2, y3, y4, y5, y6]) rfl ⟨_, by rw [Hcd.out], ?_⟩
      rw [Hcd.out]
      exact Hfin.out _ (ext7 _ _ _ _ _ _ _ _ _)
    have de : (e2 != 0) = false := by simpa using he
    have hr3 : RefAt (fun k => (G k ∧ k < w.heap.size) ∨ wa.heap.size ≤ k) w3 (.agg (rcells A1 A2 A3 s2.T.length c.s.P.length c1 c2 c3 most).toArray) s2 := by
      have := Hcut.out.keep hk3
      exact this
    have HO := Lib.hid (fun (wx : World) (hk' : Keep w3 wx) => refOpen_calls (hr3.keep hk') (by omega) (by omega))
    have HP := Lib.hid (fun (G' : Nat → Prop) (wx : World) (v' : Value) (hr' : RefAt G' wx v' s2.opened) (hk' : Keep w3 wx) => refPush_calls hr' p.l p.a p.c (((Hpr.out.1.seg.keep Hw0.out).keep Hka.out).keep (hk3.trans hk')) (by rw [(Stk.opened_len s2).1]; omega))
    have hd3 : Keep w3 w3.drew := (Keep.refl _).drew
    have hza' := Hza.out
    have hz2 := hk2.size
    have hnt : ¬ (w2.heap.size = w.heap.size) := by omega
    have t0 := fun y : KE (fun q => q = w.heap.size) w3 => y.cell (v := .slice A1 s2.T.length c1) (bt3.cell 0) hnt
    have t1 := fun y : KE (fun q => q = w.heap.size) w3 => y.cell (v := .slice A2 c.s.P.length c2) (bt3.cell 1) hnt
    have t2 := fun y : KE (fun q => q = w.heap.size) w3 => y.cell (v := .slice A3 c.s.P.length c3) (bt3.cell 2) hnt
    have t3 := fun y : KE (fun q => q = w.heap.size) w3 => y.cell (v := .int .i64 (most : Int)) (bt3.cell 3) hnt
    have p1 := fun y : KE (fun q => q = w.heap.size) w3 => y.cell (v := .slice p.a p.l.length p.c) (bfn3.cell 0) (by show ¬ (w.heap.size + 1 = w.heap.size); omega)
    go_wp2_with fail
    refine region_begin (S := fun w' => ∃ y : KE (fun q => q = w.heap.size) w3, w' = y.val) (by kernel_rfl) ?_
    refine region_take [0, 2, 3] [] 4 (by kernel_rfl) (by kernel_rfl) (KE.mk' (Ext.drew (Ext.refl _ _))) ?_
    show wpQuiet _ _ _ _ [_, _, _] _
    repeat (go_big_quiet_step (fail))
    refine wpQuiet_nil ?_
    clear t0 t1 t2 t3 p1 hnt
    refine region_fix (i := 1) (fuel := 3) rfl (by kernel_rfl) (fun K hK => ?_)
    go_simp
    refine (HO.out _ hd3).mono ?_
    rintro e w4 ⟨v4, rfl, hr4, hk4⟩
    have hk34 := hd3.trans hk4
    refine hK _ _ (KE.mk' (hk34.ext _)) ?_
    clear hK K HO
    refine region_fix (i := 4) (fuel := 2) rfl (by kernel_rfl) (fun K hK => ?_)
    go_simp
    refine (HP.out _ _ _ hr4 hk34).mono ?_
    rintro e w5 ⟨v5, rfl, hr5, hk5⟩
    have hk35 := hk34.trans hk5
    refine hK _ _ (KE.mk' (hk35.ext _)) ?_
    clear hK K HP
    obtain ⟨s5, hs5⟩ : ∃ s5, s2.opened.push p.l = s5 := ⟨_, rfl⟩
    rw [hs5] at hr5 Hd
    clear hs5
    have hz3 := hk3.size
    have hz4 : w3.heap.size ≤ w4.heap.size := hk34.size
    have hr5' : RefAt (fun k => (G k ∧ k < w.heap.size) ∨ wa.heap.size ≤ k) w5 v5 s5 := hr5.mono (fun k _ hg => hg.elim (fun h => h.elim id (fun h => .inr (by have e : w3.drew.heap.size = w3.heap.size := rfl; omega))) (fun h => .inr (by omega)))
    obtain ⟨C1, C2, C3, e1', e2', e3', mo', rfl, _⟩ := id hr5'
    have ba5 := ba3.keep hk35
    have bb5 := bb3.keep hk35
    have bfn5 := bfn3.keep hk35
    have hk5' := hk3.trans hk35
    clear hr4 hk4 hk34 hk5 hr5 hr3 hk3 hd3 ba3 bb3 bfn3 bt3
    have x0 : w5.cell? ⟨w.heap.size, 0, none⟩ = some (.slice A1 c.s.T.length c1) := ba5.cell 0
    have x1 : w5.cell? ⟨w.heap.size, 1, none⟩ = some (.slice A2 c.s.P.length c2) := ba5.cell 1
    have x2 : w5.cell? ⟨w.heap.size, 2, none⟩ = some (.slice A3 c.s.P.length c3) := ba5.cell 2
    have x3 : w5.cell? ⟨w.heap.size, 3, none⟩ = some (.int .i64 (most : Int)) := ba5.cell 3
    have fx := ba5.frozen
    have lx := ba5.lt
    refine region_fix (i := 5) (fuel := 1) rfl (by kernel_rfl) (fun K hK => ?_)
    go_simp
    refine hK _ _ (KE.mk' (hk35.ext _)) ?_
    clear hK K
    refine region_fix (i := 6) (fuel := 0) rfl (by kernel_rfl) (fun K hK => ?_)
    go_simp
    obtain ⟨w6, hw6⟩ : ∃ w6 : World, w6 = ((((w5.setCell ⟨w.heap.size, 0, none⟩ (.slice C1 s5.T.length e1')).setCell ⟨w.heap.size, 1, none⟩ (.slice C2 s5.P.length e2')).setCell ⟨w.heap.size, 2, none⟩ (.slice C3 s5.P.length e3')).setCell ⟨w.heap.size, 3, none⟩ (.int .i64 (mo' : Int))) := ⟨_, rfl⟩
    have hE6 : Ext (fun k => k = w.heap.size) w5 w6 := by
      rw [hw6]
      refine Ext.setCell (Ext.setCell (Ext.setCell (Ext.setCell (Ext.refl _ _) ?_ _) ?_ _) ?_ _) ?_ _
      all_goals exact fun _ => rfl
    have ba6 : Blk w6 w.heap.size 74 (rcells7 C1 C2 C3 s5.T.length s5.P.length e1' e2' e3' mo' Af c.fs.length cf c.res c.broken) := by rw [hw6]; exact (((ba5.set_ 0 _).set_ 1 _).set_ 2 _).set_ 3 _
    rw [← hw6]
    refine hK _ _ (KE.mk' ((hk35.ext _).trans hE6 (fun _ _ h => h))) ?_
    clear hK K
    refine region_done (by kernel_rfl) ?_
    have hz5 := hk35.size
    have bb6 := bb5.ext hE6 (by omega)
    have bfn6 := bfn5.ext hE6 (by omega)
    have hk6 : Keep w w6 := Keep.of_ext2 (Hka.out.trans hk5') hE6 (fun q hq h => by omega)
    have hr6 := hr5'.ext hE6 (fun q hq h => by rcases hq with h1 | h1 <;> omega)
    have hz6 := hE6.size
    clear hw6 hE6 hk35 ba5 bb5 bfn5 hr5' hk5' x0 x1 x2 x3 fx lx hk2
    have hRC := (⟨C1, C2, C3, e1', e2', e3', mo', Af, cf, rfl, hr6, (Hfr.out.keep hk6).mono (fun k _ hg => .inl hg)⟩ : RefC w0 (fun k => (G k ∧ k < w.heap.size) ∨ wa.heap.size ≤ k) w6 (.agg (rcells7 C1 C2 C3 s5.T.length s5.P.length e1' e2' e3' mo' Af c.fs.length cf c.res c.broken).toArray) { c with s := s5 })
    obtain ⟨k, hk⟩ : ∃ k, k + 1 = c.fs.length := ⟨c.fs.length - 1, by have := List.length_pos_iff.2 Hz.out; omega⟩
    obtain ⟨f, hf⟩ : ∃ f, c.fs[k]'(by omega) = f := ⟨_, rfl⟩
    have Hlt := Lib.hid (show liveTop c.fs = f.live by
      have : c.fs.getLast? = some f := by rw [List.getLast?_eq_getElem?, show c.fs.length - 1 = k by omega, List.getElem?_eq_getElem (by omega), hf]
      unfold liveTop; rw [this])
    have Ht := Lib.hid (refTop_calls (c := { c with s := s5 }) hRC hk (by show c.fs.length ≤ 1000000; omega) hf)
    clear hRC hk hf
    have x0 : w6.cell? ⟨w.heap.size, 0, none⟩ = some (.slice C1 s5.T.length e1') := ba6.cell 0
    have x1 : w6.cell? ⟨w.heap.size, 1, none⟩ = some (.slice C2 s5.P.length e2') := ba6.cell 1
    have x2 : w6.cell? ⟨w.heap.size, 2, none⟩ = some (.slice C3 s5.P.length e3') := ba6.cell 2
    have x3 : w6.cell? ⟨w.heap.size, 3, none⟩ = some (.int .i64 (mo' : Int)) := ba6.cell 3
    have x4 : w6.cell? ⟨w.heap.size, 4, none⟩ = some (.slice Af c.fs.length cf) := ba6.cell 4
    have x5 : w6.cell? ⟨w.heap.size, 5, none⟩ = some (.slice c.res.a c.res.l.length c.res.c) := ba6.cell 5
    have x6 : w6.cell? ⟨w.heap.size, 6, none⟩ = some (.int .i64 c.broken) := ba6.cell 6
    have lx := ba6.lt
    unfold rcells7 LD.v at Ht
    go_wp2_with fail
    refine Ht.out.mono ?_
    rintro e w7 ⟨rfl, hk7⟩
    clear x0 x1 x2 x3 x4 x5 x6 lx Ht
    go_wp2_with fail
    rw [frame_live]
    go_upto_region 17 with fail
    have ba7 := ba6.keep hk7
    have bb7 := bb6.keep hk7
    have bfn7 := bfn6.keep hk7
    have hz7 := hk7.size
    have hr7 := hr6.keep hk7
    have hkw7 := hk6.trans hk7
    obtain ⟨fn, hfn⟩ : ∃ fn : FrD, fn = ⟨3, p, r, f.live, f.live⟩ := ⟨_, rfl⟩
    have Hcd := Lib.hid (show cd = ({ c with s := s5, fs := c.fs ++ [fn] }, 0) by rw [Hd.out, if_neg (by omega), Hlt.out, hfn])
    have hsz7 : wa.heap.size ≤ w7.heap.size := by omega
    have Hend := Lib.hid (fun (W11 W : World) (B : Option Addr) (d : Nat) (hk : Keep w7 W11) (ho : Own frC 5 105 W11 w7.heap.size (.slice B (c.fs ++ [fn]).length d) (c.fs ++ [fn])) (hd : c.fs.length + 1 ≤ d) (hE : Ext (fun q => q = w.heap.size ∨ q = w.heap.size + 1 + 1) W11 W) =>
      enter_end Hza.out hsz7 hkw7 Hfr.out.res Hfr.out.ls (by rw [hfn]; exact Hpr.out) hr7 hk ho hd hE)
    have Hap1 := Lib.hid (fun (W : World) (e0 : Nat) (hk : Keep w7 W) (ho : Own frC 5 105 W w7.heap.size (.slice (some ⟨e0, 0, none⟩) 0 0) []) => fr_app1 (cf := cf) hk ho ((Hfr.out.keep hkw7).seg) (by omega) (Nat.le_refl _) hk.size)
    have Hap2 := Lib.hid (fun (W : World) (B : Option Addr) (d nb : Nat) (hk : Keep w7 W) (ho : Own frC 5 105 W w7.heap.size (.slice B c.fs.length d) c.fs) (hb : Blk W nb 105 (frC fn)) => fr_app2 hk ho hb (by omega) (Nat.le_refl _) hk.size)
    have Hb7 := Lib.hid ba7
    have Hbb7 := Lib.hid bb7
    have q4 := fun y : KW w7 => y.cell (v := .slice Af c.fs.length cf) (ba7.cell 4)
    have u0 := fun y : KW w7 => y.cell (v := .slice p.a p.l.length p.c) (bfn7.cell 0)
    have u1 := fun y : KW w7 => y.cell (v := .slice r.a r.l.length r.c) (bfn7.cell 1)
    have hd7 : Keep w7 w7.drew := (Keep.refl _).drew
    have Hfn := Lib.hid hfn
    clear hk6 hr6 ba6 bb6 bfn6 hk7 hr7 Hlt hfn ba7 bb7 bfn7 hkw7
    refine tail_begin (S := fun w' => ∃ y : KW w7, w' = y.val) [12] (by kernel_rfl) ?_
    refine tail_take [1, 2, 4, 5, 6, 7, 8] [] 6 (by kernel_rfl) (by kernel_rfl) (InK.mk' hd7) ?_
    show wpQuiet _ _ _ _ [_, _, _, _, _, _, _] _
    repeat (go_big_quiet_step (fail))
    refine wpQuiet_nil ?_
    clear q4 u0 u1
    refine tail_any (is := [0, 9]) (fuel := 5) (by kernel_rfl) (by simp) (mem2 (any_plain rfl rfl fun K hK => ?_) (any_plain rfl rfl fun K hK => ?_))
    · refine wp_buildSlice0 _ _ rfl elFr.slice elFr.info.choose_spec.choose_spec.1 ?_
      refine hK _ _ (fun _ => InK.mk' ((hd7).alloc _)) ?_
      clear hK K
      simp only [Act.put, List.setIfInBounds_toArray, List.set_cons_succ, List.set_cons_zero]
      refine gen_wpAnyT (fun W => Keep w7 W ∧ Own frC 5 105 W w7.heap.size (.slice (some ⟨w7.heap.size, 0, none⟩) 0 0) [] ∧ w7.heap.size < W.heap.size) ⟨hd7.alloc _, Own.empty frC 5 105 w7.drew (Nat.le_refl _), by simp⟩ ?_
      rintro w8 ⟨k8, o8, z8⟩
      refine tail_any (is := [3, 9]) (fuel := 4) (by kernel_rfl) (by simp) (mem2 (any_plain rfl rfl fun K hK => ?_) (any_plain rfl rfl fun K hK => ?_))
      · obtain ⟨B1, d1, w9, ha9, o9, k9, z9, _, _⟩ := Hap1.out w8 _ k8 o8
        refine wp_append_eq _ _ _ rfl _ _ rfl rfl _ _ ha9 ?_
        refine hK _ _ (fun _ => InK.mk' k9) ?_
        clear hK K ha9
        simp only [Act.put, List.setIfInBounds_toArray, List.set_cons_succ, List.set_cons_zero]
        refine tail_fixU (i := 9) (fuel := 3) rfl rfl (by kernel_rfl) (fun K hK => ?_)
        go_simp
        refine hK _ _ (fun _ => InK.mk' ((k9).alloc _)) ?_
        clear hK K
        refine gen_wpAnyT (fun W => Keep w7 W ∧ Own frC 5 105 W w7.heap.size (.slice B1 c.fs.length d1) c.fs ∧ Blk W w9.heap.size 105 (frC fn)) ⟨k9.alloc _, o9.alloc _, by rw [Hfn.out]; exact Blk.new w9 _ (frC ⟨3, p, r, f.live, f.live⟩)⟩ ?_
        rintro w10 ⟨k10, o10, b10⟩
        obtain ⟨B2, d2, w11, ha11, ho11, k11, hd2⟩ := Hap2.out w10 _ _ _ k10 o10 b10
        refine tail_fixU (i := 10) (fuel := 2) rfl rfl (by kernel_rfl) (fun K hK => ?_)
        refine wp_append_eq _ _ _ rfl _ _ rfl rfl _ _ ha11 ?_
        refine hK _ _ (fun _ => InK.mk' k11) ?_
        clear hK K
        simp only [Act.put, List.setIfInBounds_toArray, List.set_cons_succ, List.set_cons_zero]
        clear ha11 b10 o10 k10 o9 k9 o8 k8 z8 z9
        have bz := Hb7.out.keep k11
        have z4 : w11.cell? ⟨w.heap.size, 4, none⟩ = some (.slice Af c.fs.length cf) := bz.cell 4
        have fz := bz.frozen
        have lz := bz.lt
        refine tail_take [11] _ 1 (by kernel_rfl) (by kernel_rfl) (InK.mk' k11) ?_
        show wpQuiet _ _ _ _ [_] _
        repeat (go_big_quiet_step (fail))
        refine wpQuiet_nil ?_
        refine tail_fix (i := 12) (fuel := 0) rfl (by kernel_rfl) (fun K hK => ?_)
        go_simp
        refine hK _ _ (fun h => absurd h (by decide)) ?_
        clear hK K
        refine tail_done (by kernel_rfl) ?_
        obtain ⟨w12, hw12⟩ : ∃ w12 : World, w12 = w11.setCell ⟨w.heap.size, 4, none⟩ (.slice B2 (c.fs.length + 1) d2) := ⟨_, rfl⟩
        have hE12 : Ext (fun q => q = w.heap.size) w11 w12 := by
          rw [hw12]
          refine Ext.setCell (Ext.refl _ _) ?_ _
          exact fun _ => rfl
        have ba12 : Blk w12 w.heap.size 74 (rcells7 C1 C2 C3 s5.T.length s5.P.length e1' e2' e3' mo' B2 (c.fs.length + 1) d2 c.res c.broken) := by rw [hw12]; exact bz.set_ 4 _
        have bb12 := (Hbb7.out.keep k11).ext hE12 (by omega)
        have He12 := Lib.hid (fun (W : World) (hE : Ext (fun q => q = w.heap.size + 1 + 1) w12 W) => Hend.out w11 W B2 d2 k11 ho11 hd2 ((hE12.mono (fun k _ h => .inl h)).trans hE (fun i _ h => .inr h)))
        rw [← hw12]
        clear hw12 hE12 bz z4 fz lz Hap1 Hap2 Hend
        have x0 : w12.cell? ⟨w.heap.size, 0, none⟩ = some (.slice C1 s5.T.length e1') := ba12.cell 0
        have x1 : w12.cell? ⟨w.heap.size, 1, none⟩ = some (.slice C2 s5.P.length e2') := ba12.cell 1
        have x2 : w12.cell? ⟨w.heap.size, 2, none⟩ = some (.slice C3 s5.P.length e3') := ba12.cell 2
        have x3 : w12.cell? ⟨w.heap.size, 3, none⟩ = some (.int .i64 (mo' : Int)) := ba12.cell 3
        have x4 : w12.cell? ⟨w.heap.size, 4, none⟩ = some (.slice B2 (c.fs.length + 1) d2) := ba12.cell 4
        have x5 : w12.cell? ⟨w.heap.size, 5, none⟩ = some (.slice c.res.a c.res.l.length c.res.c) := ba12.cell 5
        have x6 : w12.cell? ⟨w.heap.size, 6, none⟩ = some (.int .i64 c.broken) := ba12.cell 6
        have y0 : w12.cell? ⟨w.heap.size + 1 + 1, 0, none⟩ = some (.slice none 0 0) := bb12.cell 0
        have y1 : w12.cell? ⟨w.heap.size + 1 + 1, 1, none⟩ = some (.slice none 0 0) := bb12.cell 1
        have y2 : w12.cell? ⟨w.heap.size + 1 + 1, 2, none⟩ = some (.slice none 0 0) := bb12.cell 2
        have y3 : w12.cell? ⟨w.heap.size + 1 + 1, 3, none⟩ = some (.int .i64 0) := bb12.cell 3
        have y4 : w12.cell? ⟨w.heap.size + 1 + 1, 4, none⟩ = some (.slice none 0 0) := bb12.cell 4
        have y5 : w12.cell? ⟨w.heap.size + 1 + 1, 5, none⟩ = some (.slice none 0 0) := bb12.cell 5
        have y6 : w12.cell? ⟨w.heap.size + 1 + 1, 6, none⟩ = some (.int .i64 0) := bb12.cell 6
        have fx := ba12.frozen
        have lx := ba12.lt
        have fy := bb12.frozen
        have ly := bb12.lt
        clear ba12 bb12
        unfold rcells7 LD.v at *
        go_wp2
        refine bodyPost_ret (v := .tuple #[.agg #[.slice C1 s5.T.length e1', .slice C2 s5.P.length e2', .slice C3 s5.P.length e3', .int .i64 (mo' : Int), .slice B2 (c.fs.length + 1) d2, .slice c.res.a c.res.l.length c.res.c, .int .i64 c.broken], .int .i64 0]) (by simp [results, Try.results64, go_sem, y0, y1, y2, y3, y4, y5, y6]) rfl ⟨_, by rw [Hcd.out], ?_⟩
        rw [Hcd.out]
        exact He12.out _ (ext7 _ _ _ _ _ _ _ _ _)
      · go_simp
        refine hK _ _ (fun _ => InK.mk' ((k8).alloc _)) ?_
        clear hK K
        refine gen_wpAnyT (fun W => Keep w7 W ∧ Own frC 5 105 W w7.heap.size (.slice (some ⟨w7.heap.size, 0, none⟩) 0 0) [] ∧ Blk W w8.heap.size 105 (frC fn)) ⟨k8.alloc _, o8.alloc _, by rw [Hfn.out]; exact Blk.new w8 _ (frC ⟨3, p, r, f.live, f.live⟩)⟩ ?_
        rintro w9 ⟨k9, o9, b9⟩
        obtain ⟨B1, d1, w10, ha10, o10, k10, z10, hb10, _⟩ := Hap1.out w9 _ k9 o9
        have b10 := hb10 _ _ (by omega) b9
        refine tail_fixU (i := 3) (fuel := 3) rfl rfl (by kernel_rfl) (fun K hK => ?_)
        refine wp_append_eq _ _ _ rfl _ _ rfl rfl _ _ ha10 ?_
        refine hK _ _ (fun _ => InK.mk' k10) ?_
        clear hK K
        simp only [Act.put, List.setIfInBounds_toArray, List.set_cons_succ, List.set_cons_zero]
        obtain ⟨B2, d2, w11, ha11, ho11, k11, hd2⟩ := Hap2.out w10 _ _ _ k10 o10 b10
        refine tail_fixU (i := 10) (fuel := 2) rfl rfl (by kernel_rfl) (fun K hK => ?_)
        refine wp_append_eq _ _ _ rfl _ _ rfl rfl _ _ ha11 ?_
        refine hK _ _ (fun _ => InK.mk' k11) ?_
        clear hK K
        simp only [Act.put, List.setIfInBounds_toArray, List.set_cons_succ, List.set_cons_zero]
        clear ha11 ha10 hb10 b10 b9 o10 k10 o9 k9 o8 k8 z8 z10
        have bz := Hb7.out.keep k11
        have z4 : w11.cell? ⟨w.heap.size, 4, none⟩ = some (.slice Af c.fs.length cf) := bz.cell 4
        have fz := bz.frozen
        have lz := bz.lt
        refine tail_take [11] _ 1 (by kernel_rfl) (by kernel_rfl) (InK.mk' k11) ?_
        show wpQuiet _ _ _ _ [_] _
        repeat (go_big_quiet_step (fail))
        refine wpQuiet_nil ?_
        refine tail_fix (i := 12) (fuel := 0) rfl (by kernel_rfl) (fun K hK => ?_)
        go_simp
        refine hK _ _ (fun h => absurd h (by decide)) ?_
        clear hK K
        refine tail_done (by kernel_rfl) ?_
        obtain ⟨w12, hw12⟩ : ∃ w12 : World, w12 = w11.setCell ⟨w.heap.size, 4, none⟩ (.slice B2 (c.fs.length + 1) d2) := ⟨_, rfl⟩
        have hE12 : Ext (fun q => q = w.heap.size) w11 w12 := by
          rw [hw12]
          refine Ext.setCell (Ext.refl _ _) ?_ _
          exact fun _ => rfl
        have ba12 : Blk w12 w.heap.size 74 (rcells7 C1 C2 C3 s5.T.length s5.P.length e1' e2' e3' mo' B2 (c.fs.length + 1) d2 c.res c.broken) := by rw [hw12]; exact bz.set_ 4 _
        have bb12 := (Hbb7.out.keep k11).ext hE12 (by omega)
        have He12 := Lib.hid (fun (W : World) (hE : Ext (fun q => q = w.heap.size + 1 + 1) w12 W) => Hend.out w11 W B2 d2 k11 ho11 hd2 ((hE12.mono (fun k _ h => .inl h)).trans hE (fun i _ h => .inr h)))
        rw [← hw12]
        clear hw12 hE12 bz z4 fz lz Hap1 Hap2 Hend
        have x0 : w12.cell? ⟨w.heap.size, 0, none⟩ = some (.slice C1 s5.T.length e1') := ba12.cell 0
        have x1 : w12.cell? ⟨w.heap.size, 1, none⟩ = some (.slice C2 s5.P.length e2') := ba12.cell 1
        have x2 : w12.cell? ⟨w.heap.size, 2, none⟩ = some (.slice C3 s5.P.length e3') := ba12.cell 2
        have x3 : w12.cell? ⟨w.heap.size, 3, none⟩ = some (.int .i64 (mo' : Int)) := ba12.cell 3
        have x4 : w12.cell? ⟨w.heap.size, 4, none⟩ = some (.slice B2 (c.fs.length + 1) d2) := ba12.cell 4
        have x5 : w12.cell? ⟨w.heap.size, 5, none⟩ = some (.slice c.res.a c.res.l.length c.res.c) := ba12.cell 5
        have x6 : w12.cell? ⟨w.heap.size, 6, none⟩ = some (.int .i64 c.broken) := ba12.cell 6
        have y0 : w12.cell? ⟨w.heap.size + 1 + 1, 0, none⟩ = some (.slice none 0 0) := bb12.cell 0
        have y1 : w12.cell? ⟨w.heap.size + 1 + 1, 1, none⟩ = some (.slice none 0 0) := bb12.cell 1
        have y2 : w12.cell? ⟨w.heap.size + 1 + 1, 2, none⟩ = some (.slice none 0 0) := bb12.cell 2
        have y3 : w12.cell? ⟨w.heap.size + 1 + 1, 3, none⟩ = some (.int .i64 0) := bb12.cell 3
        have y4 : w12.cell? ⟨w.heap.size + 1 + 1, 4, none⟩ = some (.slice none 0 0) := bb12.cell 4
        have y5 : w12.cell? ⟨w.heap.size + 1 + 1, 5, none⟩ = some (.slice none 0 0) := bb12.cell 5
        have y6 : w12.cell? ⟨w.heap.size + 1 + 1, 6, none⟩ = some (.int .i64 0) := bb12.cell 6
        have fx := ba12.frozen
        have lx := ba12.lt
        have fy := bb12.frozen
        have ly := bb12.lt
        clear ba12 bb12
        unfold rcells7 LD.v at *
        go_wp2
        refine bodyPost_ret (v := .tuple #[.agg #[.slice C1 s5.T.length e1', .slice C2 s5.P.length e2', .slice C3 s5.P.length e3', .int .i64 (mo' : Int), .slice B2 (c.fs.length + 1) d2, .slice c.res.a c.res.l.length c.res.c, .int .i64 c.broken], .int .i64 0]) (by simp [results, Try.results64, go_sem, y0, y1, y2, y3, y4, y5, y6]) rfl ⟨_, by rw [Hcd.out], ?_⟩
        rw [Hcd.out]
        exact He12.out _ (ext7 _ _ _ _ _ _ _ _ _)
    · go_simp
      refine hK _ _ (fun _ => InK.mk' ((hd7).alloc _)) ?_
      clear hK K
      refine gen_wpAnyT (fun W => Keep w7 W ∧ Blk W w7.heap.size 105 (frC fn)) ⟨hd7.alloc _, by rw [Hfn.out]; exact Blk.new w7.drew _ (frC ⟨3, p, r, f.live, f.live⟩)⟩ ?_
      rintro w8 ⟨k8, b8⟩
      refine tail_fixU (i := 0) (fuel := 4) rfl rfl (by kernel_rfl) (fun K hK => ?_)
      refine wp_buildSlice0 _ _ rfl elFr.slice elFr.info.choose_spec.choose_spec.1 ?_
      refine hK _ _ (fun _ => InK.mk' ((k8).alloc _)) ?_
      clear hK K
      simp only [Act.put, List.setIfInBounds_toArray, List.set_cons_succ, List.set_cons_zero]
      refine gen_wpAnyT (fun W => Keep w7 W ∧ Own frC 5 105 W w7.heap.size (.slice (some ⟨w8.heap.size, 0, none⟩) 0 0) [] ∧ Blk W w7.heap.size 105 (frC fn)) ⟨k8.alloc _, Own.empty frC 5 105 w8 k8.size, b8.keep ((Keep.refl _).alloc _)⟩ ?_
      rintro w9 ⟨k9, o9, b9⟩
      have l8 := b8.lt
      obtain ⟨B1, d1, w10, ha10, o10, k10, z10, hb10, _⟩ := Hap1.out w9 _ k9 o9
      have b10 := hb10 _ _ (by omega) b9
      refine tail_fixU (i := 3) (fuel := 3) rfl rfl (by kernel_rfl) (fun K hK => ?_)
      refine wp_append_eq _ _ _ rfl _ _ rfl rfl _ _ ha10 ?_
      refine hK _ _ (fun _ => InK.mk' k10) ?_
      clear hK K
      simp only [Act.put, List.setIfInBounds_toArray, List.set_cons_succ, List.set_cons_zero]
      obtain ⟨B2, d2, w11, ha11, ho11, k11, hd2⟩ := Hap2.out w10 _ _ _ k10 o10 b10
      refine tail_fixU (i := 10) (fuel := 2) rfl rfl (by kernel_rfl) (fun K hK => ?_)
      refine wp_append_eq _ _ _ rfl _ _ rfl rfl _ _ ha11 ?_
      refine hK _ _ (fun _ => InK.mk' k11) ?_
      clear hK K
      simp only [Act.put, List.setIfInBounds_toArray, List.set_cons_succ, List.set_cons_zero]
      clear ha11 ha10 hb10 b10 b9 o10 k10 o9 k9 b8 k8 l8 z10
      have bz := Hb7.out.keep k11
      have z4 : w11.cell? ⟨w.heap.size, 4, none⟩ = some (.slice Af c.fs.length cf) := bz.cell 4
      have fz := bz.frozen
      have lz := bz.lt
      refine tail_take [11] _ 1 (by kernel_rfl) (by kernel_rfl) (InK.mk' k11) ?_
      show wpQuiet _ _ _ _ [_] _
      repeat (go_big_quiet_step (fail))
      refine wpQuiet_nil ?_
      refine tail_fix (i := 12) (fuel := 0) rfl (by kernel_rfl) (fun K hK => ?_)
      go_simp
      refine hK _ _ (fun h => absurd h (by decide)) ?_
      clear hK K
      refine tail_done (by kernel_rfl) ?_
      obtain ⟨w12, hw12⟩ : ∃ w12 : World, w12 = w11.setCell ⟨w.heap.size, 4, none⟩ (.slice B2 (c.fs.length + 1) d2) := ⟨_, rfl⟩
      have hE12 : Ext (fun q => q = w.heap.size) w11 w12 := by
        rw [hw12]
        refine Ext.setCell (Ext.refl _ _) ?_ _
        exact fun _ => rfl
      have ba12 : Blk w12 w.heap.size 74 (rcells7 C1 C2 C3 s5.T.length s5.P.length e1' e2' e3' mo' B2 (c.fs.length + 1) d2 c.res c.broken) := by rw [hw12]; exact bz.set_ 4 _
      have bb12 := (Hbb7.out.keep k11).ext hE12 (by omega)
      have He12 := Lib.hid (fun (W : World) (hE : Ext (fun q => q = w.heap.size + 1 + 1) w12 W) => Hend.out w11 W B2 d2 k11 ho11 hd2 ((hE12.mono (fun k _ h => .inl h)).trans hE (fun i _ h => .inr h)))
      rw [← hw12]
      clear hw12 hE12 bz z4 fz lz Hap1 Hap2 Hend
      have x0 : w12.cell? ⟨w.heap.size, 0, none⟩ = some (.slice C1 s5.T.length e1') := ba12.cell 0
      have x1 : w12.cell? ⟨w.heap.size, 1, none⟩ = some (.slice C2 s5.P.length e2') := ba12.cell 1
      have x2 : w12.cell? ⟨w.heap.size, 2, none⟩ = some (.slice C3 s5.P.length e3') := ba12.cell 2
      have x3 : w12.cell? ⟨w.heap.size, 3, none⟩ = some (.int .i64 (mo' : Int)) := ba12.cell 3
      have x4 : w12.cell? ⟨w.heap.size, 4, none⟩ = some (.slice B2 (c.fs.length + 1) d2) := ba12.cell 4
      have x5 : w12.cell? ⟨w.heap.size, 5, none⟩ = some (.slice c.res.a c.res.l.length c.res.c) := ba12.cell 5
      have x6 : w12.cell? ⟨w.heap.size, 6, none⟩ = some (.int .i64 c.broken) := ba12.cell 6
      have y0 : w12.cell? ⟨w.heap.size + 1 + 1, 0, none⟩ = some (.slice none 0 0) := bb12.cell 0
      have y1 : w12.cell? ⟨w.heap.size + 1 + 1, 1, none⟩ = some (.slice none 0 0) := bb12.cell 1
      have y2 : w12.cell? ⟨w.heap.size + 1 + 1, 2, none⟩ = some (.slice none 0 0) := bb12.cell 2
      have y3 : w12.cell? ⟨w.heap.size + 1 + 1, 3, none⟩ = some (.int .i64 0) := bb12.cell 3
      have y4 : w12.cell? ⟨w.heap.size + 1 + 1, 4, none⟩ = some (.slice none 0 0) := bb12.cell 4
      have y5 : w12.cell? ⟨w.heap.size + 1 + 1, 5, none⟩ = some (.slice none 0 0) := bb12.cell 5
      have y6 : w12.cell? ⟨w.heap.size + 1 + 1, 6, none⟩ = some (.int .i64 0) := bb12.cell 6
      have fx := ba12.frozen
      have lx := ba12.lt
      have fy := bb12.frozen
      have ly := bb12.lt
      clear ba12 bb12
      unfold rcells7 LD.v at *
      go_wp2
      refine bodyPost_ret (v := .tuple #[.agg #[.slice C1 s5.T.length e1', .slice C2 s5.P.length e2', .slice C3 s5.P.length e3', .int .i64 (mo' : Int), .slice B2 (c.fs.length + 1) d2, .slice c.res.a c.res.l.length c.res.c, .int .i64 c.broken], .int .i64 0]) (by simp [results, Try.results64, go_sem, y0, y1, y2, y3, y4, y5, y6]) rfl ⟨_, by rw [Hcd.out], ?_⟩
      rw [Hcd.out]
      exact He12.out _ (ext7 _ _ _ _ _ _ _ _ _)
end Go.Proofs.Ytkeefajfndmpeaa
