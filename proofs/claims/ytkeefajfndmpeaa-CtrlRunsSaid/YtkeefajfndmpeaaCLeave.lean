/-
  Else, Leave.
-/
import Derived.Test.YtkeefajfndmpeaaCElse
namespace Go.Proofs.Ytkeefajfndmpeaa
open Go Go.RowKit


theorem leave_no {F : Nat → Prop} {w : World} {b bst : Nat} {c : Ctl} (h : CAt F w b bst c) (hcase : c.broken ≠ 0 ∨ c.bs = []) :
    Calls Try.prog 38 #[.pointer (some ⟨b, 0, none⟩)] w fun e w' => e = .returned (.int .i64 c.leave.2) ∧ CLeft F w b bst c.leave.1 w' := by
  have Hh := Lib.hid h
  obtain ⟨F1, vb, bds, rd, h, hb, hr⟩ := h
  obtain ⟨A, cc, rfl, _⟩ := h.form
  have Hm := Lib.hid (wrong_calls h)
  have c1 : w.cell? ⟨b, 1, none⟩ = some (.slice A bds.length cc) := h.blk.cell 1
  have lb := h.blk.lt
  by_cases h0b : c.broken = 0
  rotate_left
  · have hd : Hid (c.leave = (c, c.broken)) := Lib.hid (by unfold Ctl.leave; rw [if_pos h0b])
    have hne : (c.broken != 0) = true := by simpa using h0b
    clear h0b h hb hr hcase
    go_enter Try.func38, Try.ntmps38
    go_wp2_with fail
    refine Hm.out.mono ?_
    rintro e w1 ⟨rfl, rfl⟩
    go_wp2
    go_ret
    rw [hd.out]
    exact ⟨rfl, CLeft.of_keep Hh.out (Keep.refl _)⟩
  · have hcb := hcase.elim (fun h1 => absurd h0b h1) id
    have hz : bds = [] := by rw [hcb] at hb; simpa using hb
    subst hz
    have hd : Hid (c.leave = (c, 16)) := Lib.hid (by unfold Ctl.leave; rw [if_neg (by simpa using h0b), if_pos hcb])
    rw [h0b] at Hm
    clear h0b h hb hr hcase hcb
    go_enter Try.func38, Try.ntmps38
    go_wp2_with fail
    refine Hm.out.mono ?_
    rintro e w1 ⟨rfl, rfl⟩
    go_wp2
    go_ret
    rw [hd.out]
    exact ⟨rfl, CLeft.of_keep Hh.out (Keep.refl _)⟩

set_option maxHeartbeats 4000000 in
set_option maxRecDepth 100000 in
theorem leave_yes {F : Nat → Prop} {w : World} {b bst : Nat} {c : Ctl} (h : CAt F w b bst c) (hok : c.s.Ok) (h0b : c.broken = 0) (hcb : c.bs ≠ [])
    (hn : c.s.T.length ≤ 800000) (hm : c.s.P.length ≤ 800000) (hbn : c.bs.length ≤ 800000) (hpl : c.top.p.length ≤ 100000) (hql : c.top.r.length ≤ 100000) :
    Calls Try.prog 38 #[.pointer (some ⟨b, 0, none⟩)] w fun e w' => e = .returned (.int .i64 c.leave.2) ∧ CLeft F w b bst c.leave.1 w' := by
  have Hh := Lib.hid h
  obtain ⟨F1, vb, bds, rd, h, hb, hr⟩ := h
  obtain ⟨init, X, rfl⟩ := snoc_of hb hcb
  obtain ⟨xk, xp, xr, xo, xl⟩ := X
  obtain ⟨htop, hdrop, _⟩ := top_of hb
  rw [htop] at hpl hql
  have hpl : xp.l.length ≤ 100000 := hpl
  have hql : xr.l.length ≤ 100000 := hql
  rw [h0b] at h
  obtain ⟨g, cc, rfl, hg, _, hcell⟩ := bd_at h.own (k := init.length) (by simp)
  rw [show (init ++ [BD.mk xk xp xr xo xl])[init.length]'(by simp) = BD.mk xk xp xr xo xl by simp] at hcell
  have hxl := h.ls (BD.mk xk xp xr xo xl) (by simp)
  obtain ⟨N, hN⟩ : ∃ N, N = (init ++ [BD.mk xk xp xr xo xl]).length := ⟨_, rfl⟩
  have hNl : N = init.length + 1 := by rw [hN]; simp
  have hil : init.length ≤ 800000 := by rw [← hb] at hbn; simp at hbn; omega
  have Hm := Lib.hid (wrong_calls h)
  have c0 : w.cell? ⟨b, 0, none⟩ = some (.pointer (some ⟨bst, 0, none⟩)) := h.blk.cell 0
  have c1 : w.cell? ⟨b, 1, none⟩ = some (.slice (some ⟨g, 0, none⟩) N cc) := by rw [hN]; exact h.blk.cell 1
  have lb := h.blk.lt
  have q0 : w.cell? ⟨g, init.length * 5, none⟩ = some (.int .i64 xk) := hcell 0 _ rfl
  have q2 : w.cell? ⟨g, init.length * 5 + 2, none⟩ = some (.slice xr.a xr.l.length xr.c) := hcell 2 _ rfl
  have q3 : w.cell? ⟨g, init.length * 5 + 3, none⟩ = some (.bool xo) := hcell 3 _ rfl
  have hi1 : (N : Int) - 1 = (init.length : Int) := by omega
  have hw : IntKind.i64.wrap ((N : Int) - 1) = (init.length : Int) := by rw [hi1]; exact IntWalk.i64_in _ (by omega)
  have hm0 : (0 : Int) ≤ (init.length : Int) := by omega
  have hm1 : (init.length : Int) < (N : Int) := by omega
  have hlz : ((N : Int) == 0) = false := by simp; omega
  have hrow := h.row g rfl
  have Hb := Lib.hid hb
  have Hr := Lib.hid hr
  have Hb0 := Lib.hid h0b
  have Hdrop := Lib.hid hdrop
  have Hh1 := Lib.hid h
  by_cases hsh : (c.s.shut xr.l).2 = 0
  rotate_left
  · have hsb : ((c.s.shut xr.l).2 != 0) = true := by simpa using hsh
    have Hsf := Lib.hid (c.s.shut_fail xr.l hsh)
    have hd : Hid (c.leave = c.broke (c.s.shut xr.l).2) := Lib.hid (by unfold Ctl.leave; rw [if_neg (by simpa using h0b), if_neg hcb, htop]; rw [if_neg (by show ¬ (c.s.shut xr.l).2 = 0; exact hsh)]; rfl)
    clear hsh h hb hr hcell hN hNl hi1 htop hdrop h0b hcb hbn
    go_enter Try.func38, Try.ntmps38
    go_wp2_with fail
    refine Hm.out.mono ?_
    rintro e w1 ⟨rfl, rfl⟩
    go_wp2_with fail
    have x0 := fun y : KE F1 w => y.cell c0 Hh1.out.nb
    have x1 := fun y : KE F1 w => y.cell c1 Hh1.out.nb
    have x2 := fun y : KE F1 w => y.cell q2 hrow.2
    refine region_begin (S := fun w' => ∃ y : KE F1 w, w' = y.val) (by kernel_rfl) ?_
    refine region_take [0, 1, 2, 3, 4, 5, 6, 7, 8, 9, 10, 11, 12, 13] [] 2 (by kernel_rfl) (by kernel_rfl) (KE.mk' (Ext.drew (Ext.refl _ _))) ?_
    show wpQuiet _ _ _ _ [_, _, _, _, _, _, _, _, _, _, _, _, _, _] _
    repeat (go_big_quiet_step (fail))
    refine wpQuiet_nil ?_
    clear x0 x1 x2
    have hkd : Keep w w.drew := (Keep.refl _).drew
    have h1 := Hh1.out.keep hkd
    refine region_fix (i := 14) (fuel := 1) rfl (by kernel_rfl) (fun K hK => ?_)
    go_simp
    refine (shut_calls h1.st hok xr.l xr.a xr.c (hxl.2.keep hkd).seg (by omega) (by omega) (by omega)).mono ?_
    rintro e w2 ⟨rfl, hl2⟩
    refine hK _ _ (KE.mk' ((hkd.ext F1).trans hl2.1 (fun _ _ h => h))) ?_
    clear hK K
    refine region_take [15] [0, 1, 2, 3, 4, 5, 6, 7, 8, 9, 10, 11, 12, 13, 14] 0 (by kernel_rfl) (by kernel_rfl) (KE.mk' ((hkd.ext F1).trans hl2.1 (fun _ _ h => h))) ?_
    show wpQuiet _ _ _ _ [_] _
    repeat (go_big_quiet_step (fail))
    refine wpQuiet_nil ?_
    refine region_done (by kernel_rfl) ?_
    obtain ⟨F2, G2, h2, hE2, hF2⟩ := h1.stack hl2
    clear hl2 h1
    go_wp2_with fail
    refine (broke_calls h2 (c.s.shut xr.l).2).mono ?_
    rintro e w3 ⟨rfl, h3, hE3⟩
    have Hfin := Lib.hid (show CLeft F w b bst (c.broke (c.s.shut xr.l).2).1 w3 from CLeft.mk (((hkd.ext F).trans hE2 (fun _ _ h => h)).trans hE3 (fun k hk hf => (hF2 k hf).elim id (fun h4 => by have e : w.drew.heap.size = w.heap.size := rfl; omega))) hF2 (by have h5 := h3; rw [Hsf.out] at h5; exact h5) Hb.out Hr.out)
    clear h2 h3 hE3 hE2 hF2
    go_wp2
    go_ret
    rw [hd.out]
    exact ⟨rfl, Hfin.out⟩
  · have hsb : ((c.s.shut xr.l).2 != 0) = false := by simpa using hsh
    obtain ⟨s2, hs2⟩ : ∃ s2, s2 = (c.s.shut xr.l).1 := ⟨_, rfl⟩
    have hs2l := c.s.shut_le xr.l
    rw [← hs2] at hs2l
    have hd0 : c.leave = (if xk = 4 ∧ xo = false ∧ xp.l ≠ xr.l then ({ c with s := s2, bs := init.map BD.plain } : Ctl).broke 12 else ({ c with s := s2.push xr.l, bs := init.map BD.plain, live := xl }, 0)) := by unfold Ctl.leave; rw [if_neg (by simpa using h0b), if_neg hcb, htop]; rw [if_pos (by show (c.s.shut xr.l).2 = 0; exact hsh), hdrop, hs2]; rfl
    have hnbs : (xk == 4) = decide (xk = 4) := rfl
    clear hnbs
    by_cases hifs : xk = 4 ∧ xo = false
    · have k4 : (xk == 4) = true := by simp [hifs.1]
      obtain rfl : xo = false := hifs.2
      by_cases hpr : xp.l = xr.l
      · have hdt : decide (xp.l = xr.l) = true := decide_eq_true hpr
        have hd := Lib.hid (show c.leave = ({ c with s := s2.push xr.l, bs := init.map BD.plain, live := xl }, 0) by rw [hd0, if_neg (fun h1 => h1.2.2 hpr)])
        clear hsh h hb hr hcell hN hNl hi1 htop hdrop h0b hcb hbn hd0 hpr hifs
        go_enter Try.func38, Try.ntmps38
        go_wp2_with fail
        refine Hm.out.mono ?_
        rintro e w1 ⟨rfl, rfl⟩
        go_wp2_with fail
        have x0 := fun y : KE F1 w => y.cell c0 Hh1.out.nb
        have x1 := fun y : KE F1 w => y.cell c1 Hh1.out.nb
        have x2 := fun y : KE F1 w => y.cell q2 hrow.2
        refine region_begin (S := fun w' => ∃ y : KE F1 w, w' = y.val) (by kernel_rfl) ?_
        refine region_take [0, 1, 2, 3, 4, 5, 6, 7, 8, 9, 10, 11, 12, 13] [] 2 (by kernel_rfl) (by kernel_rfl) (KE.mk' (Ext.drew (Ext.refl _ _))) ?_
        show wpQuiet _ _ _ _ [_, _, _, _, _, _, _, _, _, _, _, _, _, _] _
        repeat (go_big_quiet_step (fail))
        refine wpQuiet_nil ?_
        clear x0 x1 x2
        have hkd : Keep w w.drew := (Keep.refl _).drew
        have h1 := Hh1.out.keep hkd
        refine region_fix (i := 14) (fuel := 1) rfl (by kernel_rfl) (fun K hK => ?_)
        go_simp
        refine (shut_calls h1.st hok xr.l xr.a xr.c (hxl.2.keep hkd).seg (by omega) (by omega) (by omega)).mono ?_
        rintro e w2 ⟨rfl, hl2⟩
        refine hK _ _ (KE.mk' ((hkd.ext F1).trans hl2.1 (fun _ _ h => h))) ?_
        clear hK K
        refine region_take [15] [0, 1, 2, 3, 4, 5, 6, 7, 8, 9, 10, 11, 12, 13, 14] 0 (by kernel_rfl) (by kernel_rfl) (KE.mk' ((hkd.ext F1).trans hl2.1 (fun _ _ h => h))) ?_
        show wpQuiet _ _ _ _ [_] _
        repeat (go_big_quiet_step (fail))
        refine wpQuiet_nil ?_
        refine region_done (by kernel_rfl) ?_
        rw [← hs2] at hl2
        obtain ⟨F2, G2, h2, hE2, hF2⟩ := h1.stack hl2
        clear hl2 h1 hs2
        go_wp2_with fail
        refine (cpop_calls h2 (by omega)).mono ?_
        rintro e w3' ⟨rfl, F3, vb3, h3', hE3, hF3⟩
        have hka : Keep w3' (w3'.alloc (.cells (blkC (BD.mk xk xp xr false xl)).toArray 100)) := (Keep.refl _).alloc _
        have xp3 := (((hxl.1.keep hkd).ext hE2 hF2).ext hE3 hF3).keep hka
        have xr3 := (((hxl.2.keep hkd).ext hE2 hF2).ext hE3 hF3).keep hka
        have hE03 : Ext F w w3' := ((hkd.ext F).trans hE2 (fun _ _ h => h)).trans hE3 (fun k hk hf => (hF2 k hf).elim id (fun h4 => by have e : w.drew.heap.size = w.heap.size := rfl; omega))
        have hF03 : ∀ k, F3 k → F k ∨ w.heap.size ≤ k := fun k hf => (hF3 k hf).elim (hF2 k) (fun h4 => .inr (by have := ((hkd.ext F).trans hE2 (fun _ _ h => h)).size; omega))
        have bx : Blk (w3'.alloc (.cells (blkC (BD.mk xk xp xr false xl)).toArray 100)) w3'.heap.size 100 (blkC (BD.mk xk xp xr false xl)) := Blk.new _ _ _
        have nx : ¬ F3 w3'.heap.size := fun hf => by have := h3'.lt _ hf; omega
        clear hE2 hF2 hE3 hF3 h2
        obtain ⟨w3, hw3⟩ : ∃ w3 : World, w3 = w3'.alloc (.cells (blkC (BD.mk xk xp xr false xl)).toArray 100) := ⟨_, rfl⟩
        rw [← hw3] at xp3 xr3 bx hka
        have h3 := h3'.keep hka
        have hE03' := hE03.keepTrans hka
        go_wp2_with fail
        show Calls Try.prog _ _ (w3'.alloc (.cells (blkC (BD.mk xk xp xr false xl)).toArray 100)) _
        rw [← hw3]
        clear hw3
        refine (sameVals_calls xp.l xr.l xp.a xr.a xp.c xr.c w3 xp3.seg xr3.seg (by omega) (by omega)).mono ?_
        rintro e w4 ⟨rfl, rfl⟩
        rw [hdt]
        go_wp2_with fail
        have z0 := fun y : KE G2 w3 => y.cell (v := .pointer (some ⟨bst, 0, none⟩)) (h3.blk.cell 0) h3.nb
        have z1 := fun y : KE G2 w3 => y.cell (v := .slice xr.a xr.l.length xr.c) (bx.cell 2) (fun hf => nx (h3.sub _ hf))
        refine region_begin (S := fun w' => ∃ y : KE G2 w3, w' = y.val) (by kernel_rfl) ?_
        refine region_take [0, 1, 2, 3, 4, 5, 6] [] 1 (by kernel_rfl) (by kernel_rfl) (KE.mk' (Ext.drew (Ext.refl _ _))) ?_
        show wpQuiet _ _ _ _ [_, _, _, _, _, _, _] _
        repeat (go_big_quiet_step (fail))
        refine wpQuiet_nil ?_
        clear z0 z1
        have hkd3 : Keep w3 w3.drew := (Keep.refl _).drew
        refine region_fix (i := 7) (fuel := 0) rfl (by kernel_rfl) (fun K hK => ?_)
        go_simp
        refine (push_calls (h3.keep hkd3).st xr.l xr.a xr.c (xr3.keep hkd3).seg (by omega)).mono ?_
        rintro e w5 ⟨⟨u5, rfl⟩, hl5⟩
        refine hK _ _ (KE.mk' ((hkd3.ext G2).trans hl5.1 (fun _ _ h => h))) ?_
        clear hK K
        refine region_done (by kernel_rfl) ?_
        obtain ⟨F5, G5, h5, hE5, hF5⟩ := (h3.keep hkd3).stack hl5
        have bx5 := (bx.keep hkd3).ext hE5 nx
        have l5 : w5.cell? ⟨w3'.heap.size, 4, none⟩ = some (.bool xl) := bx5.cell 4
        have m5 : w5.cell? ⟨b, 3, none⟩ = some (.bool c.live) := h5.blk.cell 3
        have f5 := h5.blk.frozen 3
        have lx5 := bx5.lt
        have lb5 := h5.blk.lt
        have Hfin := Lib.hid (show CLeft F w b bst ({ c with s := s2.push xr.l, bs := init.map BD.plain, live := xl } : Ctl) (w5.setCell ⟨b, 3, none⟩ (.bool xl)) from CLeft.mk (((hE03'.keepTrans hkd3).trans hE5 (fun k hk hf => (hF03 k hf).elim id (fun h6 => by omega))).trans (h5.ext_set 3 _) (fun k hk hf => (hF5 k hf).elim (fun h6 => (hF03 k h6).elim id (fun h7 => by omega)) (fun h6 => by have := (hE03'.keepTrans hkd3).size; omega))) (fun k hf => (hF5 k hf).elim (hF03 k) (fun h6 => .inr (by have := (hE03'.keepTrans hkd3).size; omega))) (by have h7 := h5.setLive xl; rw [← Hb0.out] at h7; exact h7) rfl Hr.out)
        clear hl5 h3 h3' h5 hE5 hF5 bx bx5 xp3 xr3 hE03 hE03' hF03
        go_wp2
        go_ret
        rw [hd.out]
        exact ⟨rfl, Hfin.out⟩
      · have hdt : decide (xp.l = xr.l) = false := decide_eq_false hpr
        have hd := Lib.hid (show c.leave = ({ c with s := s2, bs := init.map BD.plain } : Ctl).broke 12 by rw [hd0, if_pos ⟨hifs.1, hifs.2, hpr⟩])
        clear hsh h hb hr hcell hN hNl hi1 htop hdrop h0b hcb hbn hd0 hpr hifs
        go_enter Try.func38, Try.ntmps38
        go_wp2_with fail
        refine Hm.out.mono ?_
        rintro e w1 ⟨rfl, rfl⟩
        go_wp2_with fail
        have x0 := fun y : KE F1 w => y.cell c0 Hh1.out.nb
        have x1 := fun y : KE F1 w => y.cell c1 Hh1.out.nb
        have x2 := fun y : KE F1 w => y.cell q2 hrow.2
        refine region_begin (S := fun w' => ∃ y : KE F1 w, w' = y.val) (by kernel_rfl) ?_
        refine region_take [0, 1, 2, 3, 4, 5, 6, 7, 8, 9, 10, 11, 12, 13] [] 2 (by kernel_rfl) (by kernel_rfl) (KE.mk' (Ext.drew (Ext.refl _ _))) ?_
        show wpQuiet _ _ _ _ [_, _, _, _, _, _, _, _, _, _, _, _, _, _] _
        repeat (go_big_quiet_step (fail))
        refine wpQuiet_nil ?_
        clear x0 x1 x2
        have hkd : Keep w w.drew := (Keep.refl _).drew
        have h1 := Hh1.out.keep hkd
        refine region_fix (i := 14) (fuel := 1) rfl (by kernel_rfl) (fun K hK => ?_)
        go_simp
        refine (shut_calls h1.st hok xr.l xr.a xr.c (hxl.2.keep hkd).seg (by omega) (by omega) (by omega)).mono ?_
        rintro e w2 ⟨rfl, hl2⟩
        refine hK _ _ (KE.mk' ((hkd.ext F1).trans hl2.1 (fun _ _ h => h))) ?_
        clear hK K
        refine region_take [15] [0, 1, 2, 3, 4, 5, 6, 7, 8, 9, 10, 11, 12, 13, 14] 0 (by kernel_rfl) (by kernel_rfl) (KE.mk' ((hkd.ext F1).trans hl2.1 (fun _ _ h => h))) ?_
        show wpQuiet _ _ _ _ [_] _
        repeat (go_big_quiet_step (fail))
        refine wpQuiet_nil ?_
        refine region_done (by kernel_rfl) ?_
        rw [← hs2] at hl2
        obtain ⟨F2, G2, h2, hE2, hF2⟩ := h1.stack hl2
        clear hl2 h1 hs2
        go_wp2_with fail
        refine (cpop_calls h2 (by omega)).mono ?_
        rintro e w3' ⟨rfl, F3, vb3, h3', hE3, hF3⟩
        have hka : Keep w3' (w3'.alloc (.cells (blkC (BD.mk xk xp xr false xl)).toArray 100)) := (Keep.refl _).alloc _
        have xp3 := (((hxl.1.keep hkd).ext hE2 hF2).ext hE3 hF3).keep hka
        have xr3 := (((hxl.2.keep hkd).ext hE2 hF2).ext hE3 hF3).keep hka
        have hE03 : Ext F w w3' := ((hkd.ext F).trans hE2 (fun _ _ h => h)).trans hE3 (fun k hk hf => (hF2 k hf).elim id (fun h4 => by have e : w.drew.heap.size = w.heap.size := rfl; omega))
        have hF03 : ∀ k, F3 k → F k ∨ w.heap.size ≤ k := fun k hf => (hF3 k hf).elim (hF2 k) (fun h4 => .inr (by have := ((hkd.ext F).trans hE2 (fun _ _ h => h)).size; omega))
        have bx : Blk (w3'.alloc (.cells (blkC (BD.mk xk xp xr false xl)).toArray 100)) w3'.heap.size 100 (blkC (BD.mk xk xp xr false xl)) := Blk.new _ _ _
        have nx : ¬ F3 w3'.heap.size := fun hf => by have := h3'.lt _ hf; omega
        clear hE2 hF2 hE3 hF3 h2
        obtain ⟨w3, hw3⟩ : ∃ w3 : World, w3 = w3'.alloc (.cells (blkC (BD.mk xk xp xr false xl)).toArray 100) := ⟨_, rfl⟩
        rw [← hw3] at xp3 xr3 bx hka
        have h3 := h3'.keep hka
        have hE03' := hE03.keepTrans hka
        go_wp2_with fail
        show Calls Try.prog _ _ (w3'.alloc (.cells (blkC (BD.mk xk xp xr false xl)).toArray 100)) _
        rw [← hw3]
        clear hw3
        refine (sameVals_calls xp.l xr.l xp.a xr.a xp.c xr.c w3 xp3.seg xr3.seg (by omega) (by omega)).mono ?_
        rintro e w4 ⟨rfl, rfl⟩
        rw [hdt]
        go_wp2_with fail
        refine (broke_calls h3 12).mono ?_
        rintro e w5 ⟨rfl, h5, hE5⟩
        have Hfin := Lib.hid (show CLeft F w b bst (({ c with s := s2, bs := init.map BD.plain } : Ctl).broke 12).1 w5 from CLeft.mk (hE03'.trans hE5 (fun k hk hf => (hF03 k hf).elim id (fun h6 => by omega))) hF03 h5 rfl Hr.out)
        clear h3 h3' h5 hE5 bx xp3 xr3 hE03 hE03' hF03
        go_wp2
        go_ret
        rw [hd.out]
        exact ⟨rfl, Hfin.out⟩
    · have hd := Lib.hid (show c.leave = ({ c with s := s2.push xr.l, bs := init.map BD.plain, live := xl }, 0) by rw [hd0, if_neg (fun h1 => hifs ⟨h1.1, h1.2.1⟩)])
      by_cases k4 : xk = 4
      · have k4b : (xk == 4) = true := by simp [k4]
        obtain rfl : xo = true := by cases hx : xo with | false => exact absurd ⟨k4, hx⟩ hifs | true => rfl
        clear hsh h hb hr hcell hN hNl hi1 htop hdrop h0b hcb hbn hd0 k4 hifs
        go_enter Try.func38, Try.ntmps38
        go_wp2_with fail
        refine Hm.out.mono ?_
        rintro e w1 ⟨rfl, rfl⟩
        go_wp2_with fail
        have x0 := fun y : KE F1 w => y.cell c0 Hh1.out.nb
        have x1 := fun y : KE F1 w => y.cell c1 Hh1.out.nb
        have x2 := fun y : KE F1 w => y.cell q2 hrow.2
        refine region_begin (S := fun w' => ∃ y : KE F1 w, w' = y.val) (by kernel_rfl) ?_
        refine region_take [0, 1, 2, 3, 4, 5, 6, 7, 8, 9, 10, 11, 12, 13] [] 2 (by kernel_rfl) (by kernel_rfl) (KE.mk' (Ext.drew (Ext.refl _ _))) ?_
        show wpQuiet _ _ _ _ [_, _, _, _, _, _, _, _, _, _, _, _, _, _] _
        repeat (go_big_quiet_step (fail))
        refine wpQuiet_nil ?_
        clear x0 x1 x2
        have hkd : Keep w w.drew := (Keep.refl _).drew
        have h1 := Hh1.out.keep hkd
        refine region_fix (i := 14) (fuel := 1) rfl (by kernel_rfl) (fun K hK => ?_)
        go_simp
        refine (shut_calls h1.st hok xr.l xr.a xr.c (hxl.2.keep hkd).seg (by omega) (by omega) (by omega)).mono ?_
        rintro e w2 ⟨rfl, hl2⟩
        refine hK _ _ (KE.mk' ((hkd.ext F1).trans hl2.1 (fun _ _ h => h))) ?_
        clear hK K
        refine region_take [15] [0, 1, 2, 3, 4, 5, 6, 7, 8, 9, 10, 11, 12, 13, 14] 0 (by kernel_rfl) (by kernel_rfl) (KE.mk' ((hkd.ext F1).trans hl2.1 (fun _ _ h => h))) ?_
        show wpQuiet _ _ _ _ [_] _
        repeat (go_big_quiet_step (fail))
        refine wpQuiet_nil ?_
        refine region_done (by kernel_rfl) ?_
        rw [← hs2] at hl2
        obtain ⟨F2, G2, h2, hE2, hF2⟩ := h1.stack hl2
        clear hl2 h1 hs2
        go_wp2_with fail
        refine (cpop_calls h2 (by omega)).mono ?_
        rintro e w3' ⟨rfl, F3, vb3, h3', hE3, hF3⟩
        have hka : Keep w3' (w3'.alloc (.cells (blkC (BD.mk xk xp xr true xl)).toArray 100)) := (Keep.refl _).alloc _
        have xp3 := (((hxl.1.keep hkd).ext hE2 hF2).ext hE3 hF3).keep hka
        have xr3 := (((hxl.2.keep hkd).ext hE2 hF2).ext hE3 hF3).keep hka
        have hE03 : Ext F w w3' := ((hkd.ext F).trans hE2 (fun _ _ h => h)).trans hE3 (fun k hk hf => (hF2 k hf).elim id (fun h4 => by have e : w.drew.heap.size = w.heap.size := rfl; omega))
        have hF03 : ∀ k, F3 k → F k ∨ w.heap.size ≤ k := fun k hf => (hF3 k hf).elim (hF2 k) (fun h4 => .inr (by have := ((hkd.ext F).trans hE2 (fun _ _ h => h)).size; omega))
        have bx : Blk (w3'.alloc (.cells (blkC (BD.mk xk xp xr true xl)).toArray 100)) w3'.heap.size 100 (blkC (BD.mk xk xp xr true xl)) := Blk.new _ _ _
        have nx : ¬ F3 w3'.heap.size := fun hf => by have := h3'.lt _ hf; omega
        clear hE2 hF2 hE3 hF3 h2
        obtain ⟨w3, hw3⟩ : ∃ w3 : World, w3 = w3'.alloc (.cells (blkC (BD.mk xk xp xr true xl)).toArray 100) := ⟨_, rfl⟩
        rw [← hw3] at xp3 xr3 bx hka
        have h3 := h3'.keep hka
        have hE03' := hE03.keepTrans hka
        go_wp2_with fail
        show Code.wp _ _ _ _ (w3'.alloc (.cells (blkC (BD.mk xk xp xr true xl)).toArray 100))
        rw [← hw3]
        clear hw3
        have z0 := fun y : KE G2 w3 => y.cell (v := .pointer (some ⟨bst, 0, none⟩)) (h3.blk.cell 0) h3.nb
        have z1 := fun y : KE G2 w3 => y.cell (v := .slice xr.a xr.l.length xr.c) (bx.cell 2) (fun hf => nx (h3.sub _ hf))
        refine region_begin (S := fun w' => ∃ y : KE G2 w3, w' = y.val) (by kernel_rfl) ?_
        refine region_take [0, 1, 2, 3, 4, 5, 6] [] 1 (by kernel_rfl) (by kernel_rfl) (KE.mk' (Ext.drew (Ext.refl _ _))) ?_
        show wpQuiet _ _ _ _ [_, _, _, _, _, _, _] _
        repeat (go_big_quiet_step (fail))
        refine wpQuiet_nil ?_
        clear z0 z1
        have hkd3 : Keep w3 w3.drew := (Keep.refl _).drew
        refine region_fix (i := 7) (fuel := 0) rfl (by kernel_rfl) (fun K hK => ?_)
        go_simp
        refine (push_calls (h3.keep hkd3).st xr.l xr.a xr.c (xr3.keep hkd3).seg (by omega)).mono ?_
        rintro e w5 ⟨⟨u5, rfl⟩, hl5⟩
        refine hK _ _ (KE.mk' ((hkd3.ext G2).trans hl5.1 (fun _ _ h => h))) ?_
        clear hK K
        refine region_done (by kernel_rfl) ?_
        obtain ⟨F5, G5, h5, hE5, hF5⟩ := (h3.keep hkd3).stack hl5
        have bx5 := (bx.keep hkd3).ext hE5 nx
        have l5 : w5.cell? ⟨w3'.heap.size, 4, none⟩ = some (.bool xl) := bx5.cell 4
        have m5 : w5.cell? ⟨b, 3, none⟩ = some (.bool c.live) := h5.blk.cell 3
        have f5 := h5.blk.frozen 3
        have lx5 := bx5.lt
        have lb5 := h5.blk.lt
        have Hfin := Lib.hid (show CLeft F w b bst ({ c with s := s2.push xr.l, bs := init.map BD.plain, live := xl } : Ctl) (w5.setCell ⟨b, 3, none⟩ (.bool xl)) from CLeft.mk (((hE03'.keepTrans hkd3).trans hE5 (fun k hk hf => (hF03 k hf).elim id (fun h6 => by omega))).trans (h5.ext_set 3 _) (fun k hk hf => (hF5 k hf).elim (fun h6 => (hF03 k h6).elim id (fun h7 => by omega)) (fun h6 => by have := (hE03'.keepTrans hkd3).size; omega))) (fun k hf => (hF5 k hf).elim (hF03 k) (fun h6 => .inr (by have := (hE03'.keepTrans hkd3).size; omega))) (by have h7 := h5.setLive xl; rw [← Hb0.out] at h7; exact h7) rfl Hr.out)
        clear hl5 h3 h3' h5 hE5 hF5 bx bx5 xp3 xr3 hE03 hE03' hF03
        go_wp2
        go_ret
        rw [hd.out]
        exact ⟨rfl, Hfin.out⟩
      · have k4b : (xk == 4) = false := by simpa using k4
        clear hsh h hb hr hcell hN hNl hi1 htop hdrop h0b hcb hbn hd0 k4 hifs
        go_enter Try.func38, Try.ntmps38
        go_wp2_with fail
        refine Hm.out.mono ?_
        rintro e w1 ⟨rfl, rfl⟩
        go_wp2_with fail
        have x0 := fun y : KE F1 w => y.cell c0 Hh1.out.nb
        have x1 := fun y : KE F1 w => y.cell c1 Hh1.out.nb
        have x2 := fun y : KE F1 w => y.cell q2 hrow.2
        refine region_begin (S := fun w' => ∃ y : KE F1 w, w' = y.val) (by kernel_rfl) ?_
        refine region_take [0, 1, 2, 3, 4, 5, 6, 7, 8, 9, 10, 11, 12, 13] [] 2 (by kernel_rfl) (by kernel_rfl) (KE.mk' (Ext.drew (Ext.refl _ _))) ?_
        show wpQuiet _ _ _ _ [_, _, _, _, _, _, _, _, _, _, _, _, _, _] _
        repeat (go_big_quiet_step (fail))
        refine wpQuiet_nil ?_
        clear x0 x1 x2
        have hkd : Keep w w.drew := (Keep.refl _).drew
        have h1 := Hh1.out.keep hkd
        refine region_fix (i := 14) (fuel := 1) rfl (by kernel_rfl) (fun K hK => ?_)
        go_simp
        refine (shut_calls h1.st hok xr.l xr.a xr.c (hxl.2.keep hkd).seg (by omega) (by omega) (by omega)).mono ?_
        rintro e w2 ⟨rfl, hl2⟩
        refine hK _ _ (KE.mk' ((hkd.ext F1).trans hl2.1 (fun _ _ h => h))) ?_
        clear hK K
        refine region_take [15] [0, 1, 2, 3, 4, 5, 6, 7, 8, 9, 10, 11, 12, 13, 14] 0 (by kernel_rfl) (by kernel_rfl) (KE.mk' ((hkd.ext F1).trans hl2.1 (fun _ _ h => h))) ?_
        show wpQuiet _ _ _ _ [_] _
        repeat (go_big_quiet_step (fail))
        refine wpQuiet_nil ?_
        refine region_done (by kernel_rfl) ?_
        rw [← hs2] at hl2
        obtain ⟨F2, G2, h2, hE2, hF2⟩ := h1.stack hl2
        clear hl2 h1 hs2
        go_wp2_with fail
        refine (cpop_calls h2 (by omega)).mono ?_
        rintro e w3' ⟨rfl, F3, vb3, h3', hE3, hF3⟩
        have hka : Keep w3' (w3'.alloc (.cells (blkC (BD.mk xk xp xr xo xl)).toArray 100)) := (Keep.refl _).alloc _
        have xp3 := (((hxl.1.keep hkd).ext hE2 hF2).ext hE3 hF3).keep hka
        have xr3 := (((hxl.2.keep hkd).ext hE2 hF2).ext hE3 hF3).keep hka
        have hE03 : Ext F w w3' := ((hkd.ext F).trans hE2 (fun _ _ h => h)).trans hE3 (fun k hk hf => (hF2 k hf).elim id (fun h4 => by have e : w.drew.heap.size = w.heap.size := rfl; omega))
        have hF03 : ∀ k, F3 k → F k ∨ w.heap.size ≤ k := fun k hf => (hF3 k hf).elim (hF2 k) (fun h4 => .inr (by have := ((hkd.ext F).trans hE2 (fun _ _ h => h)).size; omega))
        have bx : Blk (w3'.alloc (.cells (blkC (BD.mk xk xp xr xo xl)).toArray 100)) w3'.heap.size 100 (blkC (BD.mk xk xp xr xo xl)) := Blk.new _ _ _
        have nx : ¬ F3 w3'.heap.size := fun hf => by have := h3'.lt _ hf; omega
        clear hE2 hF2 hE3 hF3 h2
        obtain ⟨w3, hw3⟩ : ∃ w3 : World, w3 = w3'.alloc (.cells (blkC (BD.mk xk xp xr xo xl)).toArray 100) := ⟨_, rfl⟩
        rw [← hw3] at xp3 xr3 bx hka
        have h3 := h3'.keep hka
        have hE03' := hE03.keepTrans hka
        go_wp2_with fail
        show Code.wp _ _ _ _ (w3'.alloc (.cells (blkC (BD.mk xk xp xr xo xl)).toArray 100))
        rw [← hw3]
        clear hw3
        have z0 := fun y : KE G2 w3 => y.cell (v := .pointer (some ⟨bst, 0, none⟩)) (h3.blk.cell 0) h3.nb
        have z1 := fun y : KE G2 w3 => y.cell (v := .slice xr.a xr.l.length xr.c) (bx.cell 2) (fun hf => nx (h3.sub _ hf))
        refine region_begin (S := fun w' => ∃ y : KE G2 w3, w' = y.val) (by kernel_rfl) ?_
        refine region_take [0, 1, 2, 3, 4, 5, 6] [] 1 (by kernel_rfl) (by kernel_rfl) (KE.mk' (Ext.drew (Ext.refl _ _))) ?_
        show wpQuiet _ _ _ _ [_, _, _, _, _, _, _] _
        repeat (go_big_quiet_step (fail))
        refine wpQuiet_nil ?_
        clear z0 z1
        have hkd3 : Keep w3 w3.drew := (Keep.refl _).drew
        refine region_fix (i := 7) (fuel := 0) rfl (by kernel_rfl) (fun K hK => ?_)
        go_simp
        refine (push_calls (h3.keep hkd3).st xr.l xr.a xr.c (xr3.keep hkd3).seg (by omega)).mono ?_
        rintro e w5 ⟨⟨u5, rfl⟩, hl5⟩
        refine hK _ _ (KE.mk' ((hkd3.ext G2).trans hl5.1 (fun _ _ h => h))) ?_
        clear hK K
        refine region_done (by kernel_rfl) ?_
        obtain ⟨F5, G5, h5, hE5, hF5⟩ := (h3.keep hkd3).stack hl5
        have bx5 := (bx.keep hkd3).ext hE5 nx
        have l5 : w5.cell? ⟨w3'.heap.size, 4, none⟩ = some (.bool xl) := bx5.cell 4
        have m5 : w5.cell? ⟨b, 3, none⟩ = some (.bool c.live) := h5.blk.cell 3
        have f5 := h5.blk.frozen 3
        have lx5 := bx5.lt
        have lb5 := h5.blk.lt
        have Hfin := Lib.hid (show CLeft F w b bst ({ c with s := s2.push xr.l, bs := init.map BD.plain, live := xl } : Ctl) (w5.setCell ⟨b, 3, none⟩ (.bool xl)) from CLeft.mk (((hE03'.keepTrans hkd3).trans hE5 (fun k hk hf => (hF03 k hf).elim id (fun h6 => by omega))).trans (h5.ext_set 3 _) (fun k hk hf => (hF5 k hf).elim (fun h6 => (hF03 k h6).elim id (fun h7 => by omega)) (fun h6 => by have := (hE03'.keepTrans hkd3).size; omega))) (fun k hf => (hF5 k hf).elim (hF03 k) (fun h6 => .inr (by have := (hE03'.keepTrans hkd3).size; omega))) (by have h7 := h5.setLive xl; rw [← Hb0.out] at h7; exact h7) rfl Hr.out)
        clear hl5 h3 h3' h5 hE5 hF5 bx bx5 xp3 xr3 hE03 hE03' hF03
        go_wp2
        go_ret
        rw [hd.out]
        exact ⟨rfl, Hfin.out⟩

theorem leave_calls {F : Nat → Prop} {w : World} {b bst : Nat} {c : Ctl} (h : CAt F w b bst c) (hok : c.s.Ok) (hn : c.s.T.length ≤ 800000) (hm : c.s.P.length ≤ 800000) (hbn : c.bs.length ≤ 800000) (hpl : c.top.p.length ≤ 100000) (hql : c.top.r.length ≤ 100000) :
    Calls Try.prog 38 #[.pointer (some ⟨b, 0, none⟩)] w fun e w' => e = .returned (.int .i64 c.leave.2) ∧ CLeft F w b bst c.leave.1 w' := by
  by_cases h0 : c.broken = 0
  · by_cases hcb : c.bs = []
    · exact leave_no h (.inr hcb)
    · exact leave_yes h hok h0 hcb hn hm hbn hpl hql
  · exact leave_no h (.inl h0)
end Go.Proofs.Ytkeefajfndmpeaa
