/-
  Else, Leave.
-/
import Derived.Test.YtkeefajfndmpeaaCBegin
import Derived.Test.YtkeefajfndmpeaaCPop
import Derived.Test.YtkeefajfndmpeaaCSame
namespace Go.Proofs.Ytkeefajfndmpeaa
open Go Go.RowKit

theorem Stk.shut_fail (s : Stk) (l : List Int) (h : (s.shut l).2 ≠ 0) : (s.shut l).1 = s := by
  unfold Stk.shut at h ⊢
  split at h
  · rename_i h1
    rw [if_pos h1]
    split at h
    · rename_i h2; rw [if_pos h2]
    · exact absurd rfl h
  · rename_i h1; rw [if_neg h1]

theorem top_of {c : Ctl} {init : List BD} {x : BD} (h : (init ++ [x]).map BD.plain = c.bs) : c.top = x.plain ∧ c.bs.dropLast = init.map BD.plain ∧ c.bs ≠ [] := by
  rw [← h]
  exact ⟨by unfold Ctl.top; rw [← h]; simp, by simp, by simp⟩
theorem snoc_of {c : Ctl} {bds : List BD} (h : bds.map BD.plain = c.bs) (h0 : c.bs ≠ []) : ∃ init x, bds = init ++ [x] := by
  rcases List.eq_nil_or_concat bds with e | ⟨init, x, e⟩
  · rw [e] at h; exact absurd h.symm h0
  · exact ⟨init, x, by simpa using e⟩

theorem else_no {F : Nat → Prop} {w : World} {b bst : Nat} {c : Ctl} (h : CAt F w b bst c) (hcase : c.broken ≠ 0 ∨ c.bs = []) :
    Calls Try.prog 41 #[.pointer (some ⟨b, 0, none⟩)] w fun e w' => e = .returned (.int .i64 c.els.2) ∧ CLeft F w b bst c.els.1 w' := by
  have Hh := Lib.hid h
  obtain ⟨F1, vb, bds, rd, h, hb, hr⟩ := h
  obtain ⟨A, cc, rfl, _⟩ := h.form
  have Hm := Lib.hid (wrong_calls h)
  have c1 : w.cell? ⟨b, 1, none⟩ = some (.slice A bds.length cc) := h.blk.cell 1
  have lb := h.blk.lt
  by_cases h0b : c.broken = 0
  rotate_left
  · have hd : Hid (c.els = (c, c.broken)) := Lib.hid (by unfold Ctl.els; rw [if_pos h0b])
    have hne : (c.broken != 0) = true := by simpa using h0b
    clear h0b h hb hr hcase
    go_enter Try.func41, Try.ntmps41
    go_wp2_with fail
    refine Hm.out.mono ?_
    rintro e w1 ⟨rfl, rfl⟩
    go_wp2
    go_ret
    rw [hd.out]
    exact ⟨rfl, CLeft.of_keep Hh.out (Keep.refl _)⟩
  · have hcb := hcase.elim (fun h1 => absurd h0b h1) id
    have hz : bds = [] := by rw [hcb] at hb; simpa using hb
    subst hz
    have hd : Hid (c.els = (c, 16)) := Lib.hid (by unfold Ctl.els; rw [if_neg (by simpa using h0b), if_pos hcb])
    rw [h0b] at Hm
    clear h0b h hb hr hcase hcb
    go_enter Try.func41, Try.ntmps41
    go_wp2_with fail
    refine Hm.out.mono ?_
    rintro e w1 ⟨rfl, rfl⟩
    go_wp2
    go_ret
    rw [hd.out]
    exact ⟨rfl, CLeft.of_keep Hh.out (Keep.refl _)⟩

set_option maxHeartbeats 4000000 in
set_option maxRecDepth 100000 in
theorem else_yes {F : Nat → Prop} {w : World} {b bst : Nat} {c : Ctl} (h : CAt F w b bst c) (hok : c.s.Ok) (h0b : c.broken = 0) (hcb : c.bs ≠ [])
    (hn : c.s.T.length ≤ 800000) (hm : c.s.P.length ≤ 800000) (hbn : c.bs.length ≤ 800000) (hpl : c.top.p.length ≤ 100000) (hql : c.top.r.length ≤ 100000) :
    Calls Try.prog 41 #[.pointer (some ⟨b, 0, none⟩)] w fun e w' => e = .returned (.int .i64 c.els.2) ∧ CLeft F w b bst c.els.1 w' := by
  have Hh := Lib.hid h
  obtain ⟨F1, vb, bds, rd, h, hb, hr⟩ := h
  obtain ⟨init, x, rfl⟩ := snoc_of hb hcb
  obtain ⟨htop, hdrop, _⟩ := top_of hb
  rw [htop] at hpl hql
  have hpl : x.p.l.length ≤ 100000 := hpl
  have hql : x.r.l.length ≤ 100000 := hql
  rw [h0b] at h
  obtain ⟨g, cc, rfl, hg, _, hcell⟩ := bd_at h.own (k := init.length) (by simp)
  rw [show (init ++ [x])[init.length]'(by simp) = x by simp] at hcell
  have hxl := h.ls x (by simp)
  obtain ⟨N, hN⟩ : ∃ N, N = (init ++ [x]).length := ⟨_, rfl⟩
  have hNl : N = init.length + 1 := by rw [hN]; simp
  have hil : init.length ≤ 800000 := by rw [← hb] at hbn; simp at hbn; omega
  have Hm := Lib.hid (wrong_calls h)
  have c0 : w.cell? ⟨b, 0, none⟩ = some (.pointer (some ⟨bst, 0, none⟩)) := h.blk.cell 0
  have c1 : w.cell? ⟨b, 1, none⟩ = some (.slice (some ⟨g, 0, none⟩) N cc) := by rw [hN]; exact h.blk.cell 1
  have lb := h.blk.lt
  have q0 : w.cell? ⟨g, init.length * 5, none⟩ = some (.int .i64 x.kind) := hcell 0 _ rfl
  have q2 : w.cell? ⟨g, init.length * 5 + 2, none⟩ = some (.slice x.r.a x.r.l.length x.r.c) := hcell 2 _ rfl
  have q3 : w.cell? ⟨g, init.length * 5 + 3, none⟩ = some (.bool x.other) := hcell 3 _ rfl
  have hi1 : (N : Int) - 1 = (init.length : Int) := by omega
  have hw : IntKind.i64.wrap ((N : Int) - 1) = (init.length : Int) := by rw [hi1]; exact IntWalk.i64_in _ (by omega)
  have hm0 : (0 : Int) ≤ (init.length : Int) := by omega
  have hm1 : (init.length : Int) < (N : Int) := by omega
  have hlz : ((N : Int) == 0) = false := by simp; omega
  have hrow := h.row g rfl
  have Hb := Lib.hid hb
  have Hr := Lib.hid hr
  have Hb0 := Lib.hid h0b
  have Hdrop := Lib.hid hdrop
  have Hh1 := Lib.hid h
  by_cases hbad : x.plain.kind ≠ 4 ∨ x.plain.other = true
  · have hd : Hid (c.els = (c, 16)) := Lib.hid (by unfold Ctl.els; rw [if_neg (by simpa using h0b), if_neg hcb, htop, if_pos hbad])
    have hbad : x.kind ≠ 4 ∨ x.other = true := hbad
    by_cases h4 : x.kind = 4
    · have h4b : (x.kind != 4) = false := by simp [h4]
      have hoth : x.other = true := hbad.elim (fun h1 => absurd h4 h1) id
      rw [hoth] at q3
      clear h hb hr hcell hN hNl hi1 htop hdrop h0b hcb hbn hbad h4 hoth
      go_enter Try.func41, Try.ntmps41
      go_wp2_with fail
      refine Hm.out.mono ?_
      rintro e w1 ⟨rfl, rfl⟩
      go_wp2
      go_ret
      rw [hd.out]
      exact ⟨rfl, CLeft.of_keep Hh.out (Keep.refl _)⟩
    · have h4b : (x.kind != 4) = true := by simpa using h4
      clear h hb hr hcell hN hNl hi1 htop hdrop h0b hcb hbn hbad h4
      go_enter Try.func41, Try.ntmps41
      go_wp2_with fail
      refine Hm.out.mono ?_
      rintro e w1 ⟨rfl, rfl⟩
      go_wp2
      go_ret
      rw [hd.out]
      exact ⟨rfl, CLeft.of_keep Hh.out (Keep.refl _)⟩
  have h4 : x.plain.kind = 4 := by
    by_cases h4 : x.plain.kind = 4
    · exact h4
    · exact absurd (.inl h4) hbad
  have hoth : ¬ x.plain.other = true := fun h1 => hbad (.inr h1)
  have hk4 : x.kind = 4 := h4
  have ho4 : x.other = false := by
    have : ¬ x.other = true := hoth
    simpa using this
  have h4b : (x.kind != 4) = false := by simp [hk4]
  rw [ho4] at q3
  by_cases hsh : (c.s.shut x.r.l).2 = 0
  rotate_left
  · have hsb : ((c.s.shut x.r.l).2 != 0) = true := by simpa using hsh
    have Hsf := Lib.hid (c.s.shut_fail x.r.l hsh)
    have hd : Hid (c.els = c.broke (c.s.shut x.r.l).2) := Lib.hid (by unfold Ctl.els; rw [if_neg (by simpa using h0b), if_neg hcb, htop, if_neg (fun h1 => h1.elim (fun h2 => h2 h4) hoth)]; rw [if_neg (by show ¬ (c.s.shut x.plain.r).2 = 0; exact hsh)]; rfl)
    clear hsh h hb hr hcell hN hNl hi1 htop hdrop h0b hcb hbn hbad h4 hoth hk4 ho4
    go_enter Try.func41, Try.ntmps41
    go_wp2_with fail
    refine Hm.out.mono ?_
    rintro e w1 ⟨rfl, rfl⟩
    go_wp2_with fail
    have x0 := fun y : KE F1 w => y.cell c0 Hh1.out.nb
    have x1 := fun y : KE F1 w => y.cell c1 Hh1.out.nb
    have x2 := fun y : KE F1 w => y.cell q2 hrow.2
    refine region_begin (S := fun w' => ∃ y : KE F1 w, w' = y.val) (by kernel_rfl) ?_
    refine region_take [0, 1, 2, 3, 4, 5, 6, 7, 8, 9, 10, 11, 12, 13] [] 2 (by kernel_rfl) (by kernel_rfl) (KE.mk' (Ext.drew (Ext.refl _ _))) ?_
    show wpQuiet _ _ _ _ [_, _, _, _, _, _, _, _, _, _, _, _, _, _] _
    repeat (go_big_quiet_step (fail))
    refine wpQuiet_nil ?_
    clear x0 x1 x2
    have hkd : Keep w w.drew := (Keep.refl _).drew
    have h1 := Hh1.out.keep hkd
    refine region_fix (i := 14) (fuel := 1) rfl (by kernel_rfl) (fun K hK => ?_)
    go_simp
    refine (shut_calls h1.st hok x.r.l x.r.a x.r.c (hxl.2.keep hkd).seg (by omega) (by omega) (by omega)).mono ?_
    rintro e w2 ⟨rfl, hl2⟩
    refine hK _ _ (KE.mk' ((hkd.ext F1).trans hl2.1 (fun _ _ h => h))) ?_
    clear hK K
    refine region_take [15] [0, 1, 2, 3, 4, 5, 6, 7, 8, 9, 10, 11, 12, 13, 14] 0 (by kernel_rfl) (by kernel_rfl) (KE.mk' ((hkd.ext F1).trans hl2.1 (fun _ _ h => h))) ?_
    show wpQuiet _ _ _ _ [_] _
    repeat (go_big_quiet_step (fail))
    refine wpQuiet_nil ?_
    refine region_done (by kernel_rfl) ?_
    obtain ⟨F2, G2, h2, hE2, hF2⟩ := h1.stack hl2
    clear hl2 h1
    go_wp2_with fail
    refine (broke_calls h2 (c.s.shut x.r.l).2).mono ?_
    rintro e w3 ⟨rfl, h3, hE3⟩
    have Hfin := Lib.hid (show CLeft F w b bst (c.broke (c.s.shut x.r.l).2).1 w3 from CLeft.mk (((hkd.ext F).trans hE2 (fun _ _ h => h)).trans hE3 (fun k hk hf => (hF2 k hf).elim id (fun h4 => by have e : w.drew.heap.size = w.heap.size := rfl; omega))) hF2 (by have h5 := h3; rw [Hsf.out] at h5; exact h5) Hb.out Hr.out)
    clear h2 h3 hE3 hE2 hF2
    go_wp2
    go_ret
    rw [hd.out]
    exact ⟨rfl, Hfin.out⟩
  · have hsb : ((c.s.shut x.r.l).2 != 0) = false := by simpa using hsh
    obtain ⟨s2, hs2⟩ : ∃ s2, s2 = (c.s.shut x.r.l).1 := ⟨_, rfl⟩
    have hd : Hid (c.els = (({ c with s := s2, bs := init.map BD.plain } : Ctl).begin_ { x.plain with other := true }, 0)) := Lib.hid (by unfold Ctl.els; rw [if_neg (by simpa using h0b), if_neg hcb, htop, if_neg (fun h1 => h1.elim (fun h2 => h2 h4) hoth)]; rw [if_pos (by show (c.s.shut x.plain.r).2 = 0; exact hsh), hs2, hdrop]; rfl)
    have hs2l := c.s.shut_le x.r.l
    rw [← hs2] at hs2l
    clear hsh h hb hr hcell hN hNl hi1 htop hdrop h0b hcb hbn hbad h4 hoth hk4 ho4
    go_enter Try.func41, Try.ntmps41
    go_wp2_with fail
    refine Hm.out.mono ?_
    rintro e w1 ⟨rfl, rfl⟩
    go_wp2_with fail
    have x0 := fun y : KE F1 w => y.cell c0 Hh1.out.nb
    have x1 := fun y : KE F1 w => y.cell c1 Hh1.out.nb
    have x2 := fun y : KE F1 w => y.cell q2 hrow.2
    refine region_begin (S := fun w' => ∃ y : KE F1 w, w' = y.val) (by kernel_rfl) ?_
    refine region_take [0, 1, 2, 3, 4, 5, 6, 7, 8, 9, 10, 11, 12, 13] [] 2 (by kernel_rfl) (by kernel_rfl) (KE.mk' (Ext.drew (Ext.refl _ _))) ?_
    show wpQuiet _ _ _ _ [_, _, _, _, _, _, _, _, _, _, _, _, _, _] _
    repeat (go_big_quiet_step (fail))
    refine wpQuiet_nil ?_
    clear x0 x1 x2
    have hkd : Keep w w.drew := (Keep.refl _).drew
    have h1 := Hh1.out.keep hkd
    refine region_fix (i := 14) (fuel := 1) rfl (by kernel_rfl) (fun K hK => ?_)
    go_simp
    refine (shut_calls h1.st hok x.r.l x.r.a x.r.c (hxl.2.keep hkd).seg (by omega) (by omega) (by omega)).mono ?_
    rintro e w2 ⟨rfl, hl2⟩
    refine hK _ _ (KE.mk' ((hkd.ext F1).trans hl2.1 (fun _ _ h => h))) ?_
    clear hK K
    refine region_take [15] [0, 1, 2, 3, 4, 5, 6, 7, 8, 9, 10, 11, 12, 13, 14] 0 (by kernel_rfl) (by kernel_rfl) (KE.mk' ((hkd.ext F1).trans hl2.1 (fun _ _ h => h))) ?_
    show wpQuiet _ _ _ _ [_] _
    repeat (go_big_quiet_step (fail))
    refine wpQuiet_nil ?_
    refine region_done (by kernel_rfl) ?_
    rw [← hs2] at hl2
    obtain ⟨F2, G2, h2, hE2, hF2⟩ := h1.stack hl2
    clear hl2 h1 hs2
    go_wp2_with fail
    refine (cpop_calls h2 (by omega)).mono ?_
    rintro e w3 ⟨rfl, F3, vb3, h3, hE3, hF3⟩
    have xp3 := ((hxl.1.keep hkd).ext hE2 hF2).ext hE3 hF3
    have xr3 := ((hxl.2.keep hkd).ext hE2 hF2).ext hE3 hF3
    have hka : Keep w3 (w3.alloc (.cells (blkC { x with other := true }).toArray 100)) := (Keep.refl _).alloc _
    have hE03 : Ext F w w3 := ((hkd.ext F).trans hE2 (fun _ _ h => h)).trans hE3 (fun k hk hf => (hF2 k hf).elim id (fun h4 => by have e : w.drew.heap.size = w.heap.size := rfl; omega))
    have hF03 : ∀ k, F3 k → F k ∨ w.heap.size ≤ k := fun k hf => (hF3 k hf).elim (hF2 k) (fun h4 => .inr (by have := ((hkd.ext F).trans hE2 (fun _ _ h => h)).size; omega))
    clear hE2 hF2 hE3 hF3 h2
    go_wp2_with fail
    refine (begin_calls (h3.keep hka) { x with other := true } (xp3.keep hka) (xr3.keep hka) (by show s2.T.length + x.p.l.length ≤ 1000000; omega) (by omega) (by omega)).mono ?_
    rintro e w4 ⟨⟨u4, rfl⟩, F4, G4, vb4, h4, hE4, hF4⟩
    have Hfin := Lib.hid (show CLeft F w b bst (({ c with s := s2, bs := init.map BD.plain } : Ctl).begin_ { x.plain with other := true }) w4 from CLeft.mk ((hE03.keepTrans hka).trans hE4 (fun k hk hf => (hF03 k hf).elim id (fun h5 => by omega))) (fun k hf => (hF4 k hf).elim (hF03 k) (fun h5 => .inr (by have := (hE03.keepTrans hka).size; omega))) (by have h7 := h4; rw [← Hb0.out] at h7; exact h7) (by show (init ++ [_]).map BD.plain = init.map BD.plain ++ [_]; rw [List.map_append]; rfl) Hr.out)
    clear h3 h4 hE4 hF4 hE03 hF03 xp3 xr3
    go_wp2
    go_ret
    rw [hd.out]
    exact ⟨rfl, Hfin.out⟩

theorem else_calls {F : Nat → Prop} {w : World} {b bst : Nat} {c : Ctl} (h : CAt F w b bst c) (hok : c.s.Ok) (hn : c.s.T.length ≤ 800000) (hm : c.s.P.length ≤ 800000) (hbn : c.bs.length ≤ 800000) (hpl : c.top.p.length ≤ 100000) (hql : c.top.r.length ≤ 100000) :
    Calls Try.prog 41 #[.pointer (some ⟨b, 0, none⟩)] w fun e w' => e = .returned (.int .i64 c.els.2) ∧ CLeft F w b bst c.els.1 w' := by
  by_cases h0 : c.broken = 0
  · by_cases hcb : c.bs = []
    · exact else_no h (.inr hcb)
    · exact else_yes h hok h0 hcb hn hm hbn hpl hql
  · exact else_no h (.inl h0)
end Go.Proofs.Ytkeefajfndmpeaa
