/-
  Enter: opens a control frame.
-/
import Derived.Test.YtkeefajfndmpeaaCBegin
import Derived.StillTailTactics
namespace Go.Proofs.Ytkeefajfndmpeaa
open Go Go.RowKit

theorem Stk.want_fail (s : Stk) (l : List Int) (h : (s.want l).2 ≠ 0) : (s.want l).1 = s := by
  unfold Stk.want at h ⊢
  split at h
  · exact absurd rfl h
  · rename_i h1; rw [if_neg h1]

/-- Enter on its way: the State, and the type in its box. -/
structure EX (F F' F1' : Nat → Prop) (w : World) (b bst : Nat) (vb : Value) (bds : List BD) (rd pd qd : LD) (live : Bool) (s : Stk) (wx : World) : Prop where
  cp : CP F' F1' wx b bst s vb bds rd live 0
  ext : Ext F w wx
  new : ∀ k, F' k → F k ∨ w.heap.size ≤ k
  box : Blk wx w.heap.size 56 [pd.v, qd.v]
  nbox : ¬ F' w.heap.size
  p : pd.Ok F' wx
  q : qd.Ok F' wx

section
variable {F F' F1' : Nat → Prop} {w : World} {b bst : Nat} {vb : Value} {bds : List BD} {rd pd qd : LD} {live : Bool} {s s' : Stk} {wx wy : World}
theorem EX.stack (h : EX F F' F1' w b bst vb bds rd pd qd live s wx) (hl : Left F1' wx bst s' wy) : ∃ F2 F2', EX F F2 F2' w b bst vb bds rd pd qd live s' wy := by
  obtain ⟨F2, F2', h2, hE2, hF2⟩ := h.cp.stack hl
  exact ⟨F2, F2', h2, h.ext.trans hE2 (fun k hk hf => (h.new k hf).elim id (fun h1 => by omega)), fun k hf => (hF2 k hf).elim (h.new k) (fun h1 => .inr (by have := h.ext.size; omega)), h.box.ext hE2 h.nbox, fun hf => (hF2 _ hf).elim h.nbox (fun h1 => by have := h.box.lt; omega), h.p.ext hE2 hF2, h.q.ext hE2 hF2⟩
theorem EX.keep (h : EX F F' F1' w b bst vb bds rd pd qd live s wx) (hk : Keep wx wy) : EX F F' F1' w b bst vb bds rd pd qd live s wy :=
  ⟨h.cp.keep hk, h.ext.keepTrans hk, h.new, h.box.keep hk, h.nbox, h.p.keep hk, h.q.keep hk⟩
theorem EX.broke {c : Ctl} {e : Int} {W : World} {x : Bool} (h : EX F F' F1' w b bst vb bds rd pd qd live s wx) (h2 : CP F' F1' W b bst s vb bds rd x e) (hE : Ext F' wx W) (hs : c.s = s) (hl : c.live = x) (hb : bds.map BD.plain = c.bs) (hr : rd.l = c.res) (he : c.broken = e) : CLeft F w b bst c W := by
  subst hs
  subst hl
  subst he
  exact CLeft.mk (h.ext.trans hE (fun k hk hf => (h.new k hf).elim id (fun h1 => by omega))) h.new h2 hb hr
end

/-- The walk up to the operand stack's first call. -/
theorem enter_no {F : Nat → Prop} {w : World} {b bst : Nat} {c : Ctl} (h : CAt F w b bst c) (op : Int) (pd qd : LD) (e : Int) (he : c.enter op pd.l qd.l = (c, e)) (hcase : c.broken ≠ 0 ∨ (op ≠ 2 ∧ op ≠ 3 ∧ op ≠ 4) ∨ c.bs = []) :
    Calls Try.prog 35 #[.pointer (some ⟨b, 0, none⟩), .int .i64 op, .agg #[.slice pd.a pd.l.length pd.c, .slice qd.a qd.l.length qd.c]] w fun e w' => e = .returned (.int .i64 (c.enter op pd.l qd.l).2) ∧ CLeft F w b bst (c.enter op pd.l qd.l).1 w' := by
  have Hh := Lib.hid h
  obtain ⟨F1, vb, bds, rd, h, hb, hr⟩ := h
  obtain ⟨A, cc, rfl, _⟩ := h.form
  obtain ⟨wa, hwa⟩ : ∃ wa : World, wa = w.alloc (.cells ([pd.v, qd.v] : List Value).toArray 56) := ⟨_, rfl⟩
  have hka : Keep w wa := by rw [hwa]; exact (Keep.refl _).alloc _
  have h0 := h.keep hka
  have Hm := Lib.hid (wrong_calls h0)
  have Hwa := Lib.hid hwa
  have Hka := Lib.hid hka
  have He := Lib.hid he
  have c1 : wa.cell? ⟨b, 1, none⟩ = some (.slice A bds.length cc) := h0.blk.cell 1
  have lb := h0.blk.lt
  by_cases h0b : c.broken = 0
  rotate_left
  · have hd : Hid (e = c.broken) := Lib.hid (by have := he; unfold Ctl.enter at this; rw [if_pos h0b] at this; exact (Prod.ext_iff.1 this).2.symm)
    have hne : (c.broken != 0) = true := by simpa using h0b
    clear h0b h hb hr h0 hwa hka he hcase
    go_enter Try.func35, Try.ntmps35
    go_wp2_with fail
    show Calls Try.prog _ _ (w.alloc (.cells ([pd.v, qd.v] : List Value).toArray 56)) _
    rw [← Hwa.out]
    refine Hm.out.mono ?_
    rintro e w1 ⟨rfl, rfl⟩
    go_wp2
    go_ret
    rw [He.out, hd.out]
    exact ⟨rfl, CLeft.of_keep Hh.out Hka.out⟩
  rw [h0b] at Hm
  by_cases hop : op ≠ 2 ∧ op ≠ 3 ∧ op ≠ 4
  · have hd : Hid (e = 1) := Lib.hid (by have := he; unfold Ctl.enter at this; rw [if_neg (by simpa using h0b), if_pos hop] at this; exact (Prod.ext_iff.1 this).2.symm)
    have h2 : (op != 2) = true := by simpa using hop.1
    have h3 : (op != 3) = true := by simpa using hop.2.1
    have h4 : (op != 4) = true := by simpa using hop.2.2
    clear h0b h hb hr h0 hwa hka hop he hcase
    go_enter Try.func35, Try.ntmps35
    go_wp2_with fail
    show Calls Try.prog _ _ (w.alloc (.cells ([pd.v, qd.v] : List Value).toArray 56)) _
    rw [← Hwa.out]
    refine Hm.out.mono ?_
    rintro e w1 ⟨rfl, rfl⟩
    go_wp2
    go_ret
    rw [He.out, hd.out]
    exact ⟨rfl, CLeft.of_keep Hh.out Hka.out⟩
  have hcb : c.bs = [] := hcase.elim (fun h1 => absurd h0b h1) (fun h1 => h1.elim (fun h2 => absurd h2 hop) id)
  have hz : bds = [] := by rw [hcb] at hb; simpa using hb
  subst hz
  have hd : Hid (e = 16) := Lib.hid (by have := he; unfold Ctl.enter at this; rw [if_neg (by simpa using h0b), if_neg hop, if_pos hcb] at this; exact (Prod.ext_iff.1 this).2.symm)
  have hop' : op = 2 ∨ op = 3 ∨ op = 4 := by
    by_cases o2 : op = 2
    · exact .inl o2
    by_cases o3 : op = 3
    · exact .inr (.inl o3)
    by_cases o4 : op = 4
    · exact .inr (.inr o4)
    exact absurd ⟨o2, o3, o4⟩ hop
  clear h0b h hb hr h0 hwa hka hop hcb he hcase
  rcases hop' with rfl | rfl | rfl
  all_goals
    go_enter Try.func35, Try.ntmps35
    go_wp2_with fail
    show Calls Try.prog _ _ (w.alloc (.cells ([pd.v, qd.v] : List Value).toArray 56)) _
    rw [← Hwa.out]
    refine Hm.out.mono ?_
    rintro e w1 ⟨rfl, rfl⟩
    go_wp2
    go_ret
    rw [He.out, hd.out]
    exact ⟨rfl, CLeft.of_keep Hh.out Hka.out⟩

theorem EX.rebox {F F' F1' : Nat → Prop} {w : World} {b bst : Nat} {vb : Value} {bds : List BD} {rd pd qd pd' qd' : LD} {live : Bool} {s : Stk} {wx wy : World} (h : EX F F' F1' w b bst vb bds rd pd qd live s wx) (hp : pd'.Kt F' wx) (hq : qd'.Kt F' wx)
    (hw : wy = (wx.setCell ⟨w.heap.size, 0, none⟩ pd'.v).setCell ⟨w.heap.size, 1, none⟩ qd'.v) : EX F F' F1' w b bst vb bds rd pd' qd' live s wy ∧ pd'.Kt F' wy ∧ qd'.Kt F' wy := by
  subst hw
  have hne : b ≠ w.heap.size := fun e => h.nbox (e ▸ h.cp.fb)
  have hE : Ext (fun k => k = w.heap.size) wx ((wx.setCell ⟨w.heap.size, 0, none⟩ pd'.v).setCell ⟨w.heap.size, 1, none⟩ qd'.v) := ((Ext.refl (fun k => k = w.heap.size) wx).setCell (p := ⟨w.heap.size, 0, none⟩) (fun _ => rfl) _).setCell (p := ⟨w.heap.size, 1, none⟩) (fun _ => rfl) _
  have hld : ∀ x : LD, x.Kt F' wx → (0 < x.l.length → ∀ ad, x.a = some ad → ad.block ≠ w.heap.size) → x.Kt F' ((wx.setCell ⟨w.heap.size, 0, none⟩ pd'.v).setCell ⟨w.heap.size, 1, none⟩ qd'.v) := fun x hx hn => ⟨⟨hx.seg.ext' hE (fun h0 ad ha e => hn (by rwa [val_len] at h0) ad ha e), hx.out⟩, hx.ty.of_blk fun h0 ad ha => hE.block _ (hx.seg.blk_lt h0 ha) (hn h0 ad ha)⟩
  have hty : ∀ x : LD, x.Kt F' wx → 0 < x.l.length → ∀ ad, x.a = some ad → ad.block ≠ w.heap.size := fun x hx h0 ad ha e => by
    obtain ⟨b', off, e1, hb', hc⟩ := hx.seg.addr (by rw [val_len]; exact h0)
    rw [ha] at e1; cases e1
    have e : b' = w.heap.size := e
    subst e
    have h1 := hc 0 (.int .i64 (x.l[0]'h0)) (by rw [flat_val, List.getElem?_map, List.getElem?_eq_getElem h0]; rfl)
    rw [Nat.add_zero, h.box.cell off] at h1
    rcases off with _ | _ | off
    · simp [LD.v] at h1
    · simp [LD.v] at h1
    · simp at h1
  refine ⟨⟨⟨h.cp.st.of_keep (fun k hk => hE.block k (h.cp.st.lt k hk) (fun e => h.nbox (e ▸ h.cp.sub k hk))) hE.size, h.cp.blk.ext hE (fun e => hne e), h.cp.own.ext hE (fun k hk e => h.nbox (e ▸ (h.cp.row k hk).1)), fun x hx => ⟨hld _ (h.cp.ls x hx).1 (hty _ (h.cp.ls x hx).1), hld _ (h.cp.ls x hx).2 (hty _ (h.cp.ls x hx).2)⟩, hld _ h.cp.res (hty _ h.cp.res), h.cp.fb, h.cp.nb, h.cp.sub, h.cp.row, fun k hk => Nat.lt_of_lt_of_le (h.cp.lt k hk) hE.size⟩,
    (h.ext.setCell (p := ⟨w.heap.size, 0, none⟩) (fun h => absurd h (Nat.lt_irrefl _)) _).setCell (p := ⟨w.heap.size, 1, none⟩) (fun h => absurd h (Nat.lt_irrefl _)) _, h.new, (h.box.set_ 0 _).set_ 1 _, h.nbox, (hld _ hp (hty _ hp)).toOk, (hld _ hq (hty _ hq)).toOk⟩, hld _ hp (hty _ hp), hld _ hq (hty _ hq)⟩

set_option maxHeartbeats 4000000 in
set_option maxRecDepth 100000 in
theorem enter_yes {F : Nat → Prop} {w : World} {b bst : Nat} {c : Ctl} (h : CAt F w b bst c) (hok : c.s.Ok) (op : Int) (hop : op = 2 ∨ op = 3 ∨ op = 4) (h0b : c.broken = 0) (hcb : c.bs ≠ []) (pd qd : LD) (hpd : pd.Ok F w) (hqd : qd.Ok F w)
    (hn : c.s.T.length + pd.l.length ≤ 900000) (hm : c.s.P.length ≤ 800000) (hbn : c.bs.length ≤ 800000) (hpl : pd.l.length ≤ 900000) (hql : qd.l.length ≤ 900000) :
    Calls Try.prog 35 #[.pointer (some ⟨b, 0, none⟩), .int .i64 op, .agg #[.slice pd.a pd.l.length pd.c, .slice qd.a qd.l.length qd.c]] w fun e w' => e = .returned (.int .i64 (c.enter op pd.l qd.l).2) ∧ CLeft F w b bst (c.enter op pd.l qd.l).1 w' := by
  obtain ⟨F1, vb, bds, rd, h, hb, hr⟩ := h
  obtain ⟨A, cc, rfl, _⟩ := h.form
  obtain ⟨wa, hwa⟩ : ∃ wa : World, wa = w.alloc (.cells ([pd.v, qd.v] : List Value).toArray 56) := ⟨_, rfl⟩
  have hka : Keep w wa := by rw [hwa]; exact (Keep.refl _).alloc _
  have bx : Blk wa w.heap.size 56 [pd.v, qd.v] := by rw [hwa]; exact Blk.new _ _ _
  have hFl := h.lt
  rw [h0b] at h
  have h0 := h.keep hka
  have Hm := Lib.hid (wrong_calls h0)
  have Hwa := Lib.hid hwa
  have c0 : wa.cell? ⟨b, 0, none⟩ = some (.pointer (some ⟨bst, 0, none⟩)) := h0.blk.cell 0
  have c1 : wa.cell? ⟨b, 1, none⟩ = some (.slice A bds.length cc) := h0.blk.cell 1
  have lb := h0.blk.lt
  have hlz : ((bds.length : Int) == 0) = false := by
    cases bds with
    | nil => exact absurd hb.symm hcb
    | cons y r => simp; omega
  have Hlen := Lib.hid (show bds.length ≤ 800000 by rw [← hb] at hbn; simpa using hbn)
  have hx : EX F F F1 w b bst (.slice A bds.length cc) bds rd pd qd c.live c.s wa := ⟨h0, hka.ext F, fun k hk => .inl hk, bx, fun hf => by have := hFl _ hf; omega, hpd.keep hka, hqd.keep hka⟩
  have Hb := Lib.hid hb
  have Hr := Lib.hid hr
  have Hb0 := Lib.hid h0b
  by_cases h4 : op = 4
  rotate_left
  · have Hd : Hid (c.enter op pd.l qd.l = ({ c with s := c.s } : Ctl).enter2 op pd.l qd.l) := Lib.hid (by
      unfold Ctl.enter
      rw [if_neg (by simpa using h0b), if_neg (by rcases hop with rfl | rfl | rfl <;> decide), if_neg hcb, if_neg h4])
    have hok1 := hok
    have t4 : (op == 4) = false := by simpa using h4
    clear hwa hb hr h0b hcb h h0 bx hka hok hbn hFl hpd hqd
    by_cases h2 : op = 2
    · have t2 : (op != 2) = false := by simp [h2]
      clear h2 h4 hop
      go_enter Try.func35, Try.ntmps35
      go_wp2_with fail
      show Calls Try.prog _ _ (w.alloc (.cells ([pd.v, qd.v] : List Value).toArray 56)) _
      rw [← Hwa.out]
      refine Hm.out.mono ?_
      rintro e w1 ⟨rfl, rfl⟩
      clear Hm Hwa
      go_wp2_with fail
      by_cases hw : (c.s.want pd.l).2 = 0
      rotate_left
      · have hwb : ((c.s.want pd.l).2 != 0) = true := by simpa using hw
        have Hw := Lib.hid (c.s.want_fail pd.l hw)
        have Hd2 := Lib.hid (show ({ c with s := c.s } : Ctl).enter2 op pd.l qd.l = ({ c with s := c.s } : Ctl).broke (c.s.want pd.l).2 by unfold Ctl.enter2; rw [if_neg hw])
        clear hw
        have x0 := fun y : KE F1 wa => y.cell (v := .pointer (some ⟨bst, 0, none⟩)) (hx.cp.blk.cell 0) hx.cp.nb
        have x1 := fun y : KE F1 wa => y.cell (v := .slice pd.a pd.l.length pd.c) (hx.box.cell 0) (fun hf => hx.nbox (hx.cp.sub _ hf))
        refine region_begin (S := fun w' => ∃ y : KE F1 wa, w' = y.val) (by kernel_rfl) ?_
        refine region_take [0, 1, 2, 3, 4, 5] [] 2 (by kernel_rfl) (by kernel_rfl) (KE.mk' (Ext.drew (Ext.refl _ _))) ?_
        show wpQuiet _ _ _ _ [_, _, _, _, _, _] _
        repeat (go_big_quiet_step (fail))
        refine wpQuiet_nil ?_
        clear x0 x1
        have hkd : Keep wa wa.drew := (Keep.refl _).drew
        refine region_fix (i := 6) (fuel := 1) rfl (by kernel_rfl) (fun K hK => ?_)
        go_simp
        refine (want_calls (hx.keep hkd).cp.st hok1 pd.l pd.a pd.c (hx.keep hkd).p.seg (by omega) (by omega) (by omega)).mono ?_
        rintro e w2 ⟨rfl, hl2⟩
        refine hK _ _ (KE.mk' ((hkd.ext F1).trans hl2.1 (fun _ _ h => h))) ?_
        clear hK K
        refine region_take [7] [0, 1, 2, 3, 4, 5, 6] 0 (by kernel_rfl) (by kernel_rfl) (KE.mk' ((hkd.ext F1).trans hl2.1 (fun _ _ h => h))) ?_
        show wpQuiet _ _ _ _ [_] _
        repeat (go_big_quiet_step (fail))
        refine wpQuiet_nil ?_
        refine region_done (by kernel_rfl) ?_
        obtain ⟨F2, G2, hx2⟩ := (hx.keep hkd).stack hl2
        clear hl2 hx
        go_wp2_with fail
        refine (broke_calls hx2.cp (c.s.want pd.l).2).mono ?_
        rintro e w3 ⟨rfl, h3, hE3⟩
        have Hfin := Lib.hid (hx2.broke (c := ({ c with s := c.s } : Ctl).broke (c.s.want pd.l).2 |>.1) h3 hE3 Hw.out.symm rfl Hb.out Hr.out rfl)
        clear hx2 h3 hE3
        go_wp2
        go_ret
        rw [Hd.out, Hd2.out]
        exact ⟨rfl, Hfin.out⟩
      · obtain ⟨s2, hs2⟩ : ∃ s2, s2 = (c.s.want pd.l).1 := ⟨_, rfl⟩
        have Hd2 := Lib.hid (show ({ c with s := c.s } : Ctl).enter2 op pd.l qd.l = (({ c with s := s2 } : Ctl).begin_ ⟨op, pd.l, qd.l, false, c.live⟩, 0) by unfold Ctl.enter2; rw [if_pos hw, hs2])
        have hwb : ((c.s.want pd.l).2 != 0) = false := by simpa using hw
        have hs2l : s2.T.length ≤ c.s.T.length ∧ s2.P = c.s.P := by rw [hs2]; exact c.s.want_le pd.l
        have hs2T : s2.T.length + pd.l.length ≤ 1000000 := by omega
        have hs2P : s2.P.length ≤ 900000 := by rw [hs2l.2]; omega
        clear hw hs2l
        have x0 := fun y : KE F1 wa => y.cell (v := .pointer (some ⟨bst, 0, none⟩)) (hx.cp.blk.cell 0) hx.cp.nb
        have x1 := fun y : KE F1 wa => y.cell (v := .slice pd.a pd.l.length pd.c) (hx.box.cell 0) (fun hf => hx.nbox (hx.cp.sub _ hf))
        refine region_begin (S := fun w' => ∃ y : KE F1 wa, w' = y.val) (by kernel_rfl) ?_
        refine region_take [0, 1, 2, 3, 4, 5] [] 2 (by kernel_rfl) (by kernel_rfl) (KE.mk' (Ext.drew (Ext.refl _ _))) ?_
        show wpQuiet _ _ _ _ [_, _, _, _, _, _] _
        repeat (go_big_quiet_step (fail))
        refine wpQuiet_nil ?_
        clear x0 x1
        have hkd : Keep wa wa.drew := (Keep.refl _).drew
        refine region_fix (i := 6) (fuel := 1) rfl (by kernel_rfl) (fun K hK => ?_)
        go_simp
        refine (want_calls (hx.keep hkd).cp.st hok1 pd.l pd.a pd.c (hx.keep hkd).p.seg (by omega) (by omega) (by omega)).mono ?_
        rintro e w2 ⟨rfl, hl2⟩
        refine hK _ _ (KE.mk' ((hkd.ext F1).trans hl2.1 (fun _ _ h => h))) ?_
        clear hK K
        refine region_take [7] [0, 1, 2, 3, 4, 5, 6] 0 (by kernel_rfl) (by kernel_rfl) (KE.mk' ((hkd.ext F1).trans hl2.1 (fun _ _ h => h))) ?_
        show wpQuiet _ _ _ _ [_] _
        repeat (go_big_quiet_step (fail))
        refine wpQuiet_nil ?_
        refine region_done (by kernel_rfl) ?_
        rw [← hs2] at hl2
        obtain ⟨F2, G2, hx2⟩ := (hx.keep hkd).stack hl2
        clear hl2 hx hs2
        go_wp2_with fail
        have x0 := fun y : KW w2 => y.cell (v := .slice pd.a pd.l.length pd.c) (hx2.box.cell 0)
        have x1 := fun y : KW w2 => y.cell (v := .slice qd.a qd.l.length qd.c) (hx2.box.cell 1)
        have hkd2 : Keep w2 w2.drew := (Keep.refl _).drew
        refine tail_begin (S := fun w' => ∃ y : KW w2, w' = y.val) [7] (by kernel_rfl) ?_
        refine tail_take [0, 1, 3, 4] [] 4 (by kernel_rfl) (by kernel_rfl) (InK.mk' hkd2) ?_
        show wpQuiet _ _ _ _ [_, _, _, _] _
        repeat (go_big_quiet_step (fail))
        refine wpQuiet_nil ?_
        clear x0 x1
        refine tail_fix (i := 2) (fuel := 3) rfl (by kernel_rfl) (fun K hK => ?_)
        go_simp
        refine (clone_calls pd.l pd.a pd.c w2.drew (hx2.keep hkd2).p.seg (by omega)).mono ?_
        rintro e w3 ⟨v3, rfl, ho3, hk3'⟩
        obtain ⟨A3, c3, rfl, _⟩ := ho3.form
        have hk3 := hkd2.trans hk3'
        refine hK _ _ (fun _ => InK.mk' hk3) ?_
        clear hK K
        refine tail_fix (i := 5) (fuel := 2) rfl (by kernel_rfl) (fun K hK => ?_)
        go_simp
        refine (clone_calls qd.l qd.a qd.c w3 (hx2.keep hk3).q.seg (by omega)).mono ?_
        rintro e w4 ⟨v4, rfl, ho4, hk4'⟩
        obtain ⟨A4, c4, rfl, _⟩ := ho4.form
        have hk4 := hk3.trans hk4'
        refine hK _ _ (fun _ => InK.mk' hk4) ?_
        clear hK K
        have hp4 : (LD.mk A3 pd.l c3).Kt F2 w4 := (LD.Kt.of_own ho3 (fun k hf => hx2.cp.lt k hf)).keep hk4'
        have hq4 : (LD.mk A4 qd.l c4).Kt F2 w4 := LD.Kt.of_own ho4 (fun k hf => Nat.lt_of_lt_of_le (hx2.cp.lt k hf) hk3.size)
        have hx4 := hx2.keep hk4
        have b0 : w4.cell? ⟨w.heap.size, 0, none⟩ = some (.slice pd.a pd.l.length pd.c) := hx4.box.cell 0
        have b1 : w4.cell? ⟨w.heap.size, 1, none⟩ = some (.slice qd.a qd.l.length qd.c) := hx4.box.cell 1
        have fb := hx4.box.frozen
        have lb4 := hx4.box.lt
        obtain ⟨w5, hw5⟩ : ∃ w5 : World, w5 = (w4.setCell ⟨w.heap.size, 0, none⟩ (.slice A3 pd.l.length c3)).setCell ⟨w.heap.size, 1, none⟩ (.slice A4 qd.l.length c4) := ⟨_, rfl⟩
        obtain ⟨hx5, hp5, hq5⟩ := EX.rebox hx4 hp4 hq4 hw5
        clear hx2 hx4 hp4 hq4 ho3 ho4
        refine tail_take [6] [0, 1, 3, 4, 2, 5] 1 (by kernel_rfl) (by kernel_rfl) (InK.mk' hk4) ?_
        show wpQuiet _ _ _ _ [_] _
        repeat (go_big_quiet_step (fail))
        refine wpQuiet_nil ?_
        refine tail_fix (i := 7) (fuel := 0) rfl (by kernel_rfl) (fun K hK => ?_)
        go_simp
        refine hK _ _ (fun h => absurd h (by decide)) ?_
        clear hK K
        refine tail_done (by kernel_rfl) ?_
        rw [← hw5]
        clear hw5 b0 b1 fb lb4
        go_wp2_with fail
        have k0 : w5.cell? ⟨w.heap.size, 0, none⟩ = some (.slice A3 pd.l.length c3) := hx5.box.cell 0
        have k1 : w5.cell? ⟨w.heap.size, 1, none⟩ = some (.slice A4 qd.l.length c4) := hx5.box.cell 1
        have k3 : w5.cell? ⟨b, 3, none⟩ = some (.bool c.live) := hx5.cp.blk.cell 3
        have lk := hx5.box.lt
        have lk3 := hx5.cp.blk.lt
        have hkd5 : Keep w5 w5.drew := (Keep.refl _).drew
        go_still_tail 8, (by kernel_rfl)
        change wpList _ _ _ _ _ w5.drew
        go_wp2_with fail
        refine (begin_calls (hx5.keep hkd5).cp ⟨op, ⟨A3, pd.l, c3⟩, ⟨A4, qd.l, c4⟩, false, c.live⟩ (hp5.keep hkd5) (hq5.keep hkd5) hs2T hs2P (by have := Hlen.out; omega)).mono ?_
        rintro e w6 ⟨⟨u6, rfl⟩, F6, G6, vb6, h6, hE6, hF6⟩
        have Hfin := Lib.hid (show CLeft F w b bst (({ c with s := s2 } : Ctl).begin_ ⟨op, pd.l, qd.l, false, c.live⟩) w6 from CLeft.mk ((hx5.ext.keepTrans hkd5).trans hE6 (fun k hk hf => (hx5.new k hf).elim id (fun h1 => by omega))) (fun k hf => (hF6 k hf).elim (hx5.new k) (fun h1 => .inr (by have := (hx5.ext.keepTrans hkd5).size; omega))) (by have h7 := h6; rw [← Hb0.out] at h7; exact h7) (by show (bds ++ [_]).map BD.plain = c.bs ++ [_]; rw [List.map_append, Hb.out]; rfl) Hr.out)
        clear hx5 hp5 hq5 h6 hE6 hF6
        go_wp2
        go_ret
        rw [Hd.out, Hd2.out]
        exact ⟨rfl, Hfin.out⟩
    · have t2 : (op != 2) = true := by simpa using h2
      have t3 : (op != 3) = false := by
        have : op = 3 := by omega
        simp [this]
      clear h2 h4 hop
      go_enter Try.func35, Try.ntmps35
      go_wp2_with fail
      show Calls Try.prog _ _ (w.alloc (.cells ([pd.v, qd.v] : List Value).toArray 56)) _
      rw [← Hwa.out]
      refine Hm.out.mono ?_
      rintro e w1 ⟨rfl, rfl⟩
      clear Hm Hwa
      go_wp2_with fail
      by_cases hw : (c.s.want pd.l).2 = 0
      rotate_left
      · have hwb : ((c.s.want pd.l).2 != 0) = true := by simpa using hw
        have Hw := Lib.hid (c.s.want_fail pd.l hw)
        have Hd2 := Lib.hid (show ({ c with s := c.s } : Ctl).enter2 op pd.l qd.l = ({ c with s := c.s } : Ctl).broke (c.s.want pd.l).2 by unfold Ctl.enter2; rw [if_neg hw])
        clear hw
        have x0 := fun y : KE F1 wa => y.cell (v := .pointer (some ⟨bst, 0, none⟩)) (hx.cp.blk.cell 0) hx.cp.nb
        have x1 := fun y : KE F1 wa => y.cell (v := .slice pd.a pd.l.length pd.c) (hx.box.cell 0) (fun hf => hx.nbox (hx.cp.sub _ hf))
        refine region_begin (S := fun w' => ∃ y : KE F1 wa, w' = y.val) (by kernel_rfl) ?_
        refine region_take [0, 1, 2, 3, 4, 5] [] 2 (by kernel_rfl) (by kernel_rfl) (KE.mk' (Ext.drew (Ext.refl _ _))) ?_
        show wpQuiet _ _ _ _ [_, _, _, _, _, _] _
        repeat (go_big_quiet_step (fail))
        refine wpQuiet_nil ?_
        clear x0 x1
        have hkd : Keep wa wa.drew := (Keep.refl _).drew
        refine region_fix (i := 6) (fuel := 1) rfl (by kernel_rfl) (fun K hK => ?_)
        go_simp
        refine (want_calls (hx.keep hkd).cp.st hok1 pd.l pd.a pd.c (hx.keep hkd).p.seg (by omega) (by omega) (by omega)).mono ?_
        rintro e w2 ⟨rfl, hl2⟩
        refine hK _ _ (KE.mk' ((hkd.ext F1).trans hl2.1 (fun _ _ h => h))) ?_
        clear hK K
        refine region_take [7] [0, 1, 2, 3, 4, 5, 6] 0 (by kernel_rfl) (by kernel_rfl) (KE.mk' ((hkd.ext F1).trans hl2.1 (fun _ _ h => h))) ?_
        show wpQuiet _ _ _ _ [_] _
        repeat (go_big_quiet_step (fail))
        refine wpQuiet_nil ?_
        refine region_done (by kernel_rfl) ?_
        obtain ⟨F2, G2, hx2⟩ := (hx.keep hkd).stack hl2
        clear hl2 hx
        go_wp2_with fail
        refine (broke_calls hx2.cp (c.s.want pd.l).2).mono ?_
        rintro e w3 ⟨rfl, h3, hE3⟩
        have Hfin := Lib.hid (hx2.broke (c := ({ c with s := c.s } : Ctl).broke (c.s.want pd.l).2 |>.1) h3 hE3 Hw.out.symm rfl Hb.out Hr.out rfl)
        clear hx2 h3 hE3
        go_wp2
        go_ret
        rw [Hd.out, Hd2.out]
        exact ⟨rfl, Hfin.out⟩
      · obtain ⟨s2, hs2⟩ : ∃ s2, s2 = (c.s.want pd.l).1 := ⟨_, rfl⟩
        have Hd2 := Lib.hid (show ({ c with s := c.s } : Ctl).enter2 op pd.l qd.l = (({ c with s := s2 } : Ctl).begin_ ⟨op, pd.l, qd.l, false, c.live⟩, 0) by unfold Ctl.enter2; rw [if_pos hw, hs2])
        have hwb : ((c.s.want pd.l).2 != 0) = false := by simpa using hw
        have hs2l : s2.T.length ≤ c.s.T.length ∧ s2.P = c.s.P := by rw [hs2]; exact c.s.want_le pd.l
        have hs2T : s2.T.length + pd.l.length ≤ 1000000 := by omega
        have hs2P : s2.P.length ≤ 900000 := by rw [hs2l.2]; omega
        clear hw hs2l
        have x0 := fun y : KE F1 wa => y.cell (v := .pointer (some ⟨bst, 0, none⟩)) (hx.cp.blk.cell 0) hx.cp.nb
        have x1 := fun y : KE F1 wa => y.cell (v := .slice pd.a pd.l.length pd.c) (hx.box.cell 0) (fun hf => hx.nbox (hx.cp.sub _ hf))
        refine region_begin (S := fun w' => ∃ y : KE F1 wa, w' = y.val) (by kernel_rfl) ?_
        refine region_take [0, 1, 2, 3, 4, 5] [] 2 (by kernel_rfl) (by kernel_rfl) (KE.mk' (Ext.drew (Ext.refl _ _))) ?_
        show wpQuiet _ _ _ _ [_, _, _, _, _, _] _
        repeat (go_big_quiet_step (fail))
        refine wpQuiet_nil ?_
        clear x0 x1
        have hkd : Keep wa wa.drew := (Keep.refl _).drew
        refine region_fix (i := 6) (fuel := 1) rfl (by kernel_rfl) (fun K hK => ?_)
        go_simp
        refine (want_calls (hx.keep hkd).cp.st hok1 pd.l pd.a pd.c (hx.keep hkd).p.seg (by omega) (by omega) (by omega)).mono ?_
        rintro e w2 ⟨rfl, hl2⟩
        refine hK _ _ (KE.mk' ((hkd.ext F1).trans hl2.1 (fun _ _ h => h))) ?_
        clear hK K
        refine region_take [7] [0, 1, 2, 3, 4, 5, 6] 0 (by kernel_rfl) (by kernel_rfl) (KE.mk' ((hkd.ext F1).trans hl2.1 (fun _ _ h => h))) ?_
        show wpQuiet _ _ _ _ [_] _
        repeat (go_big_quiet_step (fail))
        refine wpQuiet_nil ?_
        refine region_done (by kernel_rfl) ?_
        rw [← hs2] at hl2
        obtain ⟨F2, G2, hx2⟩ := (hx.keep hkd).stack hl2
        clear hl2 hx hs2
        go_wp2_with fail
        have x0 := fun y : KW w2 => y.cell (v := .slice pd.a pd.l.length pd.c) (hx2.box.cell 0)
        have x1 := fun y : KW w2 => y.cell (v := .slice qd.a qd.l.length qd.c) (hx2.box.cell 1)
        have hkd2 : Keep w2 w2.drew := (Keep.refl _).drew
        refine tail_begin (S := fun w' => ∃ y : KW w2, w' = y.val) [7] (by kernel_rfl) ?_
        refine tail_take [0, 1, 3, 4] [] 4 (by kernel_rfl) (by kernel_rfl) (InK.mk' hkd2) ?_
        show wpQuiet _ _ _ _ [_, _, _, _] _
        repeat (go_big_quiet_step (fail))
        refine wpQuiet_nil ?_
        clear x0 x1
        refine tail_fix (i := 2) (fuel := 3) rfl (by kernel_rfl) (fun K hK => ?_)
        go_simp
        refine (clone_calls pd.l pd.a pd.c w2.drew (hx2.keep hkd2).p.seg (by omega)).mono ?_
        rintro e w3 ⟨v3, rfl, ho3, hk3'⟩
        obtain ⟨A3, c3, rfl, _⟩ := ho3.form
        have hk3 := hkd2.trans hk3'
        refine hK _ _ (fun _ => InK.mk' hk3) ?_
        clear hK K
        refine tail_fix (i := 5) (fuel := 2) rfl (by kernel_rfl) (fun K hK => ?_)
        go_simp
        refine (clone_calls qd.l qd.a qd.c w3 (hx2.keep hk3).q.seg (by omega)).mono ?_
        rintro e w4 ⟨v4, rfl, ho4, hk4'⟩
        obtain ⟨A4, c4, rfl, _⟩ := ho4.form
        have hk4 := hk3.trans hk4'
        refine hK _ _ (fun _ => InK.mk' hk4) ?_
        clear hK K
        have hp4 : (LD.mk A3 pd.l c3).Kt F2 w4 := (LD.Kt.of_own ho3 (fun k hf => hx2.cp.lt k hf)).keep hk4'
        have hq4 : (LD.mk A4 qd.l c4).Kt F2 w4 := LD.Kt.of_own ho4 (fun k hf => Nat.lt_of_lt_of_le (hx2.cp.lt k hf) hk3.size)
        have hx4 := hx2.keep hk4
        have b0 : w4.cell? ⟨w.heap.size, 0, none⟩ = some (.slice pd.a pd.l.length pd.c) := hx4.box.cell 0
        have b1 : w4.cell? ⟨w.heap.size, 1, none⟩ = some (.slice qd.a qd.l.length qd.c) := hx4.box.cell 1
        have fb := hx4.box.frozen
        have lb4 := hx4.box.lt
        obtain ⟨w5, hw5⟩ : ∃ w5 : World, w5 = (w4.setCell ⟨w.heap.size, 0, none⟩ (.slice A3 pd.l.length c3)).setCell ⟨w.heap.size, 1, none⟩ (.slice A4 qd.l.length c4) := ⟨_, rfl⟩
        obtain ⟨hx5, hp5, hq5⟩ := EX.rebox hx4 hp4 hq4 hw5
        clear hx2 hx4 hp4 hq4 ho3 ho4
        refine tail_take [6] [0, 1, 3, 4, 2, 5] 1 (by kernel_rfl) (by kernel_rfl) (InK.mk' hk4) ?_
        show wpQuiet _ _ _ _ [_] _
        repeat (go_big_quiet_step (fail))
        refine wpQuiet_nil ?_
        refine tail_fix (i := 7) (fuel := 0) rfl (by kernel_rfl) (fun K hK => ?_)
        go_simp
        refine hK _ _ (fun h => absurd h (by decide)) ?_
        clear hK K
        refine tail_done (by kernel_rfl) ?_
        rw [← hw5]
        clear hw5 b0 b1 fb lb4
        go_wp2_with fail
        have k0 : w5.cell? ⟨w.heap.size, 0, none⟩ = some (.slice A3 pd.l.length c3) := hx5.box.cell 0
        have k1 : w5.cell? ⟨w.heap.size, 1, none⟩ = some (.slice A4 qd.l.length c4) := hx5.box.cell 1
        have k3 : w5.cell? ⟨b, 3, none⟩ = some (.bool c.live) := hx5.cp.blk.cell 3
        have lk := hx5.box.lt
        have lk3 := hx5.cp.blk.lt
        have hkd5 : Keep w5 w5.drew := (Keep.refl _).drew
        go_still_tail 8, (by kernel_rfl)
        change wpList _ _ _ _ _ w5.drew
        go_wp2_with fail
        refine (begin_calls (hx5.keep hkd5).cp ⟨op, ⟨A3, pd.l, c3⟩, ⟨A4, qd.l, c4⟩, false, c.live⟩ (hp5.keep hkd5) (hq5.keep hkd5) hs2T hs2P (by have := Hlen.out; omega)).mono ?_
        rintro e w6 ⟨⟨u6, rfl⟩, F6, G6, vb6, h6, hE6, hF6⟩
        have Hfin := Lib.hid (show CLeft F w b bst (({ c with s := s2 } : Ctl).begin_ ⟨op, pd.l, qd.l, false, c.live⟩) w6 from CLeft.mk ((hx5.ext.keepTrans hkd5).trans hE6 (fun k hk hf => (hx5.new k hf).elim id (fun h1 => by omega))) (fun k hf => (hF6 k hf).elim (hx5.new k) (fun h1 => .inr (by have := (hx5.ext.keepTrans hkd5).size; omega))) (by have h7 := h6; rw [← Hb0.out] at h7; exact h7) (by show (bds ++ [_]).map BD.plain = c.bs ++ [_]; rw [List.map_append, Hb.out]; rfl) Hr.out)
        clear hx5 hp5 hq5 h6 hE6 hF6
        go_wp2
        go_ret
        rw [Hd.out, Hd2.out]
        exact ⟨rfl, Hfin.out⟩
  · have Hd0 : Hid (c.enter op pd.l qd.l = if (c.s.want [1]).2 = 0 then ({ c with s := (c.s.want [1]).1 } : Ctl).enter2 op pd.l qd.l else c.broke (c.s.want [1]).2) := Lib.hid (by
      unfold Ctl.enter
      rw [if_neg (by simpa using h0b), if_neg (fun h1 => h1.2.2 h4), if_neg hcb, if_pos h4])
    have t2 : (op != 2) = true := by simp [h4]
    have t3 : (op != 3) = true := by simp [h4]
    have t4 : (op != 4) = false := by simp [h4]
    have t5 : (op == 4) = true := by simp [h4]
    obtain ⟨wb, hwb⟩ : ∃ wb : World, wb = wa.alloc (.cells (([1] : List Int).flatMap valC).toArray 45) := ⟨_, rfl⟩
    have hkb : Keep wa wb := by rw [hwb]; exact (Keep.refl _).alloc _
    have hx0 := hx.keep hkb
    have Hwb := Lib.hid hwb
    have Hw1 := Lib.hid (want_calls hx0.cp.st hok [1] (some ⟨wa.heap.size, 0, none⟩) 1 (by rw [hwb]; exact Seg.of_blk (Blk.new wa 45 (([1] : List Int).flatMap valC))) (by omega) (by omega) (by decide))
    have hl1 := c.s.want_le [1]
    have hokw := hok.want [1]
    clear hwa hb hr h0b hcb h h0 bx hka hok hbn hFl hpd hqd h4 hop hwb hx hkb
    by_cases hw1 : (c.s.want [1]).2 = 0
    rotate_left
    · have hwb : ((c.s.want [1]).2 != 0) = true := by simpa using hw1
      have Hwf := Lib.hid (c.s.want_fail [1] hw1)
      have Hd := Lib.hid (show c.enter op pd.l qd.l = c.broke (c.s.want [1]).2 by rw [Hd0.out, if_neg hw1])
      clear hw1
      go_enter Try.func35, Try.ntmps35
      go_wp2_with fail
      show Calls Try.prog _ _ (w.alloc (.cells ([pd.v, qd.v] : List Value).toArray 56)) _
      rw [← Hwa.out]
      refine Hm.out.mono ?_
      rintro e w1 ⟨rfl, rfl⟩
      clear Hm Hwa
      go_wp2_with fail
      show Calls Try.prog _ _ (wa.alloc (.cells (([1] : List Int).flatMap valC).toArray 45)) _
      rw [← Hwb.out]
      refine Hw1.out.mono ?_
      rintro e w2 ⟨rfl, hl2⟩
      clear Hw1 Hwb
      obtain ⟨F2, G2, hx2⟩ := hx0.stack hl2
      clear hl2 hx0
      go_wp2_with fail
      refine (broke_calls hx2.cp (c.s.want [1]).2).mono ?_
      rintro e w3 ⟨rfl, h3, hE3⟩
      have Hfin := Lib.hid (hx2.broke (c := (c.broke (c.s.want [1]).2).1) h3 hE3 Hwf.out.symm rfl Hb.out Hr.out rfl)
      clear hx2 h3 hE3
      go_wp2
      go_ret
      rw [Hd.out]
      exact ⟨rfl, Hfin.out⟩
    · have hwb : ((c.s.want [1]).2 != 0) = false := by simpa using hw1
      obtain ⟨s1, hs1⟩ : ∃ s1, s1 = (c.s.want [1]).1 := ⟨_, rfl⟩
      have Hd := Lib.hid (show c.enter op pd.l qd.l = ({ c with s := s1 } : Ctl).enter2 op pd.l qd.l by rw [Hd0.out, if_pos hw1, hs1])
      rw [← hs1] at hl1 hokw Hw1
      have hok1 := hokw
      have hT1 : s1.T.length + pd.l.length ≤ 900000 := by omega
      have hP1 : s1.P.length ≤ 800000 := by rw [hl1.2]; exact hm
      clear hw1 Hd0 hokw hs1 hl1
      go_enter Try.func35, Try.ntmps35
      go_wp2_with fail
      show Calls Try.prog _ _ (w.alloc (.cells ([pd.v, qd.v] : List Value).toArray 56)) _
      rw [← Hwa.out]
      refine Hm.out.mono ?_
      rintro e w1 ⟨rfl, rfl⟩
      clear Hm Hwa
      go_wp2_with fail
      show Calls Try.prog _ _ (wa.alloc (.cells (([1] : List Int).flatMap valC).toArray 45)) _
      rw [← Hwb.out]
      refine Hw1.out.mono ?_
      rintro e wx ⟨rfl, hl2⟩
      clear Hw1 Hwb
      obtain ⟨FX, GX, hx⟩ := hx0.stack hl2
      clear hl2 hx0 c0 c1 lb
      go_wp2_with fail
      by_cases hw : (s1.want pd.l).2 = 0
      rotate_left
      · have hwb : ((s1.want pd.l).2 != 0) = true := by simpa using hw
        have Hw := Lib.hid (s1.want_fail pd.l hw)
        have Hd2 := Lib.hid (show ({ c with s := s1 } : Ctl).enter2 op pd.l qd.l = ({ c with s := s1 } : Ctl).broke (s1.want pd.l).2 by unfold Ctl.enter2; rw [if_neg hw])
        clear hw
        have x0 := fun y : KE GX wx => y.cell (v := .pointer (some ⟨bst, 0, none⟩)) (hx.cp.blk.cell 0) hx.cp.nb
        have x1 := fun y : KE GX wx => y.cell (v := .slice pd.a pd.l.length pd.c) (hx.box.cell 0) (fun hf => hx.nbox (hx.cp.sub _ hf))
        refine region_begin (S := fun w' => ∃ y : KE GX wx, w' = y.val) (by kernel_rfl) ?_
        refine region_take [0, 1, 2, 3, 4, 5] [] 2 (by kernel_rfl) (by kernel_rfl) (KE.mk' (Ext.drew (Ext.refl _ _))) ?_
        show wpQuiet _ _ _ _ [_, _, _, _, _, _] _
        repeat (go_big_quiet_step (fail))
        refine wpQuiet_nil ?_
        clear x0 x1
        have hkd : Keep wx wx.drew := (Keep.refl _).drew
        refine region_fix (i := 6) (fuel := 1) rfl (by kernel_rfl) (fun K hK => ?_)
        go_simp
        refine (want_calls (hx.keep hkd).cp.st hok1 pd.l pd.a pd.c (hx.keep hkd).p.seg (by omega) (by omega) (by omega)).mono ?_
        rintro e w2 ⟨rfl, hl2⟩
        refine hK _ _ (KE.mk' ((hkd.ext GX).trans hl2.1 (fun _ _ h => h))) ?_
        clear hK K
        refine region_take [7] [0, 1, 2, 3, 4, 5, 6] 0 (by kernel_rfl) (by kernel_rfl) (KE.mk' ((hkd.ext GX).trans hl2.1 (fun _ _ h => h))) ?_
        show wpQuiet _ _ _ _ [_] _
        repeat (go_big_quiet_step (fail))
        refine wpQuiet_nil ?_
        refine region_done (by kernel_rfl) ?_
        obtain ⟨F2, G2, hx2⟩ := (hx.keep hkd).stack hl2
        clear hl2 hx
        go_wp2_with fail
        refine (broke_calls hx2.cp (s1.want pd.l).2).mono ?_
        rintro e w3 ⟨rfl, h3, hE3⟩
        have Hfin := Lib.hid (hx2.broke (c := ({ c with s := s1 } : Ctl).broke (s1.want pd.l).2 |>.1) h3 hE3 Hw.out.symm rfl Hb.out Hr.out rfl)
        clear hx2 h3 hE3
        go_wp2
        go_ret
        rw [Hd.out, Hd2.out]
        exact ⟨rfl, Hfin.out⟩
      · obtain ⟨s2, hs2⟩ : ∃ s2, s2 = (s1.want pd.l).1 := ⟨_, rfl⟩
        have Hd2 := Lib.hid (show ({ c with s := s1 } : Ctl).enter2 op pd.l qd.l = (({ c with s := s2 } : Ctl).begin_ ⟨op, pd.l, qd.l, false, c.live⟩, 0) by unfold Ctl.enter2; rw [if_pos hw, hs2])
        have hwb : ((s1.want pd.l).2 != 0) = false := by simpa using hw
        have hs2l : s2.T.length ≤ s1.T.length ∧ s2.P = s1.P := by rw [hs2]; exact s1.want_le pd.l
        have hs2T : s2.T.length + pd.l.length ≤ 1000000 := by omega
        have hs2P : s2.P.length ≤ 900000 := by rw [hs2l.2]; omega
        clear hw hs2l
        have x0 := fun y : KE GX wx => y.cell (v := .pointer (some ⟨bst, 0, none⟩)) (hx.cp.blk.cell 0) hx.cp.nb
        have x1 := fun y : KE GX wx => y.cell (v := .slice pd.a pd.l.length pd.c) (hx.box.cell 0) (fun hf => hx.nbox (hx.cp.sub _ hf))
        refine region_begin (S := fun w' => ∃ y : KE GX wx, w' = y.val) (by kernel_rfl) ?_
        refine region_take [0, 1, 2, 3, 4, 5] [] 2 (by kernel_rfl) (by kernel_rfl) (KE.mk' (Ext.drew (Ext.refl _ _))) ?_
        show wpQuiet _ _ _ _ [_, _, _, _, _, _] _
        repeat (go_big_quiet_step (fail))
        refine wpQuiet_nil ?_
        clear x0 x1
        have hkd : Keep wx wx.drew := (Keep.refl _).drew
        refine region_fix (i := 6) (fuel := 1) rfl (by kernel_rfl) (fun K hK => ?_)
        go_simp
        refine (want_calls (hx.keep hkd).cp.st hok1 pd.l pd.a pd.c (hx.keep hkd).p.seg (by omega) (by omega) (by omega)).mono ?_
        rintro e w2 ⟨rfl, hl2⟩
        refine hK _ _ (KE.mk' ((hkd.ext GX).trans hl2.1 (fun _ _ h => h))) ?_
        clear hK K
        refine region_take [7] [0, 1, 2, 3, 4, 5, 6] 0 (by kernel_rfl) (by kernel_rfl) (KE.mk' ((hkd.ext GX).trans hl2.1 (fun _ _ h => h))) ?_
        show wpQuiet _ _ _ _ [_] _
        repeat (go_big_quiet_step (fail))
        refine wpQuiet_nil ?_
        refine region_done (by kernel_rfl) ?_
        rw [← hs2] at hl2
        obtain ⟨F2, G2, hx2⟩ := (hx.keep hkd).stack hl2
        clear hl2 hx hs2
        go_wp2_with fail
        have x0 := fun y : KW w2 => y.cell (v := .slice pd.a pd.l.length pd.c) (hx2.box.cell 0)
        have x1 := fun y : KW w2 => y.cell (v := .slice qd.a qd.l.length qd.c) (hx2.box.cell 1)
        have hkd2 : Keep w2 w2.drew := (Keep.refl _).drew
        refine tail_begin (S := fun w' => ∃ y : KW w2, w' = y.val) [7] (by kernel_rfl) ?_
        refine tail_take [0, 1, 3, 4] [] 4 (by kernel_rfl) (by kernel_rfl) (InK.mk' hkd2) ?_
        show wpQuiet _ _ _ _ [_, _, _, _] _
        repeat (go_big_quiet_step (fail))
        refine wpQuiet_nil ?_
        clear x0 x1
        refine tail_fix (i := 2) (fuel := 3) rfl (by kernel_rfl) (fun K hK => ?_)
        go_simp
        refine (clone_calls pd.l pd.a pd.c w2.drew (hx2.keep hkd2).p.seg (by omega)).mono ?_
        rintro e w3 ⟨v3, rfl, ho3, hk3'⟩
        obtain ⟨A3, c3, rfl, _⟩ := ho3.form
        have hk3 := hkd2.trans hk3'
        refine hK _ _ (fun _ => InK.mk' hk3) ?_
        clear hK K
        refine tail_fix (i := 5) (fuel := 2) rfl (by kernel_rfl) (fun K hK => ?_)
        go_simp
        refine (clone_calls qd.l qd.a qd.c w3 (hx2.keep hk3).q.seg (by omega)).mono ?_
        rintro e w4 ⟨v4, rfl, ho4, hk4'⟩
        obtain ⟨A4, c4, rfl, _⟩ := ho4.form
        have hk4 := hk3.trans hk4'
        refine hK _ _ (fun _ => InK.mk' hk4) ?_
        clear hK K
        have hp4 : (LD.mk A3 pd.l c3).Kt F2 w4 := (LD.Kt.of_own ho3 (fun k hf => hx2.cp.lt k hf)).keep hk4'
        have hq4 : (LD.mk A4 qd.l c4).Kt F2 w4 := LD.Kt.of_own ho4 (fun k hf => Nat.lt_of_lt_of_le (hx2.cp.lt k hf) hk3.size)
        have hx4 := hx2.keep hk4
        have b0 : w4.cell? ⟨w.heap.size, 0, none⟩ = some (.slice pd.a pd.l.length pd.c) := hx4.box.cell 0
        have b1 : w4.cell? ⟨w.heap.size, 1, none⟩ = some (.slice qd.a qd.l.length qd.c) := hx4.box.cell 1
        have fb := hx4.box.frozen
        have lb4 := hx4.box.lt
        obtain ⟨w5, hw5⟩ : ∃ w5 : World, w5 = (w4.setCell ⟨w.heap.size, 0, none⟩ (.slice A3 pd.l.length c3)).setCell ⟨w.heap.size, 1, none⟩ (.slice A4 qd.l.length c4) := ⟨_, rfl⟩
        obtain ⟨hx5, hp5, hq5⟩ := EX.rebox hx4 hp4 hq4 hw5
        clear hx2 hx4 hp4 hq4 ho3 ho4
        refine tail_take [6] [0, 1, 3, 4, 2, 5] 1 (by kernel_rfl) (by kernel_rfl) (InK.mk' hk4) ?_
        show wpQuiet _ _ _ _ [_] _
        repeat (go_big_quiet_step (fail))
        refine wpQuiet_nil ?_
        refine tail_fix (i := 7) (fuel := 0) rfl (by kernel_rfl) (fun K hK => ?_)
        go_simp
        refine hK _ _ (fun h => absurd h (by decide)) ?_
        clear hK K
        refine tail_done (by kernel_rfl) ?_
        rw [← hw5]
        clear hw5 b0 b1 fb lb4
        go_wp2_with fail
        have k0 : w5.cell? ⟨w.heap.size, 0, none⟩ = some (.slice A3 pd.l.length c3) := hx5.box.cell 0
        have k1 : w5.cell? ⟨w.heap.size, 1, none⟩ = some (.slice A4 qd.l.length c4) := hx5.box.cell 1
        have k3 : w5.cell? ⟨b, 3, none⟩ = some (.bool c.live) := hx5.cp.blk.cell 3
        have lk := hx5.box.lt
        have lk3 := hx5.cp.blk.lt
        have hkd5 : Keep w5 w5.drew := (Keep.refl _).drew
        go_still_tail 8, (by kernel_rfl)
        change wpList _ _ _ _ _ w5.drew
        go_wp2_with fail
        refine (begin_calls (hx5.keep hkd5).cp ⟨op, ⟨A3, pd.l, c3⟩, ⟨A4, qd.l, c4⟩, false, c.live⟩ (hp5.keep hkd5) (hq5.keep hkd5) hs2T hs2P (by have := Hlen.out; omega)).mono ?_
        rintro e w6 ⟨⟨u6, rfl⟩, F6, G6, vb6, h6, hE6, hF6⟩
        have Hfin := Lib.hid (show CLeft F w b bst (({ c with s := s2 } : Ctl).begin_ ⟨op, pd.l, qd.l, false, c.live⟩) w6 from CLeft.mk ((hx5.ext.keepTrans hkd5).trans hE6 (fun k hk hf => (hx5.new k hf).elim id (fun h1 => by omega))) (fun k hf => (hF6 k hf).elim (hx5.new k) (fun h1 => .inr (by have := (hx5.ext.keepTrans hkd5).size; omega))) (by have h7 := h6; rw [← Hb0.out] at h7; exact h7) (by show (bds ++ [_]).map BD.plain = c.bs ++ [_]; rw [List.map_append, Hb.out]; rfl) Hr.out)
        clear hx5 hp5 hq5 h6 hE6 hF6
        go_wp2
        go_ret
        rw [Hd.out, Hd2.out]
        exact ⟨rfl, Hfin.out⟩

theorem enter_calls {F : Nat → Prop} {w : World} {b bst : Nat} {c : Ctl} (h : CAt F w b bst c) (hok : c.s.Ok) (op : Int) (pd qd : LD) (hpd : pd.Ok F w) (hqd : qd.Ok F w)
    (hn : c.s.T.length + pd.l.length ≤ 900000) (hm : c.s.P.length ≤ 800000) (hbn : c.bs.length ≤ 800000) (hpl : pd.l.length ≤ 900000) (hql : qd.l.length ≤ 900000) :
    Calls Try.prog 35 #[.pointer (some ⟨b, 0, none⟩), .int .i64 op, .agg #[.slice pd.a pd.l.length pd.c, .slice qd.a qd.l.length qd.c]] w fun e w' => e = .returned (.int .i64 (c.enter op pd.l qd.l).2) ∧ CLeft F w b bst (c.enter op pd.l qd.l).1 w' := by
  by_cases h0 : c.broken = 0
  rotate_left
  · exact enter_no h op pd qd c.broken (by unfold Ctl.enter; rw [if_pos h0]) (.inl h0)
  by_cases hop : op ≠ 2 ∧ op ≠ 3 ∧ op ≠ 4
  · exact enter_no h op pd qd 1 (by unfold Ctl.enter; rw [if_neg (by simpa using h0), if_pos hop]) (.inr (.inl hop))
  by_cases hcb : c.bs = []
  · exact enter_no h op pd qd 16 (by unfold Ctl.enter; rw [if_neg (by simpa using h0), if_neg hop, if_pos hcb]) (.inr (.inr hcb))
  exact enter_yes h hok op (by omega) h0 hcb pd qd hpd hqd hn hm hbn hpl hql
end Go.Proofs.Ytkeefajfndmpeaa

