/-
  begin: pushes a control frame.
-/
import Derived.Test.YtkeefajfndmpeaaCBase
import Derived.Test.YtkeefajfndmpeaaTail
namespace Go.Proofs.Ytkeefajfndmpeaa
open Go Go.RowKit

theorem LD.v_eq (x : LD) : x.v = .slice x.a x.l.length x.c := rfl

set_option maxHeartbeats 1000000 in
theorem begin_calls {F F1 : Nat → Prop} {w : World} {b bst : Nat} {s : Stk} {vb : Value} {bds : List BD} {rd : LD} {live : Bool} {broken : Int} (h : CP F F1 w b bst s vb bds rd live broken) (x : BD) (hxp : x.p.Kt F w) (hxr : x.r.Kt F w)
    (hn : s.T.length + x.p.l.length ≤ 1000000) (hm : s.P.length ≤ 900000) (hbn : bds.length ≤ 900000) :
    Calls Try.prog 61 #[.pointer (some ⟨b, 0, none⟩), .agg #[.int .i64 x.kind, .slice x.p.a x.p.l.length x.p.c, .slice x.r.a x.r.l.length x.r.c, .bool x.other, .bool x.live]] w fun e w' =>
      (∃ v, e = .returned v) ∧ ∃ F' F1' vb', CP F' F1' w' b bst (s.opened.push x.p.l) vb' (bds ++ [x]) rd x.live broken ∧ Ext F w w' ∧ ∀ k, F' k → F k ∨ w.heap.size ≤ k := by
  obtain ⟨wa, hwa⟩ : ∃ wa : World, wa = w.alloc (.cells (blkC x).toArray 100) := ⟨_, rfl⟩
  have hka : Keep w wa := by rw [hwa]; exact (Keep.refl _).alloc _
  have bx : Blk wa w.heap.size 100 (blkC x) := by rw [hwa]; exact Blk.new _ _ _
  have hza : wa.heap.size = w.heap.size + 1 := by rw [hwa]; simp
  have h0 := h.keep hka
  have c0 : wa.cell? ⟨b, 0, none⟩ = some (.pointer (some ⟨bst, 0, none⟩)) := h0.blk.cell 0
  have hlt := h0.blk.lt
  have hF0 := h.lt
  have hxp0 := hxp.keep hka
  have hxr0 := hxr.keep hka
  have Ho := Lib.hid (open_calls h0.st (by omega) (by omega))
  clear h
  go_enter Try.func61, Try.ntmps61
  have c0' : w.cell? ⟨b, 0, none⟩ = some (.pointer (some ⟨bst, 0, none⟩)) := by
    have hbl : b < w.heap.size := hF0 b h0.fb
    rw [← Below.cell (p := ⟨b, 0, none⟩) hka hbl]; exact c0
  have hbl : b < w.heap.size := hF0 b h0.fb
  go_wp2_with fail
  show Calls Try.prog _ _ (w.alloc (.cells (blkC x).toArray 100)) _
  rw [← hwa]
  clear hwa c0'
  refine Ho.out.mono ?_
  rintro e w1 ⟨⟨u1, rfl⟩, hl1⟩
  obtain ⟨F2, F2', h1, hE1, hF1⟩ := h0.stack hl1
  have bx1 := bx.ext hE1 (fun hf => by have := hF0 _ hf; omega)
  have hxp1 := hxp0.ext hE1 hF1
  have hxr1 := hxr0.ext hE1 hF1
  have nx : ¬ F2 w.heap.size := fun hf => (hF1 _ hf).elim (fun h2 => by have := hF0 _ h2; omega) (fun h2 => by omega)
  clear hl1 h0 bx hxp0 hxr0 c0
  go_wp2_with fail
  have x0 := fun y : KE F2' w1 => y.cell (v := .pointer (some ⟨bst, 0, none⟩)) (h1.blk.cell 0) h1.nb
  have x1 := fun y : KE F2' w1 => y.cell (v := .slice x.p.a x.p.l.length x.p.c) (bx1.cell 1) (fun hf => nx (h1.sub _ hf))
  refine region_begin (S := fun w' => ∃ y : KE F2' w1, w' = y.val) (by kernel_rfl) ?_
  refine region_take [0, 1, 2, 3, 4, 5, 6] [] 1 (by kernel_rfl) (by kernel_rfl) (KE.mk' (Ext.drew (Ext.refl _ _))) ?_
  show wpQuiet _ _ _ _ [_, _, _, _, _, _, _] _
  repeat (go_big_quiet_step (fail))
  refine wpQuiet_nil ?_
  clear x0 x1
  refine region_fix (i := 7) (fuel := 0) rfl (by kernel_rfl) (fun K hK => ?_)
  go_simp
  have hkd : Keep w1 w1.drew := (Keep.refl _).drew
  refine (push_calls (h1.keep hkd).st x.p.l x.p.a x.p.c (hxp1.keep hkd).seg (by rw [(Stk.opened_len s).1]; exact hn)).mono ?_
  rintro e w2 ⟨⟨u2, rfl⟩, hl2⟩
  obtain ⟨F3, F3', h2, hE2, hF2⟩ := (h1.keep hkd).stack hl2
  refine hK _ _ (KE.mk' ((hkd.ext F2').trans hl2.1 (fun _ _ h => h))) ?_
  clear hK K
  refine region_done (by kernel_rfl) ?_
  have bx2 := (bx1.keep hkd).ext hE2 nx
  have hxp2 := (hxp1.keep hkd).ext hE2 hF2
  have hxr2 := (hxr1.keep hkd).ext hE2 hF2
  have nx2 : ¬ F3 w.heap.size := fun hf => (hF2 _ hf).elim nx (fun h3 => by have := bx1.lt; have e : w1.drew.heap.size = w1.heap.size := rfl; omega)
  have hEE : Ext F w w2 := ((hka.ext F).trans hE1 (fun _ _ h => h)).trans ((hkd.ext F2).trans hE2 (fun _ _ h => h)) (fun k hk hf => (hF1 k hf).elim id (fun h3 => by omega))
  have hFF : ∀ k, F3 k → F k ∨ w.heap.size ≤ k := fun k hf => (hF2 k hf).elim (fun h3 => (hF1 k h3).imp id (fun h4 => by omega)) (fun h3 => .inr (by have := bx1.lt; have e : w1.drew.heap.size = w1.heap.size := rfl; omega))
  clear hl2 h1 bx1 hE1 hE2 hF1 hF2 hxp1 hxr1 nx
  obtain ⟨A, cc, rfl, _, _⟩ := h2.form
  go_wp2_with fail
  have hkd2 : Keep w2 w2.drew := (Keep.refl _).drew
  obtain ⟨v3, w3, ha3, ho3, hg3, hob⟩ := append_run (ys := [x]) elB ((h2.own.keep hkd2).alloc (.cells (([x] : List BD).flatMap blkC).toArray 100)) (Seg.of_blk (Blk.new w2.drew 100 (([x] : List BD).flatMap blkC))) 1 81 (by simp [maxLen]; omega) (by simp; omega) (Nat.zero_le _)
  obtain ⟨A3, c3, rfl, _⟩ := ho3.form
  have hE3 : Ext (fun k => (Value.slice A bds.length cc).ownBlock = some k) w2 w3 := ((hkd2.alloc _).ext _).grown hg3 (fun k hk _ => hk)
  have bb3 := h2.blk.ext hE3 (fun e => h2.own.blk_ne h2.blk (by decide) e rfl)
  obtain ⟨F4, h4, hE4, hF4⟩ := h2.setRow hE3 ho3 (hob.imp id (fun e k hk => by rw [e] at hk; simp at hk; omega)) (fun y hy => by
    rcases List.mem_append.1 hy with hy | hy
    · exact h2.ls y hy
    · rw [List.mem_singleton.1 hy]; exact ⟨hxp2, hxr2⟩)
  have bx3 := bx2.ext hE3 (fun e => nx2 (h2.row _ e).1)
  have bx4 := bx3.far (p := ⟨b, 1, none⟩) (by show w.heap.size ≠ b; omega) (.slice A3 (bds ++ [x]).length c3)
  have hll : (bds ++ [x]).length = bds.length + 1 := by simp
  rw [hll] at ha3 h4 hE4 bx4
  have x0 := fun y : KE (fun k => (Value.slice A bds.length cc).ownBlock = some k) w2 => y.cell (v := .slice A bds.length cc) (h2.blk.cell 1) (fun e => h2.own.blk_ne h2.blk (by decide) e rfl)
  have y0 := fun y : KE (fun k => (Value.slice A bds.length cc).ownBlock = some k) w2 => y.cell (v := .int .i64 x.kind) (bx2.cell 0) (fun e => nx2 (h2.row _ e).1)
  have y1 := fun y : KE (fun k => (Value.slice A bds.length cc).ownBlock = some k) w2 => y.cell (v := .slice x.p.a x.p.l.length x.p.c) (bx2.cell 1) (fun e => nx2 (h2.row _ e).1)
  have y2 := fun y : KE (fun k => (Value.slice A bds.length cc).ownBlock = some k) w2 => y.cell (v := .slice x.r.a x.r.l.length x.r.c) (bx2.cell 2) (fun e => nx2 (h2.row _ e).1)
  have y3 := fun y : KE (fun k => (Value.slice A bds.length cc).ownBlock = some k) w2 => y.cell (v := .bool x.other) (bx2.cell 3) (fun e => nx2 (h2.row _ e).1)
  have y4 := fun y : KE (fun k => (Value.slice A bds.length cc).ownBlock = some k) w2 => y.cell (v := .bool x.live) (bx2.cell 4) (fun e => nx2 (h2.row _ e).1)
  have hap : (Builtin.append_ #[81, 81] 81 #[.slice A bds.length cc, .slice (some ⟨w2.heap.size, 0, none⟩) 1 1]).run Try.prog ((w2.alloc (.cells #[.int .i64 x.kind, .slice x.p.a x.p.l.length x.p.c, .slice x.r.a x.r.l.length x.r.c, .bool x.other, .bool x.live] 100)).drew) = .ok (.slice A3 (bds.length + 1) c3) w3 := ha3
  have hb1 : w3.cell? ⟨b, 1, none⟩ = some (.slice A bds.length cc) := bb3.cell 1
  have hf1 := bb3.frozen 1
  have hl3 := bb3.lt
  have Hfin := Lib.hid (show ∃ F' F1' vb', CP F' F1' ((w3.setCell ⟨b, 1, none⟩ (.slice A3 (bds.length + 1) c3)).setCell ⟨b, 3, none⟩ (.bool x.live)) b bst (s.opened.push x.p.l) vb' (bds ++ [x]) rd x.live broken ∧ Ext F w ((w3.setCell ⟨b, 1, none⟩ (.slice A3 (bds.length + 1) c3)).setCell ⟨b, 3, none⟩ (.bool x.live)) ∧ ∀ k, F' k → F k ∨ w.heap.size ≤ k from by
    have hF5 : ∀ k, F4 k → F k ∨ w.heap.size ≤ k := fun k hf => (hF4 k hf).elim (hFF k) (fun h5 => .inr (by have := hEE.size; omega))
    exact ⟨F4, F3', _, h4.setLive x.live, (hEE.trans hE4 (fun k hk hf => (hFF k hf).elim id (fun h5 => by omega))).trans (h4.ext_set 3 _) (fun k hk hf => (hF5 k hf).elim id (fun h5 => by omega)), hF5⟩)
  have d3 : (w3.setCell ⟨b, 1, none⟩ (.slice A3 (bds.length + 1) c3)).cell? ⟨b, 3, none⟩ = some (.bool live) := h4.blk.cell 3
  have e4 : (w3.setCell ⟨b, 1, none⟩ (.slice A3 (bds.length + 1) c3)).cell? ⟨w.heap.size, 4, none⟩ = some (.bool x.live) := bx4.cell 4
  have f3 := h4.blk.frozen 3
  have l4 := h4.blk.lt
  have lx4 := bx4.lt
  have hbb : ∀ W : World, Ext (fun k => (Value.slice A bds.length cc).ownBlock = some k) w2 W → ∃ y : KE (fun k => (Value.slice A bds.length cc).ownBlock = some k) w2, W = y.val := fun W hW => KE.mk' hW
  have Hbb := Lib.hid hbb
  have HE3 := Lib.hid hE3
  obtain ⟨W4, hW4⟩ : ∃ W4 : World, W4 = w3.setCell ⟨b, 1, none⟩ (.slice A3 (bds.length + 1) c3) := ⟨_, rfl⟩
  rw [← hW4] at Hfin d3 e4 f3 l4 lx4
  clear hbb hE3 h2 bx2 bb3 bx3 bx4 ha3 ho3 hg3 hob h4 hE4 hF4 hEE hFF hxp2 hxr2
  refine tail_begin (S := fun w' => ∃ y : KE (fun k => (Value.slice A bds.length cc).ownBlock = some k) w2, w' = y.val) [10] (by kernel_rfl) ?_
  refine tail_take [0, 1, 2, 3, 4, 5] [] 5 (by kernel_rfl) (by kernel_rfl) (Hbb.out _ (Ext.drew (Ext.refl _ _))) ?_
  show wpQuiet _ _ _ _ [_, _, _, _, _, _] _
  repeat (go_big_quiet_step (fail))
  refine wpQuiet_nil ?_
  clear x0 y0 y1 y2 y3 y4
  refine tail_fix (i := 6) (fuel := 4) rfl (by kernel_rfl) (fun K hK => ?_)
  go_simp
  refine hK _ _ (fun _ => Hbb.out _ ((Ext.drew (Ext.refl _ _)).alloc _)) ?_
  clear hK K
  refine tail_fixU (i := 7) (fuel := 3) rfl rfl (by kernel_rfl) (fun K hK => ?_)
  refine wp_append_eq _ _ _ rfl _ _ rfl rfl _ _ hap ?_
  refine hK _ _ (fun _ => Hbb.out _ HE3.out) ?_
  clear hK K
  simp only [Act.put, List.setIfInBounds_toArray, List.set_cons_succ, List.set_cons_zero]
  refine tail_fix (i := 8) (fuel := 2) rfl (by kernel_rfl) (fun K hK => ?_)
  go_simp
  refine hK _ _ (fun _ => Hbb.out _ HE3.out) ?_
  clear hK K
  refine tail_fix (i := 9) (fuel := 1) rfl (by kernel_rfl) (fun K hK => ?_)
  go_simp
  refine hK _ _ (fun _ => Hbb.out _ HE3.out) ?_
  clear hK K
  refine tail_fix (i := 10) (fuel := 0) rfl (by kernel_rfl) (fun K hK => ?_)
  go_simp
  refine hK _ _ (fun h => absurd h (by decide)) ?_
  clear hK K
  refine tail_done (by kernel_rfl) ?_
  rw [← hW4]
  clear hW4 hap
  go_wp2
  go_end0
  exact ⟨⟨_, rfl⟩, Hfin.out⟩
end Go.Proofs.Ytkeefajfndmpeaa
