/-
  Label.
-/
import Derived.Test.YtkeefajfndmpeaaCPop
import Derived.Test.YtkeefajfndmpeaaRegion
namespace Go.Proofs.Ytkeefajfndmpeaa
open Go Go.RowKit

theorem label_no {F : Nat → Prop} {w : World} {b bst : Nat} {c : Ctl} (h : CAt F w b bst c) (n : Int) (hcase : c.broken ≠ 0 ∨ n < 0 ∨ (c.bs.length : Int) ≤ n) :
    Calls Try.prog 42 #[.pointer (some ⟨b, 0, none⟩), .int .i64 n] w fun e w' => ∃ v, e = .returned (.tuple #[v, .int .i64 (c.label n).2]) ∧ Own valC 1 45 w' w.heap.size v (c.label n).1 ∧ Keep w w' := by
  obtain ⟨F1, vb, bds, rd, h, hb, hr⟩ := h
  obtain ⟨A, cc, rfl, _⟩ := h.form
  have Hm := Lib.hid (wrong_calls h)
  have c1 : w.cell? ⟨b, 1, none⟩ = some (.slice A bds.length cc) := h.blk.cell 1
  have lb := h.blk.lt
  have hbl : bds.length = c.bs.length := by rw [← hb]; simp
  by_cases h0b : c.broken = 0
  rotate_left
  · have hd : Hid (c.label n = ([], c.broken)) := Lib.hid (by unfold Ctl.label; rw [if_pos h0b])
    have hne : (c.broken != 0) = true := by simpa using h0b
    clear h0b h hb hr hcase hbl
    go_enter Try.func42, Try.ntmps42
    go_wp2_with fail
    refine Hm.out.mono ?_
    rintro e w1 ⟨rfl, rfl⟩
    go_wp2
    go_ret2
    rw [hd.out]
    exact ⟨_, rfl, Own.nil _ _ _ _ _, Keep.refl _⟩
  rw [h0b] at Hm
  have hc2 : n < 0 ∨ (c.bs.length : Int) ≤ n := hcase.elim (fun h1 => absurd h0b h1) id
  have hd : Hid (c.label n = ([], 15)) := Lib.hid (by unfold Ctl.label; rw [if_neg (by simpa using h0b), if_pos hc2])
  rw [← hbl] at hc2
  clear h0b h hb hr hcase hbl
  by_cases hn0 : n < 0
  · clear hc2
    go_enter Try.func42, Try.ntmps42
    go_wp2_with fail
    refine Hm.out.mono ?_
    rintro e w1 ⟨rfl, rfl⟩
    go_wp2
    go_ret2
    rw [hd.out]
    exact ⟨_, rfl, Own.nil _ _ _ _ _, Keep.refl _⟩
  · have hge : (bds.length : Int) ≤ n := hc2.elim (fun h1 => absurd h1 hn0) id
    clear hc2
    go_enter Try.func42, Try.ntmps42
    go_wp2_with fail
    refine Hm.out.mono ?_
    rintro e w1 ⟨rfl, rfl⟩
    go_wp2
    go_ret2
    rw [hd.out]
    exact ⟨_, rfl, Own.nil _ _ _ _ _, Keep.refl _⟩

set_option maxHeartbeats 1000000 in
theorem label_yes {F : Nat → Prop} {w : World} {b bst : Nat} {c : Ctl} (h : CAt F w b bst c) (n : Nat) (h0b : c.broken = 0) (hn : n < c.bs.length) (hbn : c.bs.length ≤ 800000) (hll : ∀ x ∈ c.bs, x.p.length ≤ 1000000 ∧ x.r.length ≤ 1000000) :
    Calls Try.prog 42 #[.pointer (some ⟨b, 0, none⟩), .int .i64 (n : Int)] w fun e w' => ∃ v, e = .returned (.tuple #[v, .int .i64 (c.label n).2]) ∧ Own valC 1 45 w' w.heap.size v (c.label n).1 ∧ Keep w w' := by
  obtain ⟨F1, vb, bds, rd, h, hb, hr⟩ := h
  have hbl : bds.length = c.bs.length := by rw [← hb]; simp
  rw [h0b] at h
  obtain ⟨m, hm⟩ : ∃ m, m = bds.length - 1 - n := ⟨_, rfl⟩
  have hml : m < bds.length := by omega
  obtain ⟨g, cc, rfl, hg, _, hcell⟩ := bd_at h.own hml
  have hxl := h.ls bds[m] (List.getElem_mem hml)
  have hd : c.label n = (if bds[m].kind = 3 then bds[m].p.l else bds[m].r.l, 0) := by
    unfold Ctl.label
    rw [if_neg (by simpa using h0b), if_neg (by omega)]
    have e : c.bs.getD (c.bs.length - 1 - (n : Int).toNat) ⟨0, [], [], false, false⟩ = bds[m].plain := by
      rw [← hb, List.getD_eq_getElem?_getD, List.length_map, Int.toNat_natCast, ← hm, List.getElem?_map, List.getElem?_eq_getElem hml]
      rfl
    simp only [e]
    rfl
  have hmem : bds[m].plain ∈ c.bs := by rw [← hb]; exact List.mem_map_of_mem (List.getElem_mem hml)
  have hl1 : bds[m].p.l.length ≤ 1000000 := (hll _ hmem).1
  have hl2 : bds[m].r.l.length ≤ 1000000 := (hll _ hmem).2
  obtain ⟨x, hx⟩ : ∃ x, x = bds[m] := ⟨_, rfl⟩
  rw [← hx] at hcell hxl hd hl1 hl2
  have Hm := Lib.hid (wrong_calls h)
  obtain ⟨N, hN⟩ : ∃ N, N = bds.length := ⟨_, rfl⟩
  have c1 : w.cell? ⟨b, 1, none⟩ = some (.slice (some ⟨g, 0, none⟩) N cc) := by rw [hN]; exact h.blk.cell 1
  have lb := h.blk.lt
  obtain ⟨M, hM⟩ : ∃ M, M = N - 1 := ⟨_, rfl⟩
  have hw1 : IntKind.i64.wrap ((N : Int) - 1) = (M : Int) := by rw [show (N : Int) - 1 = (M : Int) by omega]; exact IntWalk.i64_in _ (by omega)
  have hw2 : IntKind.i64.wrap ((M : Int) - (n : Int)) = (m : Int) := by rw [show (M : Int) - (n : Int) = (m : Int) by omega]; exact IntWalk.i64_in _ (by omega)
  have hn0 : ¬ (n : Int) < 0 := by omega
  have hnN : ¬ (N : Int) ≤ (n : Int) := by omega
  have hm0 : (0 : Int) ≤ (m : Int) := by omega
  have hm1 : (m : Int) < (N : Int) := by omega
  have hkW : Keep w w.drew := (Keep.refl _).drew
  have x1 := fun y : KW w => y.cell c1
  have q0 : w.cell? ⟨g, m * 5, none⟩ = some (.int .i64 x.kind) := hcell 0 _ rfl
  have y0 := fun y : KW w => y.cell q0
  have y1 := fun y : KW w => y.cell (v := .slice x.p.a x.p.l.length x.p.c) (hcell 1 _ rfl)
  have y2 := fun y : KW w => y.cell (v := .slice x.r.a x.r.l.length x.r.c) (hcell 2 _ rfl)
  have y3 := fun y : KW w => y.cell (v := .bool x.other) (hcell 3 _ rfl)
  have y4 := fun y : KW w => y.cell (v := .bool x.live) (hcell 4 _ rfl)
  obtain ⟨wa, hwa⟩ : ∃ wa : World, wa = (w.alloc (.cells (blkC x).toArray 100)).drew := ⟨_, rfl⟩
  have hka : Keep w wa := by rw [hwa]; exact ((Keep.refl _).alloc _).drew
  have bx : Blk wa w.heap.size 100 (blkC x) := by rw [hwa]; exact Blk.new w _ _
  have b0 : wa.cell? ⟨w.heap.size, 0, none⟩ = some (.int .i64 x.kind) := bx.cell 0
  have b1 : wa.cell? ⟨w.heap.size, 1, none⟩ = some (.slice x.p.a x.p.l.length x.p.c) := bx.cell 1
  have b2 : wa.cell? ⟨w.heap.size, 2, none⟩ = some (.slice x.r.a x.r.l.length x.r.c) := bx.cell 2
  have lx := bx.lt
  have Hp := Lib.hid (clone_calls x.p.l x.p.a x.p.c wa (hxl.1.keep hka).seg hl1)
  have Hq := Lib.hid (clone_calls x.r.l x.r.a x.r.c wa (hxl.2.keep hka).seg hl2)
  have Hka := Lib.hid hka
  have hk : Hid (∀ (k3 : Bool), (x.kind == 3) = k3 → c.label n = (if k3 then x.p.l else x.r.l, 0)) := Lib.hid (fun k3 h3 => by rw [hd]; cases k3 <;> simp_all)
  cases hk3 : (x.kind == 3)
  all_goals
    have Hd := Lib.hid (hk.out _ hk3)
    clear q0 hd hxl hcell hmem hN hM hx hm h hb hr h0b hbl hll hka bx
    go_enter Try.func42, Try.ntmps42
    go_wp2_with fail
    refine Hm.out.mono ?_
    rintro e w1 ⟨rfl, rfl⟩
    go_wp2_with fail
    refine region_begin (S := fun w' => ∃ y : KW w, w' = y.val) (by kernel_rfl) ?_
    refine region_take [0, 1, 2, 3, 4, 5, 6, 7, 8, 9, 10, 11, 12, 13] [] 2 (by kernel_rfl) (by kernel_rfl) (InK.mk' hkW) ?_
    show wpQuiet _ _ _ _ [_, _, _, _, _, _, _, _, _, _, _, _, _, _] _
    repeat (go_big_quiet_step (fail))
    refine wpQuiet_nil ?_
    clear x1 y0 y1 y2 y3 y4
    refine region_fix (i := 14) (fuel := 1) rfl (by kernel_rfl) (fun K hK => ?_)
    go_simp
    refine hK _ _ (InK.mk' (((Keep.refl _).drew).alloc _)) ?_
    clear hK K
    refine region_fix (i := 15) (fuel := 0) rfl (by kernel_rfl) (fun K hK => ?_)
    go_simp
    refine hK _ _ (InK.mk' (((Keep.refl _).drew).alloc _)) ?_
    clear hK K
    refine region_done (by kernel_rfl) ?_
    clear b0 b1 b2 lx
    go_wp2_with fail
    show Calls Try.prog _ _ ((w.alloc (.cells (blkC x).toArray 100)).drew) _
    rw [← hwa]
    clear hwa
    first | refine Hp.out.mono ?_ | refine Hq.out.mono ?_
    rintro e w3 ⟨v3, rfl, ho3, hk3'⟩
    have Ho3 := Lib.hid ho3
    clear ho3
    go_wp2
    go_ret2
    rw [Hd.out]
    exact ⟨v3, rfl, Ho3.out.mono Hka.out.size, Hka.out.trans hk3'⟩

theorem label_calls {F : Nat → Prop} {w : World} {b bst : Nat} {c : Ctl} (h : CAt F w b bst c) (n : Int) (hbn : c.bs.length ≤ 800000) (hll : ∀ x ∈ c.bs, x.p.length ≤ 1000000 ∧ x.r.length ≤ 1000000) :
    Calls Try.prog 42 #[.pointer (some ⟨b, 0, none⟩), .int .i64 n] w fun e w' => ∃ v, e = .returned (.tuple #[v, .int .i64 (c.label n).2]) ∧ Own valC 1 45 w' w.heap.size v (c.label n).1 ∧ Keep w w' := by
  by_cases h0 : c.broken = 0
  rotate_left
  · exact label_no h n (.inl h0)
  by_cases hc : n < 0 ∨ (c.bs.length : Int) ≤ n
  · exact label_no h n (.inr hc)
  · obtain ⟨k, rfl⟩ : ∃ k : Nat, n = (k : Int) := ⟨n.toNat, by omega⟩
    exact label_yes h k h0 (by omega) hbn hll
end Go.Proofs.Ytkeefajfndmpeaa
