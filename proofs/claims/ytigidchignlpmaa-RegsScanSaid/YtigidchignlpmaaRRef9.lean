/-
  The reference's one: the walk.
-/
import Derived.Test.YtigidchignlpmaaRRef8
namespace Go.Proofs.Ytigidchignlpmaa
open Go Go.RowKit Rg

set_option maxHeartbeats 8000000 in
set_option maxRecDepth 100000 in
theorem rOne_calls (x : RfD) (A : Option Addr) (ls : List LvD) (c : Nat) (i s0 : Nat) (w : World) (h : RfOk w x) (hl : Lives w A ls) (hn : ls.length ≤ 60) (hne : ∀ x ∈ ls, 0 < x.l.length) (hlen : x.t.slots.length = ls.length) (hi : i < ls.length) (hs : s0 ≤ 65536) (hr : x.t.regs.length ≤ 60) (hb : ∀ y, some y ∈ x.t.regs → y < ls.length) :
    Calls Try.prog 32 #[.agg x.cells.toArray, .slice A ls.length c, .int .i64 (i : Int), .int .i64 (s0 : Int)] w fun e w' => ∃ x' : RfD, e = .returned (.agg x'.cells.toArray) ∧ Rf.Next (BL ls) (EL ls) s0 x.t i x'.t ∧ RfOk w' x' ∧ (∀ b, b < w.heap.size → x.Off b → x'.Off b) ∧ Keep w w' := by
  obtain ⟨a1, c1, a2, c2, t⟩ := x
  obtain ⟨regs, slots⟩ := t
  replace hlen : slots.length = ls.length := hlen
  replace hr : regs.length ≤ 60 := hr
  replace hb : ∀ y, some y ∈ regs → y < ls.length := hb
  show Calls Try.prog 32 #[.agg #[.slice a1 regs.length c1, .slice a2 slots.length c2], .slice A ls.length c, .int .i64 (i : Int), .int .i64 (s0 : Int)] w fun e w' => ∃ x' : RfD, e = .returned (.agg x'.cells.toArray) ∧ Rf.Next (BL ls) (EL ls) s0 ⟨regs, slots⟩ i x'.t ∧ RfOk w' x' ∧ (∀ b, b < w.heap.size → RfD.Off ⟨a1, c1, a2, c2, ⟨regs, slots⟩⟩ b → x'.Off b) ∧ Keep w w'
  obtain ⟨wa, hwa⟩ : ∃ wa : World, wa = (w.alloc (.cells #[.slice a1 regs.length c1, .slice a2 slots.length c2] 66)).alloc (.cells #[.slice none 0 0, .slice none 0 0] 66) := ⟨_, rfl⟩
  have hka : Keep w wa := by rw [hwa]; exact ((Keep.refl _).alloc _).alloc _
  have hbox : BoxAt w wa ⟨a1, c1, a2, c2, ⟨regs, slots⟩⟩ := by
    refine ⟨?_, ?_, h.keep hka, hka⟩
    · rw [hwa]; exact (Blk.new w _ [.slice a1 regs.length c1, .slice a2 slots.length c2]).keep ((Keep.refl _).alloc _)
    · rw [hwa]
      have := Blk.new (w.alloc (.cells #[.slice a1 regs.length c1, .slice a2 slots.length c2] 66)) 66 [.slice none 0 0, .slice none 0 0]
      simpa using this
  obtain ⟨y, hy⟩ := get_some hi
  obtain ⟨bA, offA, hA, hbA, y0, y1, yok⟩ := hl.get hka hy
  subst hA
  have hbl := Nat.lt_of_lt_of_le hbA hka.size
  have hii : (i : Int) < (ls.length : Int) := by omega
  have hi0 : (0 : Int) ≤ (i : Int) := by omega
  have HB := Lib.hid (fun (wz : World) (hz : Keep wa wz) => rBegin_calls y.val y.a y.l y.c wz (yok.keep hz).seg (hne y (List.mem_of_getElem? hy)))
  have HF := Lib.hid (fun (wz : World) (hz : Keep wa wz) => rFree_calls ⟨a1, c1, a2, c2, ⟨regs, slots⟩⟩ (some ⟨bA, offA, none⟩) ls c (bgn y.l) wz (h.keep (hka.trans hz)) (hl.keep (hka.trans hz)) hn hne hr hb)
  obtain ⟨R, hR⟩ : ∃ R, regs.map (backAt (EL ls) (bgn y.l)) = R := ⟨_, rfl⟩
  have hR2 : regs.map (back1 (BL ls) (EL ls) i) = R := by
    rw [← hR]
    refine List.map_congr_left fun o _ => ?_
    rw [← BL_get hy]; rfl
  have hRl : R.length = regs.length := by rw [← hR]; simp
  have hRb : ∀ z, some z ∈ R → z < ls.length := fun z hz => by
    rw [← hR] at hz
    obtain ⟨o, ho, e⟩ := List.mem_map.1 hz
    cases o with
    | none => cases e
    | some q =>
      unfold backAt at e
      simp only at e
      split at e
      · cases e
      · cases e; exact hb _ ho
  have HN1 := Lib.hid (show ∀ j, R[j]? = some none → none ∉ R.take j → Rf.Next (BL ls) (EL ls) s0 ⟨regs, slots⟩ i ⟨R.set j (some i), slots⟩ from fun j h1 h2 => by
    unfold Rf.Next
    show if none ∈ regs.map (back1 (BL ls) (EL ls) i) then _ else _
    rw [hR2, if_pos (List.mem_of_getElem? h1), idx_none h1 h2])
  have HN2 := Lib.hid (show none ∉ R → ∀ m, Rf.IsSlot (BL ls) (EL ls) s0 ⟨R, slots⟩ (lastL (EL ls) i R).1 m → Rf.Next (BL ls) (EL ls) s0 ⟨regs, slots⟩ i ⟨match (lastL (EL ls) i R).2 with | none => R | some r => R.set r (some i), slots.set (lastL (EL ls) i R).1 (some m)⟩ from fun h1 m h2 => by
    unfold Rf.Next
    show if none ∈ regs.map (back1 (BL ls) (EL ls) i) then _ else _
    rw [hR2, if_neg h1]
    exact ⟨m, ⟨h2.le, h2.free, h2.low⟩, rfl⟩)
  dsimp only at HF
  rw [hR] at HF
  have Hl := Lib.hid hl
  have Hbox := Lib.hid hbox
  have Hka := Lib.hid hka
  have Hy := Lib.hid hy
  have kq0 := fun z : KW wa => z.cell (v := .slice a1 regs.length c1) (hbox.blk.cell 0)
  have kq1 := fun z : KW wa => z.cell (v := .slice a2 slots.length c2) (hbox.blk.cell 1)
  have lq := hbox.blk.lt
  have ky0 := fun z : KW wa => z.cell y0
  have ky1 := fun z : KW wa => z.cell y1
  obtain ⟨wd, hwd⟩ : ∃ wd, wa.drew = wd := ⟨_, rfl⟩
  have hkd : Keep wa wd := by rw [← hwd]; exact (Keep.refl _).drew
  have hlenR : R.length ≤ 60 := by omega
  have Hlen := Lib.hid hlen
  clear h hl hbox hka hy yok y0 y1 hR hR2 hb hRl hlen
  go_enter Try.func32, Try.ntmps32
  go_wp2_with fail
  rw [← hwa]
  clear hwa
  refine tail_begin (S := fun w' => ∃ z : KW wa, w' = z.val) [8] (by kernel_rfl) ?_
  rw [hwd]
  refine tail_take [0, 1, 2, 3, 4, 5] [] 3 (by kernel_rfl) (by kernel_rfl) (InK.mk' hkd) ?_
  show wpQuiet _ _ _ _ [_, _, _, _, _, _] _
  repeat (go_big_quiet_step (fail))
  refine wpQuiet_nil ?_
  refine tail_fix (i := 6) (fuel := 2) rfl (by kernel_rfl) (fun K hK => ?_)
  go_simp
  refine (HB.out _ hkd).mono ?_
  rintro e w1 ⟨rfl, k1'⟩
  have k1 := hkd.trans k1'
  refine hK _ _ (fun _ => InK.mk' k1) ?_
  clear hK K
  refine tail_fix (i := 7) (fuel := 1) rfl (by kernel_rfl) (fun K hK => ?_)
  go_simp
  refine (show Calls Try.prog 40 #[.agg #[.slice a1 regs.length c1, .slice a2 slots.length c2], .slice (some ⟨bA, offA, none⟩) ls.length c, .int .i64 (bgn y.l)] w1 _ from HF.out _ k1).mono ?_
  rintro e w2 ⟨⟨b1, d1, b2, d2, t⟩, he, rfl, hok, hoff, k2'⟩
  replace he : e = .returned (.agg #[.slice b1 R.length d1, .slice b2 slots.length d2]) := he
  subst he
  have k2 := k1.trans k2'
  refine hK _ _ (fun _ => InK.mk' k2) ?_
  clear hK K
  obtain ⟨⟨u0, p0⟩, p0f, p0l, ⟨u1, p1⟩, p1f, W, hW, hBW⟩ := (Hbox.out.keepy k2).put hok
  replace p1 : (w2.setCell ⟨w.heap.size, 0, none⟩ (.slice b1 R.length d1)).cell? ⟨w.heap.size, 1, none⟩ = some u1 := p1
  replace p1f : (w2.setCell ⟨w.heap.size, 0, none⟩ (.slice b1 R.length d1)).frozen? ⟨w.heap.size, 1, none⟩ = false := p1f
  replace hW : W = (w2.setCell ⟨w.heap.size, 0, none⟩ (.slice b1 R.length d1)).setCell ⟨w.heap.size, 1, none⟩ (.slice b2 slots.length d2) := hW
  refine tail_fix (i := 8) (fuel := 0) rfl (by kernel_rfl) (fun K hK => ?_)
  go_simp
  rw [← hW]
  refine hK _ _ (fun h => absurd h (by decide)) ?_
  clear hK K
  refine tail_done (by kernel_rfl) ?_
  have hsz1 : w.heap.size ≤ w1.heap.size := Nat.le_trans (by have := lq; omega) k1.size
  clear hW p0 p0f p0l p1 p1f hok k2 k2' k1 k1' kq0 kq1 lq ky0 ky1 HB HF Hbox hwd hkd
  have HBW := Lib.hid hBW
  have Hoff := Lib.hid (show ∀ b, b < w.heap.size → RfD.Off ⟨a1, c1, a2, c2, ⟨regs, slots⟩⟩ b → RfD.Off ⟨b1, d1, b2, d2, ⟨R, slots⟩⟩ b from fun b hb ho => hoff b (by omega) ho)
  clear hoff
  clear hBW
  go_wp2_with fail
  go_loopw [9, 10, 11] (fun vl va vi wr => ∃ j : Nat, j ≤ R.length ∧ vi = .int .i64 j ∧ vl = .int .i64 ((lastL (EL ls) i (R.take j)).1 : Int) ∧ va = optC (lastL (EL ls) i (R.take j)).2 ∧ Hid (none ∉ R.take j) ∧ Keep W wr) (fun _ _ vi _ => R.length - (intOf vi).toNat)
  case atStart => exact ⟨0, Nat.zero_le _, rfl, rfl, rfl, Lib.hid (by simp), Keep.refl _⟩
  case round =>
    obtain ⟨j, hj, rfl, rfl, rfl, hno, hkeep⟩ := hrel
    have hat := HBW.out.keepy hkeep
    obtain ⟨lst, hlst⟩ : ∃ lst, lastL (EL ls) i (R.take j) = lst := ⟨_, rfl⟩
    rw [hlst]
    have hat0 : w.heap.size ≤ wr.heap.size := hat.keep.size
    have q0 : wr.cell? ⟨w.heap.size, 0, none⟩ = some (.slice b1 R.length d1) := hat.blk.cell 0
    have q1 : wr.cell? ⟨w.heap.size, 1, none⟩ = some (.slice b2 slots.length d2) := hat.blk.cell 1
    have lq := hat.blk.lt
    by_cases hjk : j < R.length
    · obtain ⟨o, ho⟩ := get_some (l := R) hjk
      obtain ⟨g, off, hg, hgl, hc⟩ := opt_at hat.ok.regs (Keep.refl _) ho
      replace hg : b1 = some ⟨g, off, none⟩ := hg
      subst hg
      have hjj : (j : Int) < (R.length : Int) := by omega
      have hj0 : (0 : Int) ≤ (j : Int) := by omega
      cases o with
      | none =>
        have hc' : wr.cell? ⟨g, off + j, none⟩ = some (.int .i64 (-1)) := hc
        have HH := Lib.hid (rHave_calls ⟨some ⟨g, off, none⟩, d1, b2, d2, ⟨R, slots⟩⟩ wr hat.ok j i hjk (by show R.length ≤ 1000000; omega))
        have Hnext := Lib.hid (HN1.out j ho hno.out)
        have Hat := Lib.hid hat
        clear hat ho hno hc hlst
        go_wp2_with fail
        refine (show Calls Try.prog 41 #[.agg #[.slice (some ⟨g, off, none⟩) R.length d1, .slice b2 slots.length d2], .int .i64 (j : Int), .int .i64 (i : Int)] wr _ from HH.out).mono ?_
        rintro e w3 ⟨⟨e1, f1, e2, f2, t3⟩, he, rfl, hok3, hoff3, k3⟩
        replace he : e = .returned (.agg #[.slice e1 (R.set j (some i)).length f1, .slice e2 slots.length f2]) := he
        subst he
        obtain ⟨⟨u0, p0⟩, p0f, p0l, ⟨u1, p1⟩, p1f, W4, hW4, hok4, hk4, v0, v1⟩ := (Hat.out.keepy k3).fin hok3
        replace p1 : (w3.setCell ⟨w.heap.size + 1, 0, none⟩ (.slice e1 (R.set j (some i)).length f1)).cell? ⟨w.heap.size + 1, 1, none⟩ = some u1 := p1
        replace p1f : (w3.setCell ⟨w.heap.size + 1, 0, none⟩ (.slice e1 (R.set j (some i)).length f1)).frozen? ⟨w.heap.size + 1, 1, none⟩ = false := p1f
        replace hW4 : W4 = (w3.setCell ⟨w.heap.size + 1, 0, none⟩ (.slice e1 (R.set j (some i)).length f1)).setCell ⟨w.heap.size + 1, 1, none⟩ (.slice e2 slots.length f2) := hW4
        replace v0 : W4.cell? ⟨w.heap.size + 1, 0, none⟩ = some (.slice e1 (R.set j (some i)).length f1) := v0
        replace v1 : W4.cell? ⟨w.heap.size + 1, 1, none⟩ = some (.slice e2 slots.length f2) := v1
        have Hok := Lib.hid hok4
        obtain ⟨n9, hn9⟩ : ∃ n9, (R.set j (some i)).length = n9 := ⟨_, rfl⟩
        rw [hn9] at p1 p1f hW4 v0 ⊢
        have lsz : w.heap.size + 1 < (w3.setCell ⟨w.heap.size + 1, 0, none⟩ (.slice e1 n9 f1)).heap.size := by simpa using p0l
        clear hok4 hok3 q0 q1 lq hc' Hat HH
        obtain ⟨wx, hwx⟩ : ∃ wx, w3.setCell ⟨w.heap.size + 1, 0, none⟩ (.slice e1 n9 f1) = wx := ⟨_, rfl⟩
        rw [hwx] at p1 p1f hW4 lsz
        go_wp2_with fail
        rw [← hW4]
        exact bodyPost_ret (v := .agg #[.slice e1 n9 f1, .slice e2 slots.length f2]) (by simp [results, Try.results32, go_sem, v0, v1]) rfl ⟨⟨e1, f1, e2, f2, ⟨R.set j (some i), slots⟩⟩, by rw [← hn9]; rfl, Hnext.out, Hok.out, fun b hb ho => hoff3 b (by have := hat0; omega) (Hoff.out b hb ho), hk4⟩
      | some z =>
        have hc' : wr.cell? ⟨g, off + j, none⟩ = some (.int .i64 (z : Int)) := hc
        have hz : z < ls.length := hRb z (List.mem_of_getElem? ho)
        have hl1 : lst.1 < ls.length := by
          rw [← hlst]
          exact lastL_lt (fun y hy => hRb y (List.mem_of_mem_take hy)) hi
        obtain ⟨yl, hyl⟩ := get_some hz
        obtain ⟨zl, hzl⟩ := get_some hl1
        obtain ⟨_, _, e3, _, y0, y1, yok⟩ := Hl.out.get hat.keep hyl
        cases e3
        obtain ⟨_, _, e3, _, z0, z1, zok⟩ := Hl.out.get hat.keep hzl
        cases e3
        have hbl2 := Nat.lt_of_lt_of_le hbA hat.keep.size
        have hzz : (z : Int) < (ls.length : Int) := by omega
        have hz0 : (0 : Int) ≤ (z : Int) := by omega
        have hll : (lst.1 : Int) < (ls.length : Int) := by omega
        have hl0 : (0 : Int) ≤ (lst.1 : Int) := by omega
        have hzm : ¬ (z : Int) < 0 := by omega
        have Hy2 := Lib.hid (fun (wz : World) (hk : Keep wr wz) => rEnd_calls yl.val yl.a yl.l yl.c wz (yok.keep hk).seg (hne yl (List.mem_of_getElem? hyl)) yok.len)
        have Hz2 := Lib.hid (fun (wz : World) (hk : Keep wr wz) => rEnd_calls zl.val zl.a zl.l zl.c wz (zok.keep hk).seg (hne zl (List.mem_of_getElem? hzl)) zok.len)
        have Hs := Lib.hid (show lastL (EL ls) i (R.take (j + 1)) = if decide (fin zl.l < fin yl.l) || (decide (fin yl.l = fin zl.l) && decide (lst.1 < z)) then (z, some j) else lst by
          rw [lastL_succ (EL ls) i ho, hlst]
          unfold later
          simp only [EL_get hyl, EL_get hzl])
        have Hno := Lib.hid (show none ∉ R.take (j + 1) by
          rw [List.take_add_one, ho]
          simp only [Option.toList_some, List.mem_append, List.mem_singleton, not_or]
          exact ⟨hno.out, by simp⟩)
        have ky0 := fun y : KW wr => y.cell y0
        have ky1 := fun y : KW wr => y.cell y1
        have kz0 := fun y : KW wr => y.cell z0
        have kz1 := fun y : KW wr => y.cell z1
        have hd : Keep wr wr.drew := (Keep.refl _).drew
        obtain ⟨ey, hey⟩ : ∃ ey, fin yl.l = ey := ⟨_, rfl⟩
        obtain ⟨ez, hez⟩ : ∃ ez, fin zl.l = ez := ⟨_, rfl⟩
        rw [hey] at Hy2 Hs
        rw [hez] at Hz2 Hs
        clear hey hez yok zok hat ho hyl hzl hlst hno y0 y1 z0 z1 hc
        by_cases g1 : ez < ey
        · have Hr := Lib.hid (show lastL (EL ls) i (R.take (j + 1)) = (z, some j) by rw [Hs.out, decide_eq_true g1]; rfl)
          clear Hs
          go_wp2_with fail
          refine region_begin (S := fun w' => ∃ y : KW wr, w' = y.val) (by kernel_rfl) ?_
          refine region_take [0, 1, 2, 3, 5, 6, 7, 8] [] 21 (by kernel_rfl) (by kernel_rfl) (InK.mk' hd) ?_
          show wpQuiet _ _ _ _ [_, _, _, _, _, _, _, _] _
          repeat (go_big_quiet_step (fail))
          refine wpQuiet_nil ?_
          refine region_fix (i := 4) (fuel := 20) rfl (by kernel_rfl) (fun K hK => ?_)
          go_simp
          refine (Hy2.out _ hd).mono ?_
          rintro e w1 ⟨rfl, k1'⟩
          have k1 := hd.trans k1'
          refine hK _ _ (InK.mk' k1) ?_
          clear hK K
          refine region_fix (i := 9) (fuel := 19) rfl (by kernel_rfl) (fun K hK => ?_)
          go_simp
          refine (Hz2.out _ k1).mono ?_
          rintro e w2 ⟨rfl, k2'⟩
          have k2 := k1.trans k2'
          refine hK _ _ (InK.mk' k2) ?_
          clear hK K
          refine region_take [10, 11, 12, 13, 14, 15, 17, 18, 19, 20] [0, 1, 2, 3, 5, 6, 7, 8, 4, 9] 9 (by kernel_rfl) (by kernel_rfl) (InK.mk' k2) ?_
          show wpQuiet _ _ _ _ [_, _, _, _, _, _, _, _, _, _] _
          repeat (go_big_quiet_step (fail))
          refine wpQuiet_nil ?_
          refine region_fix (i := 16) (fuel := 8) rfl (by kernel_rfl) (fun K hK => ?_)
          go_simp
          refine hK _ _ (InK.mk' k2) ?_
          clear hK K
          refine region_fix (i := 21) (fuel := 7) rfl (by kernel_rfl) (fun K hK => ?_)
          go_simp
          refine hK _ _ (InK.mk' k2) ?_
          clear hK K
          refine region_take [22, 23, 24, 25, 26, 27, 28] [0, 1, 2, 3, 5, 6, 7, 8, 4, 9, 10, 11, 12, 13, 14, 15, 17, 18, 19, 20, 16, 21] 0 (by kernel_rfl) (by kernel_rfl) (InK.mk' k2) ?_
          show wpQuiet _ _ _ _ [_, _, _, _, _, _, _] _
          repeat (go_big_quiet_step (fail))
          refine wpQuiet_nil ?_
          refine region_done (by kernel_rfl) ?_
          clear Hy2 Hz2 ky0 ky1 kz0 kz1 q0 q1
          go_wp2
          go_roundw
          case rel => exact ⟨j + 1, hjk, by go_num, by rw [Hr.out], by rw [Hr.out]; rfl, Hno, hkeep.trans k2⟩
          case measure => simp [intOf]; omega
        · have g1d : decide (ez < ey) = false := decide_eq_false g1
          go_wp2_with fail
          refine region_begin (S := fun w' => ∃ y : KW wr, w' = y.val) (by kernel_rfl) ?_
          refine region_take [0, 1, 2, 3, 5, 6, 7, 8] [] 21 (by kernel_rfl) (by kernel_rfl) (InK.mk' hd) ?_
          show wpQuiet _ _ _ _ [_, _, _, _, _, _, _, _] _
          repeat (go_big_quiet_step (fail))
          refine wpQuiet_nil ?_
          refine region_fix (i := 4) (fuel := 20) rfl (by kernel_rfl) (fun K hK => ?_)
          go_simp
          refine (Hy2.out _ hd).mono ?_
          rintro e w1 ⟨rfl, k1'⟩
          have k1 := hd.trans k1'
          refine hK _ _ (InK.mk' k1) ?_
          clear hK K
          refine region_fix (i := 9) (fuel := 19) rfl (by kernel_rfl) (fun K hK => ?_)
          go_simp
          refine (Hz2.out _ k1).mono ?_
          rintro e w2 ⟨rfl, k2'⟩
          have k2 := k1.trans k2'
          refine hK _ _ (InK.mk' k2) ?_
          clear hK K
          refine region_take [10, 11, 12, 13, 14, 15, 17, 18, 19, 20] [0, 1, 2, 3, 5, 6, 7, 8, 4, 9] 9 (by kernel_rfl) (by kernel_rfl) (InK.mk' k2) ?_
          show wpQuiet _ _ _ _ [_, _, _, _, _, _, _, _, _, _] _
          repeat (go_big_quiet_step (fail))
          refine wpQuiet_nil ?_
          refine region_fix (i := 16) (fuel := 8) rfl (by kernel_rfl) (fun K hK => ?_)
          go_simp
          refine (Hy2.out _ k2).mono ?_
          rintro e w3 ⟨rfl, k3'⟩
          have k3 := k2.trans k3'
          refine hK _ _ (InK.mk' k3) ?_
          clear hK K
          refine region_fix (i := 21) (fuel := 7) rfl (by kernel_rfl) (fun K hK => ?_)
          go_simp
          refine (Hz2.out _ k3).mono ?_
          rintro e w4 ⟨rfl, k4'⟩
          have k4 := k3.trans k4'
          refine hK _ _ (InK.mk' k4) ?_
          clear hK K
          clear Hy2 Hz2 ky0 ky1 kz0 kz1 q0 q1
          by_cases g2 : ey = ez
          · by_cases g3 : lst.1 < z
            · have Hr := Lib.hid (show lastL (EL ls) i (R.take (j + 1)) = (z, some j) by rw [Hs.out, decide_eq_true g2, decide_eq_true g3]; simp)
              have g3z : (lst.1 : Int) < (z : Int) := by omega
              subst g2
              clear Hs
              refine region_take [22, 23, 24, 25, 26, 27, 28] [0, 1, 2, 3, 5, 6, 7, 8, 4, 9, 10, 11, 12, 13, 14, 15, 17, 18, 19, 20, 16, 21] 0 (by kernel_rfl) (by kernel_rfl) (InK.mk' k4) ?_
              show wpQuiet _ _ _ _ [_, _, _, _, _, _, _] _
              repeat (go_big_quiet_step (fail))
              refine wpQuiet_nil ?_
              refine region_done (by kernel_rfl) ?_
              go_wp2
              go_roundw
              case rel => exact ⟨j + 1, hjk, by go_num, by rw [Hr.out], by rw [Hr.out]; rfl, Hno, hkeep.trans k4⟩
              case measure => simp [intOf]; omega
            · have Hr := Lib.hid (show lastL (EL ls) i (R.take (j + 1)) = lst by rw [Hs.out, g1d, decide_eq_false g3]; simp)
              have g3z : ¬ (lst.1 : Int) < (z : Int) := by omega
              have g3d : decide ((lst.1 : Int) < (z : Int)) = false := decide_eq_false g3z
              have g3e : decide (lst.1 < z) = false := decide_eq_false g3
              subst g2
              clear Hs
              refine region_take [22, 23, 24, 25, 26, 27, 28] [0, 1, 2, 3, 5, 6, 7, 8, 4, 9, 10, 11, 12, 13, 14, 15, 17, 18, 19, 20, 16, 21] 0 (by kernel_rfl) (by kernel_rfl) (InK.mk' k4) ?_
              show wpQuiet _ _ _ _ [_, _, _, _, _, _, _] _
              repeat (go_big_quiet_step (fail))
              refine wpQuiet_nil ?_
              refine region_done (by kernel_rfl) ?_
              go_wp2
              go_roundw
              case rel => exact ⟨j + 1, hjk, by go_num, by rw [Hr.out], by rw [Hr.out], Hno, hkeep.trans k4⟩
              case measure => simp [intOf]; omega
          · have Hr := Lib.hid (show lastL (EL ls) i (R.take (j + 1)) = lst by rw [Hs.out, g1d, decide_eq_false g2]; simp)
            have g2b : (ey == ez) = false := by rw [beq_eq_false_iff_ne]; exact g2
            have g2d : decide (ey = ez) = false := decide_eq_false g2
            clear Hs
            refine region_take [22, 23, 24, 25, 26, 27, 28] [0, 1, 2, 3, 5, 6, 7, 8, 4, 9, 10, 11, 12, 13, 14, 15, 17, 18, 19, 20, 16, 21] 0 (by kernel_rfl) (by kernel_rfl) (InK.mk' k4) ?_
            show wpQuiet _ _ _ _ [_, _, _, _, _, _, _] _
            repeat (go_big_quiet_step (fail))
            refine wpQuiet_nil ?_
            refine region_done (by kernel_rfl) ?_
            go_wp2
            go_roundw
            case rel => exact ⟨j + 1, hjk, by go_num, by rw [Hr.out], by rw [Hr.out], Hno, hkeep.trans k4⟩
            case measure => simp [intOf]; omega
    · have hjn : j = R.length := by omega
      rw [hjn, List.take_length] at hlst hno
      have hl1 : lst.1 < ls.length := by
        rw [← hlst]
        exact lastL_lt hRb hi
      have HSp := Lib.hid (rSpill_calls ⟨b1, d1, b2, d2, ⟨R, slots⟩⟩ (some ⟨bA, offA, none⟩) ls c lst.1 s0 wr hat.ok (Hl.out.keep hat.keep) hn hne Hlen.out hl1 hs)
      have Hnext := Lib.hid (HN2.out hno.out)
      have Hspec := Lib.hid (lastL_spec (EL ls) i R)
      rw [hlst] at Hnext Hspec
      have Hat := Lib.hid hat
      clear hat hlst hno hjn
      go_wp2_with fail
      refine (show Calls Try.prog 42 #[.agg #[.slice b1 R.length d1, .slice b2 slots.length d2], .slice (some ⟨bA, offA, none⟩) ls.length c, .int .i64 (lst.1 : Int), .int .i64 (s0 : Int)] wr _ from HSp.out).mono ?_
      rintro e w3 ⟨m, ⟨e1, f1, e2, f2, t3⟩, he, hm, rfl, hok3, hoff3, k3⟩
      obtain ⟨n8, hn8⟩ : ∃ n8, (slots.set lst.1 (some m)).length = n8 := ⟨_, rfl⟩
      replace he : e = .returned (.agg #[.slice e1 R.length f1, .slice e2 n8 f2]) := by rw [← hn8]; exact he
      subst he
      obtain ⟨⟨u0, p0⟩, p0f, p0l, ⟨u1, p1⟩, p1f, W4, hW4, hB4⟩ := (Hat.out.keepy k3).put hok3
      replace p1 : (w3.setCell ⟨w.heap.size, 0, none⟩ (.slice e1 R.length f1)).cell? ⟨w.heap.size, 1, none⟩ = some u1 := p1
      replace p1f : (w3.setCell ⟨w.heap.size, 0, none⟩ (.slice e1 R.length f1)).frozen? ⟨w.heap.size, 1, none⟩ = false := p1f
      replace hW4 : W4 = (w3.setCell ⟨w.heap.size, 0, none⟩ (.slice e1 R.length f1)).setCell ⟨w.heap.size, 1, none⟩ (.slice e2 n8 f2) := by rw [← hn8]; exact hW4
      have lsz : w.heap.size < (w3.setCell ⟨w.heap.size, 0, none⟩ (.slice e1 R.length f1)).heap.size := by simpa using p0l
      have Hnext2 := Lib.hid (Hnext.out m ⟨hm.le, hm.free, hm.low⟩)
      have HB4 := Lib.hid hB4
      clear hB4 hok3 q0 q1 lq Hat HSp hm Hnext
      obtain ⟨wx, hwx⟩ : ∃ wx, w3.setCell ⟨w.heap.size, 0, none⟩ (.slice e1 R.length f1) = wx := ⟨_, rfl⟩
      rw [hwx] at p1 p1f hW4 lsz
      have q0 : W4.cell? ⟨w.heap.size, 0, none⟩ = some (.slice e1 R.length f1) := HB4.out.blk.cell 0
      have q1 : W4.cell? ⟨w.heap.size, 1, none⟩ = some (.slice e2 n8 f2) := by rw [← hn8]; exact HB4.out.blk.cell 1
      have lq := HB4.out.blk.lt
      cases hl2 : lst.2 with
      | none =>
        rw [hl2] at Hnext2
        have eo : optC none = .int .i64 (-1) := rfl
        obtain ⟨⟨u3, r0⟩, r0f, r0l, ⟨u4, r1⟩, r1f, W5, hW5, hok5, hk5, v0, v1⟩ := HB4.out.fin HB4.out.ok
        replace r1 : (W4.setCell ⟨w.heap.size + 1, 0, none⟩ (.slice e1 R.length f1)).cell? ⟨w.heap.size + 1, 1, none⟩ = some u4 := r1
        replace r1f : (W4.setCell ⟨w.heap.size + 1, 0, none⟩ (.slice e1 R.length f1)).frozen? ⟨w.heap.size + 1, 1, none⟩ = false := r1f
        replace hW5 : W5 = (W4.setCell ⟨w.heap.size + 1, 0, none⟩ (.slice e1 R.length f1)).setCell ⟨w.heap.size + 1, 1, none⟩ (.slice e2 n8 f2) := by rw [← hn8]; exact hW5
        replace v0 : W5.cell? ⟨w.heap.size + 1, 0, none⟩ = some (.slice e1 R.length f1) := v0
        replace v1 : W5.cell? ⟨w.heap.size + 1, 1, none⟩ = some (.slice e2 n8 f2) := by rw [← hn8]; exact v1
        have lsz2 : w.heap.size + 1 < (W4.setCell ⟨w.heap.size + 1, 0, none⟩ (.slice e1 R.length f1)).heap.size := by simpa using r0l
        have Hok := Lib.hid hok5
        have Hr := Lib.hid (show Rf.Next (BL ls) (EL ls) s0 ⟨regs, slots⟩ i ⟨R, slots.set lst.1 (some m)⟩ from Hnext2.out)
        rw [eo]
        clear hok5 HB4 Hnext2 Hspec eo
        obtain ⟨wy, hwy⟩ : ∃ wy, W4.setCell ⟨w.heap.size + 1, 0, none⟩ (.slice e1 R.length f1) = wy := ⟨_, rfl⟩
        rw [hwy] at r1 r1f hW5 lsz2
        rw [hW4] at *
        go_wp2_with fail
        rw [← hW5]
        exact bodyPost_ret (v := .agg #[.slice e1 R.length f1, .slice e2 n8 f2]) (by simp [results, Try.results32, go_sem, v0, v1]) rfl ⟨⟨e1, f1, e2, f2, ⟨R, slots.set lst.1 (some m)⟩⟩, by rw [← hn8]; rfl, Hr.out, Hok.out, fun b hb ho => hoff3 b (by have := hat0; omega) (Hoff.out b hb ho), hk5⟩
      | some r =>
        have hrR : R[r]? = some (some lst.1) := by
          rcases Hspec.out with h | ⟨r', h, h'⟩
          · rw [hl2] at h; cases h.1
          · rw [hl2] at h; cases h; exact h'
        have hrl : r < R.length := (List.getElem?_eq_some_iff.1 hrR).1
        rw [hl2] at Hnext2
        have eo : optC (some r) = .int .i64 (r : Int) := rfl
        have hr0 : (0 : Int) ≤ (r : Int) := by omega
        have hat4 : w.heap.size ≤ W4.heap.size := HB4.out.keep.size
        have Hr := Lib.hid (show Rf.Next (BL ls) (EL ls) s0 ⟨regs, slots⟩ i ⟨R.set r (some i), slots.set lst.1 (some m)⟩ from Hnext2.out)
        have HH := Lib.hid (rHave_calls ⟨e1, f1, e2, f2, ⟨R, slots.set lst.1 (some m)⟩⟩ W4 HB4.out.ok r i hrl (by show R.length ≤ 1000000; omega))
        have Hn8 := Lib.hid hn8
        have hW4s := hW4.symm
        rw [eo]
        clear Hnext2 Hspec eo hrR hW4 hn8
        go_wp2_with fail
        refine (show Calls Try.prog 41 #[.agg #[.slice e1 R.length f1, .slice e2 n8 f2], .int .i64 (r : Int), .int .i64 (i : Int)] W4 _ from by rw [← Hn8.out]; exact HH.out).mono ?_
        rintro e w5 ⟨⟨h1, j1, h2, j2, t5⟩, he, rfl, hok5, hoff5, k5⟩
        obtain ⟨n7, hn7⟩ : ∃ n7, (R.set r (some i)).length = n7 := ⟨_, rfl⟩
        replace he : e = .returned (.agg #[.slice h1 n7 j1, .slice h2 n8 j2]) := by rw [← hn7, ← Hn8.out]; exact he
        subst he
        obtain ⟨⟨u5, a0⟩, a0f, a0l, ⟨u6, b1'⟩, b1f, W6, hW6, hB6⟩ := (HB4.out.keepy k5).put hok5
        replace b1' : (w5.setCell ⟨w.heap.size, 0, none⟩ (.slice h1 n7 j1)).cell? ⟨w.heap.size, 1, none⟩ = some u6 := by rw [← hn7]; exact b1'
        replace b1f : (w5.setCell ⟨w.heap.size, 0, none⟩ (.slice h1 n7 j1)).frozen? ⟨w.heap.size, 1, none⟩ = false := by rw [← hn7]; exact b1f
        replace hW6 : (w5.setCell ⟨w.heap.size, 0, none⟩ (.slice h1 n7 j1)).setCell ⟨w.heap.size, 1, none⟩ (.slice h2 n8 j2) = W6 := by rw [← hn7, ← Hn8.out]; exact hW6.symm
        have lsz6 : w.heap.size < (w5.setCell ⟨w.heap.size, 0, none⟩ (.slice h1 n7 j1)).heap.size := by simpa using a0l
        obtain ⟨⟨u7, r0⟩, r0f, r0l, ⟨u8, r1⟩, r1f, W7, hW7, hok7, hk7, v0, v1⟩ := hB6.fin hB6.ok
        have c0 : W6.cell? ⟨w.heap.size, 0, none⟩ = some (.slice h1 n7 j1) := by rw [← hn7]; exact hB6.blk.cell 0
        have c1 : W6.cell? ⟨w.heap.size, 1, none⟩ = some (.slice h2 n8 j2) := by rw [← Hn8.out]; exact hB6.blk.cell 1
        have cl := hB6.blk.lt
        replace r1 : (W6.setCell ⟨w.heap.size + 1, 0, none⟩ (.slice h1 n7 j1)).cell? ⟨w.heap.size + 1, 1, none⟩ = some u8 := by rw [← hn7]; exact r1
        replace r1f : (W6.setCell ⟨w.heap.size + 1, 0, none⟩ (.slice h1 n7 j1)).frozen? ⟨w.heap.size + 1, 1, none⟩ = false := by rw [← hn7]; exact r1f
        replace hW7 : (W6.setCell ⟨w.heap.size + 1, 0, none⟩ (.slice h1 n7 j1)).setCell ⟨w.heap.size + 1, 1, none⟩ (.slice h2 n8 j2) = W7 := by rw [← hn7, ← Hn8.out]; exact hW7.symm
        replace v0 : W7.cell? ⟨w.heap.size + 1, 0, none⟩ = some (.slice h1 n7 j1) := by rw [← hn7]; exact v0
        replace v1 : W7.cell? ⟨w.heap.size + 1, 1, none⟩ = some (.slice h2 n8 j2) := by rw [← Hn8.out]; exact v1
        have lsz7 : w.heap.size + 1 < (W6.setCell ⟨w.heap.size + 1, 0, none⟩ (.slice h1 n7 j1)).heap.size := by simpa using r0l
        have Hok := Lib.hid hok7
        have Hn7 := Lib.hid hn7
        clear hok7 hok5 hB6 HB4 HH q0 q1 lq p0 p0f p0l p1 p1f lsz hwx hW4s hn7
        obtain ⟨wy, hwy⟩ : ∃ wy, w5.setCell ⟨w.heap.size, 0, none⟩ (.slice h1 n7 j1) = wy := ⟨_, rfl⟩
        rw [hwy] at b1' b1f hW6 lsz6
        obtain ⟨wz, hwz⟩ : ∃ wz, W6.setCell ⟨w.heap.size + 1, 0, none⟩ (.slice h1 n7 j1) = wz := ⟨_, rfl⟩
        rw [hwz] at r1 r1f hW7 lsz7
        go_wp2_with fail
        exact bodyPost_ret (v := .agg #[.slice h1 n7 j1, .slice h2 n8 j2]) (by simp [results, Try.results32, go_sem, v0, v1]) rfl ⟨⟨h1, j1, h2, j2, ⟨R.set r (some i), slots.set lst.1 (some m)⟩⟩, by rw [← Hn7.out, ← Hn8.out]; rfl, Hr.out, Hok.out, fun b hb ho => hoff5 b (by have := hat4; omega) (hoff3 b (by have := hat0; omega) (Hoff.out b hb ho)), hk7⟩
end Go.Proofs.Ytigidchignlpmaa
