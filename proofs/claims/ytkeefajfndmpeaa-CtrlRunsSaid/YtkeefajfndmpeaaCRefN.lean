/-
  The reference's State: New.
-/
import Derived.Test.YtkeefajfndmpeaaCRefE
namespace Go.Proofs.Ytkeefajfndmpeaa
open Go Go.RowKit

def RC.fresh (res : LD) : RC := ⟨Stk.fresh.opened, [⟨11, LD.none, res, true, true⟩], res, 0⟩

set_option maxHeartbeats 4000000 in
set_option maxRecDepth 100000 in
theorem refCNew_calls {w0 w : World} (res : LD) (hres : LOk w0 res) :
    Calls Try.prog 46 #[.slice res.a res.l.length res.c] w fun e w' => ∃ v', e = .returned v' ∧ RefC w0 (fun k => w.heap.size ≤ k) w' v' (RC.fresh res) ∧ Keep w w' := by
  obtain ⟨wa, hwa⟩ : ∃ wa : World, wa = (w.alloc (.cells rzero7.toArray 74)).alloc (.cells (frC ⟨11, LD.none, res, true, true⟩).toArray 105) := ⟨_, rfl⟩
  have hka : Keep w wa := by rw [hwa]; exact ((Keep.refl _).alloc _).alloc _
  have hza : wa.heap.size = w.heap.size + 1 + 1 := by rw [hwa]; simp
  have bb : Blk wa w.heap.size 74 rzero7 := by rw [hwa]; exact (Blk.new w _ _).keep ((Keep.refl _).alloc _)
  have bf : Blk wa (w.heap.size + 1) 105 (frC ⟨11, LD.none, res, true, true⟩) := by
    rw [hwa]
    have := Blk.new (w.alloc (.cells rzero7.toArray 74)) 105 (frC ⟨11, LD.none, res, true, true⟩)
    simpa using this
  have Hfin := Lib.hid (fun (W W' : World) (v : Value) (m : Nat) (A1 A2 A3 : Option Addr) (c1 c2 c3 mo : Nat) (hr : RefAt (fun k => wa.heap.size ≤ k) W (.agg (rcells A1 A2 A3 Stk.fresh.opened.T.length Stk.fresh.opened.P.length c1 c2 c3 mo).toArray) Stk.fresh.opened) (hb : Blk W m 105 (frC ⟨11, LD.none, res, true, true⟩)) (hm : wa.heap.size ≤ m) (hk : Keep wa W) (hE : Ext (fun q => q = w.heap.size) W W') =>
    show RefC w0 (fun k => w.heap.size ≤ k) W' (.agg (rcells7 A1 A2 A3 Stk.fresh.opened.T.length Stk.fresh.opened.P.length c1 c2 c3 mo (some ⟨m, 0, none⟩) 1 1 res 0).toArray) (RC.fresh res) ∧ Keep w W' from by
      have hkW : Keep w W' := Keep.of_ext2 (hka.trans hk) hE (fun q hq h => by omega)
      refine ⟨⟨A1, A2, A3, c1, c2, c3, mo, some ⟨m, 0, none⟩, 1, rfl, (hr.ext hE (fun q hq h => by omega)).mono (fun k _ hg => by omega), ?_⟩, hkW⟩
      refine ⟨?_, Nat.le_refl _, fun _ ad ha => by cases ha; show w.heap.size ≤ m; omega, fun g hg => ?_, hres⟩
      · have h1 := Seg.of_blk (hb.ext hE (by omega))
        show Seg W' _ (([⟨11, LD.none, res, true, true⟩] : List FrD).flatMap frC)
        simpa using h1
      · have : g = ⟨11, LD.none, res, true, true⟩ := by simpa [RC.fresh] using hg
        rw [this]
        exact ⟨⟨Seg.nil _ _, Nat.zero_le _⟩, hres⟩)
  have p0 := fun y : KE (fun q => q = w.heap.size) wa => y.cell (v := .int .i64 11) (bf.cell 0) (by show ¬ (w.heap.size + 1 = w.heap.size); omega)
  have p1 := fun y : KE (fun q => q = w.heap.size) wa => y.cell (v := .slice none 0 0) (bf.cell 1) (by show ¬ (w.heap.size + 1 = w.heap.size); omega)
  have p2 := fun y : KE (fun q => q = w.heap.size) wa => y.cell (v := .slice res.a res.l.length res.c) (bf.cell 2) (by show ¬ (w.heap.size + 1 = w.heap.size); omega)
  have p3 := fun y : KE (fun q => q = w.heap.size) wa => y.cell (v := .bool true) (bf.cell 3) (by show ¬ (w.heap.size + 1 = w.heap.size); omega)
  have p4 := fun y : KE (fun q => q = w.heap.size) wa => y.cell (v := .bool true) (bf.cell 4) (by show ¬ (w.heap.size + 1 = w.heap.size); omega)
  have hd : Keep wa wa.drew := (Keep.refl _).drew
  have HN := Lib.hid (fun (wx : World) => refNew_calls wx)
  have HO := Lib.hid (fun (G' : Nat → Prop) (wx : World) (v' : Value) (hr' : RefAt G' wx v' Stk.fresh) => refOpen_calls hr' (by decide) (by decide))
  have Hb := Lib.hid bb
  obtain ⟨s5, hs5⟩ : ∃ s5, Stk.fresh.opened = s5 := ⟨_, rfl⟩
  rw [hs5] at Hfin HO
  clear hs5
  have Hza := Lib.hid hza
  clear bf hka hza bb hres
  replace hwa : wa = (w.alloc (.cells #[.slice none 0 0, .slice none 0 0, .slice none 0 0, .int .i64 0, .slice none 0 0, .slice none 0 0, .int .i64 0] 74)).alloc (.cells #[.int .i64 11, .slice none 0 0, .slice res.a res.l.length res.c, .bool true, .bool true] 105) := hwa
  go_enter Try.func46, Try.ntmps46
  go_wp2_with fail
  rw [← hwa]
  clear hwa
  refine region_begin (S := fun w' => ∃ y : KE (fun q => q = w.heap.size) wa, w' = y.val) (by kernel_rfl) ?_
  refine region_take [2, 4] [] 5 (by kernel_rfl) (by kernel_rfl) (KE.mk' (Ext.drew (Ext.refl _ _))) ?_
  show wpQuiet _ _ _ _ [_, _] _
  repeat (go_big_quiet_step (fail))
  refine wpQuiet_nil ?_
  clear p0 p1 p2 p3 p4
  refine region_any (fuel := 4) (is := [0, 3]) (by kernel_rfl) (by simp) (mem2 ?_ ?_)
  · refine ⟨_, rfl, fun K hK => ?_⟩
    go_simp
    refine (HN.out _).mono ?_
    rintro e wN ⟨vN, rfl, hrN, hkN⟩
    have kN : Keep wa wN := (hd).trans hkN
    have gN : RefAt (fun k => wa.heap.size ≤ k) wN vN Stk.fresh := hrN.mono (fun k _ (hg : _ ≤ k) => Nat.le_trans (hd).size hg)
    refine hK _ _ (KE.mk' (kN.ext _)) ?_
    clear hK K hrN
    refine region_any (fuel := 3) (is := [1, 3]) (by kernel_rfl) (by simp) (mem2 ?_ ?_)
    · refine ⟨_, rfl, fun K hK => ?_⟩
      go_simp
      refine (HO.out _ _ _ gN).mono ?_
      rintro e wO ⟨vO, rfl, hrO, hkO⟩
      have kO : Keep wa wO := (kN).trans hkO
      have gO : RefAt (fun k => wa.heap.size ≤ k) wO vO s5 := hrO.mono (fun k _ hg => hg.elim id (fun h => Nat.le_trans (kN).size h))
      refine hK _ _ (KE.mk' (kO.ext _)) ?_
      clear hK K hrO
      refine region_fix (i := 3) (fuel := 2) rfl (by kernel_rfl) (fun K hK => ?_)
      go_simp
      refine hK _ _ (KE.mk' (((kO).alloc _).ext _)) ?_
      clear hK K
      refine gen_wpAnyH (fun W => Keep wO W ∧ Blk W wO.heap.size 105 (frC (⟨11, LD.none, res, true, true⟩ : FrD))) ⟨((Keep.refl _).alloc _), Blk.new wO _ (frC (⟨11, LD.none, res, true, true⟩ : FrD))⟩ ?_
      rintro wB ⟨jB, bB⟩
      have kB : Keep wa wB := (kO).trans jB
      have mB : wa.heap.size ≤ wO.heap.size := (kO).size
      have gZ := (gO.keep jB)
      have bZ := bB
      have kZ := kB
      obtain ⟨A1, A2, A3, c1, c2, c3, mo, rfl, _⟩ := id gZ
      have bbZ := Hb.out.keep kZ
      have Hf := Lib.hid (fun (W' : World) (hE : Ext (fun q => q = w.heap.size) wB W') => Hfin.out wB W' (.int .i64 0) wO.heap.size A1 A2 A3 c1 c2 c3 mo gZ bZ mB kZ hE)
      have y0 : wB.cell? ⟨w.heap.size, 0, none⟩ = some (.slice none 0 0) := bbZ.cell 0
      have y1 : wB.cell? ⟨w.heap.size, 1, none⟩ = some (.slice none 0 0) := bbZ.cell 1
      have y2 : wB.cell? ⟨w.heap.size, 2, none⟩ = some (.slice none 0 0) := bbZ.cell 2
      have y3 : wB.cell? ⟨w.heap.size, 3, none⟩ = some (.int .i64 0) := bbZ.cell 3
      have y4 : wB.cell? ⟨w.heap.size, 4, none⟩ = some (.slice none 0 0) := bbZ.cell 4
      have y5 : wB.cell? ⟨w.heap.size, 5, none⟩ = some (.slice none 0 0) := bbZ.cell 5
      have y6 : wB.cell? ⟨w.heap.size, 6, none⟩ = some (.int .i64 0) := bbZ.cell 6
      have fy := bbZ.frozen
      have ly := bbZ.lt
      clear bbZ
      refine region_fix (i := 5) (fuel := 1) rfl (by kernel_rfl) (fun K hK => ?_)
      go_simp
      refine hK _ _ (KE.mk' (kZ.ext _)) ?_
      clear hK K
      refine region_fix (i := 6) (fuel := 0) rfl (by kernel_rfl) (fun K hK => ?_)
      go_simp
      refine hK _ _ (KE.mk' ((kZ.ext _).trans (ext7 _ _ _ _ _ _ _ _ _) (fun _ _ h => h))) ?_
      clear hK K
      refine region_done (by kernel_rfl) ?_
      clear Hfin HN HO gZ bZ
      unfold rcells7 LD.v at *
      go_wp2
      refine bodyPost_ret (v := .agg #[.slice A1 s5.T.length c1, .slice A2 s5.P.length c2, .slice A3 s5.P.length c3, .int .i64 (mo : Int), .slice (some ⟨wO.heap.size, 0, none⟩) 1 1, .slice res.a res.l.length res.c, .int .i64 0]) (by simp [results, Try.results46, go_sem, y0, y1, y2, y3, y4, y5, y6]) rfl ⟨_, rfl, Hf.out _ (ext7 _ _ _ _ _ _ _ _ _)⟩
    · refine ⟨_, rfl, fun K hK => ?_⟩
      go_simp
      refine hK _ _ (KE.mk' (((kN).alloc _).ext _)) ?_
      clear hK K
      refine gen_wpAnyH (fun W => Keep wN W ∧ Blk W wN.heap.size 105 (frC (⟨11, LD.none, res, true, true⟩ : FrD))) ⟨((Keep.refl _).alloc _), Blk.new wN _ (frC (⟨11, LD.none, res, true, true⟩ : FrD))⟩ ?_
      rintro wB ⟨jB, bB⟩
      have kB : Keep wa wB := (kN).trans jB
      have mB : wa.heap.size ≤ wN.heap.size := (kN).size
      refine region_fix (i := 1) (fuel := 2) rfl (by kernel_rfl) (fun K hK => ?_)
      go_simp
      refine (HO.out _ _ _ (gN.keep jB)).mono ?_
      rintro e wO ⟨vO, rfl, hrO, hkO⟩
      have kO : Keep wa wO := (kB).trans hkO
      have gO : RefAt (fun k => wa.heap.size ≤ k) wO vO s5 := hrO.mono (fun k _ hg => hg.elim id (fun h => Nat.le_trans (kB).size h))
      refine hK _ _ (KE.mk' (kO.ext _)) ?_
      clear hK K hrO
      have gZ := gO
      have bZ := (bB.keep hkO)
      have kZ := kO
      obtain ⟨A1, A2, A3, c1, c2, c3, mo, rfl, _⟩ := id gZ
      have bbZ := Hb.out.keep kZ
      have Hf := Lib.hid (fun (W' : World) (hE : Ext (fun q => q = w.heap.size) wO W') => Hfin.out wO W' (.int .i64 0) wN.heap.size A1 A2 A3 c1 c2 c3 mo gZ bZ mB kZ hE)
      have y0 : wO.cell? ⟨w.heap.size, 0, none⟩ = some (.slice none 0 0) := bbZ.cell 0
      have y1 : wO.cell? ⟨w.heap.size, 1, none⟩ = some (.slice none 0 0) := bbZ.cell 1
      have y2 : wO.cell? ⟨w.heap.size, 2, none⟩ = some (.slice none 0 0) := bbZ.cell 2
      have y3 : wO.cell? ⟨w.heap.size, 3, none⟩ = some (.int .i64 0) := bbZ.cell 3
      have y4 : wO.cell? ⟨w.heap.size, 4, none⟩ = some (.slice none 0 0) := bbZ.cell 4
      have y5 : wO.cell? ⟨w.heap.size, 5, none⟩ = some (.slice none 0 0) := bbZ.cell 5
      have y6 : wO.cell? ⟨w.heap.size, 6, none⟩ = some (.int .i64 0) := bbZ.cell 6
      have fy := bbZ.frozen
      have ly := bbZ.lt
      clear bbZ
      refine region_fix (i := 5) (fuel := 1) rfl (by kernel_rfl) (fun K hK => ?_)
      go_simp
      refine hK _ _ (KE.mk' (kZ.ext _)) ?_
      clear hK K
      refine region_fix (i := 6) (fuel := 0) rfl (by kernel_rfl) (fun K hK => ?_)
      go_simp
      refine hK _ _ (KE.mk' ((kZ.ext _).trans (ext7 _ _ _ _ _ _ _ _ _) (fun _ _ h => h))) ?_
      clear hK K
      refine region_done (by kernel_rfl) ?_
      clear Hfin HN HO gZ bZ
      unfold rcells7 LD.v at *
      go_wp2
      refine bodyPost_ret (v := .agg #[.slice A1 s5.T.length c1, .slice A2 s5.P.length c2, .slice A3 s5.P.length c3, .int .i64 (mo : Int), .slice (some ⟨wN.heap.size, 0, none⟩) 1 1, .slice res.a res.l.length res.c, .int .i64 0]) (by simp [results, Try.results46, go_sem, y0, y1, y2, y3, y4, y5, y6]) rfl ⟨_, rfl, Hf.out _ (ext7 _ _ _ _ _ _ _ _ _)⟩
  · refine ⟨_, rfl, fun K hK => ?_⟩
    go_simp
    refine hK _ _ (KE.mk' (((Keep.refl wa).alloc _).drew.ext _)) ?_
    clear hK K
    refine gen_wpAnyH (fun W => Keep wa W ∧ Blk W wa.heap.size 105 (frC (⟨11, LD.none, res, true, true⟩ : FrD))) ⟨((Keep.refl _).alloc _).drew, (Blk.new wa _ (frC (⟨11, LD.none, res, true, true⟩ : FrD))).keep ((Keep.refl _).drew)⟩ ?_
    rintro wB ⟨jB, bB⟩
    have kB : Keep wa wB := (Keep.refl wa).trans jB
    have mB : wa.heap.size ≤ wa.heap.size := (Keep.refl wa).size
    refine region_fix (i := 0) (fuel := 3) rfl (by kernel_rfl) (fun K hK => ?_)
    go_simp
    refine (HN.out _).mono ?_
    rintro e wN ⟨vN, rfl, hrN, hkN⟩
    have kN : Keep wa wN := (kB).trans hkN
    have gN : RefAt (fun k => wa.heap.size ≤ k) wN vN Stk.fresh := hrN.mono (fun k _ (hg : _ ≤ k) => Nat.le_trans (kB).size hg)
    refine hK _ _ (KE.mk' (kN.ext _)) ?_
    clear hK K hrN
    refine region_fix (i := 1) (fuel := 2) rfl (by kernel_rfl) (fun K hK => ?_)
    go_simp
    refine (HO.out _ _ _ gN).mono ?_
    rintro e wO ⟨vO, rfl, hrO, hkO⟩
    have kO : Keep wa wO := (kN).trans hkO
    have gO : RefAt (fun k => wa.heap.size ≤ k) wO vO s5 := hrO.mono (fun k _ hg => hg.elim id (fun h => Nat.le_trans (kN).size h))
    refine hK _ _ (KE.mk' (kO.ext _)) ?_
    clear hK K hrO
    have gZ := gO
    have bZ := (bB.keep (hkN.trans hkO))
    have kZ := kO
    obtain ⟨A1, A2, A3, c1, c2, c3, mo, rfl, _⟩ := id gZ
    have bbZ := Hb.out.keep kZ
    have Hf := Lib.hid (fun (W' : World) (hE : Ext (fun q => q = w.heap.size) wO W') => Hfin.out wO W' (.int .i64 0) wa.heap.size A1 A2 A3 c1 c2 c3 mo gZ bZ mB kZ hE)
    have y0 : wO.cell? ⟨w.heap.size, 0, none⟩ = some (.slice none 0 0) := bbZ.cell 0
    have y1 : wO.cell? ⟨w.heap.size, 1, none⟩ = some (.slice none 0 0) := bbZ.cell 1
    have y2 : wO.cell? ⟨w.heap.size, 2, none⟩ = some (.slice none 0 0) := bbZ.cell 2
    have y3 : wO.cell? ⟨w.heap.size, 3, none⟩ = some (.int .i64 0) := bbZ.cell 3
    have y4 : wO.cell? ⟨w.heap.size, 4, none⟩ = some (.slice none 0 0) := bbZ.cell 4
    have y5 : wO.cell? ⟨w.heap.size, 5, none⟩ = some (.slice none 0 0) := bbZ.cell 5
    have y6 : wO.cell? ⟨w.heap.size, 6, none⟩ = some (.int .i64 0) := bbZ.cell 6
    have fy := bbZ.frozen
    have ly := bbZ.lt
    clear bbZ
    refine region_fix (i := 5) (fuel := 1) rfl (by kernel_rfl) (fun K hK => ?_)
    go_simp
    refine hK _ _ (KE.mk' (kZ.ext _)) ?_
    clear hK K
    refine region_fix (i := 6) (fuel := 0) rfl (by kernel_rfl) (fun K hK => ?_)
    go_simp
    refine hK _ _ (KE.mk' ((kZ.ext _).trans (ext7 _ _ _ _ _ _ _ _ _) (fun _ _ h => h))) ?_
    clear hK K
    refine region_done (by kernel_rfl) ?_
    clear Hfin HN HO gZ bZ
    unfold rcells7 LD.v at *
    go_wp2
    refine bodyPost_ret (v := .agg #[.slice A1 s5.T.length c1, .slice A2 s5.P.length c2, .slice A3 s5.P.length c3, .int .i64 (mo : Int), .slice (some ⟨wa.heap.size, 0, none⟩) 1 1, .slice res.a res.l.length res.c, .int .i64 0]) (by simp [results, Try.results46, go_sem, y0, y1, y2, y3, y4, y5, y6]) rfl ⟨_, rfl, Hf.out _ (ext7 _ _ _ _ _ _ _ _ _)⟩
end Go.Proofs.Ytkeefajfndmpeaa
