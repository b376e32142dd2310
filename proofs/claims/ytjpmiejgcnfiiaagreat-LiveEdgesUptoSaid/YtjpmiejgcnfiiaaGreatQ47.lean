/-
  LiveEdges, proved where what it reads is of bulk at most 1048576.
-/
import Derived.Test.YtjpmiejgcnfiiaaGreatQ36
import Derived.Test.YtjpmiejgcnfiiaaGreatQ45
import Derived.Test.YtjpmiejgcnfiiaaGreatQ13
import Derived.Test.YtjpmiejgcnfiiaaGreatQ40
import Derived.Test.YtjpmiejgcnfiiaaGreatQ41
import Derived.Test.YtjpmiejgcnfiiaaGreatQ46
import Derived.Test.YtjpmiejgcnfiiaaGreatQ34
import Derived.Test.YtjpmiejgcnfiiaaGreatQ31
import Derived.Laws.Tables
import Derived.Test.YtjpmiejgcnfiiaaGreatQ8
import Derived.JoinedCond
import Derived.ProofKit
set_option linter.unusedVariables false
set_option linter.unusedSimpArgs false
namespace Go.Proofs.YtjpmiejgcnfiiaaGreat
open Go Go.RowKit

/-- Rows of integers, read. -/
theorem irowsE_at {w wr : World} {b base : Nat} {L : List (List Int)} (h : DZ.IRows w b base L) (hk : Keep w wr) {i : Nat} {l : List Int} (hl : L[i]? = some l) : ∃ A c, wr.cell? ⟨b, i, none⟩ = some (.slice A l.length c) ∧ Seg wr A (l.flatMap intC) ∧ b < w.heap.size := by
 obtain ⟨rs, h1, h2, h3, h4, _⟩ := h.read
 have hi := (List.getElem?_eq_some_iff.1 hl).1
 have hir : i < rs.length := by omega
 have e : rs[i].l = l := by
  have : (rs.map (·.l))[i]? = some l := by rw [h1]; exact hl
  rw [List.getElem?_map, List.getElem?_eq_getElem hir] at this
  exact Option.some.inj this
 obtain ⟨b', off, e1, hb, hc⟩ := DZ.row_at h2 hk hir
 cases e1
 rw [e] at hc
 rw [Nat.zero_add] at hc
 exact ⟨_, _, hc, by rw [← e]; exact (h3 _ (List.getElem_mem hir)).keep hk, hb⟩

set_option maxHeartbeats 16000000 in
set_option maxRecDepth 100000 in
theorem edges_calls (m : MdD) (x : SsD) (w : World) (hm : MdOk w m) (h : SsOk w x) (hp : NumOk w x.params) (hr : NumOk w x.results) (hb : Bulky x) (hwf : ∀ y ∈ x.blocks.l, ∀ i ∈ y.ins.l, InWf i) :
  Calls Tryz.prog 4 #[.agg (mdC m).toArray, .agg (ssC x).toArray] w fun e w' => e = .returned (.bool true) ∧ Keep w w' := by
 obtain ⟨W, hW, kW, bW, sW⟩ := boxN w 33 (mdC m)
 obtain ⟨V, hV, kV, bV, sV⟩ := boxN W 39 (ssC x)
 have Hc := Lib.hid (fun (w' : World) (hk : Keep V w') => (⟨(bV.keep hk).cell 0, (bV.keep hk).cell 1, (bV.keep hk).cell 2, (bV.keep hk).cell 3, (bV.keep hk).lt⟩ : w'.cell? ⟨W.heap.size, 0, none⟩ = some (.slice x.params.a x.params.l.length x.params.c) ∧ w'.cell? ⟨W.heap.size, 1, none⟩ = some (.slice x.results.a x.results.l.length x.results.c) ∧ w'.cell? ⟨W.heap.size, 2, none⟩ = some (.slice x.vals.a x.vals.l.length x.vals.c) ∧ w'.cell? ⟨W.heap.size, 3, none⟩ = some (.slice x.blocks.a x.blocks.l.length x.blocks.c) ∧ W.heap.size < w'.heap.size))
 have Hmc := Lib.hid (fun (w' : World) (hk : Keep V w') => ((bW.keep kV).keep hk).md)
 have kk0 := kW.trans kV
 have HkV := Lib.hid kk0
 have HX := Lib.hid (fun (w' : World) (hk : Keep V w') => h.keep (kk0.trans hk))
 have HB := Lib.hid hb
 have Hri := Lib.hid (lawright_calls m x V (hm.keep kk0) (h.keep kk0) (hp.keep kk0) (hr.keep kk0) hb hwf)
 obtain ⟨c0, c1, c2, c3, lt⟩ := Hc.out V (Keep.refl _)
 obtain ⟨d0, d1, d2, d3, d4, d5, d6, d7, d8, d9, da, db, ltm⟩ := Hmc.out V (Keep.refl _)
 clear bW sW bV sV hm h hp hr hb hwf kW kV kk0
 go_enter Tryz.func4, Tryz.ntmps4
 go_wp2_with fail
 refine Hri.out.mono ?_
 clear Hri c0 c1 c2 c3 lt d0 d1 d2 d3 d4 d5 d6 d7 d8 d9 da db ltm
 rintro e wA ⟨r, rfl, hv, hkA⟩
 have HkA := Lib.hid hkA
 clear hkA
 cases r with
 | false =>
  have Hal := Lib.hid (alive_calls wA)
  clear hv
  go_wp2_with fail
  refine Hal.out.mono ?_
  clear Hal
  rintro e w2 ⟨rfl, hk2⟩
  have Hk2 := Lib.hid (HkV.out.trans (HkA.out.trans hk2))
  clear hk2
  go_wp2_with fail
  go_ret
  exact ⟨rfl, Hk2.out⟩
 | true =>
  obtain ⟨hsm, K, I, hvd⟩ := hv rfl
  have Hs := Lib.hid hsm
  have Hf := Lib.hid hvd.v.fits
  have hn := hsm.blocks
  have hnv := hsm.vals
  have hol := x.ord_len
  have Hv := Lib.hid hvd
  have HIl := Lib.hid (show I.length = x.blocks.l.length by rw [hvd.idom.len, x.G_len])
  clear hv hsm hvd
  obtain ⟨c0, c1, c2, c3, lt⟩ := Hc.out wA HkA.out
  obtain ⟨wd, hwd⟩ : ∃ wd, wA.drew = wd := ⟨_, rfl⟩
  have hd : Keep wA wd := by rw [← hwd]; exact (Keep.refl _).drew
  go_wp2_with fail
  have ec0 := fun z : KW wA => z.cell c0
  have ec1 := fun z : KW wA => z.cell c1
  have ec2 := fun z : KW wA => z.cell c2
  have ec3 := fun z : KW wA => z.cell c3
  refine region_begin (S := fun w' => ∃ z : KW wA, w' = z.val) (by kernel_rfl) ?_
  rw [hwd]
  refine region_take [0, 2, 4] [] 6 (by kernel_rfl) (by kernel_rfl) (InK.mk' hd) ?_
  show wpQuiet _ _ _ _ [_, _, _] _
  repeat (go_big_quiet_step (fail))
  refine wpQuiet_nil ?_
  clear hwd ec0 ec1 ec2 ec3
  refine region_fix (i := 1) (fuel := 5) rfl (by kernel_rfl) (fun K hK => ?_)
  go_simp
  refine (of_calls x wd (HX.out _ (HkA.out.trans hd)) Hs.out (fun b y _ hy => Hf.out.inn b y hy)).mono ?_
  rintro e wB ⟨A1, ls, k1, S, rfl, hl1, he1, hfi, hsh, hkB⟩
  have hK1 : Keep wA wB := hd.trans hkB
  refine hK _ _ (InK.mk' hK1) ?_
  clear hK K
  refine region_fix (i := 3) (fuel := 4) rfl (by kernel_rfl) (fun K hK => ?_)
  go_simp
  refine (order_gives x wB (HX.out _ (HkA.out.trans hK1)) Hs.out.edges (by omega)).mono ?_
  rintro e wC ⟨A2, k2, rfl, ho2, hkC⟩
  have hK3 : Keep wA wC := hK1.trans hkC
  refine hK _ _ (InK.mk' hK3) ?_
  clear hK K
  refine region_fix (i := 5) (fuel := 3) rfl (by kernel_rfl) (fun K hK => ?_)
  go_simp
  refine (in_calls x wC (HX.out _ (HkA.out.trans hK3)) Hs.out Hf.out).mono ?_
  rintro e wD ⟨b1, s1, rfl, hr1, hkD⟩
  have hK5 : Keep wA wD := hK3.trans hkD
  refine hK _ _ (InK.mk' hK5) ?_
  clear hK K
  refine region_take [6, 7, 8] [0, 2, 4, 1, 3, 5] 0 (by kernel_rfl) (by kernel_rfl) (InK.mk' hK5) ?_
  show wpQuiet _ _ _ _ [_, _, _] _
  repeat (go_big_quiet_step (fail))
  refine wpQuiet_nil ?_
  refine region_done (by kernel_rfl) ?_
  have HL := Lib.hid (hl1.keep (hkC.trans hkD))
  have HE := Lib.hid (show lvP ls = liveR x x.vals.l.length from he1.trans (ofR_eq Hf.out hfi hsh))
  have hlsl : ls.length ≤ 1000 := by
   have h1 := congrArg List.length he1
   have h2 := ofR_len x S x.vals.l.length
   rw [List.length_map] at h1
   omega
  have Ho := Lib.hid (ho2.segN.2.keep hkD)
  have HR := Lib.hid hr1
  have HkD := Lib.hid (HkA.out.trans hK5)
  have HU := Lib.hid (fun (wx : World) (hkx : Keep wD wx) (B : Option Addr) (d : Nat) (l : List Int) (p : Int) (hsg : Seg wx B (l.flatMap intC)) (hll : l.length ≤ 2000000) (hal : ∀ v ∈ l, livesP (liveR x x.vals.l.length) v p = true) => uses_calls ls A1 B k1 d l p wx (HL.out.keep hkx) (by omega) hsg hll (fun v hv => by rw [HE.out]; exact hal v hv))
  clear hl1 he1 hfi hsh ho2 hr1 hkB hkC hkD hK1 hK3 hK5 hd c0 c1 c2 c3 lt
  obtain ⟨c0, c1, c2, c3, lt⟩ := Hc.out wD HkD.out
  obtain ⟨w1, hmake, hblk, hk1⟩ := DZ.make_ints wD x.blocks.l.length (by omega)
  have Hblk := Lib.hid (show IBlk w1 wD.heap.size 3 (plcL x 0) from by rw [plcL]; exact hblk)
  have Hk1 := Lib.hid hk1
  clear hblk hk1 c0 c1 c2
  go_wp2_with (refine wpList_make_eq rfl _ _ _ rfl _ _ rfl rfl _ _ hmake ?_; clear hmake)
  clear c3 lt
  go_loopw [9, 10] (fun va vi wr => ∃ k : Nat, k ≤ x.ord.length ∧ va = .int .i64 (x.atk k) ∧ vi = .int .i64 k ∧ Hid (IBlk wr wD.heap.size 3 (plcL x k)) ∧ Hid (Keep wD wr)) (fun _ vi _ => x.ord.length - (intOf vi).toNat)
  case atStart => exact ⟨0, Nat.zero_le _, (by unfold SsD.atk; simp [Lv.endAt]), rfl, Hblk, Hk1⟩
  case round =>
   clear Hblk Hk1
   obtain ⟨k, hk, rfl, rfl, hib, hkeep⟩ := hrel
   obtain ⟨wO, rfl⟩ : ∃ z : World, z = wr := ⟨_, rfl⟩
   have hat := SsD.atk_lt Hs.out k
   obtain ⟨at_, hate⟩ : ∃ a, x.atk k = a := ⟨_, rfl⟩
   have Hat := Lib.hid hate
   rw [hate] at hat ⊢
   clear hate
   by_cases hlt : k < x.ord.length
   ·obtain ⟨b, hbk⟩ := get_some hlt
    obtain ⟨y, hy⟩ := SsD.ord_get hbk
    have hbn : b < x.blocks.l.length := (List.getElem?_eq_some_iff.1 hy).1
    obtain ⟨bo, oo, hAO, hbo, q⟩ := int_at Ho.out hkeep.out (k := k) (by rw [ints_len]; exact hlt)
    have hbe : (ints x.ord)[k]'(by rw [ints_len]; exact hlt) = (b : Int) := by
     have := ints_get hbk
     rw [List.getElem?_eq_getElem (by rw [ints_len]; exact hlt)] at this
     exact Option.some.inj this
    rw [hbe] at q
    have hbol := Nat.lt_of_lt_of_le hbo hkeep.out.size
    have HkO := Lib.hid (HkD.out.trans hkeep.out)
    obtain ⟨c0, c1, c2, c3, lt⟩ := Hc.out wO HkO.out
    obtain ⟨BB, ob, hBA, hBl, q0, q1, q2, q3, q4, q5, q6⟩ := bk_cells (HX.out wO HkO.out).seg (Keep.refl _) hy
    rw [hBA] at c3
    subst hAO
    have i0 : (0 : Int) ≤ (k : Int) := by omega
    have i1 : (k : Int) < (x.ord.length : Int) := by omega
    have b0 : (0 : Int) ≤ (b : Int) := by omega
    have b1' : (b : Int) < (x.blocks.l.length : Int) := by omega
    have bd0 : decide ((b : Int) < 0) = false := decide_eq_false (by omega)
    have bd1 : decide ((x.blocks.l.length : Int) ≤ (b : Int)) = false := decide_eq_false (by omega)
    have bd1c : decide (x.blocks.l.length ≤ b) = false := decide_eq_false (by omega)
    have Hby := Lib.hid (show x.ord[k]? = some b ∧ x.blocks.l[b]? = some y from ⟨hbk, hy⟩)
    have hil : y.ins.l.length ≤ 1000 := Hs.out.ins y (List.mem_of_getElem? hy)
    obtain ⟨nin, hnin⟩ : ∃ n, y.ins.l.length = n := ⟨_, rfl⟩
    rw [hnin] at hil q1
    have Hsu := Lib.hid (show x.atk (k + 1) = at_ + 2 * ((nin : Int) + 2) from by rw [SsD.atk_succ hbk hy, Hat.out, hnin])
    clear hbk hy hbe hBA hnin c0 c1 c2 q0 q2 q3 q4 q5 q6
    obtain ⟨wd, hwd⟩ : ∃ wd, wO.drew = wd := ⟨_, rfl⟩
    have hd : Keep wO wd := by rw [← hwd]; exact (Keep.refl _).drew
    go_wp2_with fail
    have eq := fun z : KW wO => z.cell q
    have ec3 := fun z : KW wO => z.cell c3
    refine region_begin (S := fun w' => ∃ z : KW wO, w' = z.val) (by kernel_rfl) ?_
    rw [hwd]
    refine region_take [0, 1, 2, 3, 4, 5, 6, 7, 8, 9, 10, 11, 12, 13, 14] [] 0 (by kernel_rfl) (by kernel_rfl) (InK.mk' hd) ?_
    show wpQuiet _ _ _ _ [_, _, _, _, _, _, _, _, _, _, _, _, _, _, _] _
    repeat (go_big_quiet_step (fail))
    refine wpQuiet_nil ?_
    refine region_done (by kernel_rfl) ?_
    replace q := hd.cell q
    replace q1 := hd.cell q1
    replace c3 := hd.cell c3
    replace lt := Nat.lt_of_lt_of_le lt hd.size
    replace hbol := Nat.lt_of_lt_of_le hbol hd.size
    replace hBl := Nat.lt_of_lt_of_le hBl hd.size
    have hibd : IBlk wd wD.heap.size 3 (plcL x k) := hib.out.keep hd
    have hkd : Keep wD wd := hkeep.out.trans hd
    clear hwd hd eq ec3 bd0 bd1 bd1c hib hkeep
    have p0 := hibd.get (k := b) (by rw [plcL_len]; exact hbn)
    have f0 := hibd.frozen b
    have gl := hibd.lt
    have hk5 : Keep wD (wd.setCell ⟨wD.heap.size, b, none⟩ (.int .i64 (at_ + 1))) := hkd.setCell (p := ⟨wD.heap.size, b, none⟩) (Nat.le_refl _) _
    have hib5 : IBlk (wd.setCell ⟨wD.heap.size, b, none⟩ (.int .i64 (at_ + 1))) wD.heap.size 3 (plcL x (k + 1)) := by rw [plcL_succ Hby.out.1, Hat.out]; exact hibd.put b _
    have q' : (wd.setCell ⟨wD.heap.size, b, none⟩ (.int .i64 (at_ + 1))).cell? ⟨bo, oo + k, none⟩ = some (.int .i64 (b : Int)) := by
     obtain ⟨bo', oo', hA', _, q'⟩ := int_at Ho.out hk5 (k := k) (by rw [ints_len]; exact hlt)
     cases hA'
     rw [q']
     have := ints_get Hby.out.1
     rw [List.getElem?_eq_getElem (by rw [ints_len]; exact hlt)] at this
     rw [Option.some.inj this]
    obtain ⟨w5, hw5⟩ : ∃ w5, wd.setCell ⟨wD.heap.size, b, none⟩ (.int .i64 (at_ + 1)) = w5 := ⟨_, rfl⟩
    have Hw5 := Lib.hid hw5
    rw [hw5] at hk5 hib5 q'
    obtain ⟨_, _, _, c3', lt'⟩ := Hc.out w5 (HkD.out.trans hk5)
    obtain ⟨BB', ob', hBA', hBl', _, q1', _, _, _, _, _⟩ := bk_cells (HX.out w5 (HkD.out.trans hk5)).seg (Keep.refl _) Hby.out.2
    rw [hBA'] at c3'
    have hnin : y.ins.l.length = nin := by
     have h1 := SsD.atk_succ Hby.out.1 Hby.out.2
     rw [Hsu.out, Hat.out] at h1; omega
    rw [hnin] at q1'
    have Hn := Lib.hid (show IBlk w5 wD.heap.size 3 (plcL x (k + 1)) ∧ Keep wD w5 from ⟨hib5, hk5⟩)
    clear hibd hkd hk5 hib5 hw5 hBA' hnin
    go_wp2_with fail
    rw [Hw5.out]
    clear q q1 c3 lt hbol hBl p0 f0 gl
    have eq' := fun z : KW w5 => z.cell q'
    have ec3' := fun z : KW w5 => z.cell c3'
    have eq1' := fun z : KW w5 => z.cell q1'
    have hd : Keep w5 w5.drew := (Keep.refl _).drew
    refine region_begin (S := fun w' => ∃ z : KW w5, w' = z.val) (by kernel_rfl) ?_
    refine region_take [0, 1, 2, 3, 4, 5, 6, 7, 8, 9, 10, 11, 12, 13, 14] [] 0 (by kernel_rfl) (by kernel_rfl) (InK.mk' hd) ?_
    show wpQuiet _ _ _ _ [_, _, _, _, _, _, _, _, _, _, _, _, _, _, _] _
    repeat (go_big_quiet_step (fail))
    refine wpQuiet_nil ?_
    clear eq' ec3' eq1'
    refine region_done (by kernel_rfl) ?_
    have Hn2 := Lib.hid (show IBlk w5.drew wD.heap.size 3 (plcL x (k + 1)) ∧ Keep wD w5.drew from ⟨Hn.out.1.keep hd, Hn.out.2.trans hd⟩)
    clear hd q' c3' q1' lt' hBl' Hn Hw5
    go_wp2_with fail
    go_roundw
    case rel => exact ⟨k + 1, hlt, by rw [Hsu.out], by go_num, Lib.hid Hn2.out.1, Lib.hid Hn2.out.2⟩
    case measure => simp [intOf] <;> omega
   ·have hke : k = x.ord.length := by omega
    subst hke
    have Hib := Lib.hid hib.out
    have HkO := Lib.hid (HkD.out.trans hkeep.out)
    have Hko := Lib.hid hkeep.out
    have Hnx := Lib.hid (next39_calls x wO (HX.out wO HkO.out) HB.out (by omega))
    obtain ⟨c0, c1, c2, c3, lt⟩ := Hc.out wO HkO.out
    clear hib hkeep
    go_wp2_with fail
    refine Hnx.out.mono ?_
    clear Hnx c0 c1 c2 c3 lt
    rintro e wE ⟨AG, rs, cG, rfl, hG, hgr, hkE⟩
    have hrl : rs.length ≤ x.blocks.l.length ∧ x.blocks.l.length ≤ rs.length := by
     have := congrArg List.length hgr
     rw [DZ.gr_len, x.G_len] at this
     omega
    have Hgr := Lib.hid hgr
    have Hri2 := Lib.hid (DZ.refOf_calls rs AG cG wE hG (by omega) (I := I) (by rw [hgr]; exact Hv.out.idom))
    have HG := Lib.hid hG
    have HkE := Lib.hid (Hko.out.trans hkE)
    have HiE := Lib.hid (Hib.out.keep hkE)
    clear hgr hG hkE
    go_wp2_with fail
    refine Hri2.out.mono ?_
    clear Hri2
    rintro e wF ⟨vI, rfl, hoI, hkF⟩
    obtain ⟨AI, cI, rfl, _, _⟩ := hoI.form
    have HI := Lib.hid hoI.segN.2
    have HkF := Lib.hid (HkE.out.trans hkF)
    have HiF := Lib.hid (HiE.out.keep hkF)
    have HGF := Lib.hid (HG.out.keep hkF)
    have hIl : I.length ≤ x.blocks.l.length ∧ x.blocks.l.length ≤ I.length := by have := HIl.out; omega
    clear hoI hkF HG HiE Hib
    go_wp2_with fail
    go_loopw [13, 14, 15, 16] (fun vi _ _ _ wr => ∃ i : Nat, i ≤ x.ord.length ∧ vi = .int .i64 i ∧ Hid (Keep wF wr)) (fun vi _ _ _ _ => x.ord.length - (intOf vi).toNat)
    case atStart => exact ⟨0, Nat.zero_le _, rfl, Lib.hid (Keep.refl _)⟩
    case round =>
     obtain ⟨i, hi, rfl, hkeep⟩ := hrel
     obtain ⟨wP, rfl⟩ : ∃ z : World, z = wr := ⟨_, rfl⟩
     by_cases hil : i < x.ord.length
     ·obtain ⟨b, hbk⟩ := get_some hil
      obtain ⟨y, hy⟩ := SsD.ord_get hbk
      have hbn : b < x.blocks.l.length := (List.getElem?_eq_some_iff.1 hy).1
      have hkDP : Keep wD wP := HkF.out.trans hkeep.out
      obtain ⟨bo, oo, hAO, hbo, q⟩ := int_at Ho.out hkDP (k := i) (by rw [ints_len]; exact hil)
      have hbe : (ints x.ord)[i]'(by rw [ints_len]; exact hil) = (b : Int) := by
       have := ints_get hbk
       rw [List.getElem?_eq_getElem (by rw [ints_len]; exact hil)] at this
       exact Option.some.inj this
      rw [hbe] at q
      have hbol := Nat.lt_of_lt_of_le hbo hkDP.size
      obtain ⟨bI, oI, hAI, hbI, qI⟩ := int_at HI.out hkeep.out (k := b) (by omega)
      have hbIl := Nat.lt_of_lt_of_le hbI hkeep.out.size
      obtain ⟨iv, hiv⟩ : ∃ v, I[b]'(by omega) = v := ⟨_, rfl⟩
      have hiv2 : I.getD b 0 = iv := by rw [List.getD_eq_getElem?_getD, List.getElem?_eq_getElem (by omega), hiv]; rfl
      rw [hiv] at qI
      have hpP : IBlk wP wD.heap.size 3 (plcL x x.ord.length) := HiF.out.keep hkeep.out
      have hplc : ∀ (j t : Nat), x.ord[j]? = some t → wP.cell? ⟨wD.heap.size, t, none⟩ = some (.int .i64 (x.atk j + 1)) := fun j t hj => by
       have h1 := plcL_at hj
       obtain ⟨h2, h3⟩ := List.getElem?_eq_some_iff.1 h1
       rw [hpP.get h2, h3]
      have p0 := hplc i b hbk
      have gl := hpP.lt
      obtain ⟨A1', c1', qR, gR, hb1⟩ := irowsE_at HR.out hkDP (inRow_get hbn)
      have hb1l := Nat.lt_of_lt_of_le hb1 hkDP.size
      have hat := SsD.atk_lt Hs.out i
      obtain ⟨pl, hpl⟩ : ∃ p, x.atk i + 1 = p := ⟨_, rfl⟩
      rw [hpl] at p0
      have Hpl := Lib.hid (show x.atk i = pl - 1 by omega)
      have hplb : 1 ≤ pl ∧ pl ≤ 2004001 := by omega
      have hrow := inRow_len (x := x) b
      have Huse := Lib.hid (fun (wx : World) (hkx : Keep wP wx) => HU.out wx (hkDP.trans hkx) A1' c1' (inRow x b) (pl - 1) (gR.keep hkx) (by omega) (by rw [← Hpl.out]; exact Hv.out.inAt hbk))
      have Hby := Lib.hid (show x.ord[i]? = some b ∧ x.blocks.l[b]? = some y from ⟨hbk, hy⟩)
      have HkP := Lib.hid hkDP
      have HpC := Lib.hid hplc
      subst hAO
      subst hAI
      have i0 : (0 : Int) ≤ (i : Int) := by omega
      have i1 : (i : Int) < (x.ord.length : Int) := by omega
      have b0 : (0 : Int) ≤ (b : Int) := by omega
      have b1' : (b : Int) < (x.blocks.l.length : Int) := by omega
      have b2' : (b : Int) < (I.length : Int) := by omega
      have hmain : (decide (0 ≤ iv) = false) ∨ ∃ d at2 : Nat, iv = (d : Int) ∧ d < x.blocks.l.length ∧ at2 < pl ∧ wP.cell? ⟨wD.heap.size, d, none⟩ = some (.int .i64 (at2 : Int)) := by
       by_cases h0 : 0 ≤ iv
       ·obtain ⟨i', d, e1, hd', hlt'⟩ := Hv.out.idom_pos hbk (by rw [hiv2]; exact h0)
        rw [hiv2] at e1
        have h3 := atk_mono x hlt' hi
        have h4 := (SsD.atk_lt Hs.out i').1
        obtain ⟨z, hz⟩ := SsD.ord_get hd'
        refine .inr ⟨d, (x.atk i' + 1).toNat, e1, (List.getElem?_eq_some_iff.1 hz).1, by omega, ?_⟩
        rw [show (((x.atk i' + 1).toNat : Nat) : Int) = x.atk i' + 1 by omega]
        exact hplc i' d hd'
       ·exact .inl (decide_eq_false h0)
      clear hbk hy hbe hiv hiv2 hpP hplc hpl hat hbo hbI hb1 gR hkDP
      obtain ⟨nx, hnx⟩ : ∃ l, y.nextI x.blocks.l.length = l := ⟨_, rfl⟩
      have Hnx2 := Lib.hid hnx
      have Hnxr := Lib.hid (show ∀ hb : b < rs.length, (rs[b]'hb).l = nx from fun hb => by
       rw [← hnx, ← SsD.G_get Hby.out.2, ← Hgr.out, DZ.gr_get hb])
      clear hnx
      rcases hmain with g1 | ⟨d, at2, rfl, hdn, ha2, qd⟩
      ·obtain ⟨wd, hwd⟩ : ∃ wd, wP.drew = wd := ⟨_, rfl⟩
       have hd : Keep wP wd := by rw [← hwd]; exact (Keep.refl _).drew
       go_wp2_with fail
       have eqI := fun z : KW wP => z.cell qI
       have ep0 := fun z : KW wP => z.cell p0
       have eqR := fun z : KW wP => z.cell qR
       refine region_begin (S := fun w' => ∃ z : KW wP, w' = z.val) (by kernel_rfl) ?_
       rw [hwd]
       refine region_take [0, 1, 2, 3, 4, 5, 6, 7, 8, 9, 10, 11, 12, 13, 14, 15, 16, 17, 18, 19, 20, 21, 22, 23, 24, 25, 26, 27, 28, 29] [] 3 (by kernel_rfl) (by kernel_rfl) (InK.mk' hd) ?_
       show wpQuiet _ _ _ _ [_, _, _, _, _, _, _, _, _, _, _, _, _, _, _, _, _, _, _, _, _, _, _, _, _, _, _, _, _, _] _
       repeat (go_big_quiet_step (fail))
       refine wpQuiet_nil ?_
       clear hwd eqI ep0 eqR
       refine region_fix (i := 30) (fuel := 2) rfl (by kernel_rfl) (fun K hK => ?_)
       go_simp
       refine (Huse.out wd hd).mono ?_
       rintro e wG ⟨rfl, hkG⟩
       have hK30 : Keep wP wG := hd.trans hkG
       refine hK _ _ (InK.mk' hK30) ?_
       clear hK K
       refine region_take [31, 32] [0, 1, 2, 3, 4, 5, 6, 7, 8, 9, 10, 11, 12, 13, 14, 15, 16, 17, 18, 19, 20, 21, 22, 23, 24, 25, 26, 27, 28, 29, 30] 0 (by kernel_rfl) (by kernel_rfl) (InK.mk' hK30) ?_
       show wpQuiet _ _ _ _ [_, _] _
       repeat (go_big_quiet_step (fail))
       refine wpQuiet_nil ?_
       refine region_done (by kernel_rfl) ?_
       have HkG := Lib.hid (hkeep.out.trans hK30)
       clear hd hkG hK30 hkeep Huse qI p0 qR
       go_wp2_with fail
       go_loopw [15, 16] (fun vk _ wr => ∃ k : Nat, k ≤ nx.length ∧ vk = .int .i64 k ∧ Hid (Keep wF wr)) (fun vk _ _ => nx.length - (intOf vk).toNat)
       case atStart => exact ⟨0, Nat.zero_le _, rfl, HkG⟩
       case round =>
        clear HkG
        obtain ⟨k, hk, rfl, hkeep⟩ := hrel
        obtain ⟨wQ, rfl⟩ : ∃ z : World, z = wr := ⟨_, rfl⟩
        obtain ⟨bG, oG, hAG, hbG, qG⟩ := DZ.row_at HGF.out.seg hkeep.out (k := b) (by omega)
        have hbGl := Nat.lt_of_lt_of_le hbG hkeep.out.size
        subst hAG
        obtain ⟨r, hr⟩ : ∃ r, rs[b]'(by omega) = r := ⟨_, rfl⟩
        rw [hr] at qG
        have hrnx : r.l = nx := by rw [← hr]; exact Hnxr.out (by omega)
        have hrs : Seg wF r.a (r.l.flatMap intC) := by rw [← hr]; exact (HGF.out.rows _ (List.getElem_mem _)).seg
        rw [hrnx] at hrs qG
        have hnl : nx.length ≤ maxLen := by rw [← hrnx, ← hr]; exact (HGF.out.rows _ (List.getElem_mem _)).len
        unfold maxLen at hnl
        have b3' : (b : Int) < (rs.length : Int) := by omega
        clear hr hrnx hbG
        obtain ⟨rA, rl, rc⟩ := r
        dsimp only at hrs qG
        by_cases hkl : k < nx.length
        ·obtain ⟨bR, oR, hAR, hbR, qr⟩ := int_at hrs hkeep.out hkl
         have hbRl := Nat.lt_of_lt_of_le hbR hkeep.out.size
         subst hAR
         have hmem : nx[k] ∈ nx := List.getElem_mem hkl
         obtain ⟨t, j, het, htn, hjt, htN, hjl⟩ := Hv.out.edge Hby.out.1 Hby.out.2 (by rw [Hnx2.out]; exact hmem)
         rw [het] at qr
         have k0 : (0 : Int) ≤ (k : Int) := by omega
         have k1' : (k : Int) < (nx.length : Int) := by omega
         have t0 : (0 : Int) ≤ (t : Int) := by omega
         have t1 : (t : Int) < (x.blocks.l.length : Int) := by omega
         have hkDQ : Keep wD wQ := HkF.out.trans hkeep.out
         obtain ⟨c0, c1, c2, c3, lt⟩ := Hc.out wQ (HkD.out.trans hkDQ)
         obtain ⟨BB, ob, hBA, hBl, q0, q1, q2, q3, q4, q5, q6⟩ := bk_cells (HX.out wQ (HkD.out.trans hkDQ)).seg (Keep.refl _) Hby.out.2
         rw [hBA] at c3
         have hpP : IBlk wQ wD.heap.size 3 (plcL x x.ord.length) := HiF.out.keep hkeep.out
         have gl := hpP.lt
         have hplc : ∀ (j t : Nat), x.ord[j]? = some t → wQ.cell? ⟨wD.heap.size, t, none⟩ = some (.int .i64 (x.atk j + 1)) := fun j t hj => by
          have h1 := plcL_at hj
          obtain ⟨h2, h3⟩ := List.getElem?_eq_some_iff.1 h1
          rw [hpP.get h2, h3]
         have p0 := hplc i b Hby.out.1
         have p1 := hplc j t hjt
         have hatj := SsD.atk_lt Hs.out j
         obtain ⟨pt, hpt⟩ : ∃ p, x.atk j + 1 = p := ⟨_, rfl⟩
         rw [hpt] at p1
         have g3 : (pt == 0) = false := beq_eq_false_iff_ne.2 (by omega)
         have g3d : decide (pt = 0) = false := decide_eq_false (by omega)
         rw [Hpl.out, show pl - 1 + 1 = pl by omega] at p0
         obtain ⟨A1', c1', qR, gR, hb1⟩ := irowsE_at HR.out hkDQ (inRow_get htn)
         have hb1l := Nat.lt_of_lt_of_le hb1 hkDQ.size
         have hrow := inRow_len (x := x) t
         have hil2 : y.ins.l.length ≤ 1000 := Hs.out.ins y (List.mem_of_getElem? Hby.out.2)
         obtain ⟨nin, hnin⟩ : ∃ n, y.ins.l.length = n := ⟨_, rfl⟩
         have Huse := Lib.hid (fun (wx : World) (hkx : Keep wQ wx) => HU.out wx (hkDQ.trans hkx) A1' c1' (inRow x t) (pl - 1 + 2 * ((nin : Int) + 1) + 1) (gR.keep hkx) (by omega) (by rw [← Hpl.out, ← hnin]; exact Hv.out.inEnd Hby.out.1 Hby.out.2 htN))
         rw [hnin] at q1 hil2
         clear het htN hjt hBA hpP hplc hatj hpt gR hb1 hmem hnin hkDQ hbR hrs c0 c1 c2 q0 q2 q3 q4 q5 q6
         obtain ⟨wd, hwd⟩ : ∃ wd, wQ.drew = wd := ⟨_, rfl⟩
         have hd : Keep wQ wd := by rw [← hwd]; exact (Keep.refl _).drew
         go_wp2_with fail
         have eqR := fun z : KW wQ => z.cell qR
         have ep0 := fun z : KW wQ => z.cell p0
         have ep1 := fun z : KW wQ => z.cell p1
         have ec3 := fun z : KW wQ => z.cell c3
         have eq1 := fun z : KW wQ => z.cell q1
         refine region_begin (S := fun w' => ∃ z : KW wQ, w' = z.val) (by kernel_rfl) ?_
         rw [hwd]
         refine region_take [0, 1, 2, 3, 4, 5, 6, 7, 8, 9, 10, 11, 12, 13, 14, 15, 16, 17, 18, 19, 20, 21, 22, 23, 24, 25, 26] [] 3 (by kernel_rfl) (by kernel_rfl) (InK.mk' hd) ?_
         show wpQuiet _ _ _ _ [_, _, _, _, _, _, _, _, _, _, _, _, _, _, _, _, _, _, _, _, _, _, _, _, _, _, _] _
         repeat (go_big_quiet_step (fail))
         refine wpQuiet_nil ?_
         clear hwd eqR ep0 ep1 ec3 eq1
         refine region_fix (i := 27) (fuel := 2) rfl (by kernel_rfl) (fun K hK => ?_)
         go_simp
         refine (Huse.out wd hd).mono ?_
         rintro e wH ⟨rfl, hkH⟩
         have hK27 : Keep wQ wH := hd.trans hkH
         refine hK _ _ (InK.mk' hK27) ?_
         clear hK K
         refine region_take [28, 29] [0, 1, 2, 3, 4, 5, 6, 7, 8, 9, 10, 11, 12, 13, 14, 15, 16, 17, 18, 19, 20, 21, 22, 23, 24, 25, 26, 27] 0 (by kernel_rfl) (by kernel_rfl) (InK.mk' hK27) ?_
         show wpQuiet _ _ _ _ [_, _] _
         repeat (go_big_quiet_step (fail))
         refine wpQuiet_nil ?_
         refine region_done (by kernel_rfl) ?_
         have HkH := Lib.hid (hkeep.out.trans hK27)
         clear hd hkH hK27 hkeep Huse qR p0 p1 c3 q1 qr qG
         go_wp2_with fail
         go_roundw
         case rel => exact ⟨k + 1, hkl, by go_num, HkH⟩
         case measure => simp [intOf] <;> omega
        ·go_wp2_with fail
         go_roundw
         case rel => exact ⟨i + 1, hil, by go_num, hkeep⟩
         case measure => simp [intOf] <;> omega
      ·have g1 : decide ((0 : Int) ≤ (d : Int)) = true := decide_eq_true (by omega)
       have g2 : decide (pl ≤ (at2 : Int)) = false := decide_eq_false (by omega)
       have d0 : (0 : Int) ≤ (d : Int) := by omega
       have d1 : (d : Int) < (x.blocks.l.length : Int) := by omega
       obtain ⟨wd, hwd⟩ : ∃ wd, wP.drew = wd := ⟨_, rfl⟩
       have hd : Keep wP wd := by rw [← hwd]; exact (Keep.refl _).drew
       go_wp2_with fail
       have eqI := fun z : KW wP => z.cell qI
       have ep0 := fun z : KW wP => z.cell p0
       have eqR := fun z : KW wP => z.cell qR
       have eqd := fun z : KW wP => z.cell qd
       refine region_begin (S := fun w' => ∃ z : KW wP, w' = z.val) (by kernel_rfl) ?_
       rw [hwd]
       refine region_take [0, 1, 2, 3, 4, 5, 6, 7, 8, 9, 10, 11, 12, 13, 14, 15, 16, 17, 18, 19, 20, 21, 22, 23, 24, 25, 26, 27, 28, 29] [] 3 (by kernel_rfl) (by kernel_rfl) (InK.mk' hd) ?_
       show wpQuiet _ _ _ _ [_, _, _, _, _, _, _, _, _, _, _, _, _, _, _, _, _, _, _, _, _, _, _, _, _, _, _, _, _, _] _
       repeat (go_big_quiet_step (fail))
       refine wpQuiet_nil ?_
       clear hwd eqI ep0 eqR eqd
       refine region_fix (i := 30) (fuel := 2) rfl (by kernel_rfl) (fun K hK => ?_)
       go_simp
       refine (Huse.out wd hd).mono ?_
       rintro e wG ⟨rfl, hkG⟩
       have hK30 : Keep wP wG := hd.trans hkG
       refine hK _ _ (InK.mk' hK30) ?_
       clear hK K
       refine region_take [31, 32] [0, 1, 2, 3, 4, 5, 6, 7, 8, 9, 10, 11, 12, 13, 14, 15, 16, 17, 18, 19, 20, 21, 22, 23, 24, 25, 26, 27, 28, 29, 30] 0 (by kernel_rfl) (by kernel_rfl) (InK.mk' hK30) ?_
       show wpQuiet _ _ _ _ [_, _] _
       repeat (go_big_quiet_step (fail))
       refine wpQuiet_nil ?_
       refine region_done (by kernel_rfl) ?_
       have HkG := Lib.hid (hkeep.out.trans hK30)
       clear hd hkG hK30 hkeep Huse qI p0 qR qd
       go_wp2_with fail
       go_loopw [15, 16] (fun vk _ wr => ∃ k : Nat, k ≤ nx.length ∧ vk = .int .i64 k ∧ Hid (Keep wF wr)) (fun vk _ _ => nx.length - (intOf vk).toNat)
       case atStart => exact ⟨0, Nat.zero_le _, rfl, HkG⟩
       case round =>
        clear HkG
        obtain ⟨k, hk, rfl, hkeep⟩ := hrel
        obtain ⟨wQ, rfl⟩ : ∃ z : World, z = wr := ⟨_, rfl⟩
        obtain ⟨bG, oG, hAG, hbG, qG⟩ := DZ.row_at HGF.out.seg hkeep.out (k := b) (by omega)
        have hbGl := Nat.lt_of_lt_of_le hbG hkeep.out.size
        subst hAG
        obtain ⟨r, hr⟩ : ∃ r, rs[b]'(by omega) = r := ⟨_, rfl⟩
        rw [hr] at qG
        have hrnx : r.l = nx := by rw [← hr]; exact Hnxr.out (by omega)
        have hrs : Seg wF r.a (r.l.flatMap intC) := by rw [← hr]; exact (HGF.out.rows _ (List.getElem_mem _)).seg
        rw [hrnx] at hrs qG
        have hnl : nx.length ≤ maxLen := by rw [← hrnx, ← hr]; exact (HGF.out.rows _ (List.getElem_mem _)).len
        unfold maxLen at hnl
        have b3' : (b : Int) < (rs.length : Int) := by omega
        clear hr hrnx hbG
        obtain ⟨rA, rl, rc⟩ := r
        dsimp only at hrs qG
        by_cases hkl : k < nx.length
        ·obtain ⟨bR, oR, hAR, hbR, qr⟩ := int_at hrs hkeep.out hkl
         have hbRl := Nat.lt_of_lt_of_le hbR hkeep.out.size
         subst hAR
         have hmem : nx[k] ∈ nx := List.getElem_mem hkl
         obtain ⟨t, j, het, htn, hjt, htN, hjl⟩ := Hv.out.edge Hby.out.1 Hby.out.2 (by rw [Hnx2.out]; exact hmem)
         rw [het] at qr
         have k0 : (0 : Int) ≤ (k : Int) := by omega
         have k1' : (k : Int) < (nx.length : Int) := by omega
         have t0 : (0 : Int) ≤ (t : Int) := by omega
         have t1 : (t : Int) < (x.blocks.l.length : Int) := by omega
         have hkDQ : Keep wD wQ := HkF.out.trans hkeep.out
         obtain ⟨c0, c1, c2, c3, lt⟩ := Hc.out wQ (HkD.out.trans hkDQ)
         obtain ⟨BB, ob, hBA, hBl, q0, q1, q2, q3, q4, q5, q6⟩ := bk_cells (HX.out wQ (HkD.out.trans hkDQ)).seg (Keep.refl _) Hby.out.2
         rw [hBA] at c3
         have hpP : IBlk wQ wD.heap.size 3 (plcL x x.ord.length) := HiF.out.keep hkeep.out
         have gl := hpP.lt
         have hplc : ∀ (j t : Nat), x.ord[j]? = some t → wQ.cell? ⟨wD.heap.size, t, none⟩ = some (.int .i64 (x.atk j + 1)) := fun j t hj => by
          have h1 := plcL_at hj
          obtain ⟨h2, h3⟩ := List.getElem?_eq_some_iff.1 h1
          rw [hpP.get h2, h3]
         have p0 := hplc i b Hby.out.1
         have p1 := hplc j t hjt
         have hatj := SsD.atk_lt Hs.out j
         obtain ⟨pt, hpt⟩ : ∃ p, x.atk j + 1 = p := ⟨_, rfl⟩
         rw [hpt] at p1
         have g3 : (pt == 0) = false := beq_eq_false_iff_ne.2 (by omega)
         have g3d : decide (pt = 0) = false := decide_eq_false (by omega)
         rw [Hpl.out, show pl - 1 + 1 = pl by omega] at p0
         obtain ⟨A1', c1', qR, gR, hb1⟩ := irowsE_at HR.out hkDQ (inRow_get htn)
         have hb1l := Nat.lt_of_lt_of_le hb1 hkDQ.size
         have hrow := inRow_len (x := x) t
         have hil2 : y.ins.l.length ≤ 1000 := Hs.out.ins y (List.mem_of_getElem? Hby.out.2)
         obtain ⟨nin, hnin⟩ : ∃ n, y.ins.l.length = n := ⟨_, rfl⟩
         have Huse := Lib.hid (fun (wx : World) (hkx : Keep wQ wx) => HU.out wx (hkDQ.trans hkx) A1' c1' (inRow x t) (pl - 1 + 2 * ((nin : Int) + 1) + 1) (gR.keep hkx) (by omega) (by rw [← Hpl.out, ← hnin]; exact Hv.out.inEnd Hby.out.1 Hby.out.2 htN))
         rw [hnin] at q1 hil2
         clear het htN hjt hBA hpP hplc hatj hpt gR hb1 hmem hnin hkDQ hbR hrs c0 c1 c2 q0 q2 q3 q4 q5 q6
         obtain ⟨wd, hwd⟩ : ∃ wd, wQ.drew = wd := ⟨_, rfl⟩
         have hd : Keep wQ wd := by rw [← hwd]; exact (Keep.refl _).drew
         go_wp2_with fail
         have eqR := fun z : KW wQ => z.cell qR
         have ep0 := fun z : KW wQ => z.cell p0
         have ep1 := fun z : KW wQ => z.cell p1
         have ec3 := fun z : KW wQ => z.cell c3
         have eq1 := fun z : KW wQ => z.cell q1
         refine region_begin (S := fun w' => ∃ z : KW wQ, w' = z.val) (by kernel_rfl) ?_
         rw [hwd]
         refine region_take [0, 1, 2, 3, 4, 5, 6, 7, 8, 9, 10, 11, 12, 13, 14, 15, 16, 17, 18, 19, 20, 21, 22, 23, 24, 25, 26] [] 3 (by kernel_rfl) (by kernel_rfl) (InK.mk' hd) ?_
         show wpQuiet _ _ _ _ [_, _, _, _, _, _, _, _, _, _, _, _, _, _, _, _, _, _, _, _, _, _, _, _, _, _, _] _
         repeat (go_big_quiet_step (fail))
         refine wpQuiet_nil ?_
         clear hwd eqR ep0 ep1 ec3 eq1
         refine region_fix (i := 27) (fuel := 2) rfl (by kernel_rfl) (fun K hK => ?_)
         go_simp
         refine (Huse.out wd hd).mono ?_
         rintro e wH ⟨rfl, hkH⟩
         have hK27 : Keep wQ wH := hd.trans hkH
         refine hK _ _ (InK.mk' hK27) ?_
         clear hK K
         refine region_take [28, 29] [0, 1, 2, 3, 4, 5, 6, 7, 8, 9, 10, 11, 12, 13, 14, 15, 16, 17, 18, 19, 20, 21, 22, 23, 24, 25, 26, 27] 0 (by kernel_rfl) (by kernel_rfl) (InK.mk' hK27) ?_
         show wpQuiet _ _ _ _ [_, _] _
         repeat (go_big_quiet_step (fail))
         refine wpQuiet_nil ?_
         refine region_done (by kernel_rfl) ?_
         have HkH := Lib.hid (hkeep.out.trans hK27)
         clear hd hkH hK27 hkeep Huse qR p0 p1 c3 q1 qr qG
         go_wp2_with fail
         go_roundw
         case rel => exact ⟨k + 1, hkl, by go_num, HkH⟩
         case measure => simp [intOf] <;> omega
        ·go_wp2_with fail
         go_roundw
         case rel => exact ⟨i + 1, hil, by go_num, hkeep⟩
         case measure => simp [intOf] <;> omega
     ·have Hal := Lib.hid (alive_calls wP)
      have Hkk := Lib.hid (HkV.out.trans (HkD.out.trans (HkF.out.trans hkeep.out)))
      clear hkeep
      go_wp2_with fail
      refine Hal.out.mono ?_
      clear Hal
      rintro e w9 ⟨rfl, hk9⟩
      have Hk9 := Lib.hid (Hkk.out.trans hk9)
      clear hk9
      go_wp2_with fail
      go_ret
      exact ⟨rfl, Hk9.out⟩
end Go.Proofs.YtjpmiejgcnfiiaaGreat
namespace Go.Proofs.YtjpmiejgcnfiiaaGreat.PLiveEdges
open Go Go.ChangeShapes Go.WideShapes Go.ChangeAt Go.RowKit

theorem own : ownKnob Tryz.prog.godebug = none := by kernel_rfl
set_option maxRecDepth 100000 in
theorem contract (H : Type) (enc : TypeId × Value → H) (W : World) (base : Nat) (args : Array Value) (ds gs : List (DataW H)) (before : List MemPlace)
  (hval : ∀ (j : Nat) t v, Tryz.f4.params[j]? = some t → args[j]? = some v → Value.okWide Tryz.prog W .any base t v)
  (hW : DataW.Whole enc Tryz.prog Tryz.f4.params.toList Rows.liveEdgesSpec.vars false W args.toList ds gs before) (hk : Rows.uptoSmall H (ds ++ gs) = true) :
  Calls Tryz.prog 4 args W fun e W' => ∃ v, e = .returned v ∧ Rows.liveEdgesSpec.post enc Tryz.prog Tryz.f4 false true false false W args v W' := by
 have hW' := hW
 obtain ⟨p, q, hA0, hV, rfl, hfz, hnd⟩ := hW
 have hA : DataW.TrodAll enc Tryz.prog W 0 (fun _ => true) true Tryz.f4.params.toList args.toList ds p := hA0
 have hA1 := hA
 rw [Tryz.params4] at hA hval
 obtain ⟨v0, vs0, d0, ds0, p0, q0, hargs, rfl, rfl, h0, r0⟩ := trodAll_cons hA
 obtain ⟨v1, vs1, d1, ds1, p1, q1, rfl, rfl, rfl, h1, r1⟩ := trodAll_cons r0
 obtain ⟨rfl, rfl, rfl⟩ := trodAll_nil r1
 obtain rfl : args = #[v0, v1] := by cases args; simp_all
 obtain ⟨rfl, rfl⟩ := trodVars_none hV
 have hbd := bulk_bound hk
 simp only [List.append_nil, Rows.uptoBulkAll] at hbd
 obtain ⟨m, rfl, hm, sm⟩ := openU_struct Tryz.underlying33 (opU_module W) (hval 0 _ v0 rfl rfl) h0
 obtain ⟨x, rfl, hx, sx⟩ := openU_struct Tryz.underlying39 (opU_form W) (hval 1 _ v1 rfl rfl) h1
 clear hA0
 refine (edges_calls m x W (MdOk.of hm (by omega)) hx.1 hx.2.1 hx.2.2.1 (Bulky.of (by omega)) hx.2.2.2).mono fun e W' ⟨he, bel⟩ => ?_
 subst he
 exact ⟨_, rfl, _, _, _, [], _, [], hW', trodAll_mk1 (shut_bool Tryz.underlying4 _), Keep.trodAll DZ.laidOut bel (by kernel_rfl) hA1, rfl, bel.frame _, fun h => by cases h⟩

set_option maxRecDepth 100000 in
theorem lifted (os : Os) (started : os.Started) (H : Type) (enc : TypeId × Value → H) (F : Stop.Interp) :
  ReturnsInHanded {} Tryz.checked os 4 .any ((Rows.OpenSpec.upto Rows.liveEdgesSpec).pre6 enc Tryz.prog Tryz.f4 Rows.liveEdgesUptoRow.domain false) (((Rows.OpenSpec.upto Rows.liveEdgesSpec).at F).post enc Tryz.prog Tryz.f4 false true false false) := by
 refine returnsInHanded_of_cond (C := Tryz.checked) (s := Rows.OpenSpec.upto Rows.liveEdgesSpec) (k := Rows.uptoSmall) rfl own started (by kernel_rfl) Tryz.func4
  (OpenSpec.witness (enc := enc) (C := Tryz.checked) (s := Rows.OpenSpec.upto Rows.liveEdgesSpec) (k := Rows.uptoSmall) rfl false ⟨#[], #[.agg #[.slice none 0 0, .slice none 0 0, .slice none 0 0, .slice none 0 0, .slice none 0 0, .slice none 0 0, .slice none 0 0, .bool false, .int .i64 0, .slice none 0 0, .slice none 0 0, .slice none 0 0], .agg #[.slice none 0 0, .slice none 0 0, .slice none 0 0, .slice none 0 0]], []⟩ 8 (by kernel_rfl) (by kernel_rfl) (by kernel_rfl)
   (x := ([.agg [.nil, .nil, .nil, .nil, .nil, .nil, .nil, .lit (.bool false), .lit (.int .i64 0), .nil, .nil, .nil], .agg [.agg [.nil, .nil], .nil, .nil]], [], [])) (by kernel_rfl) rfl (by kernel_rfl)) ?_
 intro W base args ds gs before hval hW _ hk _
 exact contract H enc W base args ds gs before hval hW hk

theorem proved : Rows.LiveEdgesUptoSaid :=
 OpenClaim.holds_of_cond 4 Tryz.f4 rfl rfl rfl rfl rfl rfl rfl ⟨rfl, rfl, rfl, rfl, rfl⟩ rfl rfl rfl rfl rfl (by kernel_rfl) Tryz.func4 (by kernel_rfl)
  (of_decide_eq_true (by kernel_rfl)) (by unfold Func.isWrapper; first | (rw [if_pos (by decide +kernel)]; kernel_rfl) | (rw [if_neg (by decide +kernel)]; exact ⟨rfl, rfl⟩))
  (fun os started H enc _ F => lifted os started H enc F)
end Go.Proofs.YtjpmiejgcnfiiaaGreat.PLiveEdges
