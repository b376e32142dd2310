import Derived.Test.YtjpmiejgcnfiiaaGreatQ16
import Derived.Test.YtjpmiejgcnfiiaaGreatQ3
import Derived.Test.YtjpmiejgcnfiiaaGreatQ32
import Derived.Test.YtjpmiejgcnfiiaaGreatQ33
import Derived.Test.YtjpmiejgcnfiiaaGreatQ29
import Derived.Test.YtjpmiejgcnfiiaaGreatQ5
set_option linter.unusedVariables false
set_option linter.unusedSimpArgs false
namespace Go.Proofs.YtjpmiejgcnfiiaaGreat
open Go Go.RowKit

/-- The rows of the first k blocks. -/
def SsD.GK (x : SsD) (k : Nat) : List (List Int) := (x.blocks.l.take k).map (·.nextI x.blocks.l.length)
theorem SsD.GK_succ {x : SsD} {k : Nat} {y : BkD} (h : x.blocks.l[k]? = some y) : x.GK (k + 1) = x.GK k ++ [y.nextI x.blocks.l.length] := by
 unfold SsD.GK
 rw [List.take_add_one, h, List.map_append]
 rfl
theorem SsD.GK_all (x : SsD) : x.GK x.blocks.l.length = x.G := by unfold SsD.GK SsD.G; rw [List.take_length]
theorem SsD.GK_len (x : SsD) (k : Nat) : (x.GK k).length ≤ k := by unfold SsD.GK; rw [List.length_map, List.length_take]; omega
theorem nextI_L (y : BkD) (n : Nat) : y.nextI n = nextL n y.to.l := rfl
abbrev NRow := OutRows intC 1 3 45

set_option maxHeartbeats 4000000 in
set_option maxRecDepth 100000 in
theorem next39_calls (x : SsD) (w : World) (h : SsOk w x) (hb : Bulky x) (hn : x.blocks.l.length ≤ 100000) :
  Calls Tryz.prog 18 #[.agg (ssC x).toArray] w fun e w' => ∃ A rs c, e = .returned (.slice A rs.length c) ∧ DZ.Graph w' A rs ∧ DZ.gr rs = x.G ∧ Keep w w' := by
 obtain ⟨W, hW, kW, bW, sW⟩ := boxN w 39 (ssC x)
 have c3 : W.cell? ⟨w.heap.size, 2 + 1, none⟩ = some (.slice x.blocks.a x.blocks.l.length x.blocks.c) := bW.cell 3
 have lt := bW.lt
 have HC3 := Lib.hid (show W.cell? ⟨w.heap.size, 3, none⟩ = some (.slice x.blocks.a x.blocks.l.length x.blocks.c) from bW.cell 3)
 have HLT := Lib.hid lt
 have HkW := Lib.hid kW
 have H := Lib.hid h
 have Hb := Lib.hid hb
 obtain ⟨n, hnb⟩ : ∃ n, x.blocks.l.length = n := ⟨_, rfl⟩
 have Hnb := Lib.hid hnb
 rw [hnb] at hn HC3
 clear h hb bW sW kW c3 lt hnb
 have c3 := HC3.out
 have lt := HLT.out
 go_enter Tryz.func18, Tryz.ntmps18
 go_wp2_with fail
 clear c3 lt
 go_loopw [3, 4, 5, 6, 7] (fun vo vi _ _ _ wr => ∃ k : Nat, k ≤ n ∧ vi = .int .i64 k ∧ Hid (NRow wr W.heap.size vo (x.GK k)) ∧ Hid (Keep W wr)) (fun _ i _ _ _ _ => n - (intOf i).toNat)
 case atStart => exact ⟨0, Nat.zero_le _, rfl, Lib.hid (OutRows.nil _ _ _ _ _ _), Lib.hid (Keep.refl _)⟩
 case round =>
  obtain ⟨k, hk, rfl, hout, hkeep⟩ := hrel
  obtain ⟨wI, rfl⟩ : ∃ z : World, z = wr := ⟨_, rfl⟩
  have c3 := hkeep.out.cell HC3.out
  have lt := Nat.lt_of_lt_of_le HLT.out hkeep.out.size
  obtain ⟨Ao, co, rfl, hlen, _⟩ := hout.out.form
  by_cases hlt : k < n
  ·obtain ⟨y, hy⟩ := get_some (l := x.blocks.l) (k := k) (by rw [Hnb.out]; exact hlt)
   have Hy := Lib.hid hy
   obtain ⟨B, off, hA, hB, hc⟩ := bk_get H.out.seg (HkW.out.trans hkeep.out) hy
   have q5 : wI.cell? ⟨B, off + k * 7 + 2 + 3, none⟩ = some (.slice y.to.a y.to.l.length y.to.c) := hc 5 _ rfl
   have hBl := Nat.lt_of_lt_of_le hB (HkW.out.trans hkeep.out).size
   have Hok := Lib.hid ((H.out.blocks y (List.mem_of_getElem? hy)).keep (HkW.out.trans hkeep.out))
   have htl := (Hb.out.block (List.mem_of_getElem? hy)).to
   rw [hA] at c3
   obtain ⟨TA, hTA⟩ : ∃ TA, y.to.a = TA := ⟨_, rfl⟩
   rw [hTA] at q5
   have HTA := Lib.hid hTA
   have k1 : (k : Int) < (n : Int) := by omega
   have k0 : (0 : Int) ≤ (k : Int) := by omega
   have C3 := Lib.hid c3
   have LT := Lib.hid lt
   have hsn := Lib.hid (SsD.GK_succ hy)
   clear hy hA hc hTA
   go_wp2_with fail
   clear c3 lt q5
   go_loopw [5, 7] (fun vo vi wr => ∃ j : Nat, j ≤ y.to.l.length ∧ vi = .int .i64 j ∧ Hid (Own intC 1 3 wr wI.heap.size vo (nextL n (y.to.l.take j))) ∧ Hid (Keep wI wr)) (fun _ i _ => y.to.l.length - (intOf i).toNat)
   case atStart => exact ⟨0, Nat.zero_le _, rfl, Lib.hid (Own.nil _ _ _ _ _), Lib.hid (Keep.refl _)⟩
   case round =>
    obtain ⟨j, hj, rfl, hown, hkI⟩ := hrel
    have c3 := hkI.out.cell C3.out
    have lt := Nat.lt_of_lt_of_le LT.out hkI.out.size
    by_cases hjl : j < y.to.l.length
    ·obtain ⟨e, he⟩ := get_some hjl
     obtain ⟨bE, offE, hE, hbE, e0, _⟩ := ed_get Hok.out.toSeg hkI.out he
     have hbEl := Nat.lt_of_lt_of_le hbE hkI.out.size
     have j1 : (j : Int) < (y.to.l.length : Int) := by omega
     have j0 : (0 : Int) ≤ (j : Int) := by omega
     have hsnj := nextL_snoc n he
     have hll : (nextL n (y.to.l.take j)).length ≤ j := by have := nextL_len n (y.to.l.take j); rw [List.length_take] at this; omega
     obtain ⟨et, hett⟩ : ∃ et, e.to = et := ⟨_, rfl⟩
     rw [hett] at e0 hsnj
     obtain rfl := HTA.out.symm.trans hE
     clear hE
     by_cases g1 : 0 ≤ et
     ·by_cases g2 : et < (n : Int)
      ·rw [if_pos ⟨g1, g2⟩] at hsnj
       have hd : Keep wr wr.drew := (Keep.refl _).drew
       have ee0 := fun z : KW wr => z.cell e0
       have ec3 := fun z : KW wr => z.cell c3
       go_wp2_with fail
       refine region_begin (S := fun w' => ∃ z : KW wr, w' = z.val) (by kernel_rfl) ?_
       refine region_take [0, 1, 2, 3, 4, 5, 6, 7, 8, 9, 10, 11, 12, 13, 14, 15, 16] [] 0 (by kernel_rfl) (by kernel_rfl) (InK.mk' hd) ?_
       show wpQuiet _ _ _ _ [_, _, _, _, _, _, _, _, _, _, _, _, _, _, _, _, _] _
       repeat (go_big_quiet_step (fail))
       refine wpQuiet_nil ?_
       clear ee0 ec3
       refine region_done (by kernel_rfl) ?_
       obtain ⟨wd, hwd⟩ : ∃ wd, wr.drew = wd := ⟨_, rfl⟩
       rw [hwd] at hd ⊢
       replace e0 := hd.cell e0
       replace c3 := hd.cell c3
       replace lt := Nat.lt_of_lt_of_le lt hd.size
       replace hbEl := Nat.lt_of_lt_of_le hbEl hd.size
       obtain ⟨Ao2, co2, rfl, A', c', w7, hrun, hown7, hE7⟩ := intPush (hown.out.keep hd) et (by omega) (Nat.le_trans hkI.out.size hd.size)
       have hown0 := hown.out
       obtain ⟨m, hm⟩ : ∃ m, (nextL n (y.to.l.take j)).length = m := ⟨_, rfl⟩
       rw [hm] at hrun hown7 hE7 hown0 ⊢
       have Hn := Lib.hid (show Own intC 1 3 w7 wI.heap.size (.slice A' (m + 1) c') (nextL n (y.to.l.take (j + 1))) ∧ Keep wI w7 from ⟨by rw [hsnj]; exact hown7, Keep.of_ext (hkI.out.trans hd) hE7 (fun i hi e => by have := (hown0.lt i e).1; omega)⟩)
       clear hown hkI hown7 hE7 hown0 hsnj he hm hll hett hd hwd
       go_wp2_with (at_builtin; refine wpList_append_eq rfl _ _ _ rfl _ _ rfl rfl _ _ hrun ?_; clear hrun)
       go_roundw
       case rel => exact ⟨j + 1, hjl, by go_num, Lib.hid Hn.out.1, Lib.hid Hn.out.2⟩
       case measure => simp [intOf]; omega
      ·rw [if_neg (fun h => g2 h.2)] at hsnj
       have g2d : decide (et < (n : Int)) = false := decide_eq_false g2
       have hd : Keep wr wr.drew := (Keep.refl _).drew
       have ee0 := fun z : KW wr => z.cell e0
       have ec3 := fun z : KW wr => z.cell c3
       go_wp2_with fail
       refine region_begin (S := fun w' => ∃ z : KW wr, w' = z.val) (by kernel_rfl) ?_
       refine region_take [0, 1, 2, 3, 4, 5, 6, 7, 8, 9, 10, 11, 12, 13, 14, 15, 16] [] 0 (by kernel_rfl) (by kernel_rfl) (InK.mk' hd) ?_
       show wpQuiet _ _ _ _ [_, _, _, _, _, _, _, _, _, _, _, _, _, _, _, _, _] _
       repeat (go_big_quiet_step (fail))
       refine wpQuiet_nil ?_
       clear ee0 ec3
       refine region_done (by kernel_rfl) ?_
       obtain ⟨wd, hwd⟩ : ∃ wd, wr.drew = wd := ⟨_, rfl⟩
       rw [hwd] at hd ⊢
       replace e0 := hd.cell e0
       replace c3 := hd.cell c3
       have Hn := Lib.hid (show Own intC 1 3 wd wI.heap.size u5 (nextL n (y.to.l.take (j + 1))) from by rw [hsnj]; exact hown.out.keep hd)
       have HkI := Lib.hid (hkI.out.trans hd)
       clear hown hsnj he hll hett hd hwd hkI
       go_wp2
       go_roundw
       case rel => exact ⟨j + 1, hjl, by go_num, Hn, HkI⟩
       case measure => simp [intOf]; omega
     ·rw [if_neg (fun h => g1 h.1)] at hsnj
      have g1d : decide (0 ≤ et) = false := decide_eq_false g1
      have hd : Keep wr wr.drew := (Keep.refl _).drew
      have ee0 := fun z : KW wr => z.cell e0
      have ec3 := fun z : KW wr => z.cell c3
      go_wp2_with fail
      refine region_begin (S := fun w' => ∃ z : KW wr, w' = z.val) (by kernel_rfl) ?_
      refine region_take [0, 1, 2, 3, 4, 5, 6, 7, 8, 9, 10, 11, 12, 13, 14, 15, 16] [] 0 (by kernel_rfl) (by kernel_rfl) (InK.mk' hd) ?_
      show wpQuiet _ _ _ _ [_, _, _, _, _, _, _, _, _, _, _, _, _, _, _, _, _] _
      repeat (go_big_quiet_step (fail))
      refine wpQuiet_nil ?_
      clear ee0 ec3
      refine region_done (by kernel_rfl) ?_
      obtain ⟨wd, hwd⟩ : ∃ wd, wr.drew = wd := ⟨_, rfl⟩
      rw [hwd] at hd ⊢
      replace e0 := hd.cell e0
      replace c3 := hd.cell c3
      have Hn := Lib.hid (show Own intC 1 3 wd wI.heap.size u5 (nextL n (y.to.l.take (j + 1))) from by rw [hsnj]; exact hown.out.keep hd)
      have HkI := Lib.hid (hkI.out.trans hd)
      clear hown hsnj he hll hett hd hwd hkI
      go_wp2
      go_roundw
      case rel => exact ⟨j + 1, hjl, by go_num, Hn, HkI⟩
      case measure => simp [intOf]; omega
    ·have hown2 := hown.out
     rw [List.take_of_length_le (by omega)] at hown2
     obtain ⟨xg, hx1, rfl⟩ := rowG_of hown2
     have hxo : Own intC 1 3 wr W.heap.size xg.v xg.l := by rw [hx1]; exact hown2.mono hkeep.out.size
     have hgk := x.GK_len k
     obtain ⟨v', w7, hrun, ho7, hE7⟩ := OutRows.push DZ.elR (by decide) (hout.out.keep hkI.out) xg hxo (by omega) (by omega) (Nat.le_trans hkeep.out.size hkI.out.size) 42
     obtain ⟨A7, c7, hf7, _⟩ := ho7.form
     have Hn := Lib.hid (show NRow w7 W.heap.size v' (x.GK (k + 1)) ∧ Keep W w7 from ⟨by
      rw [hsn.out, nextI_L, Hnb.out, ← hx1]; exact ho7, Keep.of_ext (hkeep.out.trans hkI.out) hE7 (fun i hi e => by omega)⟩)
     obtain ⟨xa, xl, xc⟩ := xg
     clear hout hkeep hown hown2 hkI hxo ho7 hE7 hf7 hx1
     unfold RowG.v at hrun ⊢
     dsimp only at hrun ⊢
     go_wp2_with (at_builtin; refine wpList_append_eq rfl _ _ _ rfl _ _ rfl rfl _ _ hrun ?_; clear hrun)
     go_roundw
     case rel => exact ⟨k + 1, hlt, by go_num, Lib.hid Hn.out.1, Lib.hid Hn.out.2⟩
     case measure => simp [intOf]; omega
  ·have hkn : k = n := by omega
   subst hkn
   obtain ⟨rs, A, c, h1, h2, h3, h4, h5, h6⟩ := hout.out.read
   have Hr := Lib.hid (show DZ.Graph wI A rs ∧ DZ.gr rs = x.G ∧ Keep w wI from ⟨⟨h3, fun z hz => ⟨h4 z hz, h6 z hz⟩, h5⟩, by
    show rs.map (·.l) = x.G
    rw [h1, ← Hnb.out]; exact x.GK_all, HkW.out.trans hkeep.out⟩)
   injection h2 with e1 e2 e3
   subst e1 e3
   rw [e2]
   clear hout hkeep h1 h3 h4 h5 h6 hlen e2
   go_wp2
   go_ret
   exact ⟨_, rs, _, rfl, Hr.out.1, Hr.out.2.1, Hr.out.2.2⟩
end Go.Proofs.YtjpmiejgcnfiiaaGreat
namespace Go.Proofs.YtjpmiejgcnfiiaaGreat
open Go Go.RowKit

/-- The k-th row of the graph. -/
theorem gr_row {x : SsD} {rs : List (RowG Int)} (hg : DZ.gr rs = x.G) {k : Nat} {r : RowG Int} (hr : rs[k]? = some r) : ∃ y, x.blocks.l[k]? = some y ∧ r.l = y.nextI x.blocks.l.length ∧ x.N.getD k [] = nat r.l := by
 have h1 : (rs.map (·.l))[k]? = some r.l := by rw [List.getElem?_map, hr]; rfl
 have h2 : x.G[k]? = some r.l := by rw [← hg]; exact h1
 unfold SsD.G at h2
 rw [List.getElem?_map] at h2
 cases hy : x.blocks.l[k]? with
 | none => rw [hy] at h2; cases h2
 | some y =>
  rw [hy] at h2
  have h3 : r.l = y.nextI x.blocks.l.length := (Option.some.inj h2).symm
  exact ⟨y, rfl, h3, by rw [SsD.N_get hy, h3]⟩
theorem gr_length {x : SsD} {rs : List (RowG Int)} (hg : DZ.gr rs = x.G) : rs.length = x.blocks.l.length := by
 rw [← DZ.gr_len rs, hg, SsD.G_len]
/-- What Reached tells. -/
structure RchE (x : SsD) (s : List Bool) : Prop where
 len : s.length = x.blocks.l.length
 root : 0 < x.blocks.l.length → s.getD 0 false = true
 shut : ∀ b, s.getD b false = true → ∀ t ∈ x.N.getD b [], s.getD t false = true

set_option maxHeartbeats 8000000 in
set_option maxRecDepth 100000 in
theorem reached39_calls (x : SsD) (w : World) (h : SsOk w x) (hb : Bulky x) (hn : x.blocks.l.length ≤ 100000) (h0 : 0 < x.blocks.l.length) :
  Calls Tryz.prog 40 #[.agg (ssC x).toArray] w fun e w' => ∃ g s, e = .returned (.slice (some ⟨g, 0, none⟩) x.blocks.l.length x.blocks.l.length) ∧ BBlk w' g 4 s ∧ RchE x s ∧ Keep w w' := by
 obtain ⟨W, hW, kW, bW, sW⟩ := boxN w 39 (ssC x)
 have c0 : W.cell? ⟨w.heap.size, 0, none⟩ = some (.slice x.params.a x.params.l.length x.params.c) := bW.cell 0
 have c1 : W.cell? ⟨w.heap.size, 1, none⟩ = some (.slice x.results.a x.results.l.length x.results.c) := bW.cell 1
 have c2 : W.cell? ⟨w.heap.size, 2, none⟩ = some (.slice x.vals.a x.vals.l.length x.vals.c) := bW.cell 2
 have c3 : W.cell? ⟨w.heap.size, 3, none⟩ = some (.slice x.blocks.a x.blocks.l.length x.blocks.c) := bW.cell 3
 have lt := bW.lt
 have HkW := Lib.hid kW
 have Hnx := Lib.hid (next39_calls x W (h.keep kW) hb hn)
 obtain ⟨n, hnb⟩ : ∃ n, x.blocks.l.length = n := ⟨_, rfl⟩
 have Hnb := Lib.hid hnb
 rw [hnb] at hn h0 ⊢
 clear h hb bW sW kW hnb
 go_enter Tryz.func40, Tryz.ntmps40
 go_wp2_with fail
 refine Hnx.out.mono ?_
 clear Hnx c0 c1 c2 c3 lt
 rintro e w1 ⟨A, rs, c, rfl, hg, hgr, hk1⟩
 have hrl : rs.length = n := by rw [gr_length hgr]; exact Hnb.out
 obtain ⟨w2, hmake, hblk, hk2⟩ := make_bools w1 n (by omega)
 have Hg := Lib.hid hg
 have Hgr := Lib.hid hgr
 have Hrl := Lib.hid hrl
 have Hk1 := Lib.hid (HkW.out.trans hk1)
 have p0 := hblk.get (k := 0) (by simpa using h0)
 have f0 := hblk.frozen 0
 have gl := hblk.lt
 have h0' : (0 : Int) < (n : Int) := by omega
 have Hst := Lib.hid (show BBlk (w2.setCell ⟨w1.heap.size, 0, none⟩ (.bool true)) w1.heap.size 4 ((List.replicate n false).set 0 true) from hblk.put 0 true)
 have Hs0 := Lib.hid (show ((List.replicate n false).set 0 true).length = n ∧ ((List.replicate n false).set 0 true).getD 0 false = true from ⟨by simp, by rw [Lv.getD_set_bool _ _ _ _ (by simpa using h0), if_pos rfl]⟩)
 have HkS := Lib.hid (show Keep w1 (w2.setCell ⟨w1.heap.size, 0, none⟩ (.bool true)) from hk2.setCell (p := ⟨w1.heap.size, 0, none⟩) (Nat.le_refl _) _)
 rw [hrl]
 clear hg hgr hk1 hblk hk2 hrl
 go_wp2_with (refine wpList_make_eq rfl _ _ _ rfl _ _ rfl rfl _ _ hmake ?_; clear hmake)
 obtain ⟨wS, hwS⟩ : ∃ W, w2.setCell ⟨w1.heap.size, 0, none⟩ (.bool true) = W := ⟨_, rfl⟩
 rw [hwS] at Hst HkS ⊢
 clear hwS p0 f0 gl
 go_loopg [5, 6, 7] (n + 1) (fun g v5 _ _ wr => ∃ (ag : Bool) (s : List Bool), v5 = .bool ag ∧ Hid (BBlk wr w1.heap.size 4 s) ∧ Hid (s.length = n ∧ s.getD 0 false = true) ∧ Hid (ag = false → RchE x s) ∧ Hid (Keep w1 wr) ∧ Hid (s.count false + (if ag then 1 else 0) ≤ g))
 case atStart => exact ⟨true, _, rfl, Hst, Hs0, Lib.hid (fun h => by cases h), HkS, Lib.hid (by have := List.count_le_length (a := false) (l := (List.replicate n false).set 0 true); rw [Hs0.out.1] at this; simp only [if_true]; omega)⟩
 case round =>
  clear Hst Hs0 HkS
  obtain ⟨ag, s, rfl, hib, hs, hcl, hkeep, hg⟩ := hrel
  obtain ⟨gq, rfl⟩ : ∃ gq : Nat, gq = gk := ⟨_, rfl⟩
  obtain ⟨wI, rfl⟩ : ∃ z : World, z = wr := ⟨_, rfl⟩
  cases ag with
  | false =>
   have Hfin := Lib.hid (show BBlk wI w1.heap.size 4 s ∧ RchE x s ∧ Keep w wI from ⟨hib.out, hcl.out rfl, Hk1.out.trans hkeep.out⟩)
   clear hib hs hcl hkeep hg
   go_wp2_with fail
   go_ret
   exact ⟨_, s, rfl, Hfin.out.1, Hfin.out.2.1, Hfin.out.2.2⟩
  | true =>
   have HR0 := Lib.hid (show Rch x s s false 0 0 from Rch.start (by rw [hs.out.1, Hnb.out]) (fun _ => hs.out.2))
   have Hg1 := Lib.hid (show s.count false + 1 ≤ gq from by have := hg.out; simpa using this)
   clear hcl hg
   go_wp2_with fail
   go_loopw [5, 6, 7] (fun v5 v6 _ wr => ∃ (k : Nat) (more : Bool) (s' : List Bool), k ≤ n ∧ v5 = .bool more ∧ v6 = .int .i64 k ∧ Hid (BBlk wr w1.heap.size 4 s') ∧ Hid (Rch x s s' more k 0) ∧ Hid (Keep w1 wr)) (fun _ v6 _ _ => n - (intOf v6).toNat)
   case atStart => exact ⟨0, false, s, Nat.zero_le _, rfl, rfl, hib, HR0, hkeep⟩
   case round =>
    clear hib HR0 hkeep
    obtain ⟨k, more, s', hk, rfl, rfl, hib, hR, hkeep⟩ := hrel
    obtain ⟨wJ, rfl⟩ : ∃ z : World, z = wr := ⟨_, rfl⟩
    by_cases hlt : k < n
    ·obtain ⟨r, hr⟩ := get_some (l := rs) (k := k) (by rw [Hrl.out]; exact hlt)
     obtain ⟨y, hy, hrn, hNk⟩ := gr_row Hgr.out hr
     have hkr : k < rs.length := by rw [Hrl.out]; exact hlt
     have hrk : rs[k] = r := (List.getElem?_eq_some_iff.1 hr).2
     have Hrow := Lib.hid (fun (wx : World) (hkx : Keep w1 wx) => show ∃ b off, A = some ⟨b, off, none⟩ ∧ b < w1.heap.size ∧ wx.cell? ⟨b, off + k, none⟩ = some (.slice r.a r.l.length r.c) from by
      have := DZ.row_at Hg.out.seg hkx hkr
      rw [hrk] at this; exact this)
     have hok := Hg.out.rows r (List.mem_of_getElem? hr)
     have Hok := Lib.hid hok
     have hll : r.l.length ≤ maxLen := hok.len
     unfold maxLen at hll
     have HNk := Lib.hid hNk
     have Hrn := Lib.hid (show ∀ t ∈ r.l, 0 ≤ t ∧ t < (n : Int) from fun t ht => by rw [hrn, Hnb.out] at ht; exact SsD.nextI_mem ht)
     have hk1 : (k : Int) < (n : Int) := by omega
     have hk0 : (0 : Int) ≤ (k : Int) := by omega
     clear hr hy hrn hNk hrk hok
     go_wp2_with fail
     go_loopw [5, 7] (fun v5 v7 wr => ∃ (i : Nat) (more : Bool) (s' : List Bool), i ≤ r.l.length ∧ v5 = .bool more ∧ v7 = .int .i64 i ∧ Hid (BBlk wr w1.heap.size 4 s') ∧ Hid (Rch x s s' more k i) ∧ Hid (Keep w1 wr)) (fun _ v7 _ => r.l.length - (intOf v7).toNat)
     case atStart => exact ⟨0, more, s', Nat.zero_le _, rfl, rfl, hib, hR, hkeep⟩
     case round =>
      clear hib hR hkeep
      obtain ⟨i, more, s', hi, rfl, rfl, hib, hR, hkeep⟩ := hrel
      obtain ⟨bA, oA, hA, hbA, rc⟩ := Hrow.out wr hkeep.out
      subst hA
      have hbl := Nat.lt_of_lt_of_le hbA hkeep.out.size
      have hsl : s'.length = n := by rw [hR.out.len, Hnb.out]
      have hks : k < s'.length := by rw [hsl]; exact hlt
      have sk := hib.out.get hks
      have hsg : s'.getD k false = s'[k] := by rw [List.getD_eq_getElem?_getD, List.getElem?_eq_getElem hks]; rfl
      have gl := hib.out.lt
      by_cases hil : i < r.l.length
      ·obtain ⟨b2, o2, hA2, hb2, r0⟩ := int_at Hok.out.seg hkeep.out hil
       have hmem := List.getElem_mem hil
       obtain ⟨u, hu⟩ : ∃ u, r.l[i] = u := ⟨_, rfl⟩
       rw [hu] at r0 hmem
       obtain ⟨t, rfl⟩ : ∃ t : Nat, u = (t : Int) := ⟨u.toNat, by have := Hrn.out u hmem; omega⟩
       have htn := (Hrn.out _ hmem).2
       have hNt : (x.N.getD k [])[i]? = some t := by
        rw [HNk.out]
        unfold nat
        rw [List.getElem?_map, List.getElem?_eq_getElem hil, hu]
        rfl
       have hb2l := Nat.lt_of_lt_of_le hb2 hkeep.out.size
       rw [hA2] at rc
       have i1 : (i : Int) < (r.l.length : Int) := by omega
       have i0 : (0 : Int) ≤ (i : Int) := by omega
       cases hskv : s'[k] with
       | false =>
        rw [hskv] at sk hsg
        have HRn := Lib.hid (show Rch x s s' more (k + 1) 0 from hR.out.next_ (fun h => by rw [hsg] at h; cases h))
        clear hskv hsg hR hu hA2 hmem hNt hsl
        go_wp2_with fail
        go_roundw
        case rel => exact ⟨k + 1, more, s', hlt, rfl, by go_num, hib, HRn, hkeep⟩
        case measure => simp [intOf]; omega
       | true =>
        rw [hskv] at sk
        have hts : t < s'.length := by rw [hsl]; omega
        have st := hib.out.get hts
        have htg : s'.getD t false = s'[t] := by rw [List.getD_eq_getElem?_getD, List.getElem?_eq_getElem hts]; rfl
        have t0 : (0 : Int) ≤ (t : Int) := by omega
        cases htv : s'[t] with
        | true =>
         rw [htv] at st htg
         have HRn := Lib.hid (show Rch x s s' more k (i + 1) from hR.out.skip hNt htg)
         clear hskv hsg hR hu hA2 hmem hNt hsl htg htv
         go_wp2_with fail
         go_roundw
         case rel => exact ⟨i + 1, more, s', hil, rfl, by go_num, hib, HRn, hkeep⟩
         case measure => simp [intOf]; omega
        | false =>
         rw [htv] at st htg
         have HRn := Lib.hid (show Rch x s (s'.set t true) true k (i + 1) from hR.out.put (by rw [Hnb.out]; omega) htg)
         have f0 := hib.out.frozen t
         have Hin := Lib.hid (hib.out.put t true)
         have Hkn := Lib.hid (show Keep w1 (wr.setCell ⟨w1.heap.size, t, none⟩ (.bool true)) from hkeep.out.setCell (p := ⟨w1.heap.size, t, none⟩) (Nat.le_refl _) _)
         clear hskv hsg hR hu hA2 hmem hNt hsl htg htv hib hkeep
         go_wp2_with fail
         go_roundw
         case rel => exact ⟨i + 1, true, _, hil, rfl, by go_num, Hin, HRn, Hkn⟩
         case measure => simp [intOf]; omega
      ·have HRn := Lib.hid (show Rch x s s' more (k + 1) 0 from hR.out.next_ (fun _ => by rw [HNk.out]; unfold nat; rw [List.length_map]; omega))
       clear hR hsg hsl
       go_wp2_with fail
       go_roundw
       case rel => exact ⟨k + 1, more, s', hlt, rfl, by go_num, hib, HRn, hkeep⟩
       case measure => simp [intOf]; omega
    ·have hkn : k = n := by omega
     subst hkn
     have HR1 := Lib.hid hR.out
     have Hs1 := Lib.hid (show s'.length = k ∧ s'.getD 0 false = true from ⟨by rw [hR.out.len, Hnb.out], hR.out.root (by rw [Hnb.out]; exact h0)⟩)
     have Hc1 := Lib.hid (show more = false → RchE x s' from fun hm => by
      subst hm
      refine ⟨hR.out.len, hR.out.root, fun b hb t ht => ?_⟩
      have := hR.out
      rw [← Hnb.out] at this
      exact this.end_ b hb t ht)
     have Hgg := Lib.hid (show s'.count false + (if more then 1 else 0) ≤ gq - 1 ∧ gq - 1 < gq from by
      have h1 := Hg1.out
      have h2 := hR.out.le
      cases more with
      | false => exact ⟨by simp; omega, by omega⟩
      | true => have h3 := hR.out.less rfl; exact ⟨by simp; omega, by omega⟩)
     clear hR Hg1
     go_wp2_with fail
     go_roundg (gq - 1)
     case measure => exact Hgg.out.2
     case rel => exact ⟨more, s', rfl, hib, Hs1, Hc1, hkeep, Lib.hid Hgg.out.1⟩
end Go.Proofs.YtjpmiejgcnfiiaaGreat
