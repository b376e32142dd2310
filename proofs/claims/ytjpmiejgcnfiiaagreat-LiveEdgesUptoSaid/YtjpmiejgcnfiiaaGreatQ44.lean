import Derived.Test.YtjpmiejgcnfiiaaGreatQ43
import Derived.Test.YtjpmiejgcnfiiaaGreatQ37
import Derived.Test.YtjpmiejgcnfiiaaGreatQ31
import Derived.Laws.Tables
set_option linter.unusedVariables false
set_option linter.unusedSimpArgs false
namespace Go.Proofs.YtjpmiejgcnfiiaaGreat
open Go Go.RowKit

theorem any_next {x : SsD} {b : Nat} {l : List Int} {s : List Bool} (h : x.N.getD b [] = nat l) : (l.any fun t => s.getD t.toNat false) = true ↔ ∃ t ∈ x.N.getD b [], s.getD t false = true := by
 rw [h, List.any_eq_true]
 unfold nat
 constructor
 ·rintro ⟨t, ht, e⟩; exact ⟨t.toNat, List.mem_map_of_mem ht, e⟩
 ·rintro ⟨t, ht, e⟩
  obtain ⟨u, hu, rfl⟩ := List.mem_map.1 ht
  exact ⟨u, hu, e⟩
section
variable {x : SsD} {v b : Nat} {y : BkD} {s : List Bool}
theorem asks_made (hy : x.blocks.l[b]? = some y) (h : Lv.mdI (y.p x.blocks.l.length) v ≠ -2) : ¬ Asks x v s b := by
 unfold Asks
 rw [SsD.F_get hy]
 exact fun ha => h (Lv.mdI_makes.2 ha.1)
theorem asks_used (hy : x.blocks.l[b]? = some y) (h : Lv.mdI (y.p x.blocks.l.length) v = -2) (hu : 0 ≤ Lv.usI (y.p x.blocks.l.length) v) : Asks x v s b := by
 unfold Asks
 rw [SsD.F_get hy]
 exact ⟨Lv.mdI_makes.1 h, .inl (Lv.usI_uses.1 hu)⟩
theorem asks_next {l : List Int} (hy : x.blocks.l[b]? = some y) (hl : x.N.getD b [] = nat l) (h : Lv.mdI (y.p x.blocks.l.length) v = -2) (hu : ¬ 0 ≤ Lv.usI (y.p x.blocks.l.length) v) : Asks x v s b ↔ (l.any fun t => s.getD t.toNat false) = true := by
 rw [any_next hl, ← SsD.F_next hy]
 unfold Asks
 constructor
 ·rintro ⟨_, h1 | h1⟩
  ·rw [SsD.F_get hy] at h1; exact absurd (Lv.usI_uses.2 h1) hu
  ·exact h1
 ·intro h1
  refine ⟨?_, .inr h1⟩
  rw [SsD.F_get hy]; exact Lv.mdI_makes.1 h
end

set_option maxHeartbeats 8000000 in
set_option maxRecDepth 100000 in
theorem needs47_calls {x : SsD} {rs : List (RowG Int)} {A AO : Option Addr} (c cO v : Nat) (w : World) (h : SsOk w x) (hb : Bulky x) (hsm : Small x) (hin : ∀ (b : Nat) (y : BkD), x.blocks.l[b]? = some y → y.In x.vals.l.length) (hg : DZ.Graph w A rs) (hgr : DZ.gr rs = x.G) (ho : Seg w AO ((ints x.ord).flatMap intC)) :
  Calls Tryz.prog 25 #[.agg (ssC x).toArray, .slice A rs.length c, .slice AO x.ord.length cO, .int .i64 (v : Int)] w fun e w' => ∃ g, e = .returned (.slice (some ⟨g, 0, none⟩) x.blocks.l.length x.blocks.l.length) ∧ BBlk w' g 4 (needRow x v) ∧ w.heap.size ≤ g ∧ Keep w w' := by
 obtain ⟨W, hW, kW, bW, sW⟩ := boxN w 39 (ssC x)
 have Hc := Lib.hid (fun (w' : World) (hk : Keep W w') => (⟨(bW.keep hk).cell 3, (bW.keep hk).lt⟩ : w'.cell? ⟨w.heap.size, 3, none⟩ = some (.slice x.blocks.a x.blocks.l.length x.blocks.c) ∧ w.heap.size < w'.heap.size))
 have HkW := Lib.hid kW
 have H := Lib.hid (fun (w' : World) (hk : Keep W w') => h.keep (kW.trans hk))
 have Hb := Lib.hid hb
 have Hin := Lib.hid hin
 have Hg := Lib.hid (hg.keep kW)
 have Hgr := Lib.hid hgr
 have Hrl := Lib.hid (gr_length hgr)
 have Ho := Lib.hid (ho.keep kW)
 have hn := hsm.blocks
 have hol := x.ord_len
 obtain ⟨w1, hmake, hblk, hk1⟩ := make_bools W x.blocks.l.length (by omega)
 have Hblk := Lib.hid hblk
 have Hk1 := Lib.hid hk1
 have HR := Lib.hid (show Lv.RN x.F x.ord v (List.replicate x.blocks.l.length false) from by have := Lv.RN.zero x.F x.ord v; rwa [SsD.F_len] at this)
 obtain ⟨c3, lt⟩ := Hc.out W (Keep.refl _)
 clear h hb bW sW kW hblk hk1 hsm hin hg hgr ho
 go_enter Tryz.func25, Tryz.ntmps25
 go_wp2_with (refine wpList_make_eq rfl _ _ _ rfl _ _ rfl rfl _ _ hmake ?_; clear hmake)
 clear c3 lt
 go_loopg [10, 11, 12] (x.blocks.l.length + 1) (fun g v10 _ _ wr => ∃ (ag : Bool) (s : List Bool), v10 = .bool ag ∧ Hid (BBlk wr W.heap.size 4 s) ∧ Hid (Lv.RN x.F x.ord v s) ∧ Hid (ag = false → s = needRow x v) ∧ Hid (Keep W wr) ∧ Hid (s.count false + (if ag then 1 else 0) ≤ g))
 case atStart => exact ⟨true, _, rfl, Hblk, HR, Lib.hid (fun h => by cases h), Hk1, Lib.hid (by rw [List.count_replicate_self]; simp)⟩
 case round =>
  clear Hblk HR Hk1
  obtain ⟨ag, s, rfl, hib, hR, hcl, hkeep, hgq⟩ := hrel
  obtain ⟨gq, rfl⟩ : ∃ gq : Nat, gq = gk := ⟨_, rfl⟩
  obtain ⟨wI, rfl⟩ : ∃ z : World, z = wr := ⟨_, rfl⟩
  cases ag with
  | false =>
   have Hfin := Lib.hid (show BBlk wI W.heap.size 4 (needRow x v) ∧ w.heap.size ≤ W.heap.size ∧ Keep w wI from ⟨by rw [← hcl.out rfl]; exact hib.out, HkW.out.size, HkW.out.trans hkeep.out⟩)
   clear hib hR hcl hkeep hgq
   go_wp2_with fail
   go_ret
   exact ⟨_, rfl, Hfin.out⟩
  | true =>
   have HR0 := Lib.hid (RNd.start hR.out)
   have Hg1 := Lib.hid (show s.count false + 1 ≤ gq from by have := hgq.out; simpa using this)
   clear hcl hgq hR
   go_wp2_with fail
   go_loopw [10, 11, 12] (fun v10 v11 _ wr => ∃ (k : Nat) (more : Bool) (s' : List Bool), k ≤ x.ord.length ∧ v10 = .bool more ∧ v11 = .int .i64 ((k : Int) - 1) ∧ Hid (BBlk wr W.heap.size 4 s') ∧ Hid (RNd x v s s' more k) ∧ Hid (Keep W wr)) (fun _ v11 _ _ => (intOf v11 + 1).toNat)
   case atStart => exact ⟨x.ord.length, false, s, Nat.le_refl _, rfl, by go_num, hib, HR0, hkeep⟩
   case round =>
    clear hib HR0 hkeep
    obtain ⟨k, more, s', hk, rfl, rfl, hib, hR, hkeep⟩ := hrel
    obtain ⟨wJ, rfl⟩ : ∃ z : World, z = wr := ⟨_, rfl⟩
    cases k with
    | zero =>
     have Hc1 := Lib.hid (show more = false → s' = needRow x v from fun hm => by subst hm; exact hR.out.end_)
     have Hgg := Lib.hid (show s'.count false + (if more then 1 else 0) ≤ gq - 1 ∧ gq - 1 < gq from by
      have h1 := Hg1.out
      have h2 := hR.out.le
      cases more with
      | false => exact ⟨by simp; omega, by omega⟩
      | true => have h3 := hR.out.less rfl; exact ⟨by simp; omega, by omega⟩)
     have Hrn := Lib.hid hR.out.rn
     clear hR Hg1
     go_wp2_with fail
     go_roundg (gq - 1)
     case measure => exact Hgg.out.2
     case rel => exact ⟨more, s', rfl, hib, Hrn, Hc1, hkeep, Lib.hid Hgg.out.1⟩
    | succ k =>
     obtain ⟨b, hbk⟩ := get_some (l := x.ord) (k := k) (by omega)
     obtain ⟨y, hy⟩ := SsD.ord_get hbk
     have hbn : b < x.blocks.l.length := (List.getElem?_eq_some_iff.1 hy).1
     obtain ⟨r, hr⟩ := get_some (l := rs) (k := b) (by rw [Hrl.out]; exact hbn)
     obtain ⟨y', hy', hrn, hNb⟩ := gr_row Hgr.out hr
     have hkr : b < rs.length := by rw [Hrl.out]; exact hbn
     have hrk : rs[b] = r := (List.getElem?_eq_some_iff.1 hr).2
     have Hrow := Lib.hid (fun (wx : World) (hkx : Keep W wx) => show ∃ bb off, A = some ⟨bb, off, none⟩ ∧ bb < W.heap.size ∧ wx.cell? ⟨bb, off + b, none⟩ = some (.slice r.a r.l.length r.c) from by
      have := DZ.row_at Hg.out.seg hkx hkr
      rw [hrk] at this; exact this)
     have Hok := Lib.hid (Hg.out.rows r (List.mem_of_getElem? hr))
     have HNb := Lib.hid hNb
     have Hrn := Lib.hid (show r.l.length ≤ 2000000 ∧ ∀ t ∈ r.l, 0 ≤ t ∧ t < (x.blocks.l.length : Int) from ⟨by
      rw [hrn]; have := nextL_len x.blocks.l.length y'.to.l; have h2 := (Hb.out.block (List.mem_of_getElem? hy')).to; rw [nextI_L]; omega, fun t ht => by rw [hrn] at ht; exact SsD.nextI_mem ht⟩)
     obtain ⟨bo, oo, hAO, hbo, q⟩ := int_at Ho.out hkeep.out (k := k) (by rw [ints_len]; omega)
     have hbe : (ints x.ord)[k]'(by rw [ints_len]; omega) = (b : Int) := by
      have := ints_get hbk
      rw [List.getElem?_eq_getElem (by rw [ints_len]; omega)] at this
      exact Option.some.inj this
     rw [hbe] at q
     have Hq := Lib.hid (fun (wx : World) (hkx : Keep W wx) => show wx.cell? ⟨bo, oo + k, none⟩ = some (.int .i64 (b : Int)) from by
      obtain ⟨_, _, e, _, h2⟩ := int_at Ho.out hkx (k := k) (by rw [ints_len]; omega)
      cases hAO.symm.trans e
      rw [hbe] at h2; exact h2)
     subst hAO
     obtain ⟨c3, lt⟩ := Hc.out wJ hkeep.out
     obtain ⟨BB, ob, hBA, hBl, q0, q1, q2, q3, q4, q5, q6⟩ := bk_cells (H.out wJ hkeep.out).seg (Keep.refl _) hy
     rw [hBA] at c3
     have hsl : s'.length = x.blocks.l.length := by rw [hR.out.rn.len, SsD.F_len]
     have hk0 : ((k + 1 : Nat) : Int) - 1 = (k : Int) := by omega
     rw [hk0]
     have k0 : (0 : Int) ≤ (k : Int) := by omega
     have k1 : (k : Int) < (x.ord.length : Int) := by omega
     have b0 : (0 : Int) ≤ (b : Int) := by omega
     have b1 : (b : Int) < (x.blocks.l.length : Int) := by omega
     have Hy := Lib.hid hy
     have Hbk := Lib.hid hbk
     clear hbk hy hr hy' hrn hNb hrk hbe hBA hk0 hkr
     obtain ⟨wd, hwd⟩ : ∃ wd, wJ.drew = wd := ⟨_, rfl⟩
     have hd : Keep wJ wd := by rw [← hwd]; exact (Keep.refl _).drew
     go_wp2_with fail
     have eq := fun z : KW wJ => z.cell q
     have ec3 := fun z : KW wJ => z.cell c3
     have eq0 := fun z : KW wJ => z.cell q0
     have eq1 := fun z : KW wJ => z.cell q1
     have eq2 := fun z : KW wJ => z.cell q2
     have eq3 := fun z : KW wJ => z.cell q3
     have eq4 := fun z : KW wJ => z.cell q4
     have eq5 := fun z : KW wJ => z.cell q5
     have eq6 := fun z : KW wJ => z.cell q6
     refine region_begin (S := fun w' => ∃ z : KW wJ, w' = z.val) (by kernel_rfl) ?_
     rw [hwd]
     refine region_take [0, 1, 2, 3, 4, 5, 6, 7] [] 2 (by kernel_rfl) (by kernel_rfl) (InK.mk' hd) ?_
     show wpQuiet _ _ _ _ [_, _, _, _, _, _, _, _] _
     repeat (go_big_quiet_step (fail))
     refine wpQuiet_nil ?_
     clear eq ec3 eq0 eq1 eq2 eq3 eq4 eq5 eq6
     refine region_fix (i := 8) (fuel := 1) rfl (by kernel_rfl) (fun K hK => ?_)
     go_simp
     have bz : Blk (wd.alloc (.cells #[.slice none 0 0, .slice none 0 0, .int .i64 0, .int .i64 0, .slice none 0 0, .slice none 0 0, .int .i64 0] 57)) wd.heap.size 57 [.slice none 0 0, .slice none 0 0, .int .i64 0, .int .i64 0, .slice none 0 0, .slice none 0 0, .int .i64 0] := Blk.new _ _ _
     obtain ⟨wZ, hwZ⟩ : ∃ W, wd.alloc (.cells #[.slice none 0 0, .slice none 0 0, .int .i64 0, .int .i64 0, .slice none 0 0, .slice none 0 0, .int .i64 0] 57) = W := ⟨_, rfl⟩
     have hkZ : Keep wJ wZ := by rw [← hwZ]; exact hd.alloc _
     obtain ⟨bl, hbl⟩ : ∃ bl, wd.heap.size = bl := ⟨_, rfl⟩
     rw [hwZ] at bz ⊢
     rw [hbl] at bz ⊢
     have hge : wJ.heap.size ≤ bl := by rw [← hbl]; exact hd.size
     clear hwZ hbl hwd
     refine hK _ _ (InK.mk' hkZ) ?_
     clear hK K
     have hblF : Blk (wZ.setRow bl (bkC y).toArray) bl 57 (bkC y) := setRow_heap _ _ _ _ _ _ bz
     have hEF : Ext (fun q => q = bl) wZ (wZ.setRow bl (bkC y).toArray) := ⟨rfl, rfl, rfl, by rw [setRow_size]; exact Nat.le_refl _, fun q _ hq => setRow_other _ _ _ _ hq⟩
     have hKF : Keep wJ (wZ.setRow bl (bkC y).toArray) := Keep.of_ext hkZ hEF (fun q hq e => by omega)
     refine region_fixU (i := 9) (fuel := 0) rfl rfl (by kernel_rfl) (fun K hK => ?_)
     refine wp_store_row _ _ _ rfl bl (bkC y).toArray rfl rfl _ _ bz (by show _ = some 7; kernel_rfl) rfl (by simp [bkC, RwD.v, Value.oneCell']) ?_
     refine hK _ _ (InK.mk' hKF) ?_
     clear hK K bz hkZ hEF hd
     obtain ⟨wF, hwF⟩ : ∃ wF, wZ.setRow bl (bkC y).toArray = wF := ⟨_, rfl⟩
     rw [hwF] at hblF hKF ⊢
     clear hwF
     refine region_done (by kernel_rfl) ?_
     simp only [Act.put, List.setIfInBounds_toArray, List.set_cons_succ, List.set_cons_zero]
     have d0 : wF.cell? ⟨bl, 0, none⟩ = some (.slice y.params.a y.params.l.length y.params.c) := hblF.cell 0
     have d1 : wF.cell? ⟨bl, 1, none⟩ = some (.slice y.ins.a y.ins.l.length y.ins.c) := hblF.cell 1
     have d2 : wF.cell? ⟨bl, 2, none⟩ = some (.int .i64 y.kind) := hblF.cell 2
     have d3 : wF.cell? ⟨bl, 3, none⟩ = some (.int .i64 y.cond) := hblF.cell 3
     have d4 : wF.cell? ⟨bl, 4, none⟩ = some (.slice y.args.a y.args.l.length y.args.c) := hblF.cell 4
     have d5 : wF.cell? ⟨bl, 5, none⟩ = some (.slice y.to.a y.to.l.length y.to.c) := hblF.cell 5
     have d6 : wF.cell? ⟨bl, 6, none⟩ = some (.int .i64 y.trap) := hblF.cell 6
     have dlt := hblF.lt
     have hkF : Keep W wF := hkeep.out.trans hKF
     have HkF := Lib.hid hkF
     have qF := Hq.out wF hkF
     have HibF := Lib.hid (show BBlk wF W.heap.size 4 s' from hib.out.keep hKF)
     have sb := HibF.out.get (k := b) (by omega)
     have gl := HibF.out.lt
     obtain ⟨sv, hsv⟩ : ∃ sv, s'[b]'(by omega) = sv := ⟨_, rfl⟩
     have hsd : s'.getD b false = sv := by rw [List.getD_eq_getElem?_getD, List.getElem?_eq_getElem (by omega), ← hsv]; rfl
     rw [hsv] at sb
     have Hsd := Lib.hid hsd
     have Hsl := Lib.hid hsl
     have hbol := Nat.lt_of_lt_of_le hbo hkF.size
     have HblF := Lib.hid hblF
     clear hKF hblF hkF hsv hsd hib hkeep q q0 q1 q2 q3 q4 q5 q6 c3 lt hsl
     cases sv with
     | true =>
      have HRn := Lib.hid (hR.out.skip Hbk.out (fun _ => Hsd.out))
      clear hR
      go_wp2_with fail
      go_roundw
      case rel => exact ⟨k, more, s', by omega, rfl, by go_num, HibF, HRn, HkF⟩
      case measure => simp [intOf] <;> omega
     | false =>
      have hok := (H.out wF HkF.out).blocks y (List.mem_of_getElem? Hy.out)
      have hiny := Hin.out b y Hy.out
      have hby := Hb.out.block (List.mem_of_getElem? Hy.out)
      have Hmd := Lib.hid (made47_calls y x.vals.l.length x.blocks.l.length v wF hok hiny hby)
      have HY := Lib.hid (show (∀ w', Keep wF w' → BkOk w' y) ∧ y.In x.vals.l.length ∧ BulkyB y from ⟨fun w' hk => hok.keep hk, hiny, hby⟩)
      clear hok hiny hby
      go_wp2_with fail
      refine Hmd.out.mono ?_
      clear Hmd d0 d1 d2 d3 d4 d5 d6 dlt qF sb gl
      rintro e w8 ⟨rfl, hk8⟩
      have Hk8 := Lib.hid hk8
      by_cases hmd : Lv.mdI (y.p x.blocks.l.length) v = -2
      ·have Hmd := Lib.hid hmd
       rw [hmd]
       have hb8 := HblF.out.keep hk8
       have d0 : w8.cell? ⟨bl, 0, none⟩ = some (.slice y.params.a y.params.l.length y.params.c) := hb8.cell 0
       have d1 : w8.cell? ⟨bl, 1, none⟩ = some (.slice y.ins.a y.ins.l.length y.ins.c) := hb8.cell 1
       have d2 : w8.cell? ⟨bl, 2, none⟩ = some (.int .i64 y.kind) := hb8.cell 2
       have d3 : w8.cell? ⟨bl, 3, none⟩ = some (.int .i64 y.cond) := hb8.cell 3
       have d4 : w8.cell? ⟨bl, 4, none⟩ = some (.slice y.args.a y.args.l.length y.args.c) := hb8.cell 4
       have d5 : w8.cell? ⟨bl, 5, none⟩ = some (.slice y.to.a y.to.l.length y.to.c) := hb8.cell 5
       have d6 : w8.cell? ⟨bl, 6, none⟩ = some (.int .i64 y.trap) := hb8.cell 6
       have dlt := hb8.lt
       have Hus := Lib.hid (used47_calls y x.vals.l.length x.blocks.l.length v w8 (HY.out.1 w8 hk8) HY.out.2.1 HY.out.2.2)
       clear hmd hb8 hk8
       go_wp2_with fail
       refine Hus.out.mono ?_
       clear Hus d0 d1 d2 d3 d4 d5 d6 dlt
       rintro e w9 ⟨rfl, hk9⟩
       have hkW9 := HkF.out.trans (Hk8.out.trans hk9)
       have Hib9 := Lib.hid (show BBlk w9 W.heap.size 4 s' from HibF.out.keep (Hk8.out.trans hk9))
       have HkW9 := Lib.hid hkW9
       have q9 := Hq.out w9 hkW9
       have sb := Hib9.out.get (k := b) (by rw [Hsl.out]; exact hbn)
       have f0 := Hib9.out.frozen b
       have gl := Hib9.out.lt
       have hbol9 := Nat.lt_of_lt_of_le hbo hkW9.size
       obtain ⟨us, hus⟩ : ∃ us, Lv.usI (y.p x.blocks.l.length) v = us := ⟨_, rfl⟩
       have Hus := Lib.hid hus
       rw [hus]
       by_cases hu : 0 ≤ us
       ·have hud : decide ((0 : Int) ≤ us) = true := decide_eq_true hu
        have HRn := Lib.hid (hR.out.put Hbk.out (asks_used Hy.out Hmd.out (by rw [Hus.out]; exact hu)) Hsd.out)
        have Hput := Lib.hid (Hib9.out.put b true)
        have Hkp := Lib.hid (show Keep W (w9.setCell ⟨W.heap.size, b, none⟩ (.bool true)) from hkW9.setCell (p := ⟨W.heap.size, b, none⟩) (Nat.le_refl _) _)
        clear hR hus hkW9 hk9 Hib9 HibF
        go_wp2_with fail
        go_roundw
        case rel => exact ⟨k, true, _, by omega, rfl, by go_num, Hput, HRn, Hkp⟩
        case measure => simp [intOf] <;> omega
       ·have hud : decide ((0 : Int) ≤ us) = false := decide_eq_false hu
        obtain ⟨bA, oA, hA, hbA, rc⟩ := Hrow.out w9 hkW9
        have hbl9 := Nat.lt_of_lt_of_le hbA hkW9.size
        subst hA
        have hbe := behind47_calls r.l r.a r.c s' (some ⟨W.heap.size, 0, none⟩) x.blocks.l.length w9 (Hok.out.seg.keep hkW9) Hrn.out.1 Hib9.out.seg (fun t ht => by rw [Hsl.out]; exact Hrn.out.2 t ht)
        rw [Hsl.out] at hbe
        have Hbe := Lib.hid hbe
        have Hask := Lib.hid (asks_next (s := s') Hy.out HNb.out Hmd.out (by rw [Hus.out]; exact hu))
        have b2 : (b : Int) < (rs.length : Int) := by have := Hrl.out; omega
        clear hbe hus hkW9 hk9
        go_wp2_with fail
        refine Hbe.out.mono ?_
        clear Hbe rc
        rintro e w10 ⟨rfl, rfl⟩
        cases hany : (r.l.any fun t => s'.getD t.toNat false) with
        | true =>
         have HRn := Lib.hid (hR.out.put Hbk.out (Hask.out.2 hany) Hsd.out)
         have Hput := Lib.hid (Hib9.out.put b true)
         have Hkp := Lib.hid (show Keep W (w10.setCell ⟨W.heap.size, b, none⟩ (.bool true)) from HkW9.out.setCell (p := ⟨W.heap.size, b, none⟩) (Nat.le_refl _) _)
         clear hR hany Hib9 HibF
         go_wp2_with fail
         go_roundw
         case rel => exact ⟨k, true, _, by omega, rfl, by go_num, Hput, HRn, Hkp⟩
         case measure => simp [intOf] <;> omega
        | false =>
         have HRn := Lib.hid (hR.out.skip Hbk.out (fun ha => by rw [Hask.out.1 ha] at hany; cases hany))
         clear hR hany
         go_wp2_with fail
         go_roundw
         case rel => exact ⟨k, more, s', by omega, rfl, by go_num, Hib9, HRn, HkW9⟩
         case measure => simp [intOf] <;> omega
      ·have HRn := Lib.hid (hR.out.skip Hbk.out (fun ha => absurd ha (asks_made Hy.out hmd)))
       have Hib8 := Lib.hid (show BBlk w8 W.heap.size 4 s' from HibF.out.keep hk8)
       have Hk8' := Lib.hid (HkF.out.trans hk8)
       obtain ⟨md, hmde⟩ : ∃ md, Lv.mdI (y.p x.blocks.l.length) v = md := ⟨_, rfl⟩
       rw [hmde] at hmd ⊢
       have hmb : (md == -2) = false := beq_eq_false_iff_ne.2 hmd
       have hmc : decide (md = -2) = false := decide_eq_false hmd
       clear hR hk8 hmde
       go_wp2_with fail
       go_roundw
       case rel => exact ⟨k, more, s', by omega, rfl, by go_num, Hib8, HRn, Hk8'⟩
       case measure => simp [intOf] <;> omega
end Go.Proofs.YtjpmiejgcnfiiaaGreat
namespace Go.Proofs.YtjpmiejgcnfiiaaGreat
open Go Go.RowKit

/-- The rows, when k values are done and of the next value i blocks. -/
noncomputable def LI (x : SsD) (k i : Nat) : List (List Int) := (List.range x.blocks.l.length).map fun b => ints (needL x b (if b < i then k + 1 else k))
theorem LI_len (x : SsD) (k i : Nat) : (LI x k i).length = x.blocks.l.length := by simp [LI]
theorem LI_get {x : SsD} {k i b : Nat} (hb : b < x.blocks.l.length) : (LI x k i)[b]? = some (ints (needL x b (if b < i then k + 1 else k))) := by simp [LI, hb]
theorem LI_zero (x : SsD) : LI x 0 0 = List.replicate x.blocks.l.length [] := by
 refine List.ext_getElem? fun b => ?_
 by_cases hb : b < x.blocks.l.length
 ·rw [LI_get hb, List.getElem?_replicate, if_pos hb, if_neg (by omega)]; rfl
 ·rw [List.getElem?_eq_none (by rw [LI_len]; omega), List.getElem?_eq_none (by simp; omega)]
theorem LI_full (x : SsD) (k : Nat) : LI x k x.blocks.l.length = LI x (k + 1) 0 := by
 refine List.ext_getElem? fun b => ?_
 by_cases hb : b < x.blocks.l.length
 ·rw [LI_get hb, LI_get hb, if_pos hb, if_neg (by omega)]
 ·rw [List.getElem?_eq_none (by rw [LI_len]; omega), List.getElem?_eq_none (by rw [LI_len]; omega)]
theorem LI_skip {x : SsD} {k i : Nat} (h : needB x k i = false) : LI x k (i + 1) = LI x k i := by
 refine List.ext_getElem? fun b => ?_
 by_cases hb : b < x.blocks.l.length
 ·rw [LI_get hb, LI_get hb]
  by_cases e : b = i
  ·subst e
   rw [if_pos (by omega), if_neg (by omega), needL_succ, h]; simp
  ·by_cases h1 : b < i
   ·rw [if_pos (by omega), if_pos h1]
   ·rw [if_neg (by omega), if_neg h1]
 ·rw [List.getElem?_eq_none (by rw [LI_len]; omega), List.getElem?_eq_none (by rw [LI_len]; omega)]
theorem LI_put {x : SsD} {k i : Nat} (hi : i < x.blocks.l.length) (h : needB x k i = true) (hL : i < (LI x k i).length) : LI x k (i + 1) = (LI x k i).set i ((LI x k i)[i] ++ [(k : Int)]) := by
 have h0 := LI_get (x := x) (k := k) (i := i) hi
 rw [List.getElem?_eq_getElem hL, if_neg (by omega)] at h0
 rw [Option.some.inj h0]
 refine List.ext_getElem? fun b => ?_
 by_cases hb : b < x.blocks.l.length
 ·rw [LI_get hb]
  by_cases e : b = i
  ·subst e
   rw [if_pos (by omega), List.getElem?_set_self (by rw [LI_len]; exact hb), needL_succ, h]; simp [ints]
  ·rw [List.getElem?_set_ne (fun e' => e e'.symm), LI_get hb]
   by_cases h1 : b < i
   ·rw [if_pos (by omega), if_pos h1]
   ·rw [if_neg (by omega), if_neg h1]
 ·rw [List.getElem?_eq_none (by rw [LI_len]; omega), List.getElem?_eq_none (by rw [List.length_set, LI_len]; omega)]
theorem LI_row {x : SsD} {k i b : Nat} (hb : b < (LI x k i).length) : (LI x k i)[b].length ≤ k + 1 := by
 have h0 := LI_get (x := x) (k := k) (i := i) (b := b) (by rw [LI_len] at hb; exact hb)
 rw [List.getElem?_eq_getElem hb] at h0
 rw [Option.some.inj h0, ints_len]
 by_cases h : b < i
 ·rw [if_pos h]; have := needL_le x b (k + 1); omega
 ·rw [if_neg h]; have := needL_le x b k; omega

set_option maxHeartbeats 8000000 in
set_option maxRecDepth 100000 in
theorem in47_calls (x : SsD) (w : World) (h : SsOk w x) (hb : Bulky x) (hsm : Small x) (hin : ∀ (b : Nat) (y : BkD), x.blocks.l[b]? = some y → y.In x.vals.l.length) :
  Calls Tryz.prog 9 #[.agg (ssC x).toArray] w fun e w' => ∃ b base, e = .returned (.slice (some ⟨b, 0, none⟩) x.blocks.l.length x.blocks.l.length) ∧ DZ.IRows w' b base (LI x x.vals.l.length 0) ∧ Keep w w' := by
 obtain ⟨W, hW, kW, bW, sW⟩ := boxN w 39 (ssC x)
 have Hc := Lib.hid (fun (w' : World) (hk : Keep W w') => (⟨(bW.keep hk).cell 0, (bW.keep hk).cell 1, (bW.keep hk).cell 2, (bW.keep hk).cell 3, (bW.keep hk).lt⟩ : w'.cell? ⟨w.heap.size, 0, none⟩ = some (.slice x.params.a x.params.l.length x.params.c) ∧ w'.cell? ⟨w.heap.size, 1, none⟩ = some (.slice x.results.a x.results.l.length x.results.c) ∧ w'.cell? ⟨w.heap.size, 2, none⟩ = some (.slice x.vals.a x.vals.l.length x.vals.c) ∧ w'.cell? ⟨w.heap.size, 3, none⟩ = some (.slice x.blocks.a x.blocks.l.length x.blocks.c) ∧ w.heap.size < w'.heap.size))
 have HkW := Lib.hid kW
 have H := Lib.hid (fun (w' : World) (hk : Keep W w') => h.keep (kW.trans hk))
 have Hb := Lib.hid hb
 have Hs := Lib.hid hsm
 have Hin := Lib.hid hin
 have hn := hsm.blocks
 have hnv := hsm.vals
 obtain ⟨c0, c1, c2, c3, lt⟩ := Hc.out W (Keep.refl _)
 have Hnx := Lib.hid (next39_calls x W (H.out W (Keep.refl _)) hb (by omega))
 clear h hb bW sW kW hsm hin
 go_enter Tryz.func9, Tryz.ntmps9
 go_wp2_with fail
 refine Hnx.out.mono ?_
 clear Hnx c0 c1 c2 c3 lt
 rintro e w1 ⟨A, rs, c, rfl, hg, hgr, hk1⟩
 have Hg := Lib.hid (show DZ.Graph w1 A rs ∧ DZ.gr rs = x.G from ⟨hg, hgr⟩)
 have Hk1 := Lib.hid hk1
 obtain ⟨c0, c1, c2, c3, lt⟩ := Hc.out w1 hk1
 have Hor := Lib.hid (order47_calls x w1 (H.out w1 hk1) Hb.out (by omega))
 clear hg hgr hk1
 go_wp2_with fail
 refine Hor.out.mono ?_
 clear Hor c0 c1 c2 c3 lt
 rintro e w2 ⟨AO, cO, rfl, how, hk2⟩
 have How := Lib.hid how.segN.2
 have Hk2 := Lib.hid (Hk1.out.trans hk2)
 have Hg2 := Lib.hid (Hg.out.1.keep hk2)
 obtain ⟨c0, c1, c2, c3, lt⟩ := Hc.out w2 Hk2.out
 obtain ⟨w3, hmake, hblk, hk3⟩ := DZ.make_rows w2 x.blocks.l.length (by omega)
 have Hrows := Lib.hid (show DZ.IRows w3 w2.heap.size w2.heap.size (LI x 0 0) from by rw [LI_zero]; exact RowsAt.made intC 1 3 w2.heap.size _ hblk)
 have Hk3 := Lib.hid hk3
 clear how hk2 hblk hk3 Hk1
 go_wp2_with (refine wpList_make_eq rfl _ _ _ rfl _ _ rfl rfl _ _ hmake ?_; clear hmake)
 clear c0 c1 c2 c3 lt
 go_loopw [6, 7, 8] (fun vk _ _ wr => ∃ k : Nat, k ≤ x.vals.l.length ∧ vk = .int .i64 k ∧ Hid (DZ.IRows wr w2.heap.size w2.heap.size (LI x k 0)) ∧ Hid (Keep w2 wr)) (fun vk _ _ _ => x.vals.l.length - (intOf vk).toNat)
 case atStart => exact ⟨0, Nat.zero_le _, rfl, Hrows, Hk3⟩
 case round =>
  clear Hrows Hk3
  obtain ⟨k, hk, rfl, hR, hkeep⟩ := hrel
  obtain ⟨wO, rfl⟩ : ∃ z : World, z = wr := ⟨_, rfl⟩
  obtain ⟨c0, c1, c2, c3, lt⟩ := Hc.out wO (Hk2.out.trans hkeep.out)
  by_cases hlt : k < x.vals.l.length
  ·have Hnd := Lib.hid (needs47_calls c cO k wO (H.out wO (Hk2.out.trans hkeep.out)) Hb.out Hs.out Hin.out (Hg2.out.keep hkeep.out) Hg.out.2 (How.out.keep hkeep.out))
   have k1 : (k : Int) < (x.vals.l.length : Int) := by omega
   go_wp2_with fail
   refine Hnd.out.mono ?_
   clear Hnd c0 c1 c2 c3 lt
   rintro e w4 ⟨g, rfl, hgb, hgg, hk4⟩
   have HR4 := Lib.hid (hR.out.keep hk4)
   have Hk4 := Lib.hid (hkeep.out.trans hk4)
   have Hgb := Lib.hid hgb
   have hgne : g ≠ w2.heap.size := by have := hR.out.blk.choose_spec.lt; omega
   clear hgb hgg hk4 hR hkeep
   go_wp2_with fail
   go_loopw [8] (fun vi wz => ∃ i : Nat, i ≤ x.blocks.l.length ∧ vi = .int .i64 i ∧ Hid (DZ.IRows wz w2.heap.size w2.heap.size (LI x k i)) ∧ Hid (BBlk wz g 4 (needRow x k)) ∧ Hid (Keep w2 wz)) (fun vi _ => x.blocks.l.length - (intOf vi).toNat)
   case atStart => exact ⟨0, Nat.zero_le _, rfl, HR4, Hgb, Hk4⟩
   case round =>
    clear HR4 Hgb Hk4
    obtain ⟨i, hi, rfl, hR, hnb, hkeep⟩ := hrel
    obtain ⟨wJ, rfl⟩ : ∃ z : World, z = wr := ⟨_, rfl⟩
    by_cases hil : i < x.blocks.l.length
    ·have hq := hnb.out.get (k := i) (by rw [needRow_len]; exact hil)
     have hqe : (needRow x k)[i]'(by rw [needRow_len]; exact hil) = needB x k i := by
      have := needRow_get (x := x) (v := k) hil
      rw [List.getElem?_eq_getElem (by rw [needRow_len]; exact hil)] at this
      exact Option.some.inj this
     rw [hqe] at hq
     have gl := hnb.out.lt
     have i0 : (0 : Int) ≤ (i : Int) := by omega
     have i1 : (i : Int) < (x.blocks.l.length : Int) := by omega
     cases hnd : needB x k i with
     | false =>
      rw [hnd] at hq
      have Hn := Lib.hid (show DZ.IRows wJ w2.heap.size w2.heap.size (LI x k (i + 1)) from by rw [LI_skip hnd]; exact hR.out)
      clear hqe hnd hR
      go_wp2_with fail
      go_roundw
      case rel => exact ⟨i + 1, hil, by go_num, Hn, hnb, hkeep⟩
      case measure => simp [intOf] <;> omega
     | true =>
      rw [hnd] at hq
      have hLl : i < (LI x k i).length := by rw [LI_len]; exact hil
      have hrl := LI_row (x := x) (k := k) (i := i) hLl
      obtain ⟨Ar, cr, hc, v', w7, ⟨A', c', rfl⟩, hrun, hc2, hf2, hb2, hR2, hE2, hB2⟩ := hR.out.push elI (by decide) hLl (k : Int) (by omega) (by omega) hkeep.out.size 45
      have hrl2 := hR.out.blk.choose_spec.lt
      have Hn := Lib.hid (show DZ.IRows (w7.setCell ⟨w2.heap.size, i, none⟩ (.slice A' ((LI x k i)[i].length + 1) c')) w2.heap.size w2.heap.size (LI x k (i + 1)) ∧ BBlk (w7.setCell ⟨w2.heap.size, i, none⟩ (.slice A' ((LI x k i)[i].length + 1) c')) g 4 (needRow x k) ∧ Keep w2 (w7.setCell ⟨w2.heap.size, i, none⟩ (.slice A' ((LI x k i)[i].length + 1) c')) from
       ⟨by rw [LI_put hil hnd hLl]; exact hR2, hB2 g _ _ hnb.out hgne (by decide), Keep.of_ext hkeep.out hE2 (fun q hq e => by omega)⟩)
      obtain ⟨m, hm⟩ : ∃ m, (LI x k i)[i].length = m := ⟨_, rfl⟩
      rw [hm] at hc hrun hc2 Hn hrl
      clear hqe hnd hR hR2 hE2 hB2 hm hnb hkeep
      replace hrun : (Builtin.append_ #[45, 45] 45 #[.slice Ar m cr, .slice (some ⟨wJ.heap.size, 0, none⟩) 1 1]).run Tryz.prog (wJ.alloc (.cells #[.int .i64 (k : Int)] 3)) = .ok (.slice A' (m + 1) c') w7 := hrun
      go_wp2_with (at_builtin; refine wpList_append_eq rfl _ _ _ rfl _ _ rfl rfl _ _ hrun ?_; clear hrun)
      go_roundw
      case rel => exact ⟨i + 1, hil, by go_num, Lib.hid Hn.out.1, Lib.hid Hn.out.2.1, Lib.hid Hn.out.2.2⟩
      case measure => simp [intOf] <;> omega
    ·have Hn := Lib.hid (show DZ.IRows wJ w2.heap.size w2.heap.size (LI x (k + 1) 0) from by rw [← LI_full, show x.blocks.l.length = i by omega]; exact hR.out)
     clear hR hnb
     go_wp2_with fail
     go_roundw
     case rel => exact ⟨k + 1, hlt, by go_num, Hn, hkeep⟩
     case measure => simp [intOf] <;> omega
  ·have hke : k = x.vals.l.length := by omega
   have Hr := Lib.hid (show DZ.IRows wO w2.heap.size w2.heap.size (LI x x.vals.l.length 0) ∧ Keep w wO from ⟨by rw [← hke]; exact hR.out, HkW.out.trans (Hk2.out.trans hkeep.out)⟩)
   clear hR hkeep hke
   go_wp2_with fail
   go_ret
   exact ⟨_, _, rfl, Hr.out.1, Hr.out.2⟩
end Go.Proofs.YtjpmiejgcnfiiaaGreat
