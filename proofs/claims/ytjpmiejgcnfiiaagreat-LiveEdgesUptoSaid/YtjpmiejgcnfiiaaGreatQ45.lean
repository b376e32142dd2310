import Derived.Test.YtjpmiejgcnfiiaaGreatQ44
import Derived.Test.YtjpmiejgcnfiiaaGreatQ13
import Derived.Test.YtjpmiejgcnfiiaaGreatQ10
set_option linter.unusedVariables false
set_option linter.unusedSimpArgs false
namespace Go.Proofs.YtjpmiejgcnfiiaaGreat
open Go Go.RowKit

/-- The rows, when k blocks of the order are done and of the next one j values. -/
noncomputable def LP (x : SsD) (k j : Nat) : List (List Int) := (List.range x.blocks.l.length).map fun b => if b ∈ x.ord.take k then ints (needL x b x.vals.l.length) else if x.ord[k]? = some b then ints (needL x b j) else []
theorem LP_len (x : SsD) (k j : Nat) : (LP x k j).length = x.blocks.l.length := by simp [LP]
theorem LP_get {x : SsD} {k j b : Nat} (hb : b < x.blocks.l.length) : (LP x k j)[b]? = some (if b ∈ x.ord.take k then ints (needL x b x.vals.l.length) else if x.ord[k]? = some b then ints (needL x b j) else []) := by simp [LP, hb]
theorem LP_ext {x : SsD} {k j : Nat} {M : List (List Int)} (hl : M.length = x.blocks.l.length) (h : ∀ b, b < x.blocks.l.length → (LP x k j)[b]? = M[b]?) : LP x k j = M := by
 refine List.ext_getElem? fun b => ?_
 by_cases hb : b < x.blocks.l.length
 ·exact h b hb
 ·rw [List.getElem?_eq_none (by rw [LP_len]; omega), List.getElem?_eq_none (by omega)]
theorem needL_zero (x : SsD) (b : Nat) : needL x b 0 = [] := rfl
theorem LP_zero (x : SsD) : LP x 0 0 = List.replicate x.blocks.l.length [] :=
 LP_ext (by simp) fun b hb => by
  rw [LP_get hb, List.getElem?_replicate, if_pos hb, if_neg (by simp), needL_zero]
  split <;> rfl
theorem LP_full {x : SsD} {k c : Nat} (hc : x.ord[k]? = some c) : LP x k x.vals.l.length = LP x (k + 1) 0 :=
 LP_ext (LP_len _ _ _) fun b hb => by
  rw [LP_get hb, LP_get hb, needL_zero]
  have ht : b ∈ x.ord.take (k + 1) ↔ b ∈ x.ord.take k ∨ b = c := by rw [List.take_add_one, hc]; simp
  by_cases h1 : b ∈ x.ord.take k
  ·rw [if_pos h1, if_pos (ht.2 (.inl h1))]
  ·rw [if_neg h1]
   by_cases h2 : b = c
   ·subst h2; rw [if_pos hc, if_pos (ht.2 (.inr rfl))]
   ·rw [if_neg (by rw [hc]; intro e; exact h2 (Option.some.inj e).symm), if_neg (fun h => (ht.1 h).elim h1 h2)]
    split <;> rfl
theorem LP_end (x : SsD) : LP x x.ord.length 0 = LI x x.vals.l.length 0 :=
 LP_ext (LI_len _ _ _) fun b hb => by
  rw [LP_get hb, LI_get hb, if_neg (by omega : ¬ b < 0), List.take_length]
  by_cases h : b ∈ x.ord
  ·rw [if_pos h]
  ·rw [if_neg h, needL_out h x.vals.l.length, if_neg (by rw [List.getElem?_eq_none (Nat.le_refl _)]; intro e; cases e)]; rfl
theorem ord_fresh {x : SsD} {k c : Nat} (hc : x.ord[k]? = some c) : c ∉ x.ord.take k := by
 intro h
 obtain ⟨i, hi⟩ := List.mem_iff_getElem?.1 h
 rw [List.getElem?_take] at hi
 split at hi
 ·rename_i hik
  obtain ⟨li, ei⟩ := List.getElem?_eq_some_iff.1 hi
  obtain ⟨lk, ek⟩ := List.getElem?_eq_some_iff.1 hc
  exact List.pairwise_iff_getElem.1 x.ord_spec.1 i k li lk hik (by rw [ei, ek])
 ·cases hi
theorem LP_at {x : SsD} {k j c : Nat} (hc : x.ord[k]? = some c) (hb : c < x.blocks.l.length) : (LP x k j)[c]? = some (ints (needL x c j)) := by
 rw [LP_get hb, if_neg (ord_fresh hc), if_pos hc]
theorem LP_skip {x : SsD} {k j c : Nat} (hc : x.ord[k]? = some c) (h : needB x j c = false) : LP x k (j + 1) = LP x k j :=
 LP_ext (LP_len _ _ _) fun b hb => by
  rw [LP_get hb, LP_get hb]
  by_cases h2 : b = c
  ·subst h2
   rw [needL_succ, h]; simp
  ·rw [if_neg (c := x.ord[k]? = some b) (by rw [hc]; intro e; exact h2 (Option.some.inj e).symm), if_neg (c := x.ord[k]? = some b) (by rw [hc]; intro e; exact h2 (Option.some.inj e).symm)]
theorem LP_put {x : SsD} {k j c : Nat} (hc : x.ord[k]? = some c) (hb : c < x.blocks.l.length) (h : needB x j c = true) (hL : c < (LP x k j).length) : LP x k (j + 1) = (LP x k j).set c ((LP x k j)[c] ++ [(j : Int)]) := by
 have h0 := LP_at (j := j) hc hb
 rw [List.getElem?_eq_getElem hL] at h0
 rw [Option.some.inj h0]
 refine LP_ext (by rw [List.length_set, LP_len]) fun b hb' => ?_
 by_cases h2 : b = c
 ·subst h2
  rw [LP_at hc hb, List.getElem?_set_self (by rw [LP_len]; exact hb), needL_succ, h]; simp [ints]
 ·rw [List.getElem?_set_ne (fun e => h2 e.symm), LP_get hb', LP_get hb']
  rw [if_neg (c := x.ord[k]? = some b) (by rw [hc]; intro e; exact h2 (Option.some.inj e).symm), if_neg (c := x.ord[k]? = some b) (by rw [hc]; intro e; exact h2 (Option.some.inj e).symm)]
theorem LP_row {x : SsD} {k j c : Nat} (hc : x.ord[k]? = some c) (hb : c < x.blocks.l.length) (hL : c < (LP x k j).length) : (LP x k j)[c].length ≤ j := by
 have h0 := LP_at (j := j) hc hb
 rw [List.getElem?_eq_getElem hL] at h0
 rw [Option.some.inj h0, ints_len]
 exact needL_le x c j

set_option maxHeartbeats 8000000 in
set_option maxRecDepth 100000 in
theorem in_calls (x : SsD) (w : World) (h : SsOk w x) (hsm : Small x) (hf : Fits x) :
  Calls Tryz.prog 8 #[.agg (ssC x).toArray] w fun e w' => ∃ b base, e = .returned (.slice (some ⟨b, 0, none⟩) x.blocks.l.length x.blocks.l.length) ∧ DZ.IRows w' b base (LI x x.vals.l.length 0) ∧ Keep w w' := by
 obtain ⟨W, hW, kW, bW, sW⟩ := boxN w 39 (ssC x)
 have Hc := Lib.hid (fun (w' : World) (hk : Keep W w') => (⟨(bW.keep hk).cell 0, (bW.keep hk).cell 1, (bW.keep hk).cell 2, (bW.keep hk).cell 3, (bW.keep hk).lt⟩ : w'.cell? ⟨w.heap.size, 0, none⟩ = some (.slice x.params.a x.params.l.length x.params.c) ∧ w'.cell? ⟨w.heap.size, 1, none⟩ = some (.slice x.results.a x.results.l.length x.results.c) ∧ w'.cell? ⟨w.heap.size, 2, none⟩ = some (.slice x.vals.a x.vals.l.length x.vals.c) ∧ w'.cell? ⟨w.heap.size, 3, none⟩ = some (.slice x.blocks.a x.blocks.l.length x.blocks.c) ∧ w.heap.size < w'.heap.size))
 have HkW := Lib.hid kW
 have H := Lib.hid (fun (w' : World) (hk : Keep W w') => h.keep (kW.trans hk))
 have Hs := Lib.hid hsm
 have Hf := Lib.hid hf
 have hn := hsm.blocks
 have hnv := hsm.vals
 have hol := x.ord_len
 obtain ⟨c0, c1, c2, c3, lt⟩ := Hc.out W (Keep.refl _)
 obtain ⟨w1, hmake, hblk, hk1⟩ := DZ.make_rows W x.blocks.l.length (by omega)
 have Hblk := Lib.hid hblk
 have Hk1 := Lib.hid hk1
 obtain ⟨e0, e1, e2, e3, lte⟩ := Hc.out w1 hk1
 have Hor := Lib.hid (order_gives x w1 (H.out w1 hk1) hsm.edges (by omega))
 clear h bW sW kW hsm hf hblk hk1
 go_enter Tryz.func8, Tryz.ntmps8
 go_wp2_with (refine wpList_make_eq rfl _ _ _ rfl _ _ rfl rfl _ _ hmake ?_; clear hmake)
 refine Hor.out.mono ?_
 clear Hor c0 c1 c2 c3 lt e0 e1 e2 e3 lte
 rintro e w2 ⟨AO, cO, rfl, how, hk2⟩
 have Hk2 := Lib.hid (Hk1.out.trans hk2)
 have Hw12 := Lib.hid hk2
 have How := Lib.hid how
 obtain ⟨c0, c1, c2, c3, lt⟩ := Hc.out w2 Hk2.out
 have Hri := Lib.hid (right_calls x AO cO w1.heap.size w2 (H.out w2 Hk2.out) Hs.out how (fun b y _ hy => Hf.out.inn b y hy))
 clear how hk2
 go_wp2_with fail
 refine Hri.out.mono ?_
 clear Hri c0 c1 c2 c3 lt
 rintro e w3 ⟨rfl, hk3⟩
 have Hk3 := Lib.hid (Hk2.out.trans hk3)
 have Hw13 := Lib.hid (Hw12.out.trans hk3)
 have How3 := Lib.hid (How.out.keep hk3)
 obtain ⟨c0, c1, c2, c3, lt⟩ := Hc.out w3 Hk3.out
 have Hfo := Lib.hid (found_calls x AO cO w1.heap.size w3 (H.out w3 Hk3.out) Hs.out How3.out (fun b y _ hy => Hf.out.inn b y hy))
 clear hk3
 go_wp2_with fail
 refine Hfo.out.mono ?_
 clear Hfo c0 c1 c2 c3 lt
 rintro e w5 ⟨bn, S, rfl, hbn, hnr, hk5, hfi, hsh⟩
 have Hk5 := Lib.hid (Hk3.out.trans hk5)
 have How5 := Lib.hid (How3.out.keep hk5)
 have Hnr := Lib.hid hnr
 have Hfi := Lib.hid hfi
 have Hnd := Lib.hid (fun b v => hfi.need Hf.out hsh b v)
 have Hsz := Lib.hid (show W.heap.size < w1.heap.size ∧ W.heap.size < w3.heap.size ∧ W.heap.size < bn from ⟨Hblk.out.lt, Nat.lt_of_lt_of_le Hblk.out.lt Hw13.out.size, Nat.lt_of_lt_of_le (Nat.lt_of_lt_of_le Hblk.out.lt Hw13.out.size) hbn⟩)
 have Hrows := Lib.hid (show DZ.IRows w5 W.heap.size w5.heap.size (LP x 0 0) from by rw [LP_zero]; exact RowsAt.made intC 1 3 w5.heap.size _ ((Hblk.out.keep Hw13.out).keep hk5))
 clear hbn hnr hk5 hfi hsh
 go_wp2_with fail
 go_loopw [7, 8, 9, 26, 35] (fun _ _ _ vi _ wr => ∃ k : Nat, k ≤ x.ord.length ∧ vi = .int .i64 k ∧ Hid (DZ.IRows wr W.heap.size w5.heap.size (LP x k 0)) ∧ Hid (Ext (fun q => q = W.heap.size) w5 wr)) (fun _ _ _ vi _ _ => x.ord.length - (intOf vi).toNat)
 case atStart => exact ⟨0, Nat.zero_le _, rfl, Hrows, Lib.hid (Ext.refl _ _)⟩
 case round =>
  clear Hrows
  obtain ⟨k, hk, rfl, hR, hext⟩ := hrel
  obtain ⟨wO, rfl⟩ : ∃ z : World, z = wr := ⟨_, rfl⟩
  by_cases hlt : k < x.ord.length
  ·obtain ⟨b, hbk⟩ := get_some hlt
   have hbn := x.ord_spec.2 b (List.mem_of_getElem? hbk)
   obtain ⟨bo, oo, hAO, hbo, q1⟩ := ints_at (How5.out.ext hext.out (fun q hq e => by have := (How5.out.lt q hq).1; have := Hsz.out; omega)) (Keep.refl _) hbk
   subst hAO
   obtain ⟨l, hl1, hl2, hl3⟩ := Hfi.out.get hbn
   obtain ⟨Ab, cb, q3, hob3⟩ := Hnr.out.get hl1
   have Hq3 := Lib.hid (fun (wx : World) (hx : Ext (fun q => q = W.heap.size) w5 wx) => show wx.cell? ⟨bn, b, none⟩ = some (.slice Ab x.vals.l.length cb) ∧ Own boolC 1 4 wx w3.heap.size (.slice Ab l.length cb) l from
    ⟨by rw [World.cell?_of_block (hx.block bn Hnr.out.lt (fun e => by have := Hsz.out; omega))]; rw [← hl2]; exact q3, hob3.ext hx (fun q hq e => by have := (hob3.lt q hq).1; have := Hsz.out; omega)⟩)
   have r3 := (Hq3.out wO hext.out).1
   have bnl := Nat.lt_of_lt_of_le Hnr.out.lt hext.out.size
   have k0 : (0 : Int) ≤ (k : Int) := by omega
   have k1 : (k : Int) < (x.ord.length : Int) := by omega
   have b0 : (0 : Int) ≤ (b : Int) := by omega
   have b1 : (b : Int) < (x.blocks.l.length : Int) := by omega
   have Hbk := Lib.hid hbk
   have Hl := Lib.hid (show l.length = x.vals.l.length ∧ ∀ v, l.getD v false = needB x v b from ⟨hl2, fun v => by rw [← Hnd.out b v, hl3]⟩)
   clear hbk hl1 hl2 hl3 q3 hob3
   go_wp2_with fail
   clear q1 r3
   go_loopw [8, 9, 35] (fun _ _ vj wz => ∃ j : Nat, j ≤ x.vals.l.length ∧ vj = .int .i64 j ∧ Hid (DZ.IRows wz W.heap.size w5.heap.size (LP x k j)) ∧ Hid (Ext (fun q => q = W.heap.size) w5 wz)) (fun _ _ vj _ => x.vals.l.length - (intOf vj).toNat)
   case atStart => exact ⟨0, Nat.zero_le _, rfl, hR, hext⟩
   case round =>
    clear hR hext
    obtain ⟨j, hj, rfl, hR, hext⟩ := hrel
    obtain ⟨wJ, rfl⟩ : ∃ z : World, z = wr := ⟨_, rfl⟩
    by_cases hjl : j < x.vals.l.length
    ·obtain ⟨ba, oa, hAb, hbaL, q4⟩ := bool_at (Hq3.out wJ hext.out).2.segN.2 (Keep.refl _) (k := j) (by rw [Hl.out.1]; exact hjl)
     have hle : l[j]'(by rw [Hl.out.1]; exact hjl) = needB x j b := by
      rw [← Hl.out.2 j, List.getD_eq_getElem?_getD, List.getElem?_eq_getElem (by rw [Hl.out.1]; exact hjl)]; rfl
     rw [hle] at q4
     subst hAb
     have j0 : (0 : Int) ≤ (j : Int) := by omega
     have j1 : (j : Int) < (x.vals.l.length : Int) := by omega
     cases hnd : needB x j b with
     | false =>
      rw [hnd] at q4
      have Hn := Lib.hid (show DZ.IRows wJ W.heap.size w5.heap.size (LP x k (j + 1)) from by rw [LP_skip Hbk.out hnd]; exact hR.out)
      clear hle hnd hR
      go_wp2_with fail
      go_roundw
      case rel => exact ⟨j + 1, hjl, by go_num, Hn, hext⟩
      case measure => simp [intOf] <;> omega
     | true =>
      rw [hnd] at q4
      have hLl : b < (LP x k j).length := by rw [LP_len]; exact hbn
      have hrl := LP_row (j := j) Hbk.out hbn hLl
      obtain ⟨Ar, cr, hc, v', w7, ⟨A', c', rfl⟩, hrun, hc2, hf2, hb2, hR2, hE2, hB2⟩ := hR.out.push elI (by decide) hLl (j : Int) (by omega) (by omega) hext.out.size 45
      have hrl2 := hR.out.blk.choose_spec.lt
      have Hn := Lib.hid (show DZ.IRows (w7.setCell ⟨W.heap.size, b, none⟩ (.slice A' ((LP x k j)[b].length + 1) c')) W.heap.size w5.heap.size (LP x k (j + 1)) ∧ Ext (fun q => q = W.heap.size) w5 (w7.setCell ⟨W.heap.size, b, none⟩ (.slice A' ((LP x k j)[b].length + 1) c')) from
       ⟨by rw [LP_put Hbk.out hbn hnd hLl]; exact hR2, hext.out.trans (hE2.mono (T := fun q => q = W.heap.size ∨ w5.heap.size ≤ q) (fun i _ e => e)) (fun i hi e => e.elim id (fun e => absurd e (by omega)))⟩)
      obtain ⟨m, hm⟩ : ∃ m, (LP x k j)[b].length = m := ⟨_, rfl⟩
      rw [hm] at hc hrun hc2 Hn hrl
      clear hle hnd hR hR2 hE2 hB2 hm hext
      replace hrun : (Builtin.append_ #[45, 45] 45 #[.slice Ar m cr, .slice (some ⟨wJ.heap.size, 0, none⟩) 1 1]).run Tryz.prog (wJ.alloc (.cells #[.int .i64 (j : Int)] 3)) = .ok (.slice A' (m + 1) c') w7 := hrun
      go_wp2_with (at_builtin; refine wpList_append_eq rfl _ _ _ rfl _ _ rfl rfl _ _ hrun ?_; clear hrun)
      go_roundw
      case rel => exact ⟨j + 1, hjl, by go_num, Lib.hid Hn.out.1, Lib.hid Hn.out.2⟩
      case measure => simp [intOf] <;> omega
    ·have Hn := Lib.hid (show DZ.IRows wJ W.heap.size w5.heap.size (LP x (k + 1) 0) from by rw [← LP_full Hbk.out, show x.vals.l.length = j by omega]; exact hR.out)
     clear hR
     go_wp2_with fail
     go_roundw
     case rel => exact ⟨k + 1, hlt, by go_num, Hn, hext⟩
     case measure => simp [intOf] <;> omega
  ·have hke : k = x.ord.length := by omega
   have Hr := Lib.hid (show DZ.IRows wO W.heap.size w5.heap.size (LI x x.vals.l.length 0) ∧ Keep w wO from ⟨by rw [← LP_end, ← hke]; exact hR.out, HkW.out.trans (Keep.of_ext Hk5.out hext.out (fun q hq e => by omega))⟩)
   clear hR hext hke
   go_wp2_with fail
   go_ret
   exact ⟨_, _, rfl, Hr.out.1, Hr.out.2⟩
end Go.Proofs.YtjpmiejgcnfiiaaGreat
