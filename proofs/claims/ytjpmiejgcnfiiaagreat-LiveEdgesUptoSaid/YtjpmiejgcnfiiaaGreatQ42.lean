import Derived.Test.YtjpmiejgcnfiiaaGreatQ34
import Derived.Test.YtjpmiejgcnfiiaaGreatQ6
import Derived.Test.YtjpmiejgcnfiiaaGreatQ37
import Derived.Test.YtjpmiejgcnfiiaaGreatQ13
set_option linter.unusedVariables false
set_option linter.unusedSimpArgs false
namespace Go.Proofs.YtjpmiejgcnfiiaaGreat
open Go Go.RowKit

theorem Lv.Vis.snoc_skip {N : List (List Nat)} {l : List Nat} {c : Nat} {m : List Bool} {d : List Nat} {m' : List Bool} {d' : List Nat} (h : Vis N l m d m' d') (hc : m'.getD c true = true) : Vis N (l ++ [c]) m d m' d' := by
 induction h with
 | nil => exact .skip hc (.nil _ _)
 | skip hs _ ih => exact .skip hs (ih hc)
 | go hs h1 _ _ ih => exact .go hs h1 (ih hc)
theorem Lv.Vis.snoc_go {N : List (List Nat)} {l : List Nat} {c : Nat} {m : List Bool} {d : List Nat} {m1 : List Bool} {d1 : List Nat} {m2 : List Bool} {d2 : List Nat} (h : Vis N l m d m1 d1) (hc : m1.getD c true = false) (k : Vis N (N.getD c []) (m1.set c true) d1 m2 d2) : Vis N (l ++ [c]) m d m2 (d2 ++ [c]) := by
 induction h with
 | nil => exact .go hc k (.nil _ _)
 | skip hs _ ih => exact .skip hs (ih hc k)
 | go hs h1 _ _ ih => exact .go hs h1 (ih hc k)
theorem Lv.Vis.size {N : List (List Nat)} {l : List Nat} {m : List Bool} {d : List Nat} {m' : List Bool} {d' : List Nat} (h : Vis N l m d m' d') : d'.length + m'.count false = d.length + m.count false := by
 induction h with
 | nil => rfl
 | skip _ _ ih => exact ih
 | go hs _ _ ih1 ih2 =>
  have := count_set hs
  rw [List.length_append, List.length_singleton] at ih2
  omega
theorem flat_bool_set (l : List Bool) (k : Nat) (b : Bool) : (l.set k b).flatMap boolC = (l.flatMap boolC).set k (.bool b) := by
 rw [flat_bool, flat_bool, List.map_set]
theorem boolCopy {w : World} (base : Nat) {A : Option Addr} {ys : List Bool} (hs : Seg w A (ys.flatMap boolC)) (c : Nat) (hn : ys.length ≤ 100000) (hb : base ≤ w.heap.size) :
  ∃ v w2, (Builtin.append_ #[80, 80] 80 #[.slice none 0 0, .slice A ys.length c]).run Tryz.prog w = .ok v w2 ∧ Own boolC 1 4 w2 base v ys ∧ Keep w w2 := by
 obtain ⟨v', w2, hrun, hown, hg, _⟩ := append_run DZ.elB (Own.nil boolC 1 4 w base) hs c 80 (by simp [maxLen]; omega) (by simp; omega) hb
 exact ⟨v', w2, hrun, by simpa using hown, (Keep.refl w).grown hg (fun k hk => by cases hk)⟩

abbrev BOwn := Own boolC 1 4
abbrev IOwn := Own intC 1 3
/-- What seen leaves. -/
def SeenPost (w0 : World) (N : List (List Nat)) (n a : Nat) (m : List Bool) (d : List Nat) (e : Ending) (w' : World) : Prop :=
 ∃ vm vd m' d', e = .returned (.tuple #[vm, vd]) ∧ BOwn w' w0.heap.size vm m' ∧ IOwn w' w0.heap.size vd (ints (d' ++ [a])) ∧ Lv.Vis N (N.getD a []) (m.set a true) d m' d' ∧ Keep w0 w' ∧ m'.length = n

set_option maxHeartbeats 4000000 in
set_option maxRecDepth 100000 in
theorem seen47_calls {w0 : World} {x : SsD} {rs : List (RowG Int)} {A : Option Addr} (c : Nat) (hg : DZ.Graph w0 A rs) (hgr : DZ.gr rs = x.G) (hn : rs.length ≤ 100000) :
  ∀ (f a : Nat) (m : List Bool) (vm : Value) (d : List Nat) (vd : Value) (w : World), m.count false ≤ f → Keep w0 w → BOwn w w0.heap.size vm m → m.length = rs.length → m.getD a true = false → IOwn w w0.heap.size vd (ints d) → d.length + m.count false ≤ rs.length →
   Calls Tryz.prog 28 #[.slice A rs.length c, .int .i64 (a : Int), vm, vd] w (SeenPost w0 x.N rs.length a m d)
 | 0, a, m, vm, d, vd, w, hf, hk, hm, hml, hma, hd, hdl => absurd (Lv.count_set hma) (by omega)
 | f + 1, a, m, vm, d, vd, w, hf, hk, hm, hml, hma, hd, hdl => by
  have IH := Lib.hid (seen47_calls c hg hgr hn f)
  have Hg := Lib.hid hg
  have Hgr := Lib.hid hgr
  have ham := Lv.getD_false_lt hma
  have har : a < rs.length := by omega
  have hcs := Lv.count_set hma
  obtain ⟨n, hnn⟩ : ∃ n, rs.length = n := ⟨_, rfl⟩
  have Hnn := Lib.hid hnn
  obtain ⟨r, hr⟩ := get_some har
  obtain ⟨y, hy, hrn, hNa⟩ := gr_row hgr hr
  have hrk : rs[a] = r := (List.getElem?_eq_some_iff.1 hr).2
  have Hrow := Lib.hid (fun (wx : World) (hkx : Keep w0 wx) => show ∃ b off, A = some ⟨b, off, none⟩ ∧ b < w0.heap.size ∧ wx.cell? ⟨b, off + a, none⟩ = some (.slice r.a r.l.length r.c) from by
   have := DZ.row_at hg.seg hkx har
   rw [hrk] at this; exact this)
  have hok := hg.rows r (List.mem_of_getElem? hr)
  have Hok := Lib.hid hok
  have hll : r.l.length ≤ maxLen := hok.len
  unfold maxLen at hll
  have HNa := Lib.hid hNa
  have Hrn := Lib.hid (show ∀ t ∈ r.l, 0 ≤ t ∧ t < (n : Int) from fun t ht => by rw [hrn, ← gr_length hgr, hnn] at ht; exact SsD.nextI_mem ht)
  obtain ⟨gm, cm, hvm, hgm, hgb, hgc⟩ := own_at hm (by omega)
  rw [hvm] at hm
  obtain ⟨vc, w2, hrun, hco, hk2⟩ := boolCopy w0.heap.size (Seg.of_own (n := m.length) hm) cm (by omega) hk.size
  have hco' := hco
  obtain ⟨gc, cc, hvc, hgcl, hgcb, hgcc⟩ := own_at hco' (by omega)
  rw [hvc] at hco
  have f0 := hco.thawed a
  have mc := hgcc a (.bool false) (by rw [flat_bool, List.getElem?_map, (show m[a]? = some false from by rw [List.getElem?_eq_getElem ham]; rw [List.getD_eq_getElem?_getD, List.getElem?_eq_getElem ham] at hma; exact congrArg some hma)]; rfl)
  have hset := hco.put (f := boolC) (fun _ => rfl) a (.bool true) (ys := m.set a true) (flat_bool_set _ _ _) (by simp)
  obtain ⟨w3, hw3⟩ : ∃ w3, w2.setCell ⟨gc, a, none⟩ (.bool true) = w3 := ⟨_, rfl⟩
  have hk3 : Keep w0 w3 := by rw [← hw3]; exact (hk.trans hk2).setCell (p := ⟨gc, a, none⟩) hgcb _
  have hd3 : IOwn w3 w0.heap.size vd (ints d) := by rw [← hw3]; exact (hd.keep hk2).put_far (fun q hq e => (hd.keep hk2).kinds hco (by decide) hq (by rw [e]; rfl)) _
  rw [hw3] at hset
  have HW3 := Lib.hid hw3
  have HS := Lib.hid (show BOwn w3 w0.heap.size vc (m.set a true) ∧ IOwn w3 w0.heap.size vd (ints d) ∧ Keep w0 w3 from ⟨by rw [hvc]; exact hset, hd3, hk3⟩)
  subst hvm hvc
  have a0 : (0 : Int) ≤ (a : Int) := by omega
  have a1 : (a : Int) < (m.length : Int) := by omega
  have Hm := Lib.hid (show m.length = n ∧ d.length + m.count false ≤ n ∧ (m.set a true).count false ≤ f ∧ (m.set a true).count false + 1 = m.count false from ⟨by omega, by omega, by omega, hcs⟩)
  rw [hnn] at har hn ⊢
  clear hg hgr hk hm hma hd hdl hf hml hco hco' hk2 hset hk3 hd3 hrn hNa hr hrk hy hok hcs hnn hgc hgcc hw3
  go_enter Tryz.func28, Tryz.ntmps28
  go_wp2_with (at_builtin; refine wpList_append_eq rfl _ _ _ rfl _ _ rfl rfl _ _ hrun ?_; clear hrun)
  rw [HW3.out]
  clear mc f0
  go_loopw [3, 10, 11] (fun vd vm vi wr => ∃ (i : Nat) (m1 : List Bool) (d1 : List Nat), i ≤ r.l.length ∧ vi = .int .i64 (i : Int) ∧ Hid (BOwn wr w0.heap.size vm m1 ∧ m1.length = n) ∧ Hid (IOwn wr w0.heap.size vd (ints d1)) ∧ Hid (Lv.Vis x.N (nat (r.l.take i)) (m.set a true) d m1 d1) ∧ Hid (Keep w0 wr)) (fun _ _ vi _ => r.l.length - (intOf vi).toNat)
  case atStart => exact ⟨0, _, d, Nat.zero_le _, rfl, Lib.hid ⟨HS.out.1, by have := Hm.out.1; simpa using this⟩, Lib.hid HS.out.2.1, Lib.hid (Lv.Vis.nil _ _), Lib.hid HS.out.2.2⟩
  case round =>
   clear HS
   obtain ⟨i, m1, d1, hi, rfl, hmo, hdo, hvis, hkeep⟩ := hrel
   obtain ⟨bA, oA, hA, hbA, rc⟩ := Hrow.out wr hkeep.out
   subst hA
   have hbl := Nat.lt_of_lt_of_le hbA hkeep.out.size
   have ha1 : (a : Int) < (n : Int) := by omega
   by_cases hlt : i < r.l.length
   ·obtain ⟨b2, o2, hA2, hb2, r0⟩ := int_at Hok.out.seg hkeep.out hlt
    have hmem := List.getElem_mem hlt
    obtain ⟨u, hu⟩ : ∃ u, r.l[i] = u := ⟨_, rfl⟩
    rw [hu] at r0 hmem
    obtain ⟨t, rfl⟩ : ∃ t : Nat, u = (t : Int) := ⟨u.toNat, by have := Hrn.out u hmem; omega⟩
    have htn := (Hrn.out _ hmem).2
    have Hsn := Lib.hid (show nat (r.l.take (i + 1)) = nat (r.l.take i) ++ [t] from by
     unfold nat
     rw [List.take_add_one, List.getElem?_eq_getElem hlt, hu, List.map_append]
     rfl)
    have hb2l := Nat.lt_of_lt_of_le hb2 hkeep.out.size
    rw [hA2] at rc
    have i1 : (i : Int) < (r.l.length : Int) := by omega
    have i0 : (0 : Int) ≤ (i : Int) := by omega
    have t0 : (0 : Int) ≤ (t : Int) := by omega
    obtain ⟨q, hq⟩ := get_some (l := m1) (k := t) (by rw [hmo.out.2]; omega)
    obtain ⟨gx, cx, rfl, hgx, _, hgxc⟩ := own_at hmo.out.1 (by rw [hmo.out.2]; omega)
    have qc := hgxc t (.bool q) (by rw [flat_bool, List.getElem?_map, hq]; rfl)
    have hqd : m1.getD t true = q := by rw [List.getD_eq_getElem?_getD, hq]; rfl
    have HM := Lib.hid hmo.out
    have hm1 := hmo.out.2
    clear hgxc hq hu hA2 hmem hmo
    cases q with
    | true =>
     have Hv := Lib.hid (show Lv.Vis x.N (nat (r.l.take (i + 1))) (m.set a true) d m1 d1 from by rw [Hsn.out]; exact hvis.out.snoc_skip hqd)
     clear hqd hvis
     rw [hm1]
     go_wp2_with fail
     go_roundw
     case rel => exact ⟨i + 1, m1, d1, hlt, by go_num, Lib.hid ⟨by have := HM.out.1; rwa [hm1] at this, hm1⟩, hdo, Hv, hkeep⟩
     case measure => simp [intOf]; omega
    | false =>
     have Hc := Lib.hid (IH.out t m1 _ d1 u3 wr (by have := hvis.out.count; have := Hm.out; omega) hkeep.out HM.out.1 (by rw [hm1, Hnn.out]) hqd hdo.out (by have := hvis.out.size; have := Hm.out; rw [Hnn.out]; omega))
     rw [Hnn.out] at Hc
     have Hv := Lib.hid hvis.out
     have Hqd := Lib.hid hqd
     have hk0 := Lib.hid hkeep.out
     clear hqd hvis hdo HM hkeep
     rw [hm1] at Hc ⊢
     go_wp2_with fail
     refine Hc.out.mono ?_
     clear Hc rc r0 qc
     rintro e w4 ⟨vm4, vd4, m4, d4, rfl, h1, h2, h3, h4, h5⟩
     have Hn := Lib.hid (show (BOwn w4 w0.heap.size vm4 m4 ∧ m4.length = n) ∧ IOwn w4 w0.heap.size vd4 (ints (d4 ++ [t])) ∧ Lv.Vis x.N (nat (r.l.take (i + 1))) (m.set a true) d m4 (d4 ++ [t]) ∧ Keep w0 w4 from
      ⟨⟨h1, h5⟩, h2, by rw [Hsn.out]; exact Hv.out.snoc_go Hqd.out h3, h4⟩)
     clear h1 h2 h3 h4 h5 Hv Hqd
     go_wp2_with fail
     go_roundw
     case rel => exact ⟨i + 1, m4, _, hlt, by go_num, Lib.hid Hn.out.1, Lib.hid Hn.out.2.1, Lib.hid Hn.out.2.2.1, Lib.hid Hn.out.2.2.2⟩
     case measure => simp [intOf]; omega
   ·obtain ⟨Ad, cd, rfl, A', c', w4, hrun, hown, hE⟩ := intPush hdo.out (a : Int) (by rw [ints_len]; have := hvis.out.size; have := Hm.out; omega) hkeep.out.size
    have hdo2 := hdo.out
    rw [ints_len] at hrun hown hE hdo2 ⊢
    have Hn := Lib.hid (show BOwn w4 w0.heap.size u10 m1 ∧ IOwn w4 w0.heap.size (.slice A' (d1.length + 1) c') (ints (d1 ++ [a])) ∧ Lv.Vis x.N (x.N.getD a []) (m.set a true) d m1 d1 ∧ Keep w0 w4 ∧ m1.length = n from
     ⟨hmo.out.1.ext hE (fun k hk e => hmo.out.1.kinds hdo2 (by decide) hk e), by rw [ints_snoc]; exact hown, by have := hvis.out; rw [List.take_of_length_le (by omega)] at this; rw [HNa.out]; exact this, Keep.of_ext hkeep.out hE (fun k hk e => by have := (hdo2.lt k e).1; omega), hmo.out.2⟩)
    clear hmo hdo hdo2 hvis hkeep hown hE
    go_wp2_with (at_builtin; refine wpList_append_eq rfl _ _ _ rfl _ _ rfl rfl _ _ hrun ?_; clear hrun)
    refine bodyPost_ret (by simp [results, Tryz.results28, go_sem] <;> rfl) rfl ?_
    exact ⟨_, _, m1, d1, rfl, Hn.out⟩
end Go.Proofs.YtjpmiejgcnfiiaaGreat
namespace Go.Proofs.YtjpmiejgcnfiiaaGreat
open Go Go.RowKit

theorem drop_rev {α : Type} {l : List α} {k : Nat} {x : α} (h : l[k]? = some x) : (l.drop k).reverse = (l.drop (k + 1)).reverse ++ [x] := by
 obtain ⟨hk, e⟩ := List.getElem?_eq_some_iff.1 h
 rw [List.drop_eq_getElem_cons hk, List.reverse_cons, e]

set_option maxHeartbeats 4000000 in
set_option maxRecDepth 100000 in
theorem order47_calls (x : SsD) (w : World) (h : SsOk w x) (hb : Bulky x) (hn : x.blocks.l.length ≤ 100000) :
  Calls Tryz.prog 12 #[.agg (ssC x).toArray] w fun e w' => ∃ A c, e = .returned (.slice A x.ord.length c) ∧ Own intC 1 3 w' w.heap.size (.slice A x.ord.length c) (ints x.ord) ∧ Keep w w' := by
 obtain ⟨W, hW, kW, bW, sW⟩ := boxN w 39 (ssC x)
 have c0 : W.cell? ⟨w.heap.size, 0, none⟩ = some (.slice x.params.a x.params.l.length x.params.c) := bW.cell 0
 have c1 : W.cell? ⟨w.heap.size, 1, none⟩ = some (.slice x.results.a x.results.l.length x.results.c) := bW.cell 1
 have c2 : W.cell? ⟨w.heap.size, 2, none⟩ = some (.slice x.vals.a x.vals.l.length x.vals.c) := bW.cell 2
 have c3 : W.cell? ⟨w.heap.size, 3, none⟩ = some (.slice x.blocks.a x.blocks.l.length x.blocks.c) := bW.cell 3
 have lt := bW.lt
 have HkW := Lib.hid kW
 have Hnx := Lib.hid (next39_calls x W (h.keep kW) hb hn)
 have Hn := Lib.hid hn
 clear h hb bW sW kW hn
 go_enter Tryz.func12, Tryz.ntmps12
 go_wp2_with fail
 refine Hnx.out.mono ?_
 clear Hnx c0 c1 c2 c3 lt
 rintro e w1 ⟨A, rs, c, rfl, hg, hgr, hk1⟩
 have hrl : rs.length = x.blocks.l.length := gr_length hgr
 have hn : rs.length ≤ 100000 := by rw [hrl]; exact Hn.out
 have Hk1 := Lib.hid (HkW.out.trans hk1)
 have Hg := Lib.hid (show DZ.Graph w1 A rs ∧ DZ.gr rs = x.G from ⟨hg, hgr⟩)
 by_cases h0 : rs.length = 0
 ·have Ho := Lib.hid (show x.ord = [] from by
   have h1 := x.ordOk
   unfold OrdOk at h1
   rwa [if_pos (List.eq_nil_of_length_eq_zero (by omega))] at h1)
  have h0d : decide (rs.length = 0) = true := decide_eq_true h0
  clear hg hgr hk1 hrl hn
  rw [h0] at h0d ⊢
  clear h0
  go_wp2_with fail
  go_ret
  exact ⟨none, 0, by rw [Ho.out]; rfl, by rw [Ho.out]; exact Own.nil _ _ _ _ _, Hk1.out⟩
 ·have hpos : 0 < rs.length := by omega
  obtain ⟨w2, hmake, hblk, hk2⟩ := make_bools w1 rs.length (by omega)
  have hseen := seen47_calls c hg hgr hn rs.length 0 (List.replicate rs.length false) (.slice (some ⟨w1.heap.size, 0, none⟩) rs.length rs.length) [] (.slice none 0 0) w2
   (by rw [List.count_replicate_self]; exact Nat.le_refl _) hk2 (by have := hblk.own (base := w1.heap.size) (Nat.le_refl _) (by rw [List.length_replicate]; unfold maxLen; omega); rw [List.length_replicate] at this; exact this) (by simp) (by simp [hpos]) (Own.nil _ _ _ _ _) (by rw [List.count_replicate_self]; simp)
  have Hseen := Lib.hid hseen
  have h0i : ((rs.length : Int) == 0) = false := beq_eq_false_iff_ne.2 (by omega)
  have h0c : decide ((rs.length : Int) = 0) = false := decide_eq_false (by omega)
  have h0d : decide (rs.length = 0) = false := decide_eq_false h0
  have Hrl := Lib.hid hrl
  clear hg hgr hk1 hrl hblk hk2 hseen h0
  obtain ⟨n, hnn⟩ : ∃ n, n = rs.length := ⟨_, rfl⟩
  rw [← hnn] at Hseen Hrl h0i h0c h0d hmake hpos hn ⊢
  clear hnn
  go_wp2_with (refine wpList_make_eq rfl _ _ _ rfl _ _ rfl rfl _ _ hmake ?_; clear hmake)
  refine Hseen.out.mono ?_
  clear Hseen
  rintro e w4 ⟨vm, vd, m', d', rfl, _, hd, hvis, hk4, _⟩
  obtain ⟨dd, hdd⟩ : ∃ dd, dd = d' ++ [0] := ⟨_, rfl⟩
  have Hord := Lib.hid (show x.ord = dd.reverse ∧ dd.length ≤ n from by
   have hsz := hvis.size
   have hNl : x.N.length = n := by rw [SsD.N_len, ← Hrl.out]
   refine ⟨?_, ?_⟩
   ·refine (x.ordOk).unique ?_
    unfold OrdOk
    rw [if_neg (fun e => by have := Hrl.out; rw [e] at this; simp at this; omega), List.reverse_reverse]
    exact ⟨m', d', by rw [hNl]; exact hvis, hdd⟩
   ·have := Lv.count_set (m := List.replicate n false) (c := 0) (by simp [hpos])
    rw [List.count_replicate_self] at this
    rw [hdd, List.length_append, List.length_singleton]
    simp at hsz
    omega)
  rw [← hdd] at hd
  obtain ⟨gd, cd, hvd, hgd, hgdb, hgc⟩ := own_at hd (by rw [ints_len, hdd]; simp)
  rw [ints_len] at hvd
  subst hvd
  have Hgc := Lib.hid (fun (k t : Nat) (ht : dd[k]? = some t) => hgc k (.int .i64 (t : Int)) (by rw [flat_int, List.getElem?_map, ints_get ht]; rfl))
  have Hk4 := Lib.hid (Hk1.out.trans hk4)
  have hdl := Hord.out.2
  have Hlt := Lib.hid hgd
  clear hvis hk4 hd hdd hgc hgdb hgd
  go_wp2_with fail
  go_loopw [6, 7] (fun vo vi wr => ∃ k : Nat, k ≤ dd.length ∧ vi = .int .i64 ((k : Int) - 1) ∧ Hid (Own intC 1 3 wr w4.heap.size vo (ints (dd.drop k).reverse)) ∧ Hid (Keep w4 wr)) (fun _ vi _ => (intOf vi + 1).toNat)
  case atStart => exact ⟨dd.length, Nat.le_refl _, by go_num, Lib.hid (by rw [List.drop_length]; exact Own.nil _ _ _ _ _), Lib.hid (Keep.refl _)⟩
  case round =>
   obtain ⟨k, hk, rfl, hown, hkeep⟩ := hrel
   cases k with
   | zero =>
    have Hr := Lib.hid (show Own intC 1 3 wr w.heap.size u6 (ints x.ord) ∧ Keep w wr from ⟨by rw [Hord.out.1]; exact hown.out.mono Hk4.out.size, Hk4.out.trans hkeep.out⟩)
    clear hown hkeep
    go_wp2_with fail
    go_ret
    obtain ⟨A, c, e, _⟩ := Hr.out.1.form
    rw [ints_len] at e
    subst e
    exact ⟨A, c, rfl, Hr.out.1, Hr.out.2⟩
   | succ k =>
    obtain ⟨t, ht⟩ := get_some (l := dd) (k := k) (by omega)
    have q := hkeep.out.cell (Hgc.out k t ht)
    have hlt := Nat.lt_of_lt_of_le Hlt.out hkeep.out.size
    have hll : (ints (dd.drop (k + 1)).reverse).length ≤ dd.length := by rw [ints_len, List.length_reverse, List.length_drop]; omega
    obtain ⟨Ao, co, rfl, A', c', w7, hrun, hown7, hE7⟩ := intPush hown.out (t : Int) (by omega) hkeep.out.size
    have Hnx := Lib.hid (show Own intC 1 3 w7 w4.heap.size (.slice A' ((ints (dd.drop (k + 1)).reverse).length + 1) c') (ints (dd.drop k).reverse) ∧ Keep w4 w7 from ⟨by
     rw [drop_rev ht, ints_snoc]; exact hown7, Keep.of_ext hkeep.out hE7 (fun q hq e => by have := (hown.out.lt q e).1; omega)⟩)
    obtain ⟨L, hL⟩ : ∃ L, L = (ints (dd.drop (k + 1)).reverse).length := ⟨_, rfl⟩
    rw [← hL] at hrun hll Hnx ⊢
    have e1 : ((k + 1 : Nat) : Int) - 1 = (k : Int) := by omega
    rw [e1]
    have k0 : (0 : Int) ≤ (k : Int) := by omega
    have k1 : (k : Int) < (dd.length : Int) := by omega
    clear hown hkeep hown7 hE7 ht hL e1
    go_wp2_with (at_builtin; refine wpList_append_eq rfl _ _ _ rfl _ _ rfl rfl _ _ hrun ?_; clear hrun)
    go_roundw
    case rel => exact ⟨k, by omega, by go_num, Lib.hid Hnx.out.1, Lib.hid Hnx.out.2⟩
    case measure => simp [intOf] <;> omega
end Go.Proofs.YtjpmiejgcnfiiaaGreat
namespace Go.Proofs.YtjpmiejgcnfiiaaGreat
open Go

/-- Where each block begins, as far as the first k of the order say. -/
noncomputable def begL (x : SsD) : Nat → List Int
 | 0 => List.replicate x.blocks.l.length (-1)
 | k + 1 => match x.ord[k]? with
  | some b => (begL x k).set b (x.atk k)
  | none => begL x k
theorem begL_succ {x : SsD} {k b : Nat} (hb : x.ord[k]? = some b) : begL x (k + 1) = (begL x k).set b (x.atk k) := by
 rw [begL]; simp only [hb]
theorem begL_len (x : SsD) : ∀ k, (begL x k).length = x.blocks.l.length
 | 0 => by simp [begL]
 | k + 1 => by
  rw [begL]
  split
  ·rw [List.length_set, begL_len x k]
  ·exact begL_len x k
theorem begL_get {x : SsD} {i b : Nat} (hb : x.ord[i]? = some b) : ∀ k, i < k → k ≤ x.ord.length → (begL x k)[b]? = some (x.atk i)
 | 0, h, _ => absurd h (by omega)
 | k + 1, h, hk => by
  obtain ⟨c, hc⟩ := get_some (l := x.ord) (k := k) (by omega)
  rw [begL_succ hc]
  have hbl := x.ord_spec.2 b (List.mem_of_getElem? hb)
  by_cases e : i = k
  ·subst e
   rw [hb] at hc; cases hc
   rw [List.getElem?_set_self (by rw [begL_len]; exact hbl)]
  ·have hcb : c ≠ b := by
    rintro rfl
    obtain ⟨li, ei⟩ := List.getElem?_eq_some_iff.1 hb
    obtain ⟨lk, ek⟩ := List.getElem?_eq_some_iff.1 hc
    have hp := List.pairwise_iff_getElem.1 x.ord_spec.1
    rcases Nat.lt_trichotomy i k with h' | h' | h'
    ·exact hp i k li lk h' (by rw [ei, ek])
    ·exact e h'
    ·exact hp k i lk li h' (by rw [ei, ek])
   rw [List.getElem?_set_ne hcb]
   exact begL_get hb k (by omega) (by omega)
/-- Where a value is needed at the beginning, block by block. -/
noncomputable def needRow (x : SsD) (v : Nat) : List Bool := (List.range x.blocks.l.length).map (needB x v)
theorem needRow_len (x : SsD) (v : Nat) : (needRow x v).length = x.blocks.l.length := by simp [needRow]
theorem needRow_get {x : SsD} {v b : Nat} (hb : b < x.blocks.l.length) : (needRow x v)[b]? = some (needB x v b) := by simp [needRow, hb]
theorem SsD.F_len (x : SsD) : x.F.length = x.blocks.l.length := by simp [SsD.F]
/-- Which block of the order asks for more. -/
def Asks (x : SsD) (v : Nat) (s : List Bool) (b : Nat) : Prop := ¬ (x.F.getD b default).makes v ∧ ((x.F.getD b default).uses v ∨ ∃ t ∈ (x.F.getD b default).next, s.getD t false = true)
theorem RN_row {x : SsD} {v : Nat} {s : List Bool} (h : Lv.RN x.F x.ord v s) (hc : ∀ b ∈ x.ord, Asks x v s b → s.getD b false = true) : s = needRow x v := by
 have hs : s.length = x.blocks.l.length := by rw [h.len, SsD.F_len]
 refine List.ext_getElem (by rw [needRow_len]; exact hs) fun b h1 h2 => ?_
 have h3 := needRow_get (x := x) (v := v) (b := b) (by omega)
 rw [List.getElem?_eq_getElem h2] at h3
 rw [Option.some.inj h3]
 have h4 : s.getD b false = s[b] := by rw [List.getD_eq_getElem?_getD, List.getElem?_eq_getElem h1]; rfl
 rw [← h4]
 exact bool_eq (h.end_ (fun b hb hm hu => hc b hb ⟨hm, hu⟩) b) needB_iff
/-- The search, in a round: of the order the blocks from the i-th on have been looked at. -/
structure RNd (x : SsD) (v : Nat) (s0 s : List Bool) (more : Bool) (i : Nat) : Prop where
 rn : Lv.RN x.F x.ord v s
 le : s.count false ≤ s0.count false
 same : more = false → s = s0 ∧ ∀ j b, i ≤ j → x.ord[j]? = some b → Asks x v s b → s.getD b false = true
 less : more = true → s.count false < s0.count false
theorem RNd.start {x : SsD} {v : Nat} {s : List Bool} (h : Lv.RN x.F x.ord v s) : RNd x v s s false x.ord.length :=
 ⟨h, Nat.le_refl _, fun _ => ⟨rfl, fun j b hj hb => by have := (List.getElem?_eq_some_iff.1 hb).1; omega⟩, fun h => by cases h⟩
theorem RNd.skip {x : SsD} {v : Nat} {s0 s : List Bool} {more : Bool} {i b : Nat} (h : RNd x v s0 s more (i + 1)) (hb : x.ord[i]? = some b) (hn : Asks x v s b → s.getD b false = true) : RNd x v s0 s more i :=
 ⟨h.rn, h.le, fun hm => ⟨(h.same hm).1, fun j c hj hc ha => by
  by_cases e : j = i
  ·subst e; rw [hb] at hc; cases hc; exact hn ha
  ·exact (h.same hm).2 j c (by omega) hc ha⟩, h.less⟩
theorem RNd.put {x : SsD} {v : Nat} {s0 s : List Bool} {more : Bool} {i b : Nat} (h : RNd x v s0 s more (i + 1)) (hb : x.ord[i]? = some b) (ha : Asks x v s b) (hf : s.getD b false = false) : RNd x v s0 (s.set b true) true i := by
 have hbl := x.ord_spec.2 b (List.mem_of_getElem? hb)
 have hbs : b < s.length := by rw [h.rn.len, SsD.F_len]; exact hbl
 have h1 := Lv.count_false_set hbs hf
 have h2 := h.le
 exact ⟨h.rn.step (List.mem_of_getElem? hb) (by rw [SsD.F_len]; exact hbl) ha.1 ha.2, by omega, (fun hm => by cases hm), fun _ => by omega⟩
theorem RNd.end_ {x : SsD} {v : Nat} {s0 s : List Bool} (h : RNd x v s0 s false 0) : s = needRow x v :=
 RN_row h.rn fun b hb ha => by
  obtain ⟨j, hj⟩ := List.mem_iff_getElem?.1 hb
  exact (h.same rfl).2 j b (Nat.zero_le _) hj ha
end Go.Proofs.YtjpmiejgcnfiiaaGreat
