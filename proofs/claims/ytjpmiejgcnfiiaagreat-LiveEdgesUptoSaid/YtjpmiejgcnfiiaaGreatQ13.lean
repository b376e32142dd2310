import Derived.Test.YtjpmiejgcnfiiaaGreatQ7
import Derived.Test.YtjpmiejgcnfiiaaGreatQ12
import Derived.Deep.DeepCutAuto
import Derived.Deep.Cut
import Derived.WalkMore
set_option linter.unusedVariables false
set_option linter.unusedSimpArgs false
namespace Go.Proofs.YtjpmiejgcnfiiaaGreat
open Go Go.RowKit

set_option maxHeartbeats 4000000 in
theorem right_calls (x : SsD) (A : Option Addr) (c base : Nat) (w : World) (h : SsOk w x) (hs : Small x) (hown : Own intC 1 3 w base (.slice A x.ord.length c) (ints x.ord)) (hin : ∀ b y, b ∈ x.ord → x.blocks.l[b]? = some y → y.In x.vals.l.length) :
  Calls Tryz.prog 23 #[.agg (ssC x).toArray, .slice A x.ord.length c] w fun e w' => e = .returned (.bool true) ∧ Keep w w' := by
 obtain ⟨vp, vr, va, nv, vc, ba, nb, bc, hop⟩ := x.opened
 rw [hop.agg]
 obtain ⟨W, hW, hk, c0, c1, c2, c3, lt⟩ := box4 w 39 vp vr (.slice va nv vc) (.slice ba nb bc)
 obtain ⟨Wo, hWo⟩ : ∃ Wo, W.alloc (.cells #[.bool true] 4) = Wo := ⟨_, rfl⟩
 have hko : Keep W Wo := by rw [← hWo]; exact (Keep.refl _).alloc _
 have hbo : Blk Wo W.heap.size 4 [.bool true] := by rw [← hWo]; exact Blk.new W _ _
 have hsz : W.heap.size = w.heap.size + 1 := by rw [← hW]; simp
 rw [hsz] at hbo
 have hso : Wo.heap.size = w.heap.size + 1 + 1 := by rw [← hWo]; simp [hsz]
 have d2 := hko.cell c2
 have d3 := hko.cell c3
 have hlo : w.heap.size < Wo.heap.size := by omega
 have Hk := Lib.hid (hk.trans hko)
 have Hok := Lib.hid (h.keep (hk.trans hko))
 have Hown := Lib.hid (hown.keep (hk.trans hko))
 have Hin := Lib.hid hin
 have Hop := Lib.hid hop
 have Hs := Lib.hid hs
 have Hbo := Lib.hid hbo
 have Hwo := Lib.hid (show ∀ b y, x.blocks.l[b]? = some y → BkOk w y from fun b y hy => h.blocks y (List.mem_of_getElem? hy))
 have Hok0 := Lib.hid h
 have Hnv := Lib.hid hop.nv
 obtain ⟨ds, hds⟩ : ∃ ds, x.ord = ds := ⟨_, rfl⟩
 rw [hds] at Hown ⊢
 have Hds := Lib.hid hds
 have hdl : ds.length ≤ 1000 := by rw [← hds]; exact Nat.le_trans x.ord_len hs.blocks
 obtain ⟨m, hm⟩ : ∃ m, ds.length = m := ⟨_, rfl⟩
 rw [hm] at Hown hdl ⊢
 have Hm := Lib.hid hm
 have Hsz := Lib.hid hsz
 have Hso := Lib.hid hso
 clear h hs hown hin hop hbo hko hk c0 c1 c2 c3 lt hds hm hso
 go_enter Tryz.func23, Tryz.ntmps23
 go_wp2_with fail
 clear hW hWo
 go_loopw [14] (fun vi wr => ∃ k : Nat, k ≤ m ∧ vi = .int .i64 k ∧ Hid (Blk wr (w.heap.size + 1) 4 [.bool true]) ∧ Hid (Ext (fun k => k = w.heap.size + 1) Wo wr)) (fun vi _ => m - (intOf vi).toNat)
 case atStart => exact ⟨0, Nat.zero_le _, rfl, Hbo, Lib.hid (Ext.refl _ _)⟩
 case round =>
  obtain ⟨k, hk, rfl, hb0, hE⟩ := hrel
  have HW := Lib.hid (show ∀ w', Ext (fun k => k = w.heap.size + 1) Wo w' → Keep w w' from fun w' h => Keep.of_ext Hk.out h (fun k hk e => by omega))
  by_cases hin : k < m
  ·obtain ⟨b, hb⟩ := get_some (l := ds) (k := k) (by rw [Hm.out]; exact hin)
   have hbm : b ∈ x.ord := by rw [Hds.out]; exact List.mem_of_getElem? hb
   obtain ⟨y, hy⟩ := get_some (x.ord_spec.2 b hbm)
   have Hy := Lib.hid (Hin.out b y hbm hy)
   have Hyk := Lib.hid (Hwo.out b y hy)
   have Hyg := Lib.hid hy
   obtain ⟨b1, o1, hA, hb1, q0⟩ := ints_at Hown.out (Keep.refl _) hb
   subst hA
   have hb1n : b1 ≠ w.heap.size + 1 := fun e => Own.blk_apart_int Hown.out Hbo.out (by decide) e
   have q1 := (World.cell?_of_block (hE.out.block b1 hb1 hb1n)).trans q0
   have HB := Lib.hid (fun (wq : World) (hq : Ext (fun k => k = w.heap.size + 1) Wo wq) => bk_open Hop.out Hok0.out (HW.out wq hq) hy)
   obtain ⟨B, off, hB, hB1, hbn, y0, y1, y2, y3, y4, y5, y6⟩ := HB.out _ hE.out
   subst hB
   have d3r := (World.cell?_of_block (hE.out.block w.heap.size hlo (by omega))).trans d3
   have d2r := (World.cell?_of_block (hE.out.block w.heap.size hlo (by omega))).trans d2
   have hkk : (k : Int) < (m : Int) := by omega
   have hk0 : (0 : Int) ≤ (k : Int) := by omega
   have hbb : (b : Int) < (nb : Int) := by omega
   have hbb0 : (0 : Int) ≤ (b : Int) := by omega
   have lr := Nat.lt_of_lt_of_le hlo hE.out.size
   have hlk1 := look_calls y.params.l y.params.a y.params.c nv vc w.heap.size (w.heap.size + 1) va wr (by rw [← Hnv.out]; exact Hy.out.params) (Hyk.out.params.keep (HW.out _ hE.out)).seg (Hyk.out.params.len) hb0.out d2r lr (by omega) (Hyk.out.params.away (by omega))
   have Hlk1 := Lib.hid hlk1
   clear hlk1 hb hy q0 d2r
   go_wp2_with fail
   refine Hlk1.out.mono ?_
   clear Hlk1
   rintro e w2 ⟨⟨v2, rfl⟩, hb2, hE2⟩
   have hE2' : Ext (fun k => k = w.heap.size + 1) Wo w2 := hE.out.trans hE2 (fun _ _ e => e)
   obtain ⟨_, _, e, _, _, _, z1, _⟩ := HB.out _ hE2'
   cases e
   have d3s := (World.cell?_of_block (hE2'.block w.heap.size hlo (by omega))).trans d3
   have Hb2 := Lib.hid hb2
   have HE2 := Lib.hid hE2'
   obtain ⟨li, hli⟩ : ∃ li, y.ins.l.length = li := ⟨_, rfl⟩
   have hlim : li ≤ maxLen := by rw [← hli]; exact Hyk.out.insLen
   unfold maxLen at hlim
   have Hli := Lib.hid hli
   obtain ⟨ya, hya⟩ : ∃ ya, y.ins.a = ya := ⟨_, rfl⟩
   have Hya := Lib.hid hya
   rw [hli, hya] at z1 y1
   clear hb2 hE2 hE2' hb0 hE d3r q1 y0 y1 y2 y3 y4 y5 y6 hli hya
   go_wp2_with fail
   go_loopw [33] (fun vj wr => ∃ j : Nat, j ≤ li ∧ vj = .int .i64 j ∧ Hid (Blk wr (w.heap.size + 1) 4 [.bool true]) ∧ Hid (Ext (fun k => k = w.heap.size + 1) Wo wr)) (fun vj _ => li - (intOf vj).toNat)
   case atStart => exact ⟨0, Nat.zero_le _, rfl, Hb2, HE2⟩
   case round =>
    clear Hb2 HE2 z1 d3s lr
    obtain ⟨j, hj, rfl, hb0, hE⟩ := hrel
    by_cases hjn : j < li
    ·obtain ⟨i, hi⟩ := get_some (l := y.ins.l) (k := j) (by rw [Hli.out]; exact hjn)
     have Hmi := Lib.hid (List.mem_of_getElem? hi)
     obtain ⟨Bi, offi, hBi, hBi1, _, i0, i1, i2, i3, i4, i5, i6⟩ := in_open Hyk.out (HW.out _ hE.out) hi
     rw [Hya.out] at hBi
     subst hBi
     have lBi := Nat.lt_of_lt_of_le hBi1 (HW.out _ hE.out).size
     obtain ⟨W2, hW2, kW2, p5, p6, lW2, szW2⟩ := box7 wr 63 (.int .i64 i.kind) (.int .i64 i.op) (.int .i64 i.a) (.int .i64 i.b) (.int .u64 i.n) (.slice i.args.a i.args.l.length i.args.c) (.slice i.outs.a i.outs.l.length i.outs.c)
     have lob : w.heap.size + 1 < wr.heap.size := hb0.out.lt
     have hEW : Ext (fun k => k = w.heap.size + 1) Wo W2 := hE.out.trans (kW2.ext _) (fun _ _ e => e)
     have kWW := HW.out _ hEW
     have hd2 := (World.cell?_of_block (hEW.block w.heap.size hlo (by omega))).trans d2
     have HI := Lib.hid (Hyk.out.ins i Hmi.out)
     have hlk1 := look_calls i.args.l i.args.a i.args.c nv vc w.heap.size (w.heap.size + 1) va W2 (by rw [← Hnv.out]; exact Hy.out.args i Hmi.out) (HI.out.args.keep kWW).seg HI.out.args.len (hb0.out.keep kW2) hd2 (by omega) (by omega) (HI.out.args.away (by omega))
     have Hlk1 := Lib.hid hlk1
     have HEW := Lib.hid hEW
     have hjj : (j : Int) < (li : Int) := by omega
     have hj0 : (0 : Int) ≤ (j : Int) := by omega
     clear hlk1 hi hd2 hEW kWW hb0 hE kW2
     go_wp2_with fail
     refine Hlk1.out.mono ?_
     clear Hlk1
     rintro e w3 ⟨⟨v3, rfl⟩, hb3, hE3⟩
     have hE3' : Ext (fun k => k = w.heap.size + 1) Wo w3 := HEW.out.trans hE3 (fun _ _ e => e)
     have r6 := (World.cell?_of_block (hE3.block wr.heap.size lW2 (by omega))).trans p6
     have kW3 := HW.out _ hE3'
     have hd3 := (World.cell?_of_block (hE3'.block w.heap.size hlo (by omega))).trans d2
     have ls3 := Nat.lt_of_lt_of_le lW2 hE3.size
     have hlk2 := look_calls i.outs.l i.outs.a i.outs.c nv vc w.heap.size (w.heap.size + 1) va w3 (by rw [← Hnv.out]; exact Hy.out.outs i Hmi.out) (HI.out.outs.keep kW3).seg HI.out.outs.len hb3 hd3 (by omega) (by omega) (HI.out.outs.away (by omega))
     have Hlk2 := Lib.hid hlk2
     have HE3 := Lib.hid hE3'
     clear hlk2 hd3 hE3 hE3' kW3 hb3 i0 i1 i2 i3 i4 i5 i6 p5 p6 hW2
     go_wp2_with fail
     refine Hlk2.out.mono ?_
     clear Hlk2
     rintro e w4 ⟨⟨v4, rfl⟩, hb4, hE4⟩
     have Hb4 := Lib.hid hb4
     have HE4 := Lib.hid (show Ext (fun k => k = w.heap.size + 1) Wo w4 from HE3.out.trans hE4 (fun _ _ e => e))
     clear hb4 hE4 r6
     go_wp2
     go_roundw
     case rel =>
      exact ⟨j + 1, hjn, by go_num, Hb4, HE4⟩
     case measure => simp [intOf]; omega
    ·obtain ⟨_, _, e, _, _, y0, y1, y2, y3, y4, y5, y6⟩ := HB.out _ hE.out
     cases e
     rw [Hya.out] at y1
     have d3s := (World.cell?_of_block (hE.out.block w.heap.size hlo (by omega))).trans d3
     have lr := Nat.lt_of_lt_of_le hlo hE.out.size
     have hends := ends_calls y wr (Hyk.out.keep (HW.out _ hE.out)) (Hs.out.ends y (List.mem_of_getElem? Hyg.out))
     unfold RwD.v at hends
     have Hends := Lib.hid hends
     have hob : w.heap.size + 1 < wr.heap.size := hb0.out.lt
     clear hends
     go_wp2_with fail
     refine Hends.out.mono ?_
     clear Hends
     rintro e w5 ⟨v5, rfl, hown5, hk5⟩
     obtain ⟨A5, c5, rfl, hl5, hc5⟩ := hown5.form
     have hE5 : Ext (fun k => k = w.heap.size + 1) Wo w5 := hE.out.trans (hk5.ext _) (fun _ _ e => e)
     have hd5 := (World.cell?_of_block (hE5.block w.heap.size hlo (by omega))).trans d2
     have ls5 := Nat.lt_of_lt_of_le lr hk5.size
     have hlk3 := look_calls y.endsI A5 c5 nv vc w.heap.size (w.heap.size + 1) va w5 (by rw [← Hnv.out]; exact Hy.out.ends) hown5.segN.2 (Nat.le_trans hl5 hc5) (hb0.out.keep hk5) hd5 (by omega) (by omega) (fun ad ha _ => by have := hown5.addr_ge ha; omega)
     have Hlk3 := Lib.hid hlk3
     have HE5 := Lib.hid hE5
     obtain ⟨l5, hl5⟩ : ∃ l5, y.endsI.length = l5 := ⟨_, rfl⟩
     rw [hl5] at Hlk3 ⊢
     clear hlk3 hd5 hE5 hk5 hown5 y0 y1 y2 y3 y4 y5 y6 d3s hl5 hc5
     go_wp2_with fail
     refine Hlk3.out.mono ?_
     clear Hlk3
     rintro e w6 ⟨⟨v6, rfl⟩, hb6, hE6⟩
     have Hb6 := Lib.hid hb6
     have HE6 := Lib.hid (show Ext (fun k => k = w.heap.size + 1) Wo w6 from HE5.out.trans hE6 (fun _ _ e => e))
     clear hb6 hE6
     go_wp2
     go_roundw
     case rel => exact ⟨k + 1, hin, by go_num, Hb6, HE6⟩
     case measure => simp [intOf]; omega
  ·have o1 : wr.cell? ⟨w.heap.size + 1, 0, none⟩ = some (.bool true) := hb0.out.cell 0
   have ol := hb0.out.lt
   have Hkf := Lib.hid (HW.out _ hE.out)
   clear hb0 hE
   go_wp2
   go_ret
   exact ⟨rfl, Hkf.out⟩
end Go.Proofs.YtjpmiejgcnfiiaaGreat
namespace Go.Proofs.YtjpmiejgcnfiiaaGreat
open Go Go.RowKit

/-- The rows of ranges, and what is made, when the first k blocks are done. -/
noncomputable def ofL (x : SsD) (S : List (List Bool)) : Nat → List (List Lv.Rng)
 | 0 => List.replicate x.vals.l.length []
 | k + 1 => match x.ord[k]? with
  | none => ofL x S k
  | some b => match x.blocks.l[b]? with
   | none => ofL x S k
   | some y => addK y x.blocks.l.length (x.atk k) (fun v => (S.getD b []).getD v false) (fun v => (Lv.behindP S x.vals.l.length (x.N.getD b [])).getD v false) (ofL x S k) x.vals.l.length
noncomputable def ofM (x : SsD) : Nat → Nat → Bool
 | 0 => fun _ => false
 | k + 1 => match x.ord[k]? with
  | none => ofM x k
  | some b => match x.blocks.l[b]? with
   | none => ofM x k
   | some y => m2 y (ofM x k) y.ins.l.length
theorem ofL_succ {x : SsD} {S : List (List Bool)} {k b : Nat} {y : BkD} (hb : x.ord[k]? = some b) (hy : x.blocks.l[b]? = some y) : ofL x S (k + 1) = addK y x.blocks.l.length (x.atk k) (fun v => (S.getD b []).getD v false) (fun v => (Lv.behindP S x.vals.l.length (x.N.getD b [])).getD v false) (ofL x S k) x.vals.l.length := by
 rw [ofL]; simp only [hb, hy]
theorem ofM_succ {x : SsD} {k b : Nat} {y : BkD} (hb : x.ord[k]? = some b) (hy : x.blocks.l[b]? = some y) : ofM x (k + 1) = m2 y (ofM x k) y.ins.l.length := by
 rw [ofM]; simp only [hb, hy]
theorem ofL_len (x : SsD) (S : List (List Bool)) : ∀ k, k ≤ x.ord.length → (ofL x S k).length = x.vals.l.length
 | 0, _ => by simp [ofL]
 | k + 1, hk => by
  obtain ⟨b, hb⟩ := get_some (l := x.ord) (k := k) (by omega)
  obtain ⟨y, hy⟩ := SsD.ord_get hb
  rw [ofL_succ hb hy, addK_len]
  exact ofL_len x S k (by omega)
theorem ofL_row (x : SsD) (S : List (List Bool)) : ∀ k, k ≤ x.ord.length → ∀ l ∈ ofL x S k, l.length ≤ k
 | 0, _ => fun l hl => by simp [ofL] at hl; rw [hl.2]; simp
 | k + 1, hk => by
  obtain ⟨b, hb⟩ := get_some (l := x.ord) (k := k) (by omega)
  obtain ⟨y, hy⟩ := SsD.ord_get hb
  rw [ofL_succ hb hy]
  exact addK_row (ofL_row x S k (by omega))
/-- The first k values of what Of gives. -/
noncomputable def ofR (x : SsD) (S : List (List Bool)) (k : Nat) : List (Int × List Lv.Rng) :=
 (List.range k).filterMap fun v => if ofM x x.ord.length v then some ((v : Int), (ofL x S x.ord.length).getD v []) else none
theorem ofR_succ (x : SsD) (S : List (List Bool)) (k : Nat) : ofR x S (k + 1) = ofR x S k ++ (if ofM x x.ord.length k then [((k : Int), (ofL x S x.ord.length).getD k [])] else []) := by
 unfold ofR
 rw [List.range_succ, List.filterMap_append]
 congr 1
 cases hk : ofM x x.ord.length k <;> simp [hk]
theorem ofR_len (x : SsD) (S : List (List Bool)) (k : Nat) : (ofR x S k).length ≤ k := by
 unfold ofR
 exact Nat.le_trans (List.length_filterMap_le _ _) (by simp)
theorem m2_congr {y : BkD} {m m' : Nat → Bool} {i v : Nat} (h : m v = m' v) : m2 y m i v = m2 y m' i v := by unfold m2; rw [h]

/-- The new record of rows. -/
structure MadeR (w3 wx : World) (nv : Nat) (v : Value) : Prop where
 ex : ∃ br bl bm, v = .pointer (some ⟨br, 0, none⟩) ∧ Blk wx br 95 [.slice (some ⟨bl, 0, none⟩) nv nv, .slice (some ⟨bm, 0, none⟩) nv nv] ∧ Blk wx bl 66 (List.replicate nv (.slice none 0 0)) ∧ BBlk wx bm 4 (List.replicate nv false) ∧
  w3.heap.size ≤ br ∧ w3.heap.size ≤ bl ∧ w3.heap.size ≤ bm ∧ Keep w3 wx
theorem make_rgrows (w : World) (n : Nat) (h : n ≤ 1000000) : ∃ w', (Instr.makeSlice 93 (.int .i64 (n : Int)) (.int .i64 (n : Int))).run Tryz.prog w = .ok (.slice (some ⟨w.heap.size, 0, none⟩) n n) w' ∧ Blk w' w.heap.size 66 (List.replicate n (.slice none 0 0)) ∧ Keep w w' :=
 make_zero (P := Tryz.prog) (z := .slice none 0 0) (bytes := 24) Tryz.underlying93 (by kernel_rfl) rfl w n (by omega) (by unfold maxLen; omega)
theorem elL : ElT Tryz.prog 49 68 2 32 lvC where
 slice := Tryz.underlying49
 info := info_of (z := .agg #[.int .i64 0, .slice none 0 0]) (by kernel_rfl) rfl
 pos := by omega
 len := fun _ => rfl
 one := fun x u hu => by simp [lvC] at hu; rcases hu with rfl | rfl <;> rfl
/-- Where the pass over the blocks stands. -/
structure OfAt (w3 wr : World) (br bl bm nv : Nat) (L : List (List Lv.Rng)) (M : Nat → Bool) : Prop where
 rec_ : Blk wr br 95 [.slice (some ⟨bl, 0, none⟩) nv nv, .slice (some ⟨bm, 0, none⟩) nv nv]
 rows : RgRows wr bl w3.heap.size L
 marks : ∃ m', BBlk wr bm 4 m' ∧ m'.length = nv ∧ ∀ v, v < nv → m'.getD v false = M v
 keep : Keep w3 wr

set_option maxHeartbeats 8000000 in
set_option maxRecDepth 100000 in
theorem of_calls (x : SsD) (w : World) (h : SsOk w x) (hs : Small x) (hin : ∀ b y, b ∈ x.ord → x.blocks.l[b]? = some y → y.In x.vals.l.length) :
  Calls Tryz.prog 16 #[.agg (ssC x).toArray] w fun e w' => ∃ A ls c S, e = .returned (.slice A ls.length c) ∧ Lives w' A ls ∧ ls.map (fun z => (z.val, z.l)) = ofR x S x.vals.l.length ∧ FI x S ∧ Shut x S ∧ Keep w w' := by
 obtain ⟨vp, vr, va, nv, vc, ba, nb, bc, hop⟩ := x.opened
 obtain ⟨W, hW, hk, c0, c1, c2, c3, lt⟩ := box4 w 39 vp vr (.slice va nv vc) (.slice ba nb bc)
 have hord := order_gives x W (h.keep hk) hs.edges (Nat.le_trans hs.blocks (by omega))
 rw [hop.agg] at hord ⊢
 have hnv : nv ≤ 1000 := by rw [← hop.nv]; exact hs.vals
 have hnb : nb ≤ 1000 := by rw [← hop.nb]; exact hs.blocks
 obtain ⟨m, hm⟩ : ∃ m, x.ord.length = m := ⟨_, rfl⟩
 have hml : m ≤ nb := by rw [← hm, ← hop.nb]; exact x.ord_len
 have Hm := Lib.hid hm
 rw [hm] at hord
 have Hord := Lib.hid hord
 have Hh := Lib.hid h
 have Hs := Lib.hid hs
 have Hin := Lib.hid hin
 have Hop := Lib.hid hop
 have HkW := Lib.hid hk
 clear hord h hs hin hop hk hm
 go_enter Tryz.func16, Tryz.ntmps16
 go_wp2_with fail
 refine Hord.out.mono ?_
 clear Hord hW
 rintro e w1 ⟨A, c, rfl, hown, hk1⟩
 have hcl : m ≤ c := by obtain ⟨_, _, e, h1, _⟩ := hown.form; injection e with e1 e2 e3; rw [ints_len, Hm.out] at h1; omega
 have Hown := Lib.hid (show Own intC 1 3 w1 W.heap.size (.slice A x.ord.length c) (ints x.ord) from by rw [Hm.out]; exact hown)
 have hright := right_calls x A c W.heap.size w1 (Hh.out.keep (HkW.out.trans hk1)) Hs.out Hown.out Hin.out
 rw [Hop.out.agg, Hm.out] at hright
 have Hright := Lib.hid hright
 have d0 := hk1.cell c0
 have d1 := hk1.cell c1
 have d2 := hk1.cell c2
 have d3 := hk1.cell c3
 have lt1 := Nat.lt_of_lt_of_le lt hk1.size
 have Hk1 := Lib.hid (HkW.out.trans hk1)
 clear hright hown hk1 c0 c1 c2 c3 lt
 go_wp2_with fail
 refine Hright.out.mono ?_
 clear Hright
 rintro e w2 ⟨rfl, hk2⟩
 have hfound := found_calls x A c W.heap.size w2 (Hh.out.keep (Hk1.out.trans hk2)) Hs.out (Hown.out.keep hk2) Hin.out
 rw [Hop.out.agg, Hm.out, Hop.out.nb] at hfound
 have Hfound := Lib.hid hfound
 have Hown2 := Lib.hid (Hown.out.keep hk2)
 have Hk2 := Lib.hid (Hk1.out.trans hk2)
 replace d0 := hk2.cell d0
 replace d1 := hk2.cell d1
 replace d2 := hk2.cell d2
 replace d3 := hk2.cell d3
 replace lt1 := Nat.lt_of_lt_of_le lt1 hk2.size
 clear hfound hk2 Hown Hk1
 go_wp2_with fail
 refine Hfound.out.mono ?_
 clear Hfound
 rintro e w3 ⟨bn, S, rfl, hbn, hnr, hk3, hfi, hsh⟩
 have Hown3 := Lib.hid (Hown2.out.keep hk3)
 have Hk3 := Lib.hid (Hk2.out.trans hk3)
 have Hnr := Lib.hid hnr
 have Hfi := Lib.hid hfi
 have Hsh := Lib.hid hsh
 have hbn3 := hnr.lt
 replace d0 := hk3.cell d0
 replace d1 := hk3.cell d1
 replace d2 := hk3.cell d2
 replace d3 := hk3.cell d3
 replace lt1 := Nat.lt_of_lt_of_le lt1 hk3.size
 clear hnr hk3 hfi hsh Hown2 Hk2
 go_upto_region 5 with fail
 go_cut [5] from 21 to 30 (fun v5 wx => MadeR w3 wx nv v5)
 case first =>
  have kz := fun y : KW w3 => y.cell d2
  obtain ⟨wd, hwd⟩ : ∃ wd, w3.drew = wd := ⟨_, rfl⟩
  have hkd : Keep w3 wd := by rw [← hwd]; exact (Keep.refl _).drew
  refine region_begin (S := fun w' => ∃ y : KW w3, w' = y.val) (by kernel_rfl) ?_
  rw [hwd]
  refine region_take [0, 1, 2, 4, 5, 6] [] 5 (by kernel_rfl) (by kernel_rfl) (InK.mk' hkd) ?_
  show wpQuiet _ _ _ _ [_, _, _, _, _, _] _
  repeat (go_big_quiet_step (fail))
  refine wpQuiet_nil ?_
  clear hwd
  refine region_any (fuel := 4) (is := [3, 7]) (by kernel_rfl) (by simp) (mem2 ?_ ?_)
  ·refine ⟨_, rfl, fun K hK => ?_⟩
   obtain ⟨u2, hmk2, b2, k2'⟩ := make_rgrows wd nv (by omega)
   go_simp
   have k2 := hkd.trans k2'
   refine hK _ _ (InK.mk' k2) ?_
   clear hK K hmk2
   refine region_fix (i := 7) (fuel := 3) rfl (by kernel_rfl) (fun K hK => ?_)
   obtain ⟨u3, hmk3, b3, k3'⟩ := make_bools u2 nv (by omega)
   go_simp
   have k3 := k2.trans k3'
   refine hK _ _ (InK.mk' k3) ?_
   clear hK K hmk3
   refine region_take [8] [0, 1, 2, 4, 5, 6, 3, 7] 2 (by kernel_rfl) (by kernel_rfl) (InK.mk' k3) ?_
   show wpQuiet _ _ _ _ [_] _
   repeat (go_big_quiet_step (fail))
   refine wpQuiet_nil ?_
   refine region_fix (i := 9) (fuel := 1) rfl (by kernel_rfl) (fun K hK => ?_)
   go_simp
   have k4 : Keep w3 (u3.alloc (.cells #[.slice (some ⟨wd.heap.size, 0, none⟩) nv nv, .slice (some ⟨u2.heap.size, 0, none⟩) nv nv] 95)) := k3.alloc _
   refine hK _ _ (InK.mk' k4) ?_
   clear hK K
   refine region_take [10] [0, 1, 2, 4, 5, 6, 3, 7, 8, 9] 0 (by kernel_rfl) (by kernel_rfl) (InK.mk' k4) ?_
   show wpQuiet _ _ _ _ [_] _
   repeat (go_big_quiet_step (fail))
   refine wpQuiet_nil ?_
   refine region_done (by kernel_rfl) ?_
   have Hfin := Lib.hid (show MadeR w3 (u3.alloc (.cells #[.slice (some ⟨wd.heap.size, 0, none⟩) nv nv, .slice (some ⟨u2.heap.size, 0, none⟩) nv nv] 95)) nv (.pointer (some ⟨u3.heap.size, 0, none⟩)) from
    ⟨_, _, _, rfl, Blk.new u3 _ _, (b2.keep k3').keep ((Keep.refl _).alloc _), by have := b3.keep ((Keep.refl _).alloc (.cells #[.slice (some ⟨wd.heap.size, 0, none⟩) nv nv, .slice (some ⟨u2.heap.size, 0, none⟩) nv nv] 95)); exact this, k3.size, hkd.size, k2.size, k4⟩)
   clear kz
   go_wp2_with fail
   go_meet
   case rel => exact Hfin.out
  ·refine ⟨_, rfl, fun K hK => ?_⟩
   obtain ⟨u2, hmk2, b2, k2'⟩ := make_bools wd nv (by omega)
   go_simp
   have k2 := hkd.trans k2'
   refine hK _ _ (InK.mk' k2) ?_
   clear hK K hmk2
   refine region_fix (i := 3) (fuel := 3) rfl (by kernel_rfl) (fun K hK => ?_)
   obtain ⟨u3, hmk3, b3, k3'⟩ := make_rgrows u2 nv (by omega)
   go_simp
   have k3 := k2.trans k3'
   refine hK _ _ (InK.mk' k3) ?_
   clear hK K hmk3
   refine region_take [8] [0, 1, 2, 4, 5, 6, 7, 3] 2 (by kernel_rfl) (by kernel_rfl) (InK.mk' k3) ?_
   show wpQuiet _ _ _ _ [_] _
   repeat (go_big_quiet_step (fail))
   refine wpQuiet_nil ?_
   refine region_fix (i := 9) (fuel := 1) rfl (by kernel_rfl) (fun K hK => ?_)
   go_simp
   have k4 : Keep w3 (u3.alloc (.cells #[.slice (some ⟨u2.heap.size, 0, none⟩) nv nv, .slice (some ⟨wd.heap.size, 0, none⟩) nv nv] 95)) := k3.alloc _
   refine hK _ _ (InK.mk' k4) ?_
   clear hK K
   refine region_take [10] [0, 1, 2, 4, 5, 6, 7, 3, 8, 9] 0 (by kernel_rfl) (by kernel_rfl) (InK.mk' k4) ?_
   show wpQuiet _ _ _ _ [_] _
   repeat (go_big_quiet_step (fail))
   refine wpQuiet_nil ?_
   refine region_done (by kernel_rfl) ?_
   have Hfin := Lib.hid (show MadeR w3 (u3.alloc (.cells #[.slice (some ⟨u2.heap.size, 0, none⟩) nv nv, .slice (some ⟨wd.heap.size, 0, none⟩) nv nv] 95)) nv (.pointer (some ⟨u3.heap.size, 0, none⟩)) from
    ⟨_, _, _, rfl, Blk.new u3 _ _, b3.keep ((Keep.refl _).alloc _), (b2.keep k3').keep ((Keep.refl _).alloc _), k3.size, k2.size, hkd.size, k4⟩)
   clear kz
   go_wp2_with fail
   go_meet
   case rel => exact Hfin.out
 case rest =>
  obtain ⟨br, bl, bm, rfl, hrec, hbl, hbm, g1, g2, g3, hkc⟩ := hcut.ex
  have HO0 := Lib.hid (show OfAt w3 wc br bl bm nv (ofL x S 0) (ofM x 0) from ⟨hrec, by
   have := RowsAt.made rngC 2 70 w3.heap.size nv hbl
   show RgRows wc bl w3.heap.size (List.replicate x.vals.l.length [])
   rw [Hop.out.nv]; exact this, ⟨_, hbm, by simp, fun v hv => by rw [List.getD_eq_getElem?_getD, List.getElem?_replicate, if_pos hv]; rfl⟩, hkc⟩)
  have H0 := Lib.hid (show x.atk 0 = 0 by unfold SsD.atk; simp [Lv.endAt])
  clear hrec hbl hbm hkc hcut
  go_wp2_with fail
  go_loopw [6, 8, 33] (fun va _ vi wr => ∃ k : Nat, k ≤ m ∧ vi = .int .i64 k ∧ va = .int .i64 (x.atk k) ∧ Hid (OfAt w3 wr br bl bm nv (ofL x S k) (ofM x k))) (fun _ _ vi _ => m - (intOf vi).toNat)
  case atStart => exact ⟨0, Nat.zero_le _, rfl, by rw [H0.out], HO0⟩
  case round =>
   clear HO0
   obtain ⟨k, hk, rfl, rfl, hoa⟩ := hrel
   have hkeep := hoa.out.keep
   by_cases hin : k < m
   ·obtain ⟨b, hb⟩ := get_some (l := x.ord) (k := k) (by rw [Hm.out]; exact hin)
    obtain ⟨y, hy⟩ := SsD.ord_get hb
    have hbm := List.mem_of_getElem? hb
    have hbl := x.ord_spec.2 b hbm
    obtain ⟨b1, o1, hA, hb1, q1⟩ := ints_at Hown3.out hkeep hb
    subst hA
    obtain ⟨B, off, hBa, hBl, hbn2, _, y1w, _, _, _, _, _⟩ := bk_open Hop.out Hh.out Hk3.out hy
    subst hBa
    have y1 := hkeep.cell y1w
    obtain ⟨l, hl1, hl2, hl3⟩ := Hfi.out.get hbl
    rw [Hop.out.nv] at hl2
    obtain ⟨Ab, cb, q3, hob3⟩ := Hnr.out.get hl1
    rw [hl2] at q3 hob3
    have q3r := hkeep.cell q3
    have hd : Keep wr wr.drew := (Keep.refl _).drew
    have hbe := behind_calls x b bn w2.heap.size nb S wr.drew (Hh.out.keep ((Hk3.out.trans hkeep).trans hd)) Hs.out hbl (Hnr.out.keep (hkeep.trans hd)) Hfi.out.len Hfi.out.row
    have hBl1 : (Lv.behindP S x.vals.l.length (x.N.getD b [])).length = x.vals.l.length := by
     refine (Lv.behind_getD (n := S) (nv := x.vals.l.length) (next := x.N.getD b []) (fun t ht => ?_) 0).1
     rw [SsD.N_get hy] at ht
     obtain ⟨u, hu, rfl⟩ := List.mem_map.1 (show t ∈ nat (y.nextI x.blocks.l.length) from ht)
     have hu2 := SsD.nextI_mem hu
     obtain ⟨l', _, e1, e2⟩ := Hfi.out.get (b := u.toNat) (by omega)
     rw [e2]; exact e1
    rw [Hop.out.agg, Hop.out.nb, Hop.out.nv] at hbe
    rw [Hop.out.nv] at hBl1
    obtain ⟨BHL, hBHL⟩ : ∃ z, Lv.behindP S nv (x.N.getD b []) = z := ⟨_, rfl⟩
    rw [hBHL] at hbe hBl1
    obtain ⟨ml0, hm0, hm0l, hm0v⟩ := hoa.out.marks
    obtain ⟨vs0, hbl0⟩ := hoa.out.rows.blk
    have hne1 : br ≠ bl := hoa.out.rec_.ne hbl0 (by decide)
    have hne2 : br ≠ bm := hoa.out.rec_.ne hm0 (by decide)
    have hm0lt := hm0.lt
    have hat := SsD.atk_lt Hs.out k
    have Hblk := Lib.hid (show ∀ w5 g, Keep wr w5 → BBlk w5 g 4 BHL → wr.heap.size ≤ g → Calls Tryz.prog 30 #[.pointer (some ⟨br, 0, none⟩), .agg #[vp, vr, .slice va nv vc, .slice (some ⟨B, off, none⟩) nb bc], .int .i64 (b : Int), .int .i64 (x.atk k), .slice Ab nv cb, .slice (some ⟨g, 0, none⟩) nv nv] w5
      (fun e w' => (∃ u, e = .returned u) ∧ OfAt w3 w' br bl bm nv (ofL x S (k + 1)) (ofM x (k + 1)) ∧ Ext (fun q => w3.heap.size ≤ q) w5 w') from fun w5 g hk5 hb5 hg5 => by
     have hbo : Own boolC 1 4 w5 w3.heap.size (.slice (some ⟨g, 0, none⟩) nv nv) BHL := by
      have := hb5.own (base := w3.heap.size) (by have := hkeep.size; omega) (by rw [hBl1]; unfold maxLen; omega)
      rwa [hBl1] at this
     have hc := block_calls x b br bl bm w3.heap.size nv nv nv (x.atk k) y Ab (some ⟨g, 0, none⟩) cb nv w2.heap.size w3.heap.size l BHL ml0 (ofL x S k) w5 (Hh.out.keep ((Hk3.out.trans hkeep).trans hk5)) Hs.out hy Hop.out.nv (by rw [← Hop.out.nv]; exact Hin.out b y hbm hy)
      (hoa.out.rec_.keep hk5) (hoa.out.rows.keep hk5) (by rw [ofL_len x S k (by rw [Hm.out]; omega)]; exact Hop.out.nv) (fun q hq => by have := ofL_row x S k (by rw [Hm.out]; omega) q hq; omega) (hm0.keep hk5) hm0l (Nat.le_trans hkeep.size hk5.size)
      (hob3.keep (hkeep.trans hk5)) hl2 (fun e => by have := (hob3.lt bm e).2; omega) hbo hBl1 (fun e => by have e : some g = some bm := e; have := Option.some.inj e; omega) hat.1 hat.2
     rw [Hop.out.agg] at hc
     refine hc.mono ?_
     rintro e w' ⟨h1, h2, ⟨m', h3, h4, h5⟩, h6⟩
     have hE : Ext (fun q => w3.heap.size ≤ q) w5 w' := h6.mono fun i hi e => by rcases e with e | e | ⟨e, _⟩ <;> first | omega | exact e
     refine ⟨h1, ⟨Blk.rngS (hoa.out.rec_.keep hk5) h6 hne1 hne2 (by decide), ?_, ⟨m', h3, h4, fun v hv => ?_⟩, Keep.of_ext (hkeep.trans hk5) hE (fun i hi e => by omega)⟩, hE⟩
     ·rw [ofL_succ hb hy, hl3, Hop.out.nv, hBHL]; exact h2
     ·rw [h5 v hv, ofM_succ hb hy]; exact m2_congr (hm0v v hv))
    have Hbe := Lib.hid hbe
    have Hsucc := Lib.hid (SsD.atk_succ hb hy)
    have hyi := Hs.out.ins y (List.mem_of_getElem? hy)
    have d0r := hkeep.cell d0
    have d1r := hkeep.cell d1
    have d2r := hkeep.cell d2
    have d3r := hkeep.cell d3
    have ltr := Nat.lt_of_lt_of_le lt1 hkeep.size
    have lnr := Nat.lt_of_lt_of_le hbn3 hkeep.size
    have kz0 := fun z : KE (fun q => w3.heap.size ≤ q) wr => z.cell d0r (by show ¬ w3.heap.size ≤ w.heap.size; omega)
    have kz1 := fun z : KE (fun q => w3.heap.size ≤ q) wr => z.cell d1r (by show ¬ w3.heap.size ≤ w.heap.size; omega)
    have kz2 := fun z : KE (fun q => w3.heap.size ≤ q) wr => z.cell d2r (by show ¬ w3.heap.size ≤ w.heap.size; omega)
    have kz3 := fun z : KE (fun q => w3.heap.size ≤ q) wr => z.cell d3r (by show ¬ w3.heap.size ≤ w.heap.size; omega)
    have kzn := fun z : KE (fun q => w3.heap.size ≤ q) wr => z.cell q3r (by show ¬ w3.heap.size ≤ bn; omega)
    obtain ⟨a0, ha0⟩ : ∃ a0, x.atk k = a0 := ⟨_, rfl⟩
    obtain ⟨ln, hln⟩ : ∃ ln, y.ins.l.length = ln := ⟨_, rfl⟩
    rw [ha0] at Hblk Hsucc hat ⊢
    rw [hln] at Hsucc hyi y1 y1w
    obtain ⟨hat0, hat1⟩ := hat
    have k1 : (k : Int) < (m : Int) := by omega
    have k0 : (0 : Int) ≤ (k : Int) := by omega
    have hbb : (b : Int) < (nb : Int) := by omega
    have hb0 : (0 : Int) ≤ (b : Int) := by omega
    have s1 : (0 : Int) ≤ (ln : Int) + 2 := by omega
    have s2 : (ln : Int) + 2 ≤ 1002 := by omega
    have s3 : (0 : Int) ≤ 2 * ((ln : Int) + 2) := by omega
    have s4 : 2 * ((ln : Int) + 2) ≤ 2004 := by omega
    have Hy1 := Lib.hid y1w
    have Hd3 := Lib.hid d3
    clear ha0 hln hb hy hbm hbl hl1 hl2 hl3 hob3 hbe hBl1 hBHL hm0 hm0l hm0v hbl0 hoa hkeep q3 y1w
    go_wp2_with fail
    refine region_begin (S := fun w' => ∃ z : KE (fun q => w3.heap.size ≤ q) wr, w' = z.val) (by kernel_rfl) ?_
    refine region_take [0, 1, 2, 3, 4, 5, 6, 7, 8, 9, 10] [] 2 (by kernel_rfl) (by kernel_rfl) (KE.mk' (hd.ext _)) ?_
    show wpQuiet _ _ _ _ [_, _, _, _, _, _, _, _, _, _, _] _
    repeat (go_big_quiet_step (fail))
    refine wpQuiet_nil ?_
    clear kz0 kz1 kz2 kz3 kzn
    refine region_fixU (i := 11) (fuel := 1) rfl rfl (by kernel_rfl) (fun K hK => ?_)
    go_simp
    refine Hbe.out.mono ?_
    rintro e w5 ⟨g, rfl, hg5, hb5, hk5⟩
    have hk5r := hd.trans hk5
    refine hK _ _ (KE.mk' (hk5r.ext _)) ?_
    clear hK K
    refine region_fixU (i := 12) (fuel := 0) rfl rfl (by kernel_rfl) (fun K hK => ?_)
    go_simp
    refine (Hblk.out w5 g hk5r hb5 hg5).mono ?_
    rintro e w6 ⟨⟨u6, rfl⟩, ho6, hE6⟩
    refine hK _ _ (KE.mk' ((hk5r.ext _).trans hE6 (fun i hi e => e))) ?_
    clear hK K Hblk Hbe
    refine region_done (by kernel_rfl) ?_
    have z3 := ho6.keep.cell Hd3.out
    have zl := Nat.lt_of_lt_of_le lt1 ho6.keep.size
    have z1 := ho6.keep.cell Hy1.out
    have Ho6 := Lib.hid ho6
    clear ho6 hE6 hk5r hk5 hb5 hg5 d0r d1r d2r d3r ltr lnr q1 q3r y1 hd
    go_wp2
    go_roundw
    case rel => exact ⟨k + 1, hin, by go_num, by rw [Hsucc.out], Ho6⟩
    case measure => simp [intOf]; omega
   ·have hkm : m = k := by omega
    subst hkm
    obtain ⟨w5, rfl⟩ : ∃ w5 : World, w5 = wr := ⟨_, rfl⟩
    have r0 : w5.cell? ⟨br, 0, none⟩ = some (.slice (some ⟨bl, 0, none⟩) nv nv) := hoa.out.rec_.cell 0
    have r1 : w5.cell? ⟨br, 1, none⟩ = some (.slice (some ⟨bm, 0, none⟩) nv nv) := hoa.out.rec_.cell 1
    have rl := hoa.out.rec_.lt
    obtain ⟨ml, hm1, hm1l, hm1v⟩ := hoa.out.marks
    have Hm1 := Lib.hid hm1
    have Hm1l := Lib.hid hm1l
    have Hm1v := Lib.hid (show ∀ v, v < nv → ml.getD v false = ofM x x.ord.length v from fun v hv => by rw [hm1v v hv, Hm.out])
    have Hrows := Lib.hid (show RgRows w5 bl w3.heap.size (ofL x S x.ord.length) from by rw [Hm.out]; exact hoa.out.rows)
    have HLl := Lib.hid (show (ofL x S x.ord.length).length = nv from by rw [ofL_len x S _ (Nat.le_refl _)]; exact Hop.out.nv)
    have Hkw5 := Lib.hid (Hk3.out.trans hoa.out.keep)
    clear hm1 hm1l hm1v hoa hkeep
    go_wp2_with fail
    go_loopw [9, 10, 11, 67] (fun vo _ _ vi wr => ∃ (k : Nat) (ls : List LvD), k ≤ nv ∧ vi = .int .i64 k ∧ Hid (Own lvC 2 68 wr w5.heap.size vo ls) ∧ Hid (ls.map (fun z => (z.val, z.l)) = ofR x S k) ∧ Hid (∀ z ∈ ls, LvOk w5 z) ∧ Hid (Keep w5 wr)) (fun _ _ _ vi _ => nv - (intOf vi).toNat)
    case atStart => exact ⟨0, [], Nat.zero_le _, rfl, Lib.hid (Own.nil _ _ _ _ _), Lib.hid rfl, Lib.hid (fun z hz => by simp at hz), Lib.hid (Keep.refl _)⟩
    case round =>
     obtain ⟨k, ls, hk, rfl, hown, hls, hok, hkeep⟩ := hrel
     by_cases hin : k < nv
     ·have hkL : k < (ofL x S x.ord.length).length := by rw [HLl.out]; exact hin
      obtain ⟨Ak, ck, q0, hc1, hc2, hok1⟩ := Hrows.out.at_ hkL
      obtain ⟨lk, hlk⟩ : ∃ lk, (ofL x S x.ord.length)[k] = lk := ⟨_, rfl⟩
      have hlkD : (ofL x S x.ord.length).getD k [] = lk := by rw [List.getD_eq_getElem?_getD, List.getElem?_eq_getElem hkL, hlk]; rfl
      rw [hlk] at q0 hc1 hok1
      have hkm : k < ml.length := by rw [Hm1l.out]; exact hin
      have q1 := Hm1.out.get hkm
      have hmk : ml[k] = ofM x x.ord.length k := by rw [← Hm1v.out k hin, List.getD_eq_getElem?_getD, List.getElem?_eq_getElem hkm]; rfl
      rw [hmk] at q1
      have q0r := hkeep.out.cell q0
      have q1r := hkeep.out.cell q1
      have r1r := hkeep.out.cell r1
      have rlr := Nat.lt_of_lt_of_le rl hkeep.out.size
      have blr := Nat.lt_of_lt_of_le Hrows.out.blk.choose_spec.lt hkeep.out.size
      have bmr := Nat.lt_of_lt_of_le Hm1.out.lt hkeep.out.size
      have k1 : (k : Int) < (nv : Int) := by omega
      have k0 : (0 : Int) ≤ (k : Int) := by omega
      have hsn := ofR_succ x S k
      rw [hlkD] at hsn
      have hlen : ls.length ≤ k := by
       have := congrArg List.length hls.out
       rw [List.length_map] at this
       rw [this]; exact ofR_len x S k
      cases hM : ofM x x.ord.length k with
      | false =>
       rw [hM] at hsn q1r
       have Hn := Lib.hid (show ls.map (fun z => (z.val, z.l)) = ofR x S (k + 1) from by rw [hsn, hls.out]; simp)
       clear hM hsn hls hlk hlkD hok1 q0 q1 hmk hlen
       go_wp2
       go_roundw
       case rel => exact ⟨k + 1, ls, hin, by go_num, hown, Hn, hok, hkeep⟩
       case measure => simp [intOf]; omega
      | true =>
       rw [hM] at hsn q1r
       obtain ⟨Ao, co, hform, A', c', w7, hrun, ho7, hE7, _, _⟩ := hown.out.push1 (P := Tryz.prog) elL (⟨(k : Int), Ak, lk, ck⟩ : LvD) (by omega) (by omega) hkeep.out.size 49
       subst hform
       have Hn := Lib.hid (show (ls ++ [(⟨(k : Int), Ak, lk, ck⟩ : LvD)]).map (fun z => (z.val, z.l)) = ofR x S (k + 1) from by rw [hsn, List.map_append, hls.out]; rfl)
       have Hok2 := Lib.hid (show ∀ z ∈ ls ++ [(⟨(k : Int), Ak, lk, ck⟩ : LvD)], LvOk w5 z from fun z hz => by
        rcases List.mem_append.1 hz with hz | hz
        ·exact hok.out z hz
        ·obtain rfl := List.mem_singleton.1 hz
         exact ⟨hok1.segN.2, Nat.le_trans hc1 hc2⟩)
       have Ho7 := Lib.hid ho7
       have Hk7 := Lib.hid (Keep.of_ext hkeep.out hE7 (fun i hi e => by omega))
       have hrun : (Builtin.append_ #[49, 49] 49 #[.slice Ao ls.length co, .slice (some ⟨wr.heap.size, 0, none⟩) 1 1]).run Tryz.prog (wr.alloc (.cells #[.int .i64 (k : Int), .slice Ak lk.length ck] 68)) = .ok (.slice A' (ls.length + 1) c') w7 := hrun
       obtain ⟨nl, hnl⟩ : ∃ nl, ls.length = nl := ⟨_, rfl⟩
       obtain ⟨nk, hnk⟩ : ∃ nk, lk.length = nk := ⟨_, rfl⟩
       rw [hnl, hnk] at hrun
       rw [hnl] at Ho7 ⊢
       rw [hnk] at q0r
       clear hM hsn hls hlk hlkD hok1 q0 q1 hmk hlen hown hok hkeep ho7 hE7 hnl hnk hc1
       go_wp2_with (at_builtin; refine wpList_append_eq rfl _ _ _ rfl _ _ rfl rfl _ _ hrun ?_; clear hrun)
       go_roundw
       case rel => exact ⟨k + 1, _, hin, by go_num, Ho7, Hn, Hok2, Hk7⟩
       case measure => simp [intOf]; omega
     ·have hkn : nv = k := by omega
      subst hkn
      obtain ⟨Ao, co, hform, _, _⟩ := hown.out.form
      subst hform
      have Hfin := Lib.hid (show Lives wr Ao ls ∧ ls.map (fun z => (z.val, z.l)) = ofR x S x.vals.l.length ∧ Keep w wr from ⟨⟨hown.out.segN.2, fun z hz => (hok.out z hz).keep hkeep.out⟩, by rw [Hop.out.nv]; exact hls.out, Hkw5.out.trans hkeep.out⟩)
      clear hown hls hok hkeep
      go_wp2
      go_ret
      exact ⟨Ao, ls, co, S, rfl, Hfin.out.1, Hfin.out.2.1, Hfi.out, Hsh.out, Hfin.out.2.2⟩
end Go.Proofs.YtjpmiejgcnfiiaaGreat
namespace Go.Proofs.YtjpmiejgcnfiiaaGreat
open Go

/-- What is true of a form that the check lets through, as far as the search needs it. -/
structure Fits (x : SsD) : Prop where
 inn : ∀ (b : Nat) (y : BkD), x.blocks.l[b]? = some y → y.In x.vals.l.length
 fit : ∀ b ∈ x.ord, ∀ v, (x.F.getD b default).Fit v
 par : ∀ b ∈ x.ord, ∀ v, v ∈ (x.F.getD b default).params → ∀ i ∈ (x.F.getD b default).ins, v ∉ i.outs

open Classical in
noncomputable def needB (x : SsD) (v b : Nat) : Bool := decide (Lv.Need x.F x.ord v b)
open Classical in
noncomputable def outB (x : SsD) (v b : Nat) : Bool := decide (∃ t ∈ (x.F.getD b default).next, Lv.Need x.F x.ord v t)
open Classical in
noncomputable def thereB (x : SsD) (v : Nat) : Bool := decide (∃ b ∈ x.ord, (x.F.getD b default).makes v)
theorem needB_iff {x : SsD} {v b : Nat} : needB x v b = true ↔ Lv.Need x.F x.ord v b := by unfold needB; simp
theorem outB_iff {x : SsD} {v b : Nat} : outB x v b = true ↔ ∃ t ∈ (x.F.getD b default).next, Lv.Need x.F x.ord v t := by unfold outB; simp
theorem thereB_iff {x : SsD} {v : Nat} : thereB x v = true ↔ ∃ b ∈ x.ord, (x.F.getD b default).makes v := by unfold thereB; simp
theorem Lv.Need.iff {F : List Lv.PBlk} {order : List Nat} {v b : Nat} (hb : b ∈ order) : Lv.Need F order v b ↔ ¬ (F.getD b default).makes v ∧ ((F.getD b default).uses v ∨ ∃ t ∈ (F.getD b default).next, Lv.Need F order v t) := by
 constructor
 ·intro h
  cases h with
  | use h1 h2 h3 => exact ⟨h2, .inl h3⟩
  | flow h1 h2 h3 h4 => exact ⟨h2, .inr ⟨_, h3, h4⟩⟩
 ·rintro ⟨h2, h3⟩
  exact Lv.Need.step hb h2 h3
theorem needB_step {x : SsD} {v b : Nat} (hb : b ∈ x.ord) : needB x v b = true ↔ ¬ (x.F.getD b default).makes v ∧ ((x.F.getD b default).uses v ∨ outB x v b = true) := by
 rw [needB_iff, outB_iff]; exact Lv.Need.iff hb
theorem bool_eq {a b : Bool} {p : Prop} (h : a = true ↔ p) (k : b = true ↔ p) : a = b := by
 cases a <;> cases b <;> simp_all

section
variable {x : SsD} {S : List (List Bool)}
theorem FI.need (hf : Fits x) (h : FI x S) (hs : Shut x S) (b v : Nat) : (S.getD b []).getD v false = needB x v b :=
 bool_eq (Lv.FSt.found (x.fok (fun b y _ hy => hf.inn b y hy)) hf.fit h.fs (h.sound hf.fit) hs b v) needB_iff
theorem SsD.F_next {b : Nat} {y : BkD} (hy : x.blocks.l[b]? = some y) : (x.F.getD b default).next = x.N.getD b [] := by
 rw [SsD.F_get hy, SsD.N_get hy]; rfl
theorem FI.outs (hf : Fits x) (h : FI x S) (hs : Shut x S) {b : Nat} (hb : b < x.blocks.l.length) (v : Nat) : (Lv.behindP S x.vals.l.length (x.N.getD b [])).getD v false = outB x v b := by
 obtain ⟨y, hy⟩ := get_some hb
 refine bool_eq (Lv.behind_getD (n := S) (nv := x.vals.l.length) (next := x.N.getD b []) (fun t ht => ?_) v).2 ?_
 ·have hNb : b < x.N.length := by rw [SsD.N_len]; exact hb
  have htl := x.N_lt _ (by rw [List.getD_eq_getElem?_getD, List.getElem?_eq_getElem hNb]; exact List.getElem_mem hNb) t ht
  rw [SsD.N_len] at htl
  obtain ⟨l, _, h2, h3⟩ := h.get htl
  rw [h3]; exact h2
 ·rw [outB_iff, SsD.F_next hy]
  constructor
  ·rintro ⟨t, ht, hn⟩; exact ⟨t, ht, by rw [h.need hf hs]; exact needB_iff.2 hn⟩
  ·rintro ⟨t, ht, hn⟩; rw [h.need hf hs] at hn; exact ⟨t, ht, needB_iff.1 hn⟩
/-- The rows of ranges, as the program makes them. -/
theorem ofL_rows (hf : Fits x) (h : FI x S) (hs : Shut x S) {v : Nat} (hv : v < x.vals.l.length) : ∀ k, k ≤ x.ord.length →
  (ofL x S k).getD v [] = Lv.rowsFrom x.F (fun b a => Lv.rangeP (x.F.getD b default) v a (needB x v b) (outB x v b)) (x.ord.take k) 0 []
 | 0, _ => by
  rw [ofL, List.take_zero]
  show _ = []
  rw [List.getD_eq_getElem?_getD, List.getElem?_replicate]; split <;> rfl
 | k + 1, hk => by
  have ih := ofL_rows hf h hs hv k (by omega)
  obtain ⟨b, hb⟩ := get_some (l := x.ord) (k := k) (by omega)
  obtain ⟨y, hy⟩ := SsD.ord_get hb
  have hbl := (List.getElem?_eq_some_iff.1 hy).1
  have hlen := ofL_len x S k (by omega)
  rw [ofL_succ hb hy, List.getD_eq_getElem?_getD, addK_get (by rw [hlen]; exact hv), if_pos hv, List.take_add_one, hb]
  show _ = Lv.rowsFrom _ _ (x.ord.take k ++ [b]) 0 []
  rw [Lv.rowsFrom_snoc, ← ih]
  simp only [h.need hf hs, h.outs hf hs hbl]
  rw [SsD.F_get hy]
  rfl
theorem ofM_iff (x : SsD) (v : Nat) : ∀ k, k ≤ x.ord.length → (ofM x k v = true ↔ ∃ b ∈ x.ord.take k, (x.F.getD b default).makes v)
 | 0, _ => by simp [ofM]
 | k + 1, hk => by
  have ih := ofM_iff x v k (by omega)
  obtain ⟨b, hb⟩ := get_some (l := x.ord) (k := k) (by omega)
  obtain ⟨y, hy⟩ := SsD.ord_get hb
  rw [ofM_succ hb hy, m2_end y x.blocks.l.length, ih, List.take_add_one, hb, ← SsD.F_get hy]
  constructor
  ·rintro (⟨c, hc, hm⟩ | hm)
   ·exact ⟨c, by simp [hc], hm⟩
   ·exact ⟨b, by simp, hm⟩
  ·rintro ⟨c, hc, hm⟩
   rcases List.mem_append.1 hc with hc | hc
   ·exact .inl ⟨c, hc, hm⟩
   ·have : c = b := by simpa using hc
    subst this; exact .inr hm
end
/-- The ranges of one value, as the reference makes them. -/
noncomputable def rowR (x : SsD) (v k : Nat) : List Lv.Rng := Lv.rowsFrom x.F (fun b a => Lv.rangeR (x.F.getD b default) v a (needB x v b) (outB x v b)) (x.ord.take k) 0 []
/-- The first k values of what the reference gives. -/
noncomputable def liveR (x : SsD) (k : Nat) : List (Int × List Lv.Rng) := (List.range k).filterMap fun v => if thereB x v then some ((v : Int), rowR x v x.ord.length) else none
theorem rowR_succ {x : SsD} {v k b : Nat} (hb : x.ord[k]? = some b) : rowR x v (k + 1) = match Lv.rangeR (x.F.getD b default) v (x.atk k) (needB x v b) (outB x v b) with | some r => Lv.joinR (rowR x v k) r | none => rowR x v k := by
 unfold rowR
 rw [List.take_add_one, hb]
 show Lv.rowsFrom _ _ (x.ord.take k ++ [b]) 0 [] = _
 rw [Lv.rowsFrom_snoc]
 rfl
theorem liveR_succ (x : SsD) (k : Nat) : liveR x (k + 1) = liveR x k ++ (if thereB x k then [((k : Int), rowR x k x.ord.length)] else []) := by
 unfold liveR
 rw [List.range_succ, List.filterMap_append]
 congr 1
 cases hk : thereB x k <;> simp [hk]
theorem ofR_eq {x : SsD} {S : List (List Bool)} (hf : Fits x) (h : FI x S) (hs : Shut x S) : ofR x S x.vals.l.length = liveR x x.vals.l.length := by
 have key : ∀ k, k ≤ x.vals.l.length → ofR x S k = liveR x k := by
  intro k
  induction k with
  | zero => intro _; rfl
  | succ k ih =>
   intro hk
   rw [ofR_succ, liveR_succ, ih (by omega)]
   have h1 : ofM x x.ord.length k = thereB x k := bool_eq (ofM_iff x k _ (Nat.le_refl _)) (by rw [List.take_length]; exact thereB_iff)
   have h2 := ofL_rows hf h hs (v := k) (by omega) _ (Nat.le_refl _)
   rw [List.take_length, Lv.rows_eq (fun b hb => hf.fit b hb k) (fun b hb => hf.par b hb k) (fun b hb => needB_step hb)] at h2
   rw [h1, h2]
   unfold rowR
   rw [List.take_length]
 exact key _ (Nat.le_refl _)
/-- The values that are needed at the beginning of a block, of the first k. -/
noncomputable def needL (x : SsD) (b k : Nat) : List Nat := (List.range k).filter fun v => needB x v b
theorem needL_succ (x : SsD) (b k : Nat) : needL x b (k + 1) = needL x b k ++ (if needB x k b then [k] else []) := by
 unfold needL
 rw [List.range_succ, List.filter_append]
 congr 1
 cases hk : needB x k b <;> simp [hk]
theorem needL_le (x : SsD) (b k : Nat) : (needL x b k).length ≤ k := by
 unfold needL
 exact Nat.le_trans (List.length_filter_le _ _) (by simp)
theorem needL_out {x : SsD} {b : Nat} (hb : b ∉ x.ord) (k : Nat) : needL x b k = [] := by
 unfold needL
 rw [List.filter_eq_nil_iff]
 intro v _ h
 rcases needB_iff.1 h with ⟨h1, _, _⟩ | ⟨h1, _, _, _⟩ <;> exact hb h1
end Go.Proofs.YtjpmiejgcnfiiaaGreat
