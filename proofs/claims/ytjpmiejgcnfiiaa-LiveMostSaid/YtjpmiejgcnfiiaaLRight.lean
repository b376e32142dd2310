/-
  The program's right.
-/
import Derived.Test.YtjpmiejgcnfiiaaLForm
set_option linter.unusedVariables false
set_option linter.unusedSimpArgs false
namespace Go.Proofs.Ytjpmiejgcnfiiaa
open Go Go.RowKit

set_option maxHeartbeats 4000000 in
theorem right_calls (x : SsD) (A : Option Addr) (c base : Nat) (w : World) (h : SsOk w x) (hs : Small x) (hown : Own intC 1 3 w base (.slice A x.ord.length c) (ints x.ord)) (hin : ∀ b y, b ∈ x.ord → x.blocks.l[b]? = some y → y.In x.vals.l.length) :
    Calls Try.prog 17 #[.agg (ssC x).toArray, .slice A x.ord.length c] w fun e w' => e = .returned (.bool true) ∧ Keep w w' := by
  obtain ⟨vp, vr, va, nv, vc, ba, nb, bc, hop⟩ := x.opened
  rw [hop.agg]
  obtain ⟨W, hW, hk, c0, c1, c2, c3, lt⟩ := box4 w 47 vp vr (.slice va nv vc) (.slice ba nb bc)
  obtain ⟨Wo, hWo⟩ : ∃ Wo, W.alloc (.cells #[.bool true] 4) = Wo := ⟨_, rfl⟩
  have hko : Keep W Wo := by rw [← hWo]; exact (Keep.refl _).alloc _
  have hbo : Blk Wo W.heap.size 4 [.bool true] := by rw [← hWo]; exact Blk.new W _ _
  have hsz : W.heap.size = w.heap.size + 1 := by rw [← hW]; simp
  rw [hsz] at hbo
  have hso : Wo.heap.size = w.heap.size + 1 + 1 := by rw [← hWo]; simp [hsz]
  have d2 := hko.cell c2
  have d3 := hko.cell c3
  have hlo : w.heap.size < Wo.heap.size := by omega
  have Hk := Lib.hid (hk.trans hko)
  have Hok := Lib.hid (h.keep (hk.trans hko))
  have Hown := Lib.hid (hown.keep (hk.trans hko))
  have Hin := Lib.hid hin
  have Hop := Lib.hid hop
  have Hs := Lib.hid hs
  have Hbo := Lib.hid hbo
  have Hwo := Lib.hid (show ∀ b y, x.blocks.l[b]? = some y → BkOk w y from fun b y hy => h.blocks y (List.mem_of_getElem? hy))
  have Hok0 := Lib.hid h
  have Hnv := Lib.hid hop.nv
  obtain ⟨ds, hds⟩ : ∃ ds, x.ord = ds := ⟨_, rfl⟩
  rw [hds] at Hown ⊢
  have Hds := Lib.hid hds
  have hdl : ds.length ≤ 1000 := by rw [← hds]; exact Nat.le_trans x.ord_len hs.blocks
  obtain ⟨m, hm⟩ : ∃ m, ds.length = m := ⟨_, rfl⟩
  rw [hm] at Hown hdl ⊢
  have Hm := Lib.hid hm
  have Hsz := Lib.hid hsz
  have Hso := Lib.hid hso
  clear h hs hown hin hop hbo hko hk c0 c1 c2 c3 lt hds hm hso
  go_enter Try.func17, Try.ntmps17
  go_wp2_with fail
  clear hW hWo
  go_loopw [14] (fun vi wr => ∃ k : Nat, k ≤ m ∧ vi = .int .i64 k ∧ Hid (Blk wr (w.heap.size + 1) 4 [.bool true]) ∧ Hid (Ext (fun k => k = w.heap.size + 1) Wo wr)) (fun vi _ => m - (intOf vi).toNat)
  case atStart => exact ⟨0, Nat.zero_le _, rfl, Hbo, Lib.hid (Ext.refl _ _)⟩
  case round =>
    obtain ⟨k, hk, rfl, hb0, hE⟩ := hrel
    have HW := Lib.hid (show ∀ w', Ext (fun k => k = w.heap.size + 1) Wo w' → Keep w w' from fun w' h => Keep.of_ext Hk.out h (fun k hk e => by omega))
    by_cases hin : k < m
    · obtain ⟨b, hb⟩ := get_some (l := ds) (k := k) (by rw [Hm.out]; exact hin)
      have hbm : b ∈ x.ord := by rw [Hds.out]; exact List.mem_of_getElem? hb
      obtain ⟨y, hy⟩ := get_some (x.ord_spec.2 b hbm)
      have Hy := Lib.hid (Hin.out b y hbm hy)
      have Hyk := Lib.hid (Hwo.out b y hy)
      have Hyg := Lib.hid hy
      obtain ⟨b1, o1, hA, hb1, q0⟩ := ints_at Hown.out (Keep.refl _) hb
      subst hA
      have hb1n : b1 ≠ w.heap.size + 1 := fun e => Own.blk_apart_int Hown.out Hbo.out (by decide) e
      have q1 := (World.cell?_of_block (hE.out.block b1 hb1 hb1n)).trans q0
      have HB := Lib.hid (fun (wq : World) (hq : Ext (fun k => k = w.heap.size + 1) Wo wq) => bk_open Hop.out Hok0.out (HW.out wq hq) hy)
      obtain ⟨B, off, hB, hB1, hbn, y0, y1, y2, y3, y4, y5, y6⟩ := HB.out _ hE.out
      subst hB
      have d3r := (World.cell?_of_block (hE.out.block w.heap.size hlo (by omega))).trans d3
      have d2r := (World.cell?_of_block (hE.out.block w.heap.size hlo (by omega))).trans d2
      have hkk : (k : Int) < (m : Int) := by omega
      have hk0 : (0 : Int) ≤ (k : Int) := by omega
      have hbb : (b : Int) < (nb : Int) := by omega
      have hbb0 : (0 : Int) ≤ (b : Int) := by omega
      have lr := Nat.lt_of_lt_of_le hlo hE.out.size
      have hlk1 := look_calls y.params.l y.params.a y.params.c nv vc w.heap.size (w.heap.size + 1) va wr (by rw [← Hnv.out]; exact Hy.out.params) (Hyk.out.params.keep (HW.out _ hE.out)).seg (Hyk.out.params.len) hb0.out d2r lr (by omega) (Hyk.out.params.away (by omega))
      have Hlk1 := Lib.hid hlk1
      clear hlk1 hb hy q0 d2r
      go_wp2_with fail
      refine Hlk1.out.mono ?_
      clear Hlk1
      rintro e w2 ⟨⟨v2, rfl⟩, hb2, hE2⟩
      have hE2' : Ext (fun k => k = w.heap.size + 1) Wo w2 := hE.out.trans hE2 (fun _ _ e => e)
      obtain ⟨_, _, e, _, _, _, z1, _⟩ := HB.out _ hE2'
      cases e
      have d3s := (World.cell?_of_block (hE2'.block w.heap.size hlo (by omega))).trans d3
      have Hb2 := Lib.hid hb2
      have HE2 := Lib.hid hE2'
      obtain ⟨li, hli⟩ : ∃ li, y.ins.l.length = li := ⟨_, rfl⟩
      have hlim : li ≤ maxLen := by rw [← hli]; exact Hyk.out.insLen
      unfold maxLen at hlim
      have Hli := Lib.hid hli
      obtain ⟨ya, hya⟩ : ∃ ya, y.ins.a = ya := ⟨_, rfl⟩
      have Hya := Lib.hid hya
      rw [hli, hya] at z1 y1
      clear hb2 hE2 hE2' hb0 hE d3r q1 y0 y1 y2 y3 y4 y5 y6 hli hya
      go_wp2_with fail
      go_loopw [33] (fun vj wr => ∃ j : Nat, j ≤ li ∧ vj = .int .i64 j ∧ Hid (Blk wr (w.heap.size + 1) 4 [.bool true]) ∧ Hid (Ext (fun k => k = w.heap.size + 1) Wo wr)) (fun vj _ => li - (intOf vj).toNat)
      case atStart => exact ⟨0, Nat.zero_le _, rfl, Hb2, HE2⟩
      case round =>
        clear Hb2 HE2 z1 d3s lr
        obtain ⟨j, hj, rfl, hb0, hE⟩ := hrel
        by_cases hjn : j < li
        · obtain ⟨i, hi⟩ := get_some (l := y.ins.l) (k := j) (by rw [Hli.out]; exact hjn)
          have Hmi := Lib.hid (List.mem_of_getElem? hi)
          obtain ⟨Bi, offi, hBi, hBi1, _, i0, i1, i2, i3, i4, i5, i6⟩ := in_open Hyk.out (HW.out _ hE.out) hi
          rw [Hya.out] at hBi
          subst hBi
          have lBi := Nat.lt_of_lt_of_le hBi1 (HW.out _ hE.out).size
          obtain ⟨W2, hW2, kW2, p5, p6, lW2, szW2⟩ := box7 wr 37 (.int .i64 i.kind) (.int .i64 i.op) (.int .i64 i.a) (.int .i64 i.b) (.int .u64 i.n) (.slice i.args.a i.args.l.length i.args.c) (.slice i.outs.a i.outs.l.length i.outs.c)
          have lob : w.heap.size + 1 < wr.heap.size := hb0.out.lt
          have hEW : Ext (fun k => k = w.heap.size + 1) Wo W2 := hE.out.trans (kW2.ext _) (fun _ _ e => e)
          have kWW := HW.out _ hEW
          have hd2 := (World.cell?_of_block (hEW.block w.heap.size hlo (by omega))).trans d2
          have HI := Lib.hid (Hyk.out.ins i Hmi.out)
          have hlk1 := look_calls i.args.l i.args.a i.args.c nv vc w.heap.size (w.heap.size + 1) va W2 (by rw [← Hnv.out]; exact Hy.out.args i Hmi.out) (HI.out.args.keep kWW).seg HI.out.args.len (hb0.out.keep kW2) hd2 (by omega) (by omega) (HI.out.args.away (by omega))
          have Hlk1 := Lib.hid hlk1
          have HEW := Lib.hid hEW
          have hjj : (j : Int) < (li : Int) := by omega
          have hj0 : (0 : Int) ≤ (j : Int) := by omega
          clear hlk1 hi hd2 hEW kWW hb0 hE kW2
          go_wp2_with fail
          refine Hlk1.out.mono ?_
          clear Hlk1
          rintro e w3 ⟨⟨v3, rfl⟩, hb3, hE3⟩
          have hE3' : Ext (fun k => k = w.heap.size + 1) Wo w3 := HEW.out.trans hE3 (fun _ _ e => e)
          have r6 := (World.cell?_of_block (hE3.block wr.heap.size lW2 (by omega))).trans p6
          have kW3 := HW.out _ hE3'
          have hd3 := (World.cell?_of_block (hE3'.block w.heap.size hlo (by omega))).trans d2
          have ls3 := Nat.lt_of_lt_of_le lW2 hE3.size
          have hlk2 := look_calls i.outs.l i.outs.a i.outs.c nv vc w.heap.size (w.heap.size + 1) va w3 (by rw [← Hnv.out]; exact Hy.out.outs i Hmi.out) (HI.out.outs.keep kW3).seg HI.out.outs.len hb3 hd3 (by omega) (by omega) (HI.out.outs.away (by omega))
          have Hlk2 := Lib.hid hlk2
          have HE3 := Lib.hid hE3'
          clear hlk2 hd3 hE3 hE3' kW3 hb3 i0 i1 i2 i3 i4 i5 i6 p5 p6 hW2
          go_wp2_with fail
          refine Hlk2.out.mono ?_
          clear Hlk2
          rintro e w4 ⟨⟨v4, rfl⟩, hb4, hE4⟩
          have Hb4 := Lib.hid hb4
          have HE4 := Lib.hid (show Ext (fun k => k = w.heap.size + 1) Wo w4 from HE3.out.trans hE4 (fun _ _ e => e))
          clear hb4 hE4 r6
          go_wp2
          go_roundw
          case rel =>
            exact ⟨j + 1, hjn, by go_num, Hb4, HE4⟩
          case measure => simp [intOf]; omega
        · obtain ⟨_, _, e, _, _, y0, y1, y2, y3, y4, y5, y6⟩ := HB.out _ hE.out
          cases e
          rw [Hya.out] at y1
          have d3s := (World.cell?_of_block (hE.out.block w.heap.size hlo (by omega))).trans d3
          have lr := Nat.lt_of_lt_of_le hlo hE.out.size
          have hends := ends_calls y wr (Hyk.out.keep (HW.out _ hE.out)) (Hs.out.ends y (List.mem_of_getElem? Hyg.out))
          unfold RwD.v at hends
          have Hends := Lib.hid hends
          have hob : w.heap.size + 1 < wr.heap.size := hb0.out.lt
          clear hends
          go_wp2_with fail
          refine Hends.out.mono ?_
          clear Hends
          rintro e w5 ⟨v5, rfl, hown5, hk5⟩
          obtain ⟨A5, c5, rfl, hl5, hc5⟩ := hown5.form
          have hE5 : Ext (fun k => k = w.heap.size + 1) Wo w5 := hE.out.trans (hk5.ext _) (fun _ _ e => e)
          have hd5 := (World.cell?_of_block (hE5.block w.heap.size hlo (by omega))).trans d2
          have ls5 := Nat.lt_of_lt_of_le lr hk5.size
          have hlk3 := look_calls y.endsI A5 c5 nv vc w.heap.size (w.heap.size + 1) va w5 (by rw [← Hnv.out]; exact Hy.out.ends) hown5.segN.2 (Nat.le_trans hl5 hc5) (hb0.out.keep hk5) hd5 (by omega) (by omega) (fun ad ha _ => by have := hown5.addr_ge ha; omega)
          have Hlk3 := Lib.hid hlk3
          have HE5 := Lib.hid hE5
          obtain ⟨l5, hl5⟩ : ∃ l5, y.endsI.length = l5 := ⟨_, rfl⟩
          rw [hl5] at Hlk3 ⊢
          clear hlk3 hd5 hE5 hk5 hown5 y0 y1 y2 y3 y4 y5 y6 d3s hl5 hc5
          go_wp2_with fail
          refine Hlk3.out.mono ?_
          clear Hlk3
          rintro e w6 ⟨⟨v6, rfl⟩, hb6, hE6⟩
          have Hb6 := Lib.hid hb6
          have HE6 := Lib.hid (show Ext (fun k => k = w.heap.size + 1) Wo w6 from HE5.out.trans hE6 (fun _ _ e => e))
          clear hb6 hE6
          go_wp2
          go_roundw
          case rel => exact ⟨k + 1, hin, by go_num, Hb6, HE6⟩
          case measure => simp [intOf]; omega
    · have o1 : wr.cell? ⟨w.heap.size + 1, 0, none⟩ = some (.bool true) := hb0.out.cell 0
      have ol := hb0.out.lt
      have Hkf := Lib.hid (HW.out _ hE.out)
      clear hb0 hE
      go_wp2
      go_ret
      exact ⟨rfl, Hkf.out⟩
end Go.Proofs.Ytjpmiejgcnfiiaa
