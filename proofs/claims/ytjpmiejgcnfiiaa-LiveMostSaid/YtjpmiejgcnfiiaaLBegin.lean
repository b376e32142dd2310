/-
  The program's begin.
-/
import Derived.Test.YtjpmiejgcnfiiaaLRng
set_option linter.unusedVariables false
set_option linter.unusedSimpArgs false
namespace Go.Proofs.Ytjpmiejgcnfiiaa
open Go Go.RowKit Go.Shelf
attribute [local go_sem] Oper.semAt_some

/-! ### A row of bools in which the places of a row of numbers are set -/

def setK (b : Bool) (l : List Int) (s : List Bool) (k : Nat) : List Bool := Lv.setAll (nat (l.take k)) b s
theorem setK_zero (b : Bool) (l : List Int) (s : List Bool) : setK b l s 0 = s := rfl
theorem setK_succ {b : Bool} {l : List Int} {s : List Bool} {k u : Nat} (h : l[k]? = some (u : Int)) : setK b l s (k + 1) = (setK b l s k).set u b := by
  unfold setK nat Lv.setAll
  rw [List.take_add_one, h, List.map_append, List.foldl_append]; rfl
theorem setK_len (b : Bool) (l : List Int) (s : List Bool) (k : Nat) : (setK b l s k).length = s.length := Lv.setAll_len _ _ _
theorem setK_end (b : Bool) {l : List Int} (s : List Bool) {k : Nat} (h : l.length ≤ k) : setK b l s k = Lv.setAll (nat l) b s := by
  unfold setK; rw [List.take_of_length_le h]
/-- One instruction backwards. -/
def insB (i : InD) (s : List Bool) : List Bool := Lv.setAll (nat i.args.l) true (Lv.setAll (nat i.outs.l) false s)
theorem insB_len (i : InD) (s : List Bool) : (insB i s).length = s.length := by unfold insB; rw [Lv.setAll_len, Lv.setAll_len]
def foldB (l : List InD) (pre : List (Fin l.length)) (s : List Bool) : List Bool := pre.foldl (fun s i => insB l[i.1] s) s
theorem foldB_snoc (l : List InD) (pre : List (Fin l.length)) (x : Fin l.length) (s : List Bool) : foldB l (pre ++ [x]) s = insB l[x.1] (foldB l pre s) := by unfold foldB; rw [List.foldl_append]; rfl
theorem foldB_len (l : List InD) (pre : List (Fin l.length)) (s : List Bool) : (foldB l pre s).length = s.length := by
  unfold foldB
  induction pre generalizing s with
  | nil => rfl
  | cons x pre ih => rw [List.foldl_cons, ih, insB_len]
theorem foldB_dn (l : List InD) (s : List Bool) : ∀ (k : Nat) (h : k ≤ l.length), foldB l (dn k h) s = (l.drop (l.length - k)).foldr insB s
  | 0, _ => by
    rw [Nat.sub_zero, List.drop_length]; rfl
  | k + 1, h => by
    rw [dn, foldB_snoc, foldB_dn l s k, List.drop_eq_getElem_cons (show l.length - (k + 1) < l.length by omega), List.foldr_cons]
    have e1 : l.length - (k + 1) + 1 = l.length - k := by omega
    have e2 : l.length - 1 - k = l.length - (k + 1) := by omega
    simp only [e1, e2]
theorem begin_eq (y : BkD) (n : Nat) (s : List Bool) : Lv.setAll (nat y.params.l) false (foldB y.ins.l (dn y.ins.l.length (Nat.le_refl _)) (Lv.setAll (nat y.endsI) true s)) = Lv.beginP (y.p n) s := by
  rw [foldB_dn, Nat.sub_self, List.drop_zero]
  unfold Lv.beginP
  show _ = Lv.setAll (nat y.params.l) false ((y.ins.l.map InD.p).foldr _ _)
  rw [List.foldr_map]; rfl
theorem int_in {l : List Int} {nv k : Nat} (h : ∀ v ∈ l, 0 ≤ v ∧ v < (nv : Int)) (hk : k < l.length) : ∃ u : Nat, l[k]? = some (u : Int) ∧ u < nv := by
  have h1 := h l[k] (List.getElem_mem hk)
  exact ⟨l[k].toNat, by rw [List.getElem?_eq_getElem hk]; congr 1; omega, by omega⟩
/-- A number of a row, and its place in the row of bools. -/
theorem at_place {w wr : World} {A : Option Addr} {l : List Int} {nv k r : Nat} {s : List Bool} (hb : ∀ v ∈ l, 0 ≤ v ∧ v < (nv : Int)) (hs : Seg w A (l.flatMap intC)) (hk : k < l.length) (hE : Ext (fun k => k = r) w wr) (hA : ∀ ad, A = some ad → l ≠ [] → ad.block ≠ r) (hB : BBlk wr r 4 s) (hl : s.length = nv) :
    ∃ (u b off : Nat) (z : Bool), l[k]? = some (u : Int) ∧ u < nv ∧ A = some ⟨b, off, none⟩ ∧ wr.cell? ⟨b, off + k, none⟩ = some (.int .i64 (u : Int)) ∧ wr.cell? ⟨r, u, none⟩ = some (.bool z) ∧ wr.frozen? ⟨r, u, none⟩ = false ∧ r < wr.heap.size := by
  obtain ⟨u, hu, hun⟩ := int_in hb hk
  obtain ⟨b, off, e, hbl, hc⟩ := int_at hs (Keep.refl _) hk
  have h1 := Option.some.inj ((List.getElem?_eq_getElem hk).symm.trans hu)
  rw [h1] at hc
  have hne := hA _ e (fun e => by rw [e] at hk; simp at hk)
  have hz := hB.get (k := u) (by omega)
  exact ⟨u, b, off, _, hu, hun, e, (World.cell?_of_block (hE.block b hbl hne)).trans hc, hz, hB.frozen u, hB.lt⟩

set_option maxHeartbeats 4000000 in
set_option maxRecDepth 100000 in
theorem begin_calls (x : SsD) (b bn base cn : Nat) (y : BkD) (S : List (List Bool)) (w : World) (h : SsOk w x) (hs : Small x) (hb : x.blocks.l[b]? = some y) (hy : y.In x.vals.l.length) (hS : NRows w bn base S) (hlen : S.length = x.blocks.l.length) (hrow : ∀ l ∈ S, l.length = x.vals.l.length) :
    Calls Try.prog 32 #[.slice (some ⟨bn, 0, none⟩) x.blocks.l.length cn, .agg (ssC x).toArray, .int .i64 (b : Int)] w fun e w' =>
      ∃ g, e = .returned (.slice (some ⟨g, 0, none⟩) x.vals.l.length x.vals.l.length) ∧ w.heap.size ≤ g ∧ BBlk w' g 4 (Lv.newAt x.F x.vals.l.length S b) ∧ Keep w w' := by
  obtain ⟨vp, vr, va, nv, vc, ba, nb, bc, hop⟩ := x.opened
  have hbl := (List.getElem?_eq_some_iff.1 hb).1
  have hbeh := fun (W : World) (hk : Keep w W) => behind_calls x b bn base cn S W (h.keep hk) hs hbl (hS.keep hk) hlen hrow
  have hyk := h.blocks y (List.mem_of_getElem? hb)
  have hends := fun (W : World) (hk : Keep w W) => ends_calls y W (hyk.keep hk) (hs.ends y (List.mem_of_getElem? hb))
  unfold RwD.v at hends
  have HB := Lib.hid (fun (wq : World) (hq : Keep w wq) => bk_open hop h hq hb)
  have hnew : Lv.newAt x.F x.vals.l.length S b = Lv.setAll (nat y.params.l) false (foldB y.ins.l (dn y.ins.l.length (Nat.le_refl _)) (Lv.setAll (nat y.endsI) true (Lv.behindP S x.vals.l.length (x.N.getD b [])))) := by
    rw [begin_eq y x.blocks.l.length]
    unfold Lv.newAt
    rw [SsD.F_get hb, SsD.N_get hb]; rfl
  have hS0 : (Lv.behindP S x.vals.l.length (x.N.getD b [])).length = x.vals.l.length := by
    refine (Lv.behind_getD (fun t ht => ?_) 0).1
    have hbN : b < x.N.length := by rw [SsD.N_len]; exact hbl
    rw [List.getD_eq_getElem?_getD, List.getElem?_eq_getElem hbN] at ht
    have h1 := SsD.N_lt x _ (List.getElem_mem hbN) t ht
    rw [SsD.N_len, ← hlen] at h1
    rw [List.getD_eq_getElem?_getD, List.getElem?_eq_getElem h1]
    exact hrow _ (List.getElem_mem h1)
  rw [hnew]
  rw [hop.agg] at hbeh ⊢
  rw [hop.nv, hop.nb] at hbeh ⊢
  rw [hop.nv] at hy hS0
  obtain ⟨S0, hS0e⟩ : ∃ S0, Lv.behindP S nv (x.N.getD b []) = S0 := ⟨_, rfl⟩
  rw [hS0e] at hbeh hS0 ⊢
  have hnv1 : nv ≤ 1000 := by rw [← hop.nv]; exact hs.vals
  obtain ⟨W, hW, hk, c0, c1, c2, c3, lt⟩ := box4 w 47 vp vr (.slice va nv vc) (.slice ba nb bc)
  have hb1 := hbeh W hk
  have Hb1 := Lib.hid hb1
  have Hends := Lib.hid hends
  have Hy := Lib.hid hy
  have Hyk := Lib.hid hyk
  have HS0 := Lib.hid hS0
  have Hk := Lib.hid hk
  clear hbeh hends hnew hb1 hS hlen hrow hS0e hy hS0 h hs hb hop hbl
  refine (callsIn_wide (n := 6)).1 ?_
  refine callsIn_of_wp_marks Try.func32 rfl trivial ?_ rfl
  simp only [Try.ntmps32, List.size_toArray, List.length_cons, List.length_nil, Nat.reduceAdd, Nat.reduceSub, Array.replicate_succ, Array.replicate_zero, List.push_toArray, List.append_toArray, List.nil_append, List.cons_append]
  gi_wp2_with fail
  refine ⟨trivial, (callsIn_wide.2 Hb1.out).mono ?_⟩
  clear Hb1
  rintro e w1 ⟨r, rfl, hr1, hB1, hk1⟩
  obtain ⟨W2, hW2⟩ : ∃ W2, w1.alloc (.cells #[.slice (some ⟨r, 0, none⟩) nv nv] 68) = W2 := ⟨_, rfl⟩
  have hk2 : Keep w1 W2 := by rw [← hW2]; exact (Keep.refl _).alloc _
  have ho : Blk W2 w1.heap.size 68 [.slice (some ⟨r, 0, none⟩) nv nv] := by rw [← hW2]; exact Blk.new w1 _ _
  obtain ⟨ob, hob⟩ : ∃ ob, w1.heap.size = ob := ⟨_, rfl⟩
  rw [hob] at ho
  have hrl : r < ob := by rw [← hob]; exact hB1.lt
  have hor : ob ≠ r := by omega
  have kW2 : Keep w W2 := (Hk.out.trans hk1).trans hk2
  have hrw : w.heap.size < r := by omega
  have d0 := (hk1.trans hk2).cell c0
  have d1 := (hk1.trans hk2).cell c1
  have d2 := (hk1.trans hk2).cell c2
  have d3 := (hk1.trans hk2).cell c3
  have q0 := ho.cell 0
  replace q0 : W2.cell? ⟨ob, 0, none⟩ = some (.slice (some ⟨r, 0, none⟩) nv nv) := q0
  obtain ⟨B, off, hBa, hBl, hbn, y0, y1, y2, y3, y4, y5, y6⟩ := HB.out W2 kW2
  subst hBa
  have lW2 : w.heap.size < W2.heap.size := Nat.lt_of_lt_of_le lt (hk1.trans hk2).size
  have lo2 := ho.lt
  have hlB : B < W2.heap.size := by omega
  have hbb : (b : Int) < (nb : Int) := by omega
  have hbb0 : (0 : Int) ≤ (b : Int) := by omega
  have hen := Hends.out W2 kW2
  have Hen := Lib.hid hen
  have HB2 := Lib.hid (hB1.keep hk2)
  have HkW := Lib.hid kW2
  have Hko := Lib.hid ho
  clear hen hB1 hk1 hk2 c0 c1 c2 c3 ho kW2 Hends
  gi_wp2_with fail
  refine ⟨trivial, (callsIn_wide.2 Hen.out).mono ?_⟩
  clear Hen hW hW2
  rintro e w3 ⟨v3, rfl, hown3, hk3⟩
  obtain ⟨A3, c3, rfl, hl3, hc3⟩ := hown3.form
  have HB0 := Lib.hid (HB2.out.keep hk3)
  have Hkw3 := Lib.hid (HkW.out.trans hk3)
  have hob3 := Hko.out.keep hk3
  have zq0 : w3.cell? ⟨ob, 0, none⟩ = some (.slice (some ⟨r, 0, none⟩) nv nv) := hob3.cell 0
  have h1d2 := hk3.cell d2
  have h1d3 := hk3.cell d3
  have Hseg3 := Lib.hid hown3.segN.2
  have Haw3 := Lib.hid (show ∀ ad, A3 = some ad → y.endsI ≠ [] → ad.block ≠ r from fun ad ha _ => by have := hown3.addr_ge ha; omega)
  have hlm : y.endsI.length ≤ maxLen := Nat.le_trans hl3 hc3
  unfold maxLen at hlm
  obtain ⟨m3, hm3⟩ : ∃ m3, y.endsI.length = m3 := ⟨_, rfl⟩
  rw [hm3] at hlm ⊢
  have Hm3 := Lib.hid hm3
  have HWr := Lib.hid (show ∀ wa wb : World, Keep w wa → Ext (fun k => k = r) wa wb → Keep w wb from fun wa wb h1 h2 => Keep.of_ext h1 h2 (fun k hk e => by omega))
  have lw3 : ob < w3.heap.size := hob3.lt
  have lww : w.heap.size < w3.heap.size := by omega
  clear hown3 hk3 hl3 hc3 hm3 q0 d0 d1 d2 d3 y0 y1 y2 y3 y4 y5 y6 HB2 HkW lW2 lo2 hlB hob3
  gi_wp2_with fail
  gi_loopw [30] (fun vi wr => ∃ k : Nat, k ≤ m3 ∧ vi = .int .i64 k ∧ Hid (BBlk wr r 4 (setK true y.endsI S0 k)) ∧ Hid (Ext (fun k => k = r) w3 wr)) (fun vi _ => m3 - (intOf vi).toNat)
  case atStart => exact ⟨0, Nat.zero_le _, rfl, Lib.hid (by rw [setK_zero]; exact HB0.out), Lib.hid (Ext.refl _ _)⟩
  case round =>
    clear HB0
    obtain ⟨k, hk, rfl, hB, hE⟩ := hrel
    have qo := (World.cell?_of_block (hE.out.block ob (World.block_lt_of_cell? _ _ zq0) hor)).trans zq0
    by_cases hin : k < m3
    · obtain ⟨u, b1, o1, z, hu, hun, e1, q1, q2, f2, l2⟩ := at_place Hy.out.ends Hseg3.out (k := k) (by rw [Hm3.out]; exact hin) hE.out Haw3.out hB.out (by rw [setK_len]; exact HS0.out)
      subst e1
      have Hn := Lib.hid (show BBlk (wr.setCell ⟨r, u, none⟩ (.bool true)) r 4 (setK true y.endsI S0 (k + 1)) ∧ Ext (fun k => k = r) w3 (wr.setCell ⟨r, u, none⟩ (.bool true)) from
        ⟨by rw [setK_succ hu]; exact hB.out.put u _, hE.out.setCell (p := ⟨r, u, none⟩) (fun _ => rfl) _⟩)
      have k1 : (k : Int) < (m3 : Int) := by omega
      have k0 : (0 : Int) ≤ (k : Int) := by omega
      have u1 : (u : Int) < (nv : Int) := by omega
      have u0 : (0 : Int) ≤ (u : Int) := by omega
      clear hB hE hu
      gi_wp2
      go_roundw
      case rel => exact ⟨k + 1, hin, by go_num, Lib.hid Hn.out.1, Lib.hid Hn.out.2⟩
      case measure => simp [intOf]; omega
    · have Hf := Lib.hid (show BBlk wr r 4 (Lv.setAll (nat y.endsI) true S0) ∧ Ext (fun k => k = r) w3 wr from ⟨by rw [← setK_end (k := k) true S0 (by rw [Hm3.out]; omega)]; exact hB.out, hE.out⟩)
      clear hB hE

      obtain ⟨_, _, e, _, _, y0, y1, y2, y3, y4, y5, y6⟩ := HB.out wr (HWr.out _ _ Hkw3.out Hf.out.2)
      cases e
      have z3 := (World.cell?_of_block (Hf.out.2.block w.heap.size lww (by omega))).trans h1d3
      have lwr := Nat.lt_of_lt_of_le lww Hf.out.2.size
      have low := Nat.lt_of_lt_of_le lw3 Hf.out.2.size
      have hlB : B < wr.heap.size := by omega
      have hbl3 : bn + 0 = bn := rfl
      obtain ⟨yil, hyil⟩ : ∃ q, y.ins.l.length = q := ⟨_, rfl⟩
      have Hyil := Lib.hid hyil
      rw [hyil] at y1
      have Hqo := Lib.hid qo
      clear hyil qo hbl3 zq0
      gi_wp2_with fail
      refine ⟨trivial, (backS_calls Fence.wide _ trivial rfl _ _ _ _).mono ?_⟩
      rintro e w4 ⟨rfl, hw4⟩
      have hk4 : Keep wr w4 := by rw [hw4]; exact (Keep.refl _).alloc _
      have hb4 : Blk w4 wr.heap.size 38 [.slice y.ins.a yil y.ins.c] := by rw [hw4]; exact Blk.new wr _ _
      have hs4 : w4.heap.size = wr.heap.size + 1 := by rw [hw4]; simp
      clear hw4
      obtain ⟨S1, hS1⟩ : ∃ S1, Lv.setAll (nat y.endsI) true S0 = S1 := ⟨_, rfl⟩
      have HS1 := Lib.hid (show S1.length = nv by rw [← hS1, Lv.setAll_len]; exact HS0.out)
      have HB4 := Lib.hid (show BBlk w4 r 4 S1 by rw [← hS1]; exact Hf.out.1.keep hk4)
      have Hkw4 := Lib.hid ((HWr.out _ _ Hkw3.out Hf.out.2).trans hk4)
      have HS1e := Lib.hid hS1
      have hqo4 := hk4.cell Hqo.out
      have z34 := hk4.cell z3
      clear hS1 Hf z3 y0 y1 y2 y3 y4 y5 y6
      have hrr : r < w4.heap.size := HB4.out.lt
      obtain ⟨bs, hbs⟩ : ∃ bs, wr.heap.size = bs := ⟨_, rfl⟩
      rw [hbs] at hb4 hs4 lwr low hlB ⊢
      have hrb : r < bs := by omega
      have Hst := Lib.hid (backS_stops Fence.wide 5 trivial rfl (by omega) bs y.ins.c (fun k => k = r ∨ w4.heap.size ≤ k) y.ins.a y.ins.l Hyk.out.insLen w4 (by omega) (by rw [Hyil.out]; exact hb4.cell 0) (Hyk.out.insSeg.keep Hkw4.out) (fun ad ha hne => by
        obtain ⟨b', o', e', hb', _⟩ := Hyk.out.insSeg.elem 7 (fun _ => rfl) (by omega) (k := 0) (List.length_pos_iff.2 hne)
        rw [ha] at e'; cases e'
        show ¬ (b' = r ∨ w4.heap.size ≤ b')
        omega))
      clear hbs hk4 hb4
      gi_wp2_with fail
      refine wpIn_range_box rfl (by omega) (gf := 62) (lb := #[.pointer (some ⟨bs, 0, none⟩)]) rfl trivial (enters_of Try.func62 (by kernel_rfl) rfl) Hst.out
        (fun h k => h.trans k (fun _ _ h => h)) (fun W l o o' hl ho _ _ => ext_putObj o' ho (.inr hl)) (Below.refl _ _) (fun _ => rfl)
        (fun pre W => BBlk W r 4 (foldB y.ins.l pre S1) ∧ Ext (fun k => k = r) w4 W)
        (fun s A B' row hs hg hr => ⟨hs.1.turn hg hr, hs.2.turn hg (Nat.le_refl _) hr⟩) ⟨HB4.out, Ext.refl _ _⟩ 11
        (fun x Bx W => Blk W Bx 37 (inC y.ins.l[x.1])) (fun x Bx s A B' row hs hg hr => hs.turn hg hr) ?assign ?body ?done
      case assign =>
        intro l pre x W K hI hK
        have e : (Value.agg (inC y.ins.l[x.1]).toArray) = .agg #[.int .i64 y.ins.l[x.1].kind, .int .i64 y.ins.l[x.1].op, .int .i64 y.ins.l[x.1].a, .int .i64 y.ins.l[x.1].b, .int .u64 y.ins.l[x.1].n, .slice y.ins.l[x.1].args.a y.ins.l[x.1].args.l.length y.ins.l[x.1].args.c, .slice y.ins.l[x.1].outs.a y.ins.l[x.1].outs.l.length y.ins.l[x.1].outs.c] := rfl
        have HI := Lib.hid hI
        have HK := Lib.hid hK
        have He := Lib.hid e
        clear hI hK
        rw [e]
        clear e
        gi_wp2_with fail
        have hwl : w4.heap.size ≤ W.heap.size := HI.out.2.size
        exact HK.out W.heap.size _ _ hwl (by unfold inRnd; rw [He.out]; simp) ((KeepsOthers.alloc _ _).from _) ((Ext.refl _ _).alloc _) ⟨HI.out.1.keep ((Keep.refl _).alloc _), HI.out.2.alloc _⟩ (Blk.new W _ _)
      case body =>
        rintro l pre x Bx W hBx hI hP hlen
        obtain ⟨i, hi⟩ : ∃ i, y.ins.l[x.1] = i := ⟨_, rfl⟩
        have Hxi := Lib.hid hi
        have e : (Value.agg (inC y.ins.l[x.1]).toArray) = .agg #[.int .i64 i.kind, .int .i64 i.op, .int .i64 i.a, .int .i64 i.b, .int .u64 i.n, .slice i.args.a i.args.l.length i.args.c, .slice i.outs.a i.outs.l.length i.outs.c] := by rw [hi]; rfl
        have hmem : i ∈ y.ins.l := by rw [← hi]; exact List.getElem_mem _
        rw [hi] at hP
        have p5 : W.cell? ⟨Bx, 5, none⟩ = some (.slice i.args.a i.args.l.length i.args.c) := hP.cell 5
        have p6 : W.cell? ⟨Bx, 6, none⟩ = some (.slice i.outs.a i.outs.l.length i.outs.c) := hP.cell 6
        have lBx := hP.lt
        have hBr : Bx ≠ r := by omega
        have HI := Lib.hid (Hyk.out.ins i hmem)
        have HBW := Lib.hid hI.1
        have HEW := Lib.hid hI.2
        have kW := Lib.hid (HWr.out _ _ Hkw4.out hI.2)
        obtain ⟨S2, hS2⟩ : ∃ S2, foldB y.ins.l pre S1 = S2 := ⟨_, rfl⟩
        have HS2 := Lib.hid (show S2.length = nv by rw [← hS2, foldB_len]; exact HS1.out)
        have HB0 := Lib.hid (show BBlk W r 4 S2 by rw [← hS2]; exact hI.1)
        have zq0 := (World.cell?_of_block (hI.2.block ob (World.block_lt_of_cell? _ _ hqo4) hor)).trans hqo4
        have Hsego := Lib.hid (HI.out.outs.keep kW.out).seg
        have Hawo := Lib.hid (show ∀ ad, i.outs.a = some ad → i.outs.l ≠ [] → ad.block ≠ r from HI.out.outs.away (by omega))
        have Hya := Lib.hid (show (∀ v ∈ i.args.l, 0 ≤ v ∧ v < (nv : Int)) ∧ (∀ v ∈ i.outs.l, 0 ≤ v ∧ v < (nv : Int)) from ⟨Hy.out.args i hmem, Hy.out.outs i hmem⟩)
        have hmo : i.outs.l.length ≤ maxLen := HI.out.outs.len
        unfold maxLen at hmo
        obtain ⟨mo, hmoe⟩ : ∃ mo, i.outs.l.length = mo := ⟨_, rfl⟩
        have Hmo := Lib.hid hmoe
        rw [hmoe] at hmo p6 e
        obtain ⟨oa, hoa⟩ : ∃ oa, i.outs.a = oa := ⟨_, rfl⟩
        rw [hoa] at Hsego Hawo p6 e
        have HS12 := Lib.hid hS2
        unfold inRnd
        rw [e]
        rw [hS2] at HBW
        clear e hi hI hP hmem hmoe hoa hS2
        gi_wp2_with fail
        gi_loopw [50] (fun vi wr => ∃ k : Nat, k ≤ mo ∧ vi = .int .i64 k ∧ Hid (BBlk wr r 4 (setK false i.outs.l S2 k)) ∧ Hid (Ext (fun k => k = r) W wr)) (fun vi _ => mo - (intOf vi).toNat)
        case atStart => exact ⟨0, Nat.zero_le _, rfl, Lib.hid (by rw [setK_zero]; exact HB0.out), Lib.hid (Ext.refl _ _)⟩
        case round =>
          clear HB0
          obtain ⟨k, hk, rfl, hB, hE⟩ := hrel
          have qo := (World.cell?_of_block (hE.out.block ob (World.block_lt_of_cell? _ _ zq0) hor)).trans zq0
          by_cases hin : k < mo
          · obtain ⟨u, b1, o1, z, hu, hun, e1, q1, q2, f2, l2⟩ := at_place Hya.out.2 Hsego.out (k := k) (by rw [Hmo.out]; exact hin) hE.out Hawo.out hB.out (by rw [setK_len]; exact HS2.out)
            subst e1
            have Hn := Lib.hid (show BBlk (wr.setCell ⟨r, u, none⟩ (.bool false)) r 4 (setK false i.outs.l S2 (k + 1)) ∧ Ext (fun k => k = r) W (wr.setCell ⟨r, u, none⟩ (.bool false)) from
              ⟨by rw [setK_succ hu]; exact hB.out.put u _, hE.out.setCell (p := ⟨r, u, none⟩) (fun _ => rfl) _⟩)
            have k1 : (k : Int) < (mo : Int) := by omega
            have k0 : (0 : Int) ≤ (k : Int) := by omega
            have u1 : (u : Int) < (nv : Int) := by omega
            have u0 : (0 : Int) ≤ (u : Int) := by omega
            clear hB hE hu
            gi_wp2
            go_roundw
            case rel => exact ⟨k + 1, hin, by go_num, Lib.hid Hn.out.1, Lib.hid Hn.out.2⟩
            case measure => simp [intOf]; omega
          · have Hf := Lib.hid (show BBlk wr r 4 (Lv.setAll (nat i.outs.l) false S2) ∧ Ext (fun k => k = r) W wr from ⟨by rw [← setK_end (k := k) false S2 (by rw [Hmo.out]; omega)]; exact hB.out, hE.out⟩)
            clear hB hE

            have Hf1 := Lib.hid Hf.out
            obtain ⟨S3, hS3⟩ : ∃ S3, Lv.setAll (nat i.outs.l) false S2 = S3 := ⟨_, rfl⟩
            have HS3e := Lib.hid hS3
            have HS3 := Lib.hid (show S3.length = nv by rw [← hS3, Lv.setAll_len]; exact HS2.out)
            have HB1 := Lib.hid (show BBlk wr r 4 S3 by rw [← hS3]; exact Hf.out.1)
            have p5r := (World.cell?_of_block (Hf.out.2.block Bx lBx hBr)).trans p5
            have kwr := HWr.out _ _ kW.out Hf.out.2
            have lBr := Nat.lt_of_lt_of_le lBx Hf.out.2.size
            have Hsega := Lib.hid (HI.out.args.keep kwr).seg
            have Hawa := Lib.hid (show ∀ ad, i.args.a = some ad → i.args.l ≠ [] → ad.block ≠ r from HI.out.args.away (by omega))
            have hma : i.args.l.length ≤ maxLen := HI.out.args.len
            unfold maxLen at hma
            obtain ⟨ma, hmae⟩ : ∃ ma, i.args.l.length = ma := ⟨_, rfl⟩
            have Hma := Lib.hid hmae
            rw [hmae] at hma p5r
            obtain ⟨aa, haa⟩ : ∃ aa, i.args.a = aa := ⟨_, rfl⟩
            rw [haa] at Hsega Hawa p5r
            have zq0 := qo
            clear hmae hS3 kwr haa Hf
            gi_wp2_with fail
            obtain ⟨wr0, hwr0⟩ : ∃ wr0, wr0 = wr := ⟨_, rfl⟩
            subst hwr0
            gi_loopw [61] (fun vi wr => ∃ k : Nat, k ≤ ma ∧ vi = .int .i64 k ∧ Hid (BBlk wr r 4 (setK true i.args.l S3 k)) ∧ Hid (Ext (fun k => k = r) wr0 wr)) (fun vi _ => ma - (intOf vi).toNat)
            case atStart => exact ⟨0, Nat.zero_le _, rfl, Lib.hid (by rw [setK_zero]; exact HB1.out), Lib.hid (Ext.refl _ _)⟩
            case round =>
              clear HB1
              obtain ⟨k, hk, rfl, hB, hE⟩ := hrel
              have qo := (World.cell?_of_block (hE.out.block ob (World.block_lt_of_cell? _ _ zq0) hor)).trans zq0
              by_cases hin : k < ma
              · obtain ⟨u, b1, o1, z, hu, hun, e1, q1, q2, f2, l2⟩ := at_place Hya.out.1 Hsega.out (k := k) (by rw [Hma.out]; exact hin) hE.out Hawa.out hB.out (by rw [setK_len]; exact HS3.out)
                subst e1
                have Hn := Lib.hid (show BBlk (wr.setCell ⟨r, u, none⟩ (.bool true)) r 4 (setK true i.args.l S3 (k + 1)) ∧ Ext (fun k => k = r) wr0 (wr.setCell ⟨r, u, none⟩ (.bool true)) from
                  ⟨by rw [setK_succ hu]; exact hB.out.put u _, hE.out.setCell (p := ⟨r, u, none⟩) (fun _ => rfl) _⟩)
                have k1 : (k : Int) < (ma : Int) := by omega
                have k0 : (0 : Int) ≤ (k : Int) := by omega
                have u1 : (u : Int) < (nv : Int) := by omega
                have u0 : (0 : Int) ≤ (u : Int) := by omega
                clear hB hE hu
                gi_wp2
                go_roundw
                case rel => exact ⟨k + 1, hin, by go_num, Lib.hid Hn.out.1, Lib.hid Hn.out.2⟩
                case measure => simp [intOf]; omega
              · have Hf := Lib.hid (show BBlk wr r 4 (Lv.setAll (nat i.args.l) true S3) ∧ Ext (fun k => k = r) wr0 wr from ⟨by rw [← setK_end (k := k) true S3 (by rw [Hma.out]; omega)]; exact hB.out, hE.out⟩)
                clear hB hE

                have Hg2 := Lib.hid (show KeepsFrom w4.heap.size W wr ∧ Ext (fun k => k = r ∨ w4.heap.size ≤ k) W wr ∧ BBlk wr r 4 (foldB y.ins.l (pre ++ [x]) S1) ∧ Ext (fun k => k = r) w4 wr from
                  ⟨(keepsOthers_of_ext HBW.out (Hf1.out.2.trans Hf.out.2 (fun _ _ h => h))).from _, (Hf1.out.2.trans Hf.out.2 (fun _ _ h => h)).mono (fun _ _ h => .inl h), by rw [foldB_snoc, Hxi.out]; unfold insB; rw [HS12.out, HS3e.out]; exact Hf.out.1, HEW.out.trans (Hf1.out.2.trans Hf.out.2 (fun _ _ h => h)) (fun _ _ h => h)⟩)
                clear Hf
                gi_wp2
                exact Hg2.out
      case done =>
        rintro D xs W hD rfl hI hK
        have HI := Lib.hid hI
        have HK := Lib.hid hK
        obtain ⟨S5, hS5⟩ : ∃ S5, foldB y.ins.l (dn y.ins.l.length (Nat.le_refl _)) S1 = S5 := ⟨_, rfl⟩
        have HS5 := Lib.hid (show S5.length = nv by rw [← hS5, foldB_len]; exact HS1.out)
        have HB2 := Lib.hid (show BBlk W r 4 S5 by rw [← hS5]; exact hI.1)
        have kW := Lib.hid (HWr.out _ _ Hkw4.out hI.2)
        have zq0 := (World.cell?_of_block (hI.2.block ob (World.block_lt_of_cell? _ _ hqo4) hor)).trans hqo4
        have z3 := (World.cell?_of_block (hI.2.block w.heap.size (World.block_lt_of_cell? _ _ z34) (by omega))).trans z34
        have lw5 := Nat.lt_of_lt_of_le (World.block_lt_of_cell? _ _ z34) hI.2.size
        replace lw5 : w.heap.size < W.heap.size := lw5
        obtain ⟨_, _, e, _, _, y0, y1, y2, y3, y4, y5, y6⟩ := HB.out W kW.out
        cases e
        have hlB5 : B < W.heap.size := by omega
        have Hsegp := Lib.hid (Hyk.out.params.keep kW.out).seg
        have Hawp := Lib.hid (show ∀ ad, y.params.a = some ad → y.params.l ≠ [] → ad.block ≠ r from Hyk.out.params.away (by omega))
        have hmp : y.params.l.length ≤ maxLen := Hyk.out.params.len
        unfold maxLen at hmp
        obtain ⟨mp, hmpe⟩ : ∃ mp, y.params.l.length = mp := ⟨_, rfl⟩
        have Hmp := Lib.hid hmpe
        obtain ⟨pa, hpa⟩ : ∃ pa, y.params.a = pa := ⟨_, rfl⟩
        rw [hmpe] at hmp y0
        rw [hpa] at Hsegp Hawp y0
        have Hend := Lib.hid (show ∀ w', BBlk w' r 4 (Lv.setAll (nat y.params.l) false S5) → BBlk w' r 4 (Lv.setAll (nat y.params.l) false (foldB y.ins.l (dn y.ins.l.length (Nat.le_refl _)) S1)) from fun w' h => by rw [hS5]; exact h)
        have HDr := Lib.hid (show D ≠ r by omega)
        clear hI hK hmpe hpa hS5 y1 y2 y3 y4 y5 y6
        gi_wp2_with fail
        gi_loopw [76] (fun vi wr => ∃ k : Nat, k ≤ mp ∧ vi = .int .i64 k ∧ Hid (BBlk wr r 4 (setK false y.params.l S5 k)) ∧ Hid (Ext (fun k => k = r) W wr)) (fun vi _ => mp - (intOf vi).toNat)
        case atStart => exact ⟨0, Nat.zero_le _, rfl, Lib.hid (by rw [setK_zero]; exact HB2.out), Lib.hid (Ext.refl _ _)⟩
        case round =>
          clear HB2
          obtain ⟨k, hk, rfl, hB, hE⟩ := hrel
          have qo := (World.cell?_of_block (hE.out.block ob (World.block_lt_of_cell? _ _ zq0) hor)).trans zq0
          by_cases hin : k < mp
          · obtain ⟨u, b1, o1, z, hu, hun, e1, q1, q2, f2, l2⟩ := at_place Hy.out.params Hsegp.out (k := k) (by rw [Hmp.out]; exact hin) hE.out Hawp.out hB.out (by rw [setK_len]; exact HS5.out)
            subst e1
            have Hn := Lib.hid (show BBlk (wr.setCell ⟨r, u, none⟩ (.bool false)) r 4 (setK false y.params.l S5 (k + 1)) ∧ Ext (fun k => k = r) W (wr.setCell ⟨r, u, none⟩ (.bool false)) from
              ⟨by rw [setK_succ hu]; exact hB.out.put u _, hE.out.setCell (p := ⟨r, u, none⟩) (fun _ => rfl) _⟩)
            have k1 : (k : Int) < (mp : Int) := by omega
            have k0 : (0 : Int) ≤ (k : Int) := by omega
            have u1 : (u : Int) < (nv : Int) := by omega
            have u0 : (0 : Int) ≤ (u : Int) := by omega
            clear hB hE hu
            gi_wp2
            go_roundw
            case rel => exact ⟨k + 1, hin, by go_num, Lib.hid Hn.out.1, Lib.hid Hn.out.2⟩
            case measure => simp [intOf]; omega
          · have Hf := Lib.hid (show BBlk wr r 4 (Lv.setAll (nat y.params.l) false S5) ∧ Ext (fun k => k = r) W wr from ⟨by rw [← setK_end (k := k) false S5 (by rw [Hmp.out]; omega)]; exact hB.out, hE.out⟩)
            clear hB hE

            have Hke := Lib.hid (show Keep w wr from HWr.out _ _ kW.out Hf.out.2)
            have Hbe := Lib.hid (show BBlk wr r 4 (Lv.setAll (nat y.params.l) false (foldB y.ins.l (dn y.ins.l.length (Nat.le_refl _)) (Lv.setAll (nat y.endsI) true S0))) from by rw [HS1e.out]; exact Hend.out _ Hf.out.1)
            have HK2 := Lib.hid (show wr.heap[D]? = some (.deferred (some [])) from (Hf.out.2.block D (Array.getElem?_eq_some_iff.1 HK.out).1 HDr.out).trans HK.out)
            have Hrw := Lib.hid hrw
            have HDw := Lib.hid (show w.heap.size ≤ D by omega)
            clear Hf Hend
            gi_wp2_with fail
            refine ⟨by simp, .inl ⟨_, _, rfl, run_takeDeferred HK2.out, ?_⟩⟩
            refine ⟨_, results_tmp rfl _ _ _, r, rfl, by have := Hrw.out; omega, ?_, ?_⟩
            · exact Hbe.out.turn (B := D) (grownBy_putObj' _ D (.deferred none)) (fun q e => by cases e; exact ⟨Nat.le_refl _, _, HK2.out, rfl⟩)
            · exact Keep.of_ext Hke.out (ext_putObj (T := fun k => k = D) _ HK2.out rfl) (fun k hk e => by have := HDw.out; omega)
end Go.Proofs.Ytjpmiejgcnfiiaa
