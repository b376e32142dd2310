/-
  The program's Of.
-/
import Derived.Test.YtjpmiejgcnfiiaaLBlock
import Derived.Test.YtjpmiejgcnfiiaaLRight
import Derived.Deep.DeepCutAuto
import Derived.Deep.Cut
import Derived.WalkMore
set_option linter.unusedVariables false
set_option linter.unusedSimpArgs false
namespace Go.Proofs.Ytjpmiejgcnfiiaa
open Go Go.RowKit

/-- The rows of ranges, and what is made, when the first k blocks are done. -/
noncomputable def ofL (x : SsD) (S : List (List Bool)) : Nat → List (List Lv.Rng)
  | 0 => List.replicate x.vals.l.length []
  | k + 1 => match x.ord[k]? with
    | none => ofL x S k
    | some b => match x.blocks.l[b]? with
      | none => ofL x S k
      | some y => addK y x.blocks.l.length (x.atk k) (fun v => (S.getD b []).getD v false) (fun v => (Lv.behindP S x.vals.l.length (x.N.getD b [])).getD v false) (ofL x S k) x.vals.l.length
noncomputable def ofM (x : SsD) : Nat → Nat → Bool
  | 0 => fun _ => false
  | k + 1 => match x.ord[k]? with
    | none => ofM x k
    | some b => match x.blocks.l[b]? with
      | none => ofM x k
      | some y => m2 y (ofM x k) y.ins.l.length
theorem ofL_succ {x : SsD} {S : List (List Bool)} {k b : Nat} {y : BkD} (hb : x.ord[k]? = some b) (hy : x.blocks.l[b]? = some y) : ofL x S (k + 1) = addK y x.blocks.l.length (x.atk k) (fun v => (S.getD b []).getD v false) (fun v => (Lv.behindP S x.vals.l.length (x.N.getD b [])).getD v false) (ofL x S k) x.vals.l.length := by
  rw [ofL]; simp only [hb, hy]
theorem ofM_succ {x : SsD} {k b : Nat} {y : BkD} (hb : x.ord[k]? = some b) (hy : x.blocks.l[b]? = some y) : ofM x (k + 1) = m2 y (ofM x k) y.ins.l.length := by
  rw [ofM]; simp only [hb, hy]
theorem ofL_len (x : SsD) (S : List (List Bool)) : ∀ k, k ≤ x.ord.length → (ofL x S k).length = x.vals.l.length
  | 0, _ => by simp [ofL]
  | k + 1, hk => by
    obtain ⟨b, hb⟩ := get_some (l := x.ord) (k := k) (by omega)
    obtain ⟨y, hy⟩ := SsD.ord_get hb
    rw [ofL_succ hb hy, addK_len]
    exact ofL_len x S k (by omega)
theorem ofL_row (x : SsD) (S : List (List Bool)) : ∀ k, k ≤ x.ord.length → ∀ l ∈ ofL x S k, l.length ≤ k
  | 0, _ => fun l hl => by simp [ofL] at hl; rw [hl.2]; simp
  | k + 1, hk => by
    obtain ⟨b, hb⟩ := get_some (l := x.ord) (k := k) (by omega)
    obtain ⟨y, hy⟩ := SsD.ord_get hb
    rw [ofL_succ hb hy]
    exact addK_row (ofL_row x S k (by omega))
/-- The first k values of what Of gives. -/
noncomputable def ofR (x : SsD) (S : List (List Bool)) (k : Nat) : List (Int × List Lv.Rng) :=
  (List.range k).filterMap fun v => if ofM x x.ord.length v then some ((v : Int), (ofL x S x.ord.length).getD v []) else none
theorem ofR_succ (x : SsD) (S : List (List Bool)) (k : Nat) : ofR x S (k + 1) = ofR x S k ++ (if ofM x x.ord.length k then [((k : Int), (ofL x S x.ord.length).getD k [])] else []) := by
  unfold ofR
  rw [List.range_succ, List.filterMap_append]
  congr 1
  cases hk : ofM x x.ord.length k <;> simp [hk]
theorem ofR_len (x : SsD) (S : List (List Bool)) (k : Nat) : (ofR x S k).length ≤ k := by
  unfold ofR
  exact Nat.le_trans (List.length_filterMap_le _ _) (by simp)
theorem m2_congr {y : BkD} {m m' : Nat → Bool} {i v : Nat} (h : m v = m' v) : m2 y m i v = m2 y m' i v := by unfold m2; rw [h]

/-- The new record of rows. -/
structure MadeR (w3 wx : World) (nv : Nat) (v : Value) : Prop where
  ex : ∃ br bl bm, v = .pointer (some ⟨br, 0, none⟩) ∧ Blk wx br 70 [.slice (some ⟨bl, 0, none⟩) nv nv, .slice (some ⟨bm, 0, none⟩) nv nv] ∧ Blk wx bl 26 (List.replicate nv (.slice none 0 0)) ∧ BBlk wx bm 4 (List.replicate nv false) ∧
    w3.heap.size ≤ br ∧ w3.heap.size ≤ bl ∧ w3.heap.size ≤ bm ∧ Keep w3 wx
theorem make_rgrows (w : World) (n : Nat) (h : n ≤ 1000000) : ∃ w', (Instr.makeSlice 67 (.int .i64 (n : Int)) (.int .i64 (n : Int))).run Try.prog w = .ok (.slice (some ⟨w.heap.size, 0, none⟩) n n) w' ∧ Blk w' w.heap.size 26 (List.replicate n (.slice none 0 0)) ∧ Keep w w' :=
  make_zero (P := Try.prog) (z := .slice none 0 0) (bytes := 24) Try.underlying67 (by kernel_rfl) rfl w n (by omega) (by unfold maxLen; omega)
theorem elL : ElT Try.prog 22 28 2 32 lvC where
  slice := Try.underlying22
  info := info_of (z := .agg #[.int .i64 0, .slice none 0 0]) (by kernel_rfl) rfl
  pos := by omega
  len := fun _ => rfl
  one := fun x u hu => by simp [lvC] at hu; rcases hu with rfl | rfl <;> rfl
/-- Where the pass over the blocks stands. -/
structure OfAt (w3 wr : World) (br bl bm nv : Nat) (L : List (List Lv.Rng)) (M : Nat → Bool) : Prop where
  rec_ : Blk wr br 70 [.slice (some ⟨bl, 0, none⟩) nv nv, .slice (some ⟨bm, 0, none⟩) nv nv]
  rows : RgRows wr bl w3.heap.size L
  marks : ∃ m', BBlk wr bm 4 m' ∧ m'.length = nv ∧ ∀ v, v < nv → m'.getD v false = M v
  keep : Keep w3 wr

set_option maxHeartbeats 8000000 in
set_option maxRecDepth 100000 in
theorem of_calls (x : SsD) (w : World) (h : SsOk w x) (hs : Small x) (hin : ∀ b y, b ∈ x.ord → x.blocks.l[b]? = some y → y.In x.vals.l.length) :
    Calls Try.prog 8 #[.agg (ssC x).toArray] w fun e w' => ∃ A ls c S, e = .returned (.slice A ls.length c) ∧ Lives w' A ls ∧ ls.map (fun z => (z.val, z.l)) = ofR x S x.vals.l.length ∧ FI x S ∧ Shut x S ∧ Keep w w' := by
  obtain ⟨vp, vr, va, nv, vc, ba, nb, bc, hop⟩ := x.opened
  obtain ⟨W, hW, hk, c0, c1, c2, c3, lt⟩ := box4 w 47 vp vr (.slice va nv vc) (.slice ba nb bc)
  have hord := order_gives x W (h.keep hk) hs.edges (Nat.le_trans hs.blocks (by omega))
  rw [hop.agg] at hord ⊢
  have hnv : nv ≤ 1000 := by rw [← hop.nv]; exact hs.vals
  have hnb : nb ≤ 1000 := by rw [← hop.nb]; exact hs.blocks
  obtain ⟨m, hm⟩ : ∃ m, x.ord.length = m := ⟨_, rfl⟩
  have hml : m ≤ nb := by rw [← hm, ← hop.nb]; exact x.ord_len
  have Hm := Lib.hid hm
  rw [hm] at hord
  have Hord := Lib.hid hord
  have Hh := Lib.hid h
  have Hs := Lib.hid hs
  have Hin := Lib.hid hin
  have Hop := Lib.hid hop
  have HkW := Lib.hid hk
  clear hord h hs hin hop hk hm
  go_enter Try.func8, Try.ntmps8
  go_wp2_with fail
  refine Hord.out.mono ?_
  clear Hord hW
  rintro e w1 ⟨A, c, rfl, hown, hk1⟩
  have hcl : m ≤ c := by obtain ⟨_, _, e, h1, _⟩ := hown.form; injection e with e1 e2 e3; rw [ints_len, Hm.out] at h1; omega
  have Hown := Lib.hid (show Own intC 1 3 w1 W.heap.size (.slice A x.ord.length c) (ints x.ord) from by rw [Hm.out]; exact hown)
  have hright := right_calls x A c W.heap.size w1 (Hh.out.keep (HkW.out.trans hk1)) Hs.out Hown.out Hin.out
  rw [Hop.out.agg, Hm.out] at hright
  have Hright := Lib.hid hright
  have d0 := hk1.cell c0
  have d1 := hk1.cell c1
  have d2 := hk1.cell c2
  have d3 := hk1.cell c3
  have lt1 := Nat.lt_of_lt_of_le lt hk1.size
  have Hk1 := Lib.hid (HkW.out.trans hk1)
  clear hright hown hk1 c0 c1 c2 c3 lt
  go_wp2_with fail
  refine Hright.out.mono ?_
  clear Hright
  rintro e w2 ⟨rfl, hk2⟩
  have hfound := found_calls x A c W.heap.size w2 (Hh.out.keep (Hk1.out.trans hk2)) Hs.out (Hown.out.keep hk2) Hin.out
  rw [Hop.out.agg, Hm.out, Hop.out.nb] at hfound
  have Hfound := Lib.hid hfound
  have Hown2 := Lib.hid (Hown.out.keep hk2)
  have Hk2 := Lib.hid (Hk1.out.trans hk2)
  replace d0 := hk2.cell d0
  replace d1 := hk2.cell d1
  replace d2 := hk2.cell d2
  replace d3 := hk2.cell d3
  replace lt1 := Nat.lt_of_lt_of_le lt1 hk2.size
  clear hfound hk2 Hown Hk1
  go_wp2_with fail
  refine Hfound.out.mono ?_
  clear Hfound
  rintro e w3 ⟨bn, S, rfl, hbn, hnr, hk3, hfi, hsh⟩
  have Hown3 := Lib.hid (Hown2.out.keep hk3)
  have Hk3 := Lib.hid (Hk2.out.trans hk3)
  have Hnr := Lib.hid hnr
  have Hfi := Lib.hid hfi
  have Hsh := Lib.hid hsh
  have hbn3 := hnr.lt
  replace d0 := hk3.cell d0
  replace d1 := hk3.cell d1
  replace d2 := hk3.cell d2
  replace d3 := hk3.cell d3
  replace lt1 := Nat.lt_of_lt_of_le lt1 hk3.size
  clear hnr hk3 hfi hsh Hown2 Hk2
  go_upto_region 5 with fail
  go_cut [5] from 21 to 30 (fun v5 wx => MadeR w3 wx nv v5)
  case first =>
    have kz := fun y : KW w3 => y.cell d2
    obtain ⟨wd, hwd⟩ : ∃ wd, w3.drew = wd := ⟨_, rfl⟩
    have hkd : Keep w3 wd := by rw [← hwd]; exact (Keep.refl _).drew
    refine region_begin (S := fun w' => ∃ y : KW w3, w' = y.val) (by kernel_rfl) ?_
    rw [hwd]
    refine region_take [0, 1, 2, 4, 5, 6] [] 5 (by kernel_rfl) (by kernel_rfl) (InK.mk' hkd) ?_
    show wpQuiet _ _ _ _ [_, _, _, _, _, _] _
    repeat (go_big_quiet_step (fail))
    refine wpQuiet_nil ?_
    clear hwd
    refine region_any (fuel := 4) (is := [3, 7]) (by kernel_rfl) (by simp) (mem2 ?_ ?_)
    · refine ⟨_, rfl, fun K hK => ?_⟩
      obtain ⟨u2, hmk2, b2, k2'⟩ := make_rgrows wd nv (by omega)
      go_simp
      have k2 := hkd.trans k2'
      refine hK _ _ (InK.mk' k2) ?_
      clear hK K hmk2
      refine region_fix (i := 7) (fuel := 3) rfl (by kernel_rfl) (fun K hK => ?_)
      obtain ⟨u3, hmk3, b3, k3'⟩ := make_bools u2 nv (by omega)
      go_simp
      have k3 := k2.trans k3'
      refine hK _ _ (InK.mk' k3) ?_
      clear hK K hmk3
      refine region_take [8] [0, 1, 2, 4, 5, 6, 3, 7] 2 (by kernel_rfl) (by kernel_rfl) (InK.mk' k3) ?_
      show wpQuiet _ _ _ _ [_] _
      repeat (go_big_quiet_step (fail))
      refine wpQuiet_nil ?_
      refine region_fix (i := 9) (fuel := 1) rfl (by kernel_rfl) (fun K hK => ?_)
      go_simp
      have k4 : Keep w3 (u3.alloc (.cells #[.slice (some ⟨wd.heap.size, 0, none⟩) nv nv, .slice (some ⟨u2.heap.size, 0, none⟩) nv nv] 70)) := k3.alloc _
      refine hK _ _ (InK.mk' k4) ?_
      clear hK K
      refine region_take [10] [0, 1, 2, 4, 5, 6, 3, 7, 8, 9] 0 (by kernel_rfl) (by kernel_rfl) (InK.mk' k4) ?_
      show wpQuiet _ _ _ _ [_] _
      repeat (go_big_quiet_step (fail))
      refine wpQuiet_nil ?_
      refine region_done (by kernel_rfl) ?_
      have Hfin := Lib.hid (show MadeR w3 (u3.alloc (.cells #[.slice (some ⟨wd.heap.size, 0, none⟩) nv nv, .slice (some ⟨u2.heap.size, 0, none⟩) nv nv] 70)) nv (.pointer (some ⟨u3.heap.size, 0, none⟩)) from
        ⟨_, _, _, rfl, Blk.new u3 _ _, (b2.keep k3').keep ((Keep.refl _).alloc _), by have := b3.keep ((Keep.refl _).alloc (.cells #[.slice (some ⟨wd.heap.size, 0, none⟩) nv nv, .slice (some ⟨u2.heap.size, 0, none⟩) nv nv] 70)); exact this, k3.size, hkd.size, k2.size, k4⟩)
      clear kz
      go_wp2_with fail
      go_meet
      case rel => exact Hfin.out
    · refine ⟨_, rfl, fun K hK => ?_⟩
      obtain ⟨u2, hmk2, b2, k2'⟩ := make_bools wd nv (by omega)
      go_simp
      have k2 := hkd.trans k2'
      refine hK _ _ (InK.mk' k2) ?_
      clear hK K hmk2
      refine region_fix (i := 3) (fuel := 3) rfl (by kernel_rfl) (fun K hK => ?_)
      obtain ⟨u3, hmk3, b3, k3'⟩ := make_rgrows u2 nv (by omega)
      go_simp
      have k3 := k2.trans k3'
      refine hK _ _ (InK.mk' k3) ?_
      clear hK K hmk3
      refine region_take [8] [0, 1, 2, 4, 5, 6, 7, 3] 2 (by kernel_rfl) (by kernel_rfl) (InK.mk' k3) ?_
      show wpQuiet _ _ _ _ [_] _
      repeat (go_big_quiet_step (fail))
      refine wpQuiet_nil ?_
      refine region_fix (i := 9) (fuel := 1) rfl (by kernel_rfl) (fun K hK => ?_)
      go_simp
      have k4 : Keep w3 (u3.alloc (.cells #[.slice (some ⟨u2.heap.size, 0, none⟩) nv nv, .slice (some ⟨wd.heap.size, 0, none⟩) nv nv] 70)) := k3.alloc _
      refine hK _ _ (InK.mk' k4) ?_
      clear hK K
      refine region_take [10] [0, 1, 2, 4, 5, 6, 7, 3, 8, 9] 0 (by kernel_rfl) (by kernel_rfl) (InK.mk' k4) ?_
      show wpQuiet _ _ _ _ [_] _
      repeat (go_big_quiet_step (fail))
      refine wpQuiet_nil ?_
      refine region_done (by kernel_rfl) ?_
      have Hfin := Lib.hid (show MadeR w3 (u3.alloc (.cells #[.slice (some ⟨u2.heap.size, 0, none⟩) nv nv, .slice (some ⟨wd.heap.size, 0, none⟩) nv nv] 70)) nv (.pointer (some ⟨u3.heap.size, 0, none⟩)) from
        ⟨_, _, _, rfl, Blk.new u3 _ _, b3.keep ((Keep.refl _).alloc _), (b2.keep k3').keep ((Keep.refl _).alloc _), k3.size, k2.size, hkd.size, k4⟩)
      clear kz
      go_wp2_with fail
      go_meet
      case rel => exact Hfin.out
  case rest =>
    obtain ⟨br, bl, bm, rfl, hrec, hbl, hbm, g1, g2, g3, hkc⟩ := hcut.ex
    have HO0 := Lib.hid (show OfAt w3 wc br bl bm nv (ofL x S 0) (ofM x 0) from ⟨hrec, by
      have := RowsAt.made rngC 2 50 w3.heap.size nv hbl
      show RgRows wc bl w3.heap.size (List.replicate x.vals.l.length [])
      rw [Hop.out.nv]; exact this, ⟨_, hbm, by simp, fun v hv => by rw [List.getD_eq_getElem?_getD, List.getElem?_replicate, if_pos hv]; rfl⟩, hkc⟩)
    have H0 := Lib.hid (show x.atk 0 = 0 by unfold SsD.atk; simp [Lv.endAt])
    clear hrec hbl hbm hkc hcut
    go_wp2_with fail
    go_loopw [6, 8, 33] (fun va _ vi wr => ∃ k : Nat, k ≤ m ∧ vi = .int .i64 k ∧ va = .int .i64 (x.atk k) ∧ Hid (OfAt w3 wr br bl bm nv (ofL x S k) (ofM x k))) (fun _ _ vi _ => m - (intOf vi).toNat)
    case atStart => exact ⟨0, Nat.zero_le _, rfl, by rw [H0.out], HO0⟩
    case round =>
      clear HO0
      obtain ⟨k, hk, rfl, rfl, hoa⟩ := hrel
      have hkeep := hoa.out.keep
      by_cases hin : k < m
      · obtain ⟨b, hb⟩ := get_some (l := x.ord) (k := k) (by rw [Hm.out]; exact hin)
        obtain ⟨y, hy⟩ := SsD.ord_get hb
        have hbm := List.mem_of_getElem? hb
        have hbl := x.ord_spec.2 b hbm
        obtain ⟨b1, o1, hA, hb1, q1⟩ := ints_at Hown3.out hkeep hb
        subst hA
        obtain ⟨B, off, hBa, hBl, hbn2, _, y1w, _, _, _, _, _⟩ := bk_open Hop.out Hh.out Hk3.out hy
        subst hBa
        have y1 := hkeep.cell y1w
        obtain ⟨l, hl1, hl2, hl3⟩ := Hfi.out.get hbl
        rw [Hop.out.nv] at hl2
        obtain ⟨Ab, cb, q3, hob3⟩ := Hnr.out.get hl1
        rw [hl2] at q3 hob3
        have q3r := hkeep.cell q3
        have hd : Keep wr wr.drew := (Keep.refl _).drew
        have hbe := behind_calls x b bn w2.heap.size nb S wr.drew (Hh.out.keep ((Hk3.out.trans hkeep).trans hd)) Hs.out hbl (Hnr.out.keep (hkeep.trans hd)) Hfi.out.len Hfi.out.row
        have hBl1 : (Lv.behindP S x.vals.l.length (x.N.getD b [])).length = x.vals.l.length := by
          refine (Lv.behind_getD (n := S) (nv := x.vals.l.length) (next := x.N.getD b []) (fun t ht => ?_) 0).1
          rw [SsD.N_get hy] at ht
          obtain ⟨u, hu, rfl⟩ := List.mem_map.1 (show t ∈ nat (y.nextI x.blocks.l.length) from ht)
          have hu2 := SsD.nextI_mem hu
          obtain ⟨l', _, e1, e2⟩ := Hfi.out.get (b := u.toNat) (by omega)
          rw [e2]; exact e1
        rw [Hop.out.agg, Hop.out.nb, Hop.out.nv] at hbe
        rw [Hop.out.nv] at hBl1
        obtain ⟨BHL, hBHL⟩ : ∃ z, Lv.behindP S nv (x.N.getD b []) = z := ⟨_, rfl⟩
        rw [hBHL] at hbe hBl1
        obtain ⟨ml0, hm0, hm0l, hm0v⟩ := hoa.out.marks
        obtain ⟨vs0, hbl0⟩ := hoa.out.rows.blk
        have hne1 : br ≠ bl := hoa.out.rec_.ne hbl0 (by decide)
        have hne2 : br ≠ bm := hoa.out.rec_.ne hm0 (by decide)
        have hm0lt := hm0.lt
        have hat := SsD.atk_lt Hs.out k
        have Hblk := Lib.hid (show ∀ w5 g, Keep wr w5 → BBlk w5 g 4 BHL → wr.heap.size ≤ g → Calls Try.prog 19 #[.pointer (some ⟨br, 0, none⟩), .agg #[vp, vr, .slice va nv vc, .slice (some ⟨B, off, none⟩) nb bc], .int .i64 (b : Int), .int .i64 (x.atk k), .slice Ab nv cb, .slice (some ⟨g, 0, none⟩) nv nv] w5
            (fun e w' => (∃ u, e = .returned u) ∧ OfAt w3 w' br bl bm nv (ofL x S (k + 1)) (ofM x (k + 1)) ∧ Ext (fun q => w3.heap.size ≤ q) w5 w') from fun w5 g hk5 hb5 hg5 => by
          have hbo : Own boolC 1 4 w5 w3.heap.size (.slice (some ⟨g, 0, none⟩) nv nv) BHL := by
            have := hb5.own (base := w3.heap.size) (by have := hkeep.size; omega) (by rw [hBl1]; unfold maxLen; omega)
            rwa [hBl1] at this
          have hc := block_calls x b br bl bm w3.heap.size nv nv nv (x.atk k) y Ab (some ⟨g, 0, none⟩) cb nv w2.heap.size w3.heap.size l BHL ml0 (ofL x S k) w5 (Hh.out.keep ((Hk3.out.trans hkeep).trans hk5)) Hs.out hy Hop.out.nv (by rw [← Hop.out.nv]; exact Hin.out b y hbm hy)
            (hoa.out.rec_.keep hk5) (hoa.out.rows.keep hk5) (by rw [ofL_len x S k (by rw [Hm.out]; omega)]; exact Hop.out.nv) (fun q hq => by have := ofL_row x S k (by rw [Hm.out]; omega) q hq; omega) (hm0.keep hk5) hm0l (Nat.le_trans hkeep.size hk5.size)
            (hob3.keep (hkeep.trans hk5)) hl2 (fun e => by have := (hob3.lt bm e).2; omega) hbo hBl1 (fun e => by have e : some g = some bm := e; have := Option.some.inj e; omega) hat.1 hat.2
          rw [Hop.out.agg] at hc
          refine hc.mono ?_
          rintro e w' ⟨h1, h2, ⟨m', h3, h4, h5⟩, h6⟩
          have hE : Ext (fun q => w3.heap.size ≤ q) w5 w' := h6.mono fun i hi e => by rcases e with e | e | ⟨e, _⟩ <;> first | omega | exact e
          refine ⟨h1, ⟨Blk.rngS (hoa.out.rec_.keep hk5) h6 hne1 hne2 (by decide), ?_, ⟨m', h3, h4, fun v hv => ?_⟩, Keep.of_ext (hkeep.trans hk5) hE (fun i hi e => by omega)⟩, hE⟩
          · rw [ofL_succ hb hy, hl3, Hop.out.nv, hBHL]; exact h2
          · rw [h5 v hv, ofM_succ hb hy]; exact m2_congr (hm0v v hv))
        have Hbe := Lib.hid hbe
        have Hsucc := Lib.hid (SsD.atk_succ hb hy)
        have hyi := Hs.out.ins y (List.mem_of_getElem? hy)
        have d0r := hkeep.cell d0
        have d1r := hkeep.cell d1
        have d2r := hkeep.cell d2
        have d3r := hkeep.cell d3
        have ltr := Nat.lt_of_lt_of_le lt1 hkeep.size
        have lnr := Nat.lt_of_lt_of_le hbn3 hkeep.size
        have kz0 := fun z : KE (fun q => w3.heap.size ≤ q) wr => z.cell d0r (by show ¬ w3.heap.size ≤ w.heap.size; omega)
        have kz1 := fun z : KE (fun q => w3.heap.size ≤ q) wr => z.cell d1r (by show ¬ w3.heap.size ≤ w.heap.size; omega)
        have kz2 := fun z : KE (fun q => w3.heap.size ≤ q) wr => z.cell d2r (by show ¬ w3.heap.size ≤ w.heap.size; omega)
        have kz3 := fun z : KE (fun q => w3.heap.size ≤ q) wr => z.cell d3r (by show ¬ w3.heap.size ≤ w.heap.size; omega)
        have kzn := fun z : KE (fun q => w3.heap.size ≤ q) wr => z.cell q3r (by show ¬ w3.heap.size ≤ bn; omega)
        obtain ⟨a0, ha0⟩ : ∃ a0, x.atk k = a0 := ⟨_, rfl⟩
        obtain ⟨ln, hln⟩ : ∃ ln, y.ins.l.length = ln := ⟨_, rfl⟩
        rw [ha0] at Hblk Hsucc hat ⊢
        rw [hln] at Hsucc hyi y1 y1w
        obtain ⟨hat0, hat1⟩ := hat
        have k1 : (k : Int) < (m : Int) := by omega
        have k0 : (0 : Int) ≤ (k : Int) := by omega
        have hbb : (b : Int) < (nb : Int) := by omega
        have hb0 : (0 : Int) ≤ (b : Int) := by omega
        have s1 : (0 : Int) ≤ (ln : Int) + 2 := by omega
        have s2 : (ln : Int) + 2 ≤ 1002 := by omega
        have s3 : (0 : Int) ≤ 2 * ((ln : Int) + 2) := by omega
        have s4 : 2 * ((ln : Int) + 2) ≤ 2004 := by omega
        have Hy1 := Lib.hid y1w
        have Hd3 := Lib.hid d3
        clear ha0 hln hb hy hbm hbl hl1 hl2 hl3 hob3 hbe hBl1 hBHL hm0 hm0l hm0v hbl0 hoa hkeep q3 y1w
        go_wp2_with fail
        refine region_begin (S := fun w' => ∃ z : KE (fun q => w3.heap.size ≤ q) wr, w' = z.val) (by kernel_rfl) ?_
        refine region_take [0, 1, 2, 3, 4, 5, 6, 7, 8, 9, 10] [] 2 (by kernel_rfl) (by kernel_rfl) (KE.mk' (hd.ext _)) ?_
        show wpQuiet _ _ _ _ [_, _, _, _, _, _, _, _, _, _, _] _
        repeat (go_big_quiet_step (fail))
        refine wpQuiet_nil ?_
        clear kz0 kz1 kz2 kz3 kzn
        refine region_fixU (i := 11) (fuel := 1) rfl rfl (by kernel_rfl) (fun K hK => ?_)
        go_simp
        refine Hbe.out.mono ?_
        rintro e w5 ⟨g, rfl, hg5, hb5, hk5⟩
        have hk5r := hd.trans hk5
        refine hK _ _ (KE.mk' (hk5r.ext _)) ?_
        clear hK K
        refine region_fixU (i := 12) (fuel := 0) rfl rfl (by kernel_rfl) (fun K hK => ?_)
        go_simp
        refine (Hblk.out w5 g hk5r hb5 hg5).mono ?_
        rintro e w6 ⟨⟨u6, rfl⟩, ho6, hE6⟩
        refine hK _ _ (KE.mk' ((hk5r.ext _).trans hE6 (fun i hi e => e))) ?_
        clear hK K Hblk Hbe
        refine region_done (by kernel_rfl) ?_
        have z3 := ho6.keep.cell Hd3.out
        have zl := Nat.lt_of_lt_of_le lt1 ho6.keep.size
        have z1 := ho6.keep.cell Hy1.out
        have Ho6 := Lib.hid ho6
        clear ho6 hE6 hk5r hk5 hb5 hg5 d0r d1r d2r d3r ltr lnr q1 q3r y1 hd
        go_wp2
        go_roundw
        case rel => exact ⟨k + 1, hin, by go_num, by rw [Hsucc.out], Ho6⟩
        case measure => simp [intOf]; omega
      · have hkm : m = k := by omega
        subst hkm
        obtain ⟨w5, rfl⟩ : ∃ w5 : World, w5 = wr := ⟨_, rfl⟩
        have r0 : w5.cell? ⟨br, 0, none⟩ = some (.slice (some ⟨bl, 0, none⟩) nv nv) := hoa.out.rec_.cell 0
        have r1 : w5.cell? ⟨br, 1, none⟩ = some (.slice (some ⟨bm, 0, none⟩) nv nv) := hoa.out.rec_.cell 1
        have rl := hoa.out.rec_.lt
        obtain ⟨ml, hm1, hm1l, hm1v⟩ := hoa.out.marks
        have Hm1 := Lib.hid hm1
        have Hm1l := Lib.hid hm1l
        have Hm1v := Lib.hid (show ∀ v, v < nv → ml.getD v false = ofM x x.ord.length v from fun v hv => by rw [hm1v v hv, Hm.out])
        have Hrows := Lib.hid (show RgRows w5 bl w3.heap.size (ofL x S x.ord.length) from by rw [Hm.out]; exact hoa.out.rows)
        have HLl := Lib.hid (show (ofL x S x.ord.length).length = nv from by rw [ofL_len x S _ (Nat.le_refl _)]; exact Hop.out.nv)
        have Hkw5 := Lib.hid (Hk3.out.trans hoa.out.keep)
        clear hm1 hm1l hm1v hoa hkeep
        go_wp2_with fail
        go_loopw [9, 10, 11, 67] (fun vo _ _ vi wr => ∃ (k : Nat) (ls : List LvD), k ≤ nv ∧ vi = .int .i64 k ∧ Hid (Own lvC 2 28 wr w5.heap.size vo ls) ∧ Hid (ls.map (fun z => (z.val, z.l)) = ofR x S k) ∧ Hid (∀ z ∈ ls, LvOk w5 z) ∧ Hid (Keep w5 wr)) (fun _ _ _ vi _ => nv - (intOf vi).toNat)
        case atStart => exact ⟨0, [], Nat.zero_le _, rfl, Lib.hid (Own.nil _ _ _ _ _), Lib.hid rfl, Lib.hid (fun z hz => by simp at hz), Lib.hid (Keep.refl _)⟩
        case round =>
          obtain ⟨k, ls, hk, rfl, hown, hls, hok, hkeep⟩ := hrel
          by_cases hin : k < nv
          · have hkL : k < (ofL x S x.ord.length).length := by rw [HLl.out]; exact hin
            obtain ⟨Ak, ck, q0, hc1, hc2, hok1⟩ := Hrows.out.at_ hkL
            obtain ⟨lk, hlk⟩ : ∃ lk, (ofL x S x.ord.length)[k] = lk := ⟨_, rfl⟩
            have hlkD : (ofL x S x.ord.length).getD k [] = lk := by rw [List.getD_eq_getElem?_getD, List.getElem?_eq_getElem hkL, hlk]; rfl
            rw [hlk] at q0 hc1 hok1
            have hkm : k < ml.length := by rw [Hm1l.out]; exact hin
            have q1 := Hm1.out.get hkm
            have hmk : ml[k] = ofM x x.ord.length k := by rw [← Hm1v.out k hin, List.getD_eq_getElem?_getD, List.getElem?_eq_getElem hkm]; rfl
            rw [hmk] at q1
            have q0r := hkeep.out.cell q0
            have q1r := hkeep.out.cell q1
            have r1r := hkeep.out.cell r1
            have rlr := Nat.lt_of_lt_of_le rl hkeep.out.size
            have blr := Nat.lt_of_lt_of_le Hrows.out.blk.choose_spec.lt hkeep.out.size
            have bmr := Nat.lt_of_lt_of_le Hm1.out.lt hkeep.out.size
            have k1 : (k : Int) < (nv : Int) := by omega
            have k0 : (0 : Int) ≤ (k : Int) := by omega
            have hsn := ofR_succ x S k
            rw [hlkD] at hsn
            have hlen : ls.length ≤ k := by
              have := congrArg List.length hls.out
              rw [List.length_map] at this
              rw [this]; exact ofR_len x S k
            cases hM : ofM x x.ord.length k with
            | false =>
              rw [hM] at hsn q1r
              have Hn := Lib.hid (show ls.map (fun z => (z.val, z.l)) = ofR x S (k + 1) from by rw [hsn, hls.out]; simp)
              clear hM hsn hls hlk hlkD hok1 q0 q1 hmk hlen
              go_wp2
              go_roundw
              case rel => exact ⟨k + 1, ls, hin, by go_num, hown, Hn, hok, hkeep⟩
              case measure => simp [intOf]; omega
            | true =>
              rw [hM] at hsn q1r
              obtain ⟨Ao, co, hform, A', c', w7, hrun, ho7, hE7, _, _⟩ := hown.out.push1 (P := Try.prog) elL (⟨(k : Int), Ak, lk, ck⟩ : LvD) (by omega) (by omega) hkeep.out.size 22
              subst hform
              have Hn := Lib.hid (show (ls ++ [(⟨(k : Int), Ak, lk, ck⟩ : LvD)]).map (fun z => (z.val, z.l)) = ofR x S (k + 1) from by rw [hsn, List.map_append, hls.out]; rfl)
              have Hok2 := Lib.hid (show ∀ z ∈ ls ++ [(⟨(k : Int), Ak, lk, ck⟩ : LvD)], LvOk w5 z from fun z hz => by
                rcases List.mem_append.1 hz with hz | hz
                · exact hok.out z hz
                · obtain rfl := List.mem_singleton.1 hz
                  exact ⟨hok1.segN.2, Nat.le_trans hc1 hc2⟩)
              have Ho7 := Lib.hid ho7
              have Hk7 := Lib.hid (Keep.of_ext hkeep.out hE7 (fun i hi e => by omega))
              have hrun : (Builtin.append_ #[22, 22] 22 #[.slice Ao ls.length co, .slice (some ⟨wr.heap.size, 0, none⟩) 1 1]).run Try.prog (wr.alloc (.cells #[.int .i64 (k : Int), .slice Ak lk.length ck] 28)) = .ok (.slice A' (ls.length + 1) c') w7 := hrun
              obtain ⟨nl, hnl⟩ : ∃ nl, ls.length = nl := ⟨_, rfl⟩
              obtain ⟨nk, hnk⟩ : ∃ nk, lk.length = nk := ⟨_, rfl⟩
              rw [hnl, hnk] at hrun
              rw [hnl] at Ho7 ⊢
              rw [hnk] at q0r
              clear hM hsn hls hlk hlkD hok1 q0 q1 hmk hlen hown hok hkeep ho7 hE7 hnl hnk hc1
              go_wp2_with (at_builtin; refine wpList_append_eq rfl _ _ _ rfl _ _ rfl rfl _ _ hrun ?_; clear hrun)
              go_roundw
              case rel => exact ⟨k + 1, _, hin, by go_num, Ho7, Hn, Hok2, Hk7⟩
              case measure => simp [intOf]; omega
          · have hkn : nv = k := by omega
            subst hkn
            obtain ⟨Ao, co, hform, _, _⟩ := hown.out.form
            subst hform
            have Hfin := Lib.hid (show Lives wr Ao ls ∧ ls.map (fun z => (z.val, z.l)) = ofR x S x.vals.l.length ∧ Keep w wr from ⟨⟨hown.out.segN.2, fun z hz => (hok.out z hz).keep hkeep.out⟩, by rw [Hop.out.nv]; exact hls.out, Hkw5.out.trans hkeep.out⟩)
            clear hown hls hok hkeep
            go_wp2
            go_ret
            exact ⟨Ao, ls, co, S, rfl, Hfin.out.1, Hfin.out.2.1, Hfi.out, Hsh.out, Hfin.out.2.2⟩
end Go.Proofs.Ytjpmiejgcnfiiaa
