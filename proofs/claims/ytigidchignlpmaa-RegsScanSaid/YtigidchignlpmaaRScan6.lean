/-
  The scan.
-/
import Derived.Test.YtigidchignlpmaaRScan4
import Derived.Test.YtigidchignlpmaaRScan5
namespace Go.Proofs.Ytigidchignlpmaa
open Go Go.RowKit Rg

theorem minus_step {k j : Nat} (h : j < k) : (List.replicate j (Value.int .i64 (-1)) ++ List.replicate (k - j) (Value.int .i64 0)).set j (.int .i64 (-1)) = List.replicate (j + 1) (Value.int .i64 (-1)) ++ List.replicate (k - (j + 1)) (Value.int .i64 0) := by
  obtain ⟨d, hd⟩ : ∃ d, k - j = d + 1 := ⟨k - j - 1, by omega⟩
  rw [hd, List.replicate_succ, List.set_append_right _ _ (by simp)]
  simp only [List.length_replicate, Nat.sub_self, List.set_cons_zero]
  rw [show k - (j + 1) = d by omega, List.replicate_succ', List.append_assoc]; rfl

theorem row_zero (n : Nat) : List.replicate n (Value.int .i64 0) = (rowL n (fun x => if x < 0 then x else 0)).map natC := by
  apply List.ext_getElem?
  intro i
  simp only [rowL, List.map_map, List.getElem?_map, List.getElem?_replicate]
  by_cases h : i < n
  · simp [h, natC]
  · simp [h]
theorem row_step (n j : Nat) : ((rowL n (fun x => if x < j then x else 0)).map natC).set j (natC j) = (rowL n (fun x => if x < j + 1 then x else 0)).map natC := by
  apply List.ext_getElem?
  intro i
  rw [List.getElem?_set]
  by_cases h : i < n
  · have e1 : ((rowL n (fun x => if x < j then x else 0)).map natC)[i]? = some (natC (if i < j then i else 0)) := by rw [List.getElem?_map, rowL_get _ _ h]; rfl
    have e2 : ((rowL n (fun x => if x < j + 1 then x else 0)).map natC)[i]? = some (natC (if i < j + 1 then i else 0)) := by rw [List.getElem?_map, rowL_get _ _ h]; rfl
    rw [e1, e2]
    by_cases hij : j = i
    · subst hij; simp [rowL, h]
    · rw [if_neg hij]
      have : (if i < j then i else 0) = (if i < j + 1 then i else 0) := by
        by_cases h2 : i < j
        · rw [if_pos h2, if_pos (by omega)]
        · rw [if_neg h2, if_neg (by omega)]
      rw [this]
  · have l1 : ∀ f : Nat → Nat, ((rowL n f).map natC)[i]? = none := fun f => by
      rw [List.getElem?_eq_none]; simp [rowL]; omega
    rw [l1, l1]
    by_cases hij : j = i
    · subst hij; simp [rowL, h]
    · rw [if_neg hij]
theorem held_free {B E : Nat → Int} {s0 k n : Nat} {done : List Nat} {s : Sc} (h : Inv B E s0 k n done s) {x : Nat} (hx : x ∉ done) : some x ∉ (s.back B E x).held := fun hm => by
  obtain ⟨r, hr⟩ := List.mem_iff_getElem?.1 hm
  exact hx (h.base.hin r x (back_some hr).1).1
theorem may_all {ls : List LvD} (h : ls.any (fun x => !may x.l) = false) : ∀ x ∈ ls, may x.l = true := fun x hx => by
  have := List.any_eq_false.1 h x hx
  simpa using this
theorem may_len {l : List Rng} (h : may l = true) : 0 < l.length := by
  unfold may at h
  rw [Bool.and_eq_true] at h
  exact of_decide_eq_true h.2
theorem may_lt {ls : List LvD} (h : ls.any (fun x => !may x.l) = false) : ∀ i, i < ls.length → BL ls i < EL ls i := fun i hi => by
  obtain ⟨x, hx⟩ := get_some hi
  rw [BL_get hx, EL_get hx]
  exact (may_bounds (may_all h x (List.mem_of_getElem? hx))).2.1
theorem SX.init_at (X : SX) {w : World} (hk : Keep X.w0 w) (bq : Blk w X.q 61 [.slice X.A X.ls.length X.c, .slice (some ⟨X.hb, 0, none⟩) X.k X.k, .slice (some ⟨X.gb, 0, none⟩) X.ls.length X.ls.length, .int .i64 (X.s0 : Int), .int .i64 (X.s0 : Int), .slice none 0 0])
    (bh : Blk w X.hb 3 (List.replicate X.k (Value.int .i64 (-1)))) (bp : Blk w X.gb 47 ((List.replicate X.ls.length ((false, 0) : Bool × Nat)).flatMap plC)) (hB : X.B1 = w.heap.size) (ho : w.heap[X.g]? = X.ob) :
    X.AtV (Sc.init X.s0 X.k X.ls.length) 0 (.slice none 0 0) w where
  keep := hk
  bq := bq
  bh := by
    have e : (Sc.init X.s0 X.k X.ls.length).held.map optC = List.replicate X.k (Value.int .i64 (-1)) := by simp [Sc.init, optC]
    rw [e]; exact bh
  bg := bp
  own := Own.nil natF 1 3 w X.B1
  lh := by simp [Sc.init]
  lp := by simp [Sc.init]
  hh := fun y hy => by simp [Sc.init] at hy
  ho := fun y hy => by simp [Sc.init] at hy
  lo := by simp [Sc.init]
  ls := Nat.le_refl _
  b1 := Nat.le_of_eq hB
  og := ho

/-- What the scan leaves behind. -/
def ScanPost (w : World) (ls : List LvD) (k s0 : Nat) (e : Ending) (w' : World) : Prop :=
  Keep w w' ∧ ∃ gb, w.heap.size ≤ gb ∧ Blk w' gb 47 ((Rg.scan (BL ls) (EL ls) s0 k ls.length (ord (BL ls) ls.length)).pl.flatMap plC) ∧
    e = .returned (.tuple #[.agg #[.slice (some ⟨gb, 0, none⟩) ls.length ls.length, .int .i64 ((Rg.scan (BL ls) (EL ls) s0 k ls.length (ord (BL ls) ls.length)).slots : Int)], .int .i64 0])

set_option maxHeartbeats 8000000 in
set_option maxRecDepth 100000 in
theorem scan_good (A : Option Addr) (ls : List LvD) (c k s0 : Nat) (w : World) (hl : Lives w A ls) (hn : ls.length ≤ 60) (hk : k ≤ 16) (hs : s0 ≤ 65536) (hmay : ls.any (fun x => !may x.l) = false) :
    Calls Try.prog 10 #[.slice A ls.length c, .int .i64 (k : Int), .int .i64 (s0 : Int)] w (ScanPost w ls k s0) := by
  obtain ⟨wa, hwa⟩ : ∃ wa : World, wa = (w.alloc (.cells #[.slice A ls.length c] 22)).alloc (.cells #[.slice none 0 0, .int .i64 0] 27) := ⟨_, rfl⟩
  have hka : Keep w wa := by rw [hwa]; exact ((Keep.refl _).alloc _).alloc _
  have bl : Blk wa w.heap.size 22 [.slice A ls.length c] := by rw [hwa]; exact (Blk.new w _ [.slice A ls.length c]).keep ((Keep.refl _).alloc _)
  have bg : Blk wa (w.heap.size + 1) 27 [.slice none 0 0, .int .i64 0] := by
    rw [hwa]
    have := Blk.new (w.alloc (.cells #[.slice A ls.length c] 22)) 27 [.slice none 0 0, .int .i64 0]
    simpa using this
  have z0 : wa.cell? ⟨w.heap.size, 0, none⟩ = some (.slice A ls.length c) := bl.cell 0
  have lt := bl.lt
  have H := Lib.hid (anyLive_calls A ls c wa (hl.keep hka) (by omega))
  have Hmay := Lib.hid hmay
  have Hl := Lib.hid (hl.keep hka)
  have Hka := Lib.hid hka
  have g1 : ¬ (k : Int) < 0 := by omega
  have g2 : ¬ (16 : Int) < (k : Int) := by omega
  have g3 : ¬ (s0 : Int) < 0 := by omega
  have g4 : ¬ (65536 : Int) < (s0 : Int) := by omega
  clear hl hmay hka
  go_enter Try.func10, Try.ntmps10
  go_wp2_with fail
  rw [← hwa]
  clear hwa
  refine H.out.mono ?_
  rintro e w1 ⟨rfl, k1⟩
  rw [Hmay.out]
  have bl1 := bl.keep k1
  have bg1 := bg.keep k1
  have Hl1 := Lib.hid (Hl.out.keep k1)
  have Hk1 := Lib.hid (Hka.out.trans k1)
  clear H Hl Hka bl bg z0 lt k1
  have kz := fun y : KW w1 => y.cell (v := .slice A ls.length c) (bl1.cell 0)
  have lz := bl1.lt
  go_wp2_with fail
  obtain ⟨wd, hwd⟩ : ∃ wd, w1.drew = wd := ⟨_, rfl⟩
  have hkd : Keep w1 wd := by rw [← hwd]; exact (Keep.refl _).drew
  refine region_begin (S := fun w' => ∃ y : KW w1, w' = y.val) (by kernel_rfl) ?_
  rw [hwd]
  refine region_take [0, 1, 3, 4, 6, 8] [] 6 (by kernel_rfl) (by kernel_rfl) (InK.mk' hkd) ?_
  show wpQuiet _ _ _ _ [_, _, _, _, _, _] _
  repeat (go_big_quiet_step (fail))
  refine wpQuiet_nil ?_
  clear hwd
  refine region_any (fuel := 5) (is := [2, 5]) (by kernel_rfl) (by simp) (mem2 ?_ ?_)
  · refine ⟨_, rfl, fun K hK => ?_⟩
    obtain ⟨w2, hmk2, b2, k2'⟩ := make_ints wd k (by omega)
    go_simp
    have k2 := hkd.trans k2'
    refine hK _ _ (InK.mk' k2) ?_
    clear hK K hmk2
    refine region_fix (i := 5) (fuel := 4) rfl (by kernel_rfl) (fun K hK => ?_)
    obtain ⟨w3, hmk3, b3, k3'⟩ := make_places w2 ls.length (by omega)
    go_simp
    have k3 := k2.trans k3'
    refine hK _ _ (InK.mk' k3) ?_
    clear hK K hmk3
    refine region_take [7, 9] [0, 1, 3, 4, 6, 8, 2, 5] 2 (by kernel_rfl) (by kernel_rfl) (InK.mk' k3) ?_
    show wpQuiet _ _ _ _ [_, _] _
    repeat (go_big_quiet_step (fail))
    refine wpQuiet_nil ?_
    refine region_fix (i := 10) (fuel := 1) rfl (by kernel_rfl) (fun K hK => ?_)
    go_simp
    have k4 : Keep w1 (w3.alloc (.cells #[.slice A ls.length c, .slice (some ⟨wd.heap.size, 0, none⟩) k k, .slice (some ⟨w2.heap.size, 0, none⟩) ls.length ls.length, .int .i64 (s0 : Int), .int .i64 (s0 : Int), .slice none 0 0] 61)) := k3.alloc _
    refine hK _ _ (InK.mk' k4) ?_
    clear hK K
    refine region_take [11] [0, 1, 3, 4, 6, 8, 2, 5, 7, 9, 10] 0 (by kernel_rfl) (by kernel_rfl) (InK.mk' k4) ?_
    show wpQuiet _ _ _ _ [_] _
    repeat (go_big_quiet_step (fail))
    refine wpQuiet_nil ?_
    refine region_done (by kernel_rfl) ?_
    have bq := Blk.new w3 61 [.slice A ls.length c, .slice (some ⟨wd.heap.size, 0, none⟩) k k, .slice (some ⟨w2.heap.size, 0, none⟩) ls.length ls.length, .int .i64 (s0 : Int), .int .i64 (s0 : Int), .slice none 0 0]
    have bh := (b2.keep k3').keep ((Keep.refl _).alloc (.cells #[.slice A ls.length c, .slice (some ⟨wd.heap.size, 0, none⟩) k k, .slice (some ⟨w2.heap.size, 0, none⟩) ls.length ls.length, .int .i64 (s0 : Int), .int .i64 (s0 : Int), .slice none 0 0] 61))
    have bp := (b3).keep ((Keep.refl _).alloc (.cells #[.slice A ls.length c, .slice (some ⟨wd.heap.size, 0, none⟩) k k, .slice (some ⟨w2.heap.size, 0, none⟩) ls.length ls.length, .int .i64 (s0 : Int), .int .i64 (s0 : Int), .slice none 0 0] 61))
    have s1 : w1.heap.size ≤ wd.heap.size := hkd.size
    have s2 : wd.heap.size ≤ w2.heap.size := k2'.size
    have s3 : w2.heap.size ≤ w3.heap.size := k3'.size
    obtain ⟨hb, hhb⟩ : ∃ hb, wd.heap.size = hb := ⟨_, rfl⟩
    obtain ⟨gb, hgb⟩ : ∃ gb, w2.heap.size = gb := ⟨_, rfl⟩
    obtain ⟨q, hq⟩ : ∃ q, w3.heap.size = q := ⟨_, rfl⟩
    simp only [hhb, hgb, hq] at k4 bq bh bp ⊢
    have o1 : w1.heap.size ≤ q := by omega
    have o2 : w1.heap.size ≤ hb := by omega
    have o3 : w1.heap.size ≤ gb := by omega
    obtain ⟨w5, hw5⟩ : ∃ w5 : World, w5 = w3.alloc (.cells #[.slice A ls.length c, .slice (some ⟨hb, 0, none⟩) k k, .slice (some ⟨gb, 0, none⟩) ls.length ls.length, .int .i64 (s0 : Int), .int .i64 (s0 : Int), .slice none 0 0] 61) := ⟨_, rfl⟩
    replace bq : Blk w5 q 61 [.slice A ls.length c, .slice (some ⟨hb, 0, none⟩) k k, .slice (some ⟨gb, 0, none⟩) ls.length ls.length, .int .i64 (s0 : Int), .int .i64 (s0 : Int), .slice none 0 0] := by rw [hw5]; exact bq
    replace bh : Blk w5 hb 3 (List.replicate k (.int .i64 0)) := by rw [hw5]; exact bh
    replace bp : Blk w5 gb 47 ((List.replicate ls.length ((false, 0) : Bool × Nat)).flatMap plC) := by rw [hw5]; exact bp
    replace k4 : Keep w1 w5 := by rw [hw5]; exact k4
    rw [← hw5]
    clear hw5 hhb hgb hq b2 b3 k2 k3 k2' k3' s1 s2 s3 kz hkd
    have kc := (bl1.keep k4).cell 0
    replace kc : w5.cell? ⟨w.heap.size, 0, none⟩ = some (.slice A ls.length c) := kc
    have lz5 : w.heap.size < w5.heap.size := Nat.lt_of_lt_of_le lz k4.size
    obtain ⟨w6, hmk6, b6, k6⟩ := make_ints w5 ls.length (by omega)
    have og : w1.heap.size ≤ w5.heap.size := k4.size
    have lq5 := bq.lt
    have lh5 := bh.lt
    have lp5 := bp.lt
    go_wp2_with fail
    obtain ⟨g, hg⟩ : ∃ g, w5.heap.size = g := ⟨_, rfl⟩
    simp only [hg] at b6 og lq5 lh5 lp5 ⊢
    have Hg := Lib.hid hg
    clear hmk6 hg kc lz5
    rw [row_zero] at b6
    go_loopw [50] (fun i wr => ∃ j : Nat, j ≤ ls.length ∧ i = .int .i64 j ∧ Keep w5 wr ∧ Blk wr g 3 ((rowL ls.length (fun x => if x < j then x else 0)).map natC)) (fun i _ => ls.length - (intOf i).toNat)
    case atStart => exact ⟨0, Nat.zero_le _, rfl, k6, b6⟩
    case round =>
      clear b6 k6
      obtain ⟨j, hj, rfl, kj, bj⟩ := hrel
      by_cases hjn : j < ls.length
      · have cg : wr.cell? ⟨g, j, none⟩ = some (.int .i64 0) := by
          rw [bj.cell j, List.getElem?_map, rowL_get _ _ hjn]; simp [natC]
        have fg := bj.frozen j
        have lg := bj.lt
        have hjj : (j : Int) < (ls.length : Int) := by omega
        have hj0 : (0 : Int) ≤ (j : Int) := by omega
        have b2 : Blk (wr.setCell ⟨g, j, none⟩ (.int .i64 (j : Int))) g 3 ((rowL ls.length (fun x => if x < j + 1 then x else 0)).map natC) := by
          have := bj.set_ j (natC j)
          rwa [row_step] at this
        have Hk2 := Lib.hid (kj.setCell (p := ⟨g, j, none⟩) (by rw [Hg.out]; exact Nat.le_refl g) (.int .i64 (j : Int)))
        clear bj
        go_wp2
        go_roundw
        case rel => exact ⟨j + 1, hjn, by go_num, Hk2.out, b2⟩
        case measure => simp [intOf]; omega
      · have hjl : j = ls.length := by omega
        subst hjl
        have b7 := Lib.hid bj
        have bq7 := bq.keep kj
        have bh7 := bh.keep kj
        have bp7 := Lib.hid (bp.keep kj)
        have k7 := Lib.hid (k4.trans kj)
        have q1 : wr.cell? ⟨q, 1, none⟩ = some (.slice (some ⟨hb, 0, none⟩) k k) := bq7.cell 1
        have lq := bq7.lt
        have hqh : q ≠ hb := bq7.ne bh7 (by decide)
        have hpq : gb ≠ hb := bp7.out.ne bh7 (by decide)
        obtain ⟨w7, hw7⟩ : ∃ w7, w7 = wr := ⟨_, rfl⟩
        subst hw7
        clear bq bh bp k4 bj kj
        go_wp2_with fail
        clear q1 lq
        go_loopw [63] (fun i wz => ∃ j : Nat, j ≤ k ∧ i = .int .i64 j ∧ Ext (fun b => b = hb) w7 wz ∧ Blk wz hb 3 (List.replicate j (Value.int .i64 (-1)) ++ List.replicate (k - j) (Value.int .i64 0))) (fun i _ => k - (intOf i).toNat)
        case atStart => exact ⟨0, Nat.zero_le _, rfl, Ext.refl _ _, bh7⟩
        case round =>
          clear bh7
          obtain ⟨j, hj, rfl, ej, bj⟩ := hrel
          have bq8 := bq7.ext ej hqh
          have q1 : wr.cell? ⟨q, 1, none⟩ = some (.slice (some ⟨hb, 0, none⟩) k k) := bq8.cell 1
          have lq := bq8.lt
          by_cases hjk : j < k
          · have ch : wr.cell? ⟨hb, j, none⟩ = some (.int .i64 0) := by
              rw [bj.cell j, List.getElem?_append_right (by simp), List.length_replicate, Nat.sub_self, List.getElem?_replicate, if_pos (by omega)]
            have fh := bj.frozen j
            have lh := bj.lt
            have hjj : (j : Int) < (k : Int) := by omega
            have hj0 : (0 : Int) ≤ (j : Int) := by omega
            have b2 : Blk (wr.setCell ⟨hb, j, none⟩ (.int .i64 (-1))) hb 3 (List.replicate (j + 1) (Value.int .i64 (-1)) ++ List.replicate (k - (j + 1)) (Value.int .i64 0)) := by
              have := bj.set_ j (.int .i64 (-1))
              rwa [minus_step hjk] at this
            have He2 := Lib.hid (ej.trans (ext_one wr hb j (.int .i64 (-1))) (fun _ _ h => h))
            clear bj bq8
            go_wp2
            go_roundw
            case rel => exact ⟨j + 1, hjk, by go_num, He2.out, b2⟩
            case measure => simp [intOf]; omega
          · have hjl : j = k := by omega
            subst hjl
            rw [Nat.sub_self, List.replicate_zero, List.append_nil] at bj
            obtain ⟨w8, hw8⟩ : ∃ w8, w8 = wr := ⟨_, rfl⟩
            subst hw8
            have hgh : g ≠ hb := by omega
            have k8 : Keep w1 w8 := Below.trans k7.out (ej.below k7.out.size (fun b hb' e => by omega))
            have b8 := b7.out.ext ej hgh
            have hph : gb ≠ hb := hpq
            have bp8 := bp7.out.ext ej hph
            clear ej b7 bp7 k7 bq7 q1 lq
            have hcmp := scan2_ok w1 w8 g A ls c ⟨w.heap.size, 0, none⟩ k8 og Hl1.out (bl1.cell 0) (fun x hx => may_len (may_all Hmay.out x hx))
            have Hsort := Lib.hid (sortStable_calls w8 g ls.length (BL ls) (some ⟨w.heap.size, 0, none⟩) hcmp (fun x => if x < ls.length then x else 0) w8 ls.length ⟨Ext.refl _ _, b8⟩ hn (fun x hx => if_pos hx))
            unfold cmpV at Hsort
            clear hcmp b8
            go_wp2_with fail
            refine Hsort.out.mono ?_
            rintro e w9 ⟨⟨u, rfl⟩, hst9⟩
            clear Hsort
            have k9 : Keep w1 w9 := Below.trans k8 (hst9.1.below k8.size (fun b hb' e => by omega))
            have bq9 := bq8.ext hst9.1 (show ¬ q = g by omega)
            have bh9 := bj.ext hst9.1 (show ¬ hb = g by omega)
            have bp9 := bp8.ext hst9.1 (show ¬ gb = g by omega)
            have b9 := Lib.hid hst9.2
            obtain ⟨X, hXd⟩ : ∃ X : SX, X = ⟨w1, A, ls, c, s0, j, q, hb, gb, w9.heap.size, g, w9.heap[g]?⟩ := ⟨_, rfl⟩
            have hX : X.Ok := by
              rw [hXd]
              exact { lives := Hl1.out, n60 := hn, ne := fun x hx => may_len (may_all Hmay.out x hx), s0 := hs, k16 := hk, q := ⟨o1, bq9.lt⟩, hb := ⟨o2, bh9.lt⟩, gb := ⟨o3, bp9.lt⟩, g := ⟨b9.out.lt, by show g ≠ q; omega, by show g ≠ hb; omega, by show g ≠ gb; omega⟩ }
            have h9 : X.At (Sc.init s0 j ls.length) 0 w9 := by
              subst hXd
              exact ⟨_, SX.init_at _ k9 bq9 bh9 bp9 rfl rfl⟩
            have HB := Lib.hid (show ∀ (s : Sc) (m x : Nat) (wz : World), X.At s m wz → x < ls.length → Calls Try.prog 29 #[.pointer (some ⟨q, 0, none⟩), .int .i64 (x : Int)] wz fun e w' => (∃ v, e = .returned v) ∧ X.At (s.back (BL ls) (EL ls) x) m w' from fun s m x wz h hx => by
              subst hXd
              exact back_calls _ hX s m x wz h hx)
            have HP := Lib.hid (show ∀ (s : Sc) (m x : Nat) (wz : World), X.At s m wz → x < ls.length → m ≤ 60 → some x ∉ s.held → Calls Try.prog 30 #[.pointer (some ⟨q, 0, none⟩), .int .i64 (x : Int)] wz fun e w' => (∃ v, e = .returned v) ∧ X.At (s.place (BL ls) (EL ls) s0 x) (m + 1) w' from fun s m x wz h hx hm hnx => by
              subst hXd
              exact place_calls _ hX s m x wz h hx hm hnx)
            have HF := Lib.hid (show ∀ (s : Sc) (m : Nat) (wz : World), X.At s m wz → Keep w1 wz ∧ wz.heap[g]? = w9.heap[g]? ∧ (∃ ov, Blk wz q 61 [.slice A ls.length c, .slice (some ⟨hb, 0, none⟩) j j, .slice (some ⟨gb, 0, none⟩) ls.length ls.length, .int .i64 (s.slots : Int), .int .i64 (s0 : Int), ov]) ∧ Blk wz gb 47 (s.pl.flatMap plC) from fun s m wz h => by
              subst hXd
              obtain ⟨ov, h⟩ := h
              exact ⟨h.keep, h.og, ⟨ov, h.bq⟩, h.bg⟩)
            clear hXd hX hst9 bq9 bh9 bp9 bq8 bj bp8 k8 k9
            obtain ⟨hop, hos⟩ := ord_ok (BL ls) ls.length
            have hol : (ord (BL ls) ls.length).length = ls.length := by rw [hop.length_eq]; simp
            have hom : ∀ y ∈ ord (BL ls) ls.length, y < ls.length := fun y hy => by simpa using hop.subset hy
            have Hord := Lib.hid (And.intro hop (And.intro hos (And.intro hol hom)))
            clear hop hos hol hom
            go_wp2_with fail
            go_loopw [78] (fun i wr => ∃ i' : Nat, i' ≤ ls.length ∧ i = .int .i64 i' ∧ X.At (((ord (BL ls) ls.length).take i').foldl (Sc.step (BL ls) (EL ls) s0) (Sc.init s0 j ls.length)) i' wr) (fun i _ => ls.length - (intOf i).toNat)
            case atStart => exact ⟨0, Nat.zero_le _, rfl, h9⟩
            case round =>
              clear h9
              obtain ⟨i', hi, rfl, hat⟩ := hrel
              obtain ⟨sj, hsj⟩ : ∃ sj, ((ord (BL ls) ls.length).take i').foldl (Sc.step (BL ls) (EL ls) s0) (Sc.init s0 j ls.length) = sj := ⟨_, rfl⟩
              rw [hsj] at hat
              obtain ⟨kf, og2, ⟨ov, bqf⟩, bgf⟩ := HF.out _ _ _ hat
              by_cases hin : i' < ls.length
              · obtain ⟨hop, hos, hol, hom⟩ := Hord.out
                obtain ⟨x, hx⟩ := get_some (l := ord (BL ls) ls.length) (k := i') (by omega)
                have hxn := hom x (List.mem_of_getElem? hx)
                have bg2 : Blk wr g 3 ((rowL ls.length (fun i => (ord (BL ls) ls.length).getD i 0)).map natC) := by
                  unfold Blk
                  rw [og2]
                  exact b9.out
                have cg : wr.cell? ⟨g, i', none⟩ = some (.int .i64 (x : Int)) := by
                  rw [bg2.cell i', List.getElem?_map, rowL_get _ _ hin, List.getD_eq_getElem?_getD, hx]; rfl
                have lg := bg2.lt
                have hii : (i' : Int) < (ls.length : Int) := by omega
                have hi0 : (0 : Int) ≤ (i' : Int) := by omega
                have hnew : x ∉ (ord (BL ls) ls.length).take i' := fun hm => by
                  have h1 : (ord (BL ls) ls.length).take (i' + 1) = (ord (BL ls) ls.length).take i' ++ [x] := by rw [List.take_add_one, hx]; rfl
                  have h2 := hos.sublist (List.take_sublist (i' + 1) _)
                  rw [h1, List.pairwise_append] at h2
                  exact (h2.2.2 x hm x (by simp)).irrefl
                have Hinv : Inv (BL ls) (EL ls) s0 j ls.length ((ord (BL ls) ls.length).take i') sj := by
                  have := Inv.scan (s0 := s0) (k := j) (may_lt Hmay.out) ((ord (BL ls) ls.length).take i') [] _ Inv.init (by simpa using hos.sublist (List.take_sublist i' _)) (fun y hy => hom y (List.mem_of_mem_take hy))
                  rw [hsj] at this
                  simpa using this
                have hnx := Lib.hid (held_free Hinv hnew)
                have Hstep := Lib.hid (show ((ord (BL ls) ls.length).take (i' + 1)).foldl (Sc.step (BL ls) (EL ls) s0) (Sc.init s0 j ls.length) = (sj.back (BL ls) (EL ls) x).place (BL ls) (EL ls) s0 x by
                  rw [List.take_add_one, hx, List.foldl_append, hsj]; rfl)
                clear Hinv hnew hx bg2 hop hos hol hom kf og2 bqf bgf hsj
                go_wp2_with fail
                refine (HB.out sj i' x wr hat hxn).mono ?_
                rintro e w2 ⟨⟨u2, rfl⟩, hat2⟩
                go_wp2_with fail
                refine (HP.out _ i' x w2 hat2 hxn (by omega) hnx.out).mono ?_
                rintro e w3 ⟨⟨u3, rfl⟩, hat3⟩
                clear hat hat2
                go_wp2
                go_roundw
                case rel => exact ⟨i' + 1, hin, by go_num, by rw [Hstep.out]; exact hat3⟩
                case measure => simp [intOf]; omega
              · have hil : i' = ls.length := by omega
                have hS : Rg.scan (BL ls) (EL ls) s0 j ls.length (ord (BL ls) ls.length) = sj := by
                  rw [← hsj, hil, List.take_of_length_le (by rw [Hord.out.2.2.1]; exact Nat.le_refl _)]; rfl
                have q2 : wr.cell? ⟨q, 2, none⟩ = some (.slice (some ⟨gb, 0, none⟩) ls.length ls.length) := bqf.cell 2
                have q3 : wr.cell? ⟨q, 3, none⟩ = some (.int .i64 (sj.slots : Int)) := bqf.cell 3
                have lq := bqf.lt
                have gl1 := bg1.lt
                have bgv := bg1.keep kf
                have x0 : wr.cell? ⟨w.heap.size + 1, 0, none⟩ = some (.slice none 0 0) := bgv.cell 0
                have ff := bgv.frozen 0
                have lg := bgv.lt
                have bgw := (bgv.set_ 0 (.slice (some ⟨gb, 0, none⟩) ls.length ls.length)).set_ 1 (.int .i64 (sj.slots : Int))
                have f2 := (bgv.set_ 0 (.slice (some ⟨gb, 0, none⟩) ls.length ls.length)).frozen 1
                have l2 := (bgv.set_ 0 (.slice (some ⟨gb, 0, none⟩) ls.length ls.length)).lt
                have x1' : (wr.setCell ⟨w.heap.size + 1, 0, none⟩ (.slice (some ⟨gb, 0, none⟩) ls.length ls.length)).cell? ⟨w.heap.size + 1, 1, none⟩ = some (.int .i64 0) := (bgv.set_ 0 (.slice (some ⟨gb, 0, none⟩) ls.length ls.length)).cell 1
                have u0 : ((wr.setCell ⟨w.heap.size + 1, 0, none⟩ (.slice (some ⟨gb, 0, none⟩) ls.length ls.length)).setCell ⟨w.heap.size + 1, 1, none⟩ (.int .i64 (sj.slots : Int))).cell? ⟨w.heap.size + 1, 0, none⟩ = some (.slice (some ⟨gb, 0, none⟩) ls.length ls.length) := bgw.cell 0
                have u1 : ((wr.setCell ⟨w.heap.size + 1, 0, none⟩ (.slice (some ⟨gb, 0, none⟩) ls.length ls.length)).setCell ⟨w.heap.size + 1, 1, none⟩ (.int .i64 (sj.slots : Int))).cell? ⟨w.heap.size + 1, 1, none⟩ = some (.int .i64 (sj.slots : Int)) := bgw.cell 1
                have Hfin := Lib.hid (show ScanPost w ls j s0 (.returned (.tuple #[.agg #[.slice (some ⟨gb, 0, none⟩) ls.length ls.length, .int .i64 (sj.slots : Int)], .int .i64 0])) ((wr.setCell ⟨w.heap.size + 1, 0, none⟩ (.slice (some ⟨gb, 0, none⟩) ls.length ls.length)).setCell ⟨w.heap.size + 1, 1, none⟩ (.int .i64 (sj.slots : Int))) from by
                  unfold ScanPost
                  rw [hS]
                  exact ⟨((Hk1.out.trans kf).setCell (p := ⟨w.heap.size + 1, 0, none⟩) (by show w.heap.size ≤ w.heap.size + 1; omega) _).setCell (p := ⟨w.heap.size + 1, 1, none⟩) (by show w.heap.size ≤ w.heap.size + 1; omega) _, gb, by omega,
                    (bgf.far (p := ⟨w.heap.size + 1, 0, none⟩) (by show ¬ gb = w.heap.size + 1; omega) _).far (p := ⟨w.heap.size + 1, 1, none⟩) (by show ¬ gb = w.heap.size + 1; omega) _, rfl⟩)
                clear hS hat hsj bgv bgw bqf bgf kf og2 Hord
                go_wp2
                exact bodyPost_ret (v := .tuple #[.agg #[.slice (some ⟨gb, 0, none⟩) ls.length ls.length, .int .i64 (sj.slots : Int)], .int .i64 0]) (by simp [results, Try.results10, go_sem, u0, u1]) rfl Hfin.out
  · refine ⟨_, rfl, fun K hK => ?_⟩
    obtain ⟨w2, hmk2, b2, k2'⟩ := make_places wd ls.length (by omega)
    go_simp
    have k2 := hkd.trans k2'
    refine hK _ _ (InK.mk' k2) ?_
    clear hK K hmk2
    refine region_take [7] [0, 1, 3, 4, 6, 8, 5] 4 (by kernel_rfl) (by kernel_rfl) (InK.mk' k2) ?_
    show wpQuiet _ _ _ _ [_] _
    repeat (go_big_quiet_step (fail))
    refine wpQuiet_nil ?_
    refine region_fix (i := 2) (fuel := 3) rfl (by kernel_rfl) (fun K hK => ?_)
    obtain ⟨w3, hmk3, b3, k3'⟩ := make_ints w2 k (by omega)
    go_simp
    have k3 := k2.trans k3'
    refine hK _ _ (InK.mk' k3) ?_
    clear hK K hmk3
    refine region_take [9] [0, 1, 3, 4, 6, 8, 5, 7, 2] 2 (by kernel_rfl) (by kernel_rfl) (InK.mk' k3) ?_
    show wpQuiet _ _ _ _ [_] _
    repeat (go_big_quiet_step (fail))
    refine wpQuiet_nil ?_
    refine region_fix (i := 10) (fuel := 1) rfl (by kernel_rfl) (fun K hK => ?_)
    go_simp
    have k4 : Keep w1 (w3.alloc (.cells #[.slice A ls.length c, .slice (some ⟨w2.heap.size, 0, none⟩) k k, .slice (some ⟨wd.heap.size, 0, none⟩) ls.length ls.length, .int .i64 (s0 : Int), .int .i64 (s0 : Int), .slice none 0 0] 61)) := k3.alloc _
    refine hK _ _ (InK.mk' k4) ?_
    clear hK K
    refine region_take [11] [0, 1, 3, 4, 6, 8, 5, 7, 2, 9, 10] 0 (by kernel_rfl) (by kernel_rfl) (InK.mk' k4) ?_
    show wpQuiet _ _ _ _ [_] _
    repeat (go_big_quiet_step (fail))
    refine wpQuiet_nil ?_
    refine region_done (by kernel_rfl) ?_
    have bq := Blk.new w3 61 [.slice A ls.length c, .slice (some ⟨w2.heap.size, 0, none⟩) k k, .slice (some ⟨wd.heap.size, 0, none⟩) ls.length ls.length, .int .i64 (s0 : Int), .int .i64 (s0 : Int), .slice none 0 0]
    have bh := (b3).keep ((Keep.refl _).alloc (.cells #[.slice A ls.length c, .slice (some ⟨w2.heap.size, 0, none⟩) k k, .slice (some ⟨wd.heap.size, 0, none⟩) ls.length ls.length, .int .i64 (s0 : Int), .int .i64 (s0 : Int), .slice none 0 0] 61))
    have bp := (b2.keep k3').keep ((Keep.refl _).alloc (.cells #[.slice A ls.length c, .slice (some ⟨w2.heap.size, 0, none⟩) k k, .slice (some ⟨wd.heap.size, 0, none⟩) ls.length ls.length, .int .i64 (s0 : Int), .int .i64 (s0 : Int), .slice none 0 0] 61))
    have s1 : w1.heap.size ≤ wd.heap.size := hkd.size
    have s2 : wd.heap.size ≤ w2.heap.size := k2'.size
    have s3 : w2.heap.size ≤ w3.heap.size := k3'.size
    obtain ⟨hb, hhb⟩ : ∃ hb, w2.heap.size = hb := ⟨_, rfl⟩
    obtain ⟨gb, hgb⟩ : ∃ gb, wd.heap.size = gb := ⟨_, rfl⟩
    obtain ⟨q, hq⟩ : ∃ q, w3.heap.size = q := ⟨_, rfl⟩
    simp only [hhb, hgb, hq] at k4 bq bh bp ⊢
    have o1 : w1.heap.size ≤ q := by omega
    have o2 : w1.heap.size ≤ hb := by omega
    have o3 : w1.heap.size ≤ gb := by omega
    obtain ⟨w5, hw5⟩ : ∃ w5 : World, w5 = w3.alloc (.cells #[.slice A ls.length c, .slice (some ⟨hb, 0, none⟩) k k, .slice (some ⟨gb, 0, none⟩) ls.length ls.length, .int .i64 (s0 : Int), .int .i64 (s0 : Int), .slice none 0 0] 61) := ⟨_, rfl⟩
    replace bq : Blk w5 q 61 [.slice A ls.length c, .slice (some ⟨hb, 0, none⟩) k k, .slice (some ⟨gb, 0, none⟩) ls.length ls.length, .int .i64 (s0 : Int), .int .i64 (s0 : Int), .slice none 0 0] := by rw [hw5]; exact bq
    replace bh : Blk w5 hb 3 (List.replicate k (.int .i64 0)) := by rw [hw5]; exact bh
    replace bp : Blk w5 gb 47 ((List.replicate ls.length ((false, 0) : Bool × Nat)).flatMap plC) := by rw [hw5]; exact bp
    replace k4 : Keep w1 w5 := by rw [hw5]; exact k4
    rw [← hw5]
    clear hw5 hhb hgb hq b2 b3 k2 k3 k2' k3' s1 s2 s3 kz hkd
    have kc := (bl1.keep k4).cell 0
    replace kc : w5.cell? ⟨w.heap.size, 0, none⟩ = some (.slice A ls.length c) := kc
    have lz5 : w.heap.size < w5.heap.size := Nat.lt_of_lt_of_le lz k4.size
    obtain ⟨w6, hmk6, b6, k6⟩ := make_ints w5 ls.length (by omega)
    have og : w1.heap.size ≤ w5.heap.size := k4.size
    have lq5 := bq.lt
    have lh5 := bh.lt
    have lp5 := bp.lt
    go_wp2_with fail
    obtain ⟨g, hg⟩ : ∃ g, w5.heap.size = g := ⟨_, rfl⟩
    simp only [hg] at b6 og lq5 lh5 lp5 ⊢
    have Hg := Lib.hid hg
    clear hmk6 hg kc lz5
    rw [row_zero] at b6
    go_loopw [50] (fun i wr => ∃ j : Nat, j ≤ ls.length ∧ i = .int .i64 j ∧ Keep w5 wr ∧ Blk wr g 3 ((rowL ls.length (fun x => if x < j then x else 0)).map natC)) (fun i _ => ls.length - (intOf i).toNat)
    case atStart => exact ⟨0, Nat.zero_le _, rfl, k6, b6⟩
    case round =>
      clear b6 k6
      obtain ⟨j, hj, rfl, kj, bj⟩ := hrel
      by_cases hjn : j < ls.length
      · have cg : wr.cell? ⟨g, j, none⟩ = some (.int .i64 0) := by
          rw [bj.cell j, List.getElem?_map, rowL_get _ _ hjn]; simp [natC]
        have fg := bj.frozen j
        have lg := bj.lt
        have hjj : (j : Int) < (ls.length : Int) := by omega
        have hj0 : (0 : Int) ≤ (j : Int) := by omega
        have b2 : Blk (wr.setCell ⟨g, j, none⟩ (.int .i64 (j : Int))) g 3 ((rowL ls.length (fun x => if x < j + 1 then x else 0)).map natC) := by
          have := bj.set_ j (natC j)
          rwa [row_step] at this
        have Hk2 := Lib.hid (kj.setCell (p := ⟨g, j, none⟩) (by rw [Hg.out]; exact Nat.le_refl g) (.int .i64 (j : Int)))
        clear bj
        go_wp2
        go_roundw
        case rel => exact ⟨j + 1, hjn, by go_num, Hk2.out, b2⟩
        case measure => simp [intOf]; omega
      · have hjl : j = ls.length := by omega
        subst hjl
        have b7 := Lib.hid bj
        have bq7 := bq.keep kj
        have bh7 := bh.keep kj
        have bp7 := Lib.hid (bp.keep kj)
        have k7 := Lib.hid (k4.trans kj)
        have q1 : wr.cell? ⟨q, 1, none⟩ = some (.slice (some ⟨hb, 0, none⟩) k k) := bq7.cell 1
        have lq := bq7.lt
        have hqh : q ≠ hb := bq7.ne bh7 (by decide)
        have hpq : gb ≠ hb := bp7.out.ne bh7 (by decide)
        obtain ⟨w7, hw7⟩ : ∃ w7, w7 = wr := ⟨_, rfl⟩
        subst hw7
        clear bq bh bp k4 bj kj
        go_wp2_with fail
        clear q1 lq
        go_loopw [63] (fun i wz => ∃ j : Nat, j ≤ k ∧ i = .int .i64 j ∧ Ext (fun b => b = hb) w7 wz ∧ Blk wz hb 3 (List.replicate j (Value.int .i64 (-1)) ++ List.replicate (k - j) (Value.int .i64 0))) (fun i _ => k - (intOf i).toNat)
        case atStart => exact ⟨0, Nat.zero_le _, rfl, Ext.refl _ _, bh7⟩
        case round =>
          clear bh7
          obtain ⟨j, hj, rfl, ej, bj⟩ := hrel
          have bq8 := bq7.ext ej hqh
          have q1 : wr.cell? ⟨q, 1, none⟩ = some (.slice (some ⟨hb, 0, none⟩) k k) := bq8.cell 1
          have lq := bq8.lt
          by_cases hjk : j < k
          · have ch : wr.cell? ⟨hb, j, none⟩ = some (.int .i64 0) := by
              rw [bj.cell j, List.getElem?_append_right (by simp), List.length_replicate, Nat.sub_self, List.getElem?_replicate, if_pos (by omega)]
            have fh := bj.frozen j
            have lh := bj.lt
            have hjj : (j : Int) < (k : Int) := by omega
            have hj0 : (0 : Int) ≤ (j : Int) := by omega
            have b2 : Blk (wr.setCell ⟨hb, j, none⟩ (.int .i64 (-1))) hb 3 (List.replicate (j + 1) (Value.int .i64 (-1)) ++ List.replicate (k - (j + 1)) (Value.int .i64 0)) := by
              have := bj.set_ j (.int .i64 (-1))
              rwa [minus_step hjk] at this
            have He2 := Lib.hid (ej.trans (ext_one wr hb j (.int .i64 (-1))) (fun _ _ h => h))
            clear bj bq8
            go_wp2
            go_roundw
            case rel => exact ⟨j + 1, hjk, by go_num, He2.out, b2⟩
            case measure => simp [intOf]; omega
          · have hjl : j = k := by omega
            subst hjl
            rw [Nat.sub_self, List.replicate_zero, List.append_nil] at bj
            obtain ⟨w8, hw8⟩ : ∃ w8, w8 = wr := ⟨_, rfl⟩
            subst hw8
            have hgh : g ≠ hb := by omega
            have k8 : Keep w1 w8 := Below.trans k7.out (ej.below k7.out.size (fun b hb' e => by omega))
            have b8 := b7.out.ext ej hgh
            have hph : gb ≠ hb := hpq
            have bp8 := bp7.out.ext ej hph
            clear ej b7 bp7 k7 bq7 q1 lq
            have hcmp := scan2_ok w1 w8 g A ls c ⟨w.heap.size, 0, none⟩ k8 og Hl1.out (bl1.cell 0) (fun x hx => may_len (may_all Hmay.out x hx))
            have Hsort := Lib.hid (sortStable_calls w8 g ls.length (BL ls) (some ⟨w.heap.size, 0, none⟩) hcmp (fun x => if x < ls.length then x else 0) w8 ls.length ⟨Ext.refl _ _, b8⟩ hn (fun x hx => if_pos hx))
            unfold cmpV at Hsort
            clear hcmp b8
            go_wp2_with fail
            refine Hsort.out.mono ?_
            rintro e w9 ⟨⟨u, rfl⟩, hst9⟩
            clear Hsort
            have k9 : Keep w1 w9 := Below.trans k8 (hst9.1.below k8.size (fun b hb' e => by omega))
            have bq9 := bq8.ext hst9.1 (show ¬ q = g by omega)
            have bh9 := bj.ext hst9.1 (show ¬ hb = g by omega)
            have bp9 := bp8.ext hst9.1 (show ¬ gb = g by omega)
            have b9 := Lib.hid hst9.2
            obtain ⟨X, hXd⟩ : ∃ X : SX, X = ⟨w1, A, ls, c, s0, j, q, hb, gb, w9.heap.size, g, w9.heap[g]?⟩ := ⟨_, rfl⟩
            have hX : X.Ok := by
              rw [hXd]
              exact { lives := Hl1.out, n60 := hn, ne := fun x hx => may_len (may_all Hmay.out x hx), s0 := hs, k16 := hk, q := ⟨o1, bq9.lt⟩, hb := ⟨o2, bh9.lt⟩, gb := ⟨o3, bp9.lt⟩, g := ⟨b9.out.lt, by show g ≠ q; omega, by show g ≠ hb; omega, by show g ≠ gb; omega⟩ }
            have h9 : X.At (Sc.init s0 j ls.length) 0 w9 := by
              subst hXd
              exact ⟨_, SX.init_at _ k9 bq9 bh9 bp9 rfl rfl⟩
            have HB := Lib.hid (show ∀ (s : Sc) (m x : Nat) (wz : World), X.At s m wz → x < ls.length → Calls Try.prog 29 #[.pointer (some ⟨q, 0, none⟩), .int .i64 (x : Int)] wz fun e w' => (∃ v, e = .returned v) ∧ X.At (s.back (BL ls) (EL ls) x) m w' from fun s m x wz h hx => by
              subst hXd
              exact back_calls _ hX s m x wz h hx)
            have HP := Lib.hid (show ∀ (s : Sc) (m x : Nat) (wz : World), X.At s m wz → x < ls.length → m ≤ 60 → some x ∉ s.held → Calls Try.prog 30 #[.pointer (some ⟨q, 0, none⟩), .int .i64 (x : Int)] wz fun e w' => (∃ v, e = .returned v) ∧ X.At (s.place (BL ls) (EL ls) s0 x) (m + 1) w' from fun s m x wz h hx hm hnx => by
              subst hXd
              exact place_calls _ hX s m x wz h hx hm hnx)
            have HF := Lib.hid (show ∀ (s : Sc) (m : Nat) (wz : World), X.At s m wz → Keep w1 wz ∧ wz.heap[g]? = w9.heap[g]? ∧ (∃ ov, Blk wz q 61 [.slice A ls.length c, .slice (some ⟨hb, 0, none⟩) j j, .slice (some ⟨gb, 0, none⟩) ls.length ls.length, .int .i64 (s.slots : Int), .int .i64 (s0 : Int), ov]) ∧ Blk wz gb 47 (s.pl.flatMap plC) from fun s m wz h => by
              subst hXd
              obtain ⟨ov, h⟩ := h
              exact ⟨h.keep, h.og, ⟨ov, h.bq⟩, h.bg⟩)
            clear hXd hX hst9 bq9 bh9 bp9 bq8 bj bp8 k8 k9
            obtain ⟨hop, hos⟩ := ord_ok (BL ls) ls.length
            have hol : (ord (BL ls) ls.length).length = ls.length := by rw [hop.length_eq]; simp
            have hom : ∀ y ∈ ord (BL ls) ls.length, y < ls.length := fun y hy => by simpa using hop.subset hy
            have Hord := Lib.hid (And.intro hop (And.intro hos (And.intro hol hom)))
            clear hop hos hol hom
            go_wp2_with fail
            go_loopw [78] (fun i wr => ∃ i' : Nat, i' ≤ ls.length ∧ i = .int .i64 i' ∧ X.At (((ord (BL ls) ls.length).take i').foldl (Sc.step (BL ls) (EL ls) s0) (Sc.init s0 j ls.length)) i' wr) (fun i _ => ls.length - (intOf i).toNat)
            case atStart => exact ⟨0, Nat.zero_le _, rfl, h9⟩
            case round =>
              clear h9
              obtain ⟨i', hi, rfl, hat⟩ := hrel
              obtain ⟨sj, hsj⟩ : ∃ sj, ((ord (BL ls) ls.length).take i').foldl (Sc.step (BL ls) (EL ls) s0) (Sc.init s0 j ls.length) = sj := ⟨_, rfl⟩
              rw [hsj] at hat
              obtain ⟨kf, og2, ⟨ov, bqf⟩, bgf⟩ := HF.out _ _ _ hat
              by_cases hin : i' < ls.length
              · obtain ⟨hop, hos, hol, hom⟩ := Hord.out
                obtain ⟨x, hx⟩ := get_some (l := ord (BL ls) ls.length) (k := i') (by omega)
                have hxn := hom x (List.mem_of_getElem? hx)
                have bg2 : Blk wr g 3 ((rowL ls.length (fun i => (ord (BL ls) ls.length).getD i 0)).map natC) := by
                  unfold Blk
                  rw [og2]
                  exact b9.out
                have cg : wr.cell? ⟨g, i', none⟩ = some (.int .i64 (x : Int)) := by
                  rw [bg2.cell i', List.getElem?_map, rowL_get _ _ hin, List.getD_eq_getElem?_getD, hx]; rfl
                have lg := bg2.lt
                have hii : (i' : Int) < (ls.length : Int) := by omega
                have hi0 : (0 : Int) ≤ (i' : Int) := by omega
                have hnew : x ∉ (ord (BL ls) ls.length).take i' := fun hm => by
                  have h1 : (ord (BL ls) ls.length).take (i' + 1) = (ord (BL ls) ls.length).take i' ++ [x] := by rw [List.take_add_one, hx]; rfl
                  have h2 := hos.sublist (List.take_sublist (i' + 1) _)
                  rw [h1, List.pairwise_append] at h2
                  exact (h2.2.2 x hm x (by simp)).irrefl
                have Hinv : Inv (BL ls) (EL ls) s0 j ls.length ((ord (BL ls) ls.length).take i') sj := by
                  have := Inv.scan (s0 := s0) (k := j) (may_lt Hmay.out) ((ord (BL ls) ls.length).take i') [] _ Inv.init (by simpa using hos.sublist (List.take_sublist i' _)) (fun y hy => hom y (List.mem_of_mem_take hy))
                  rw [hsj] at this
                  simpa using this
                have hnx := Lib.hid (held_free Hinv hnew)
                have Hstep := Lib.hid (show ((ord (BL ls) ls.length).take (i' + 1)).foldl (Sc.step (BL ls) (EL ls) s0) (Sc.init s0 j ls.length) = (sj.back (BL ls) (EL ls) x).place (BL ls) (EL ls) s0 x by
                  rw [List.take_add_one, hx, List.foldl_append, hsj]; rfl)
                clear Hinv hnew hx bg2 hop hos hol hom kf og2 bqf bgf hsj
                go_wp2_with fail
                refine (HB.out sj i' x wr hat hxn).mono ?_
                rintro e w2 ⟨⟨u2, rfl⟩, hat2⟩
                go_wp2_with fail
                refine (HP.out _ i' x w2 hat2 hxn (by omega) hnx.out).mono ?_
                rintro e w3 ⟨⟨u3, rfl⟩, hat3⟩
                clear hat hat2
                go_wp2
                go_roundw
                case rel => exact ⟨i' + 1, hin, by go_num, by rw [Hstep.out]; exact hat3⟩
                case measure => simp [intOf]; omega
              · have hil : i' = ls.length := by omega
                have hS : Rg.scan (BL ls) (EL ls) s0 j ls.length (ord (BL ls) ls.length) = sj := by
                  rw [← hsj, hil, List.take_of_length_le (by rw [Hord.out.2.2.1]; exact Nat.le_refl _)]; rfl
                have q2 : wr.cell? ⟨q, 2, none⟩ = some (.slice (some ⟨gb, 0, none⟩) ls.length ls.length) := bqf.cell 2
                have q3 : wr.cell? ⟨q, 3, none⟩ = some (.int .i64 (sj.slots : Int)) := bqf.cell 3
                have lq := bqf.lt
                have gl1 := bg1.lt
                have bgv := bg1.keep kf
                have x0 : wr.cell? ⟨w.heap.size + 1, 0, none⟩ = some (.slice none 0 0) := bgv.cell 0
                have ff := bgv.frozen 0
                have lg := bgv.lt
                have bgw := (bgv.set_ 0 (.slice (some ⟨gb, 0, none⟩) ls.length ls.length)).set_ 1 (.int .i64 (sj.slots : Int))
                have f2 := (bgv.set_ 0 (.slice (some ⟨gb, 0, none⟩) ls.length ls.length)).frozen 1
                have l2 := (bgv.set_ 0 (.slice (some ⟨gb, 0, none⟩) ls.length ls.length)).lt
                have x1' : (wr.setCell ⟨w.heap.size + 1, 0, none⟩ (.slice (some ⟨gb, 0, none⟩) ls.length ls.length)).cell? ⟨w.heap.size + 1, 1, none⟩ = some (.int .i64 0) := (bgv.set_ 0 (.slice (some ⟨gb, 0, none⟩) ls.length ls.length)).cell 1
                have u0 : ((wr.setCell ⟨w.heap.size + 1, 0, none⟩ (.slice (some ⟨gb, 0, none⟩) ls.length ls.length)).setCell ⟨w.heap.size + 1, 1, none⟩ (.int .i64 (sj.slots : Int))).cell? ⟨w.heap.size + 1, 0, none⟩ = some (.slice (some ⟨gb, 0, none⟩) ls.length ls.length) := bgw.cell 0
                have u1 : ((wr.setCell ⟨w.heap.size + 1, 0, none⟩ (.slice (some ⟨gb, 0, none⟩) ls.length ls.length)).setCell ⟨w.heap.size + 1, 1, none⟩ (.int .i64 (sj.slots : Int))).cell? ⟨w.heap.size + 1, 1, none⟩ = some (.int .i64 (sj.slots : Int)) := bgw.cell 1
                have Hfin := Lib.hid (show ScanPost w ls j s0 (.returned (.tuple #[.agg #[.slice (some ⟨gb, 0, none⟩) ls.length ls.length, .int .i64 (sj.slots : Int)], .int .i64 0])) ((wr.setCell ⟨w.heap.size + 1, 0, none⟩ (.slice (some ⟨gb, 0, none⟩) ls.length ls.length)).setCell ⟨w.heap.size + 1, 1, none⟩ (.int .i64 (sj.slots : Int))) from by
                  unfold ScanPost
                  rw [hS]
                  exact ⟨((Hk1.out.trans kf).setCell (p := ⟨w.heap.size + 1, 0, none⟩) (by show w.heap.size ≤ w.heap.size + 1; omega) _).setCell (p := ⟨w.heap.size + 1, 1, none⟩) (by show w.heap.size ≤ w.heap.size + 1; omega) _, gb, by omega,
                    (bgf.far (p := ⟨w.heap.size + 1, 0, none⟩) (by show ¬ gb = w.heap.size + 1; omega) _).far (p := ⟨w.heap.size + 1, 1, none⟩) (by show ¬ gb = w.heap.size + 1; omega) _, rfl⟩)
                clear hS hat hsj bgv bgw bqf bgf kf og2 Hord
                go_wp2
                exact bodyPost_ret (v := .tuple #[.agg #[.slice (some ⟨gb, 0, none⟩) ls.length ls.length, .int .i64 (sj.slots : Int)], .int .i64 0]) (by simp [results, Try.results10, go_sem, u0, u1]) rfl Hfin.out
end Go.Proofs.Ytigidchignlpmaa
