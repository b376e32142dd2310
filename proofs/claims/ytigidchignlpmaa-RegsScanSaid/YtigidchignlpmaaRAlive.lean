/-
  The worked example of the chapter.
-/
import Derived.Test.YtigidchignlpmaaRFew
import Derived.Test.YtigidchignlpmaaRScan6
import Derived.Test.YtigidchignlpmaaRLawP
namespace Go.Proofs.Ytigidchignlpmaa
open Go Go.RowKit Rg

theorem lives_of {w : World} {bh : Nat} {ls : List LvD} (hb : Blk w bh 45 (ls.flatMap lvC)) (h : ∀ x ∈ ls, LvOk w x) : Lives w (some ⟨bh, 0, none⟩) ls := ⟨Seg.of_blk hb, h⟩
theorem lv2 {w : World} {x y : LvD} (hx : LvOk w x) (hy : LvOk w y) : ∀ z ∈ [x, y], LvOk w z := fun z hz => by
  simp only [List.mem_cons, List.not_mem_nil, or_false] at hz
  rcases hz with rfl | rfl <;> assumption
theorem lv3 {w : World} {x y z : LvD} (hx : LvOk w x) (hy : LvOk w y) (hz : LvOk w z) : ∀ u ∈ [x, y, z], LvOk w u := fun u hu => by
  simp only [List.mem_cons, List.not_mem_nil, or_false] at hu
  rcases hu with rfl | rfl | rfl <;> assumption

/-- The three live ranges of the first example; the two of the second. -/
def lf (g : Nat) (a b : Int) : LvD := ⟨0, some ⟨g, 0, none⟩, [(a, b)], 1⟩
theorem BL3 (g1 g2 g3 : Nat) (a1 b1 a2 b2 a3 b3 : Int) : BL [lf g1 a1 b1, lf g2 a2 b2, lf g3 a3 b3] = fun i => [a1, a2, a3].getD i 0 := by
  funext i
  match i with
  | 0 => rfl
  | 1 => rfl
  | 2 => rfl
  | n + 3 => rfl
theorem EL3 (g1 g2 g3 : Nat) (a1 b1 a2 b2 a3 b3 : Int) : EL [lf g1 a1 b1, lf g2 a2 b2, lf g3 a3 b3] = fun i => [b1, b2, b3].getD i 0 := by
  funext i
  match i with
  | 0 => rfl
  | 1 => rfl
  | 2 => rfl
  | n + 3 => rfl
theorem BL2 (g1 g2 : Nat) (a1 b1 a2 b2 : Int) : BL [lf g1 a1 b1, lf g2 a2 b2] = fun i => [a1, a2].getD i 0 := by
  funext i
  match i with
  | 0 => rfl
  | 1 => rfl
  | n + 2 => rfl
theorem EL2 (g1 g2 : Nat) (a1 b1 a2 b2 : Int) : EL [lf g1 a1 b1, lf g2 a2 b2] = fun i => [b1, b2].getD i 0 := by
  funext i
  match i with
  | 0 => rfl
  | 1 => rfl
  | n + 2 => rfl
theorem al1 (g1 g2 g3 : Nat) : (Rg.scan (BL [lf g1 0 4, lf g2 1 3, lf g3 2 6]) (EL [lf g1 0 4, lf g2 1 3, lf g3 2 6]) 5 2 3 (ord (BL [lf g1 0 4, lf g2 1 3, lf g3 2 6]) 3)).pl = [(false, 0), (false, 1), (true, 5)] ∧ (Rg.scan (BL [lf g1 0 4, lf g2 1 3, lf g3 2 6]) (EL [lf g1 0 4, lf g2 1 3, lf g3 2 6]) 5 2 3 (ord (BL [lf g1 0 4, lf g2 1 3, lf g3 2 6]) 3)).slots = 6 := by
  rw [BL3, EL3]
  decide
theorem al2 (g1 g2 : Nat) : (Rg.scan (BL [lf g1 0 9, lf g2 1 2]) (EL [lf g1 0 9, lf g2 1 2]) 0 1 2 (ord (BL [lf g1 0 9, lf g2 1 2]) 2)).pl = [(true, 0), (false, 0)] ∧ (Rg.scan (BL [lf g1 0 9, lf g2 1 2]) (EL [lf g1 0 9, lf g2 1 2]) 0 1 2 (ord (BL [lf g1 0 9, lf g2 1 2]) 2)).slots = 1 := by
  rw [BL2, EL2]
  decide

theorem w64_of {n : Int} (h : -9223372036854775808 ≤ n ∧ n ≤ 9223372036854775807) : W64 n := by
  have h1 : IntKind.i64.min = -9223372036854775808 := by decide
  have h2 : IntKind.i64.max = 9223372036854775807 := by decide
  simp [W64, Lit.wf]
  omega

/-- A box of two cells. -/
theorem box2 (w : World) (T : TypeId) (v0 v1 : Value) : ∃ W : World, W = w.alloc (.cells #[v0, v1] T) ∧ Keep w W ∧ Blk W w.heap.size T [v0, v1] :=
  ⟨_, rfl, (Keep.refl _).alloc _, Blk.new w T [v0, v1]⟩

theorem clash2 {w : World} {A : Option Addr} {P : Nat} {u0 u1 : Nat} (hl : Lives w A [⟨0, some ⟨u0, 0, none⟩, [(0, 2)], 1⟩, ⟨0, some ⟨u1, 0, none⟩, [(1, 3)], 1⟩]) (hp : Blk w P 47 ((List.replicate 2 ((false, 0) : Bool × Nat)).flatMap plC)) :
    Calls Try.prog 13 #[.slice A 2 2, .agg #[.slice (some ⟨P, 0, none⟩) 2 2, .int .i64 0]] w fun e w' => e = .returned (.tuple #[.int .i64 0, .int .i64 1, .bool true]) ∧ Keep w w' := by
  refine (clash_calls A _ 2 (some ⟨P, 0, none⟩) [(false, 0), (false, 0)] 2 0 w hl (Seg.of_blk hp) (by simp) (by simp [maxLen])).mono ?_
  rintro e w' ⟨h, k⟩
  refine ⟨h.unique (.inl ⟨0, 1, by omega, by simp, rfl, fun i' k' h1 h2 h3 => by omega, rfl⟩), k⟩

set_option maxHeartbeats 8000000 in
set_option maxRecDepth 100000 in
theorem alive_calls (w : World) : Calls Try.prog 9 #[] w fun e w' => e = .returned (.bool true) ∧ Keep w w' := by
  go_enter Try.func9, Try.ntmps9
  go_wp2_with fail
  refine (life_calls 0 4 (w64_of (by decide)) (w64_of (by decide)) w).mono ?_
  rintro e w1 ⟨⟨a1, rfl, o1⟩, k1⟩
  have HK1 := Lib.hid k1
  clear k1
  go_wp2_with fail
  refine (life_calls 1 3 (w64_of (by decide)) (w64_of (by decide)) w1).mono ?_
  rintro e w2 ⟨⟨a2, rfl, o2⟩, k2⟩
  have HK2 := Lib.hid (HK1.out.trans k2)
  replace o1 := o1.keep k2
  clear k2 HK1
  go_wp2_with fail
  refine (life_calls 2 6 (w64_of (by decide)) (w64_of (by decide)) w2).mono ?_
  rintro e w3 ⟨⟨a3, rfl, o3⟩, k3⟩
  have HK3 := Lib.hid (HK2.out.trans k3)
  replace o1 := o1.keep k3
  replace o2 := o2.keep k3
  clear k3 HK2
  obtain ⟨wa, hwa⟩ : ∃ W : World, W = w3.alloc (.cells #[.int .i64 0, .slice (some ⟨a1, 0, none⟩) 1 1, .int .i64 0, .slice (some ⟨a2, 0, none⟩) 1 1, .int .i64 0, .slice (some ⟨a3, 0, none⟩) 1 1] 45) := ⟨_, rfl⟩
  have hka : Keep w3 wa := by rw [hwa]; exact (Keep.refl _).alloc _
  have hla : Lives wa (some ⟨w3.heap.size, 0, none⟩) [lf a1 0 4, lf a2 1 3, lf a3 2 6] := lives_of (by rw [hwa]; exact Blk.new w3 45 [.int .i64 0, .slice (some ⟨a1, 0, none⟩) 1 1, .int .i64 0, .slice (some ⟨a2, 0, none⟩) 1 1, .int .i64 0, .slice (some ⟨a3, 0, none⟩) 1 1]) (lv3 (o1.keep hka) (o2.keep hka) (o3.keep hka))
  have Hsc := Lib.hid (scan_good (some ⟨w3.heap.size, 0, none⟩) [lf a1 0 4, lf a2 1 3, lf a3 2 6] 3 2 5 wa hla (by simp) (by omega) (by omega) (by rfl))
  have HKa := Lib.hid (HK3.out.trans hka)
  clear o1 o2 o3 HK3 hka hla
  go_wp2_with fail
  rw [← hwa]
  clear hwa
  refine (show Calls Try.prog 10 #[.slice (some ⟨w3.heap.size, 0, none⟩) 3 3, .int .i64 2, .int .i64 5] wa _ from Hsc.out).mono ?_
  rintro e w4 ⟨k4, gb, _, bg, rfl⟩
  rw [show ([lf a1 0 4, lf a2 1 3, lf a3 2 6] : List LvD).length = 3 from rfl, (al1 a1 a2 a3).1] at bg
  rw [show ([lf a1 0 4, lf a2 1 3, lf a3 2 6] : List LvD).length = 3 from rfl, (al1 a1 a2 a3).2]
  have HK4 := Lib.hid (HKa.out.trans k4)
  clear k4 HKa Hsc
  obtain ⟨w5, hw5, k5, bx⟩ := box2 w4 27 (.slice (some ⟨gb, 0, none⟩) 3 3) (.int .i64 6)
  replace bg := bg.keep k5
  have HK5 := Lib.hid (HK4.out.trans k5)
  clear k5 HK4
  go_wp2_with fail
  rw [← hw5]
  clear hw5
  refine (life_calls 0 9 (w64_of (by decide)) (w64_of (by decide)) w5).mono ?_
  rintro e w6 ⟨⟨a4, rfl, o4⟩, k6⟩
  have HK6 := Lib.hid (HK5.out.trans k6)
  replace bg := bg.keep k6
  replace bx := bx.keep k6
  clear k6 HK5
  go_wp2_with fail
  refine (life_calls 1 2 (w64_of (by decide)) (w64_of (by decide)) w6).mono ?_
  rintro e w7 ⟨⟨a5, rfl, o5⟩, k7⟩
  have HK7 := Lib.hid (HK6.out.trans k7)
  replace bg := bg.keep k7
  replace bx := bx.keep k7
  replace o4 := o4.keep k7
  clear k7 HK6
  obtain ⟨w8, hw8⟩ : ∃ W : World, W = w7.alloc (.cells #[.int .i64 0, .slice (some ⟨a4, 0, none⟩) 1 1, .int .i64 0, .slice (some ⟨a5, 0, none⟩) 1 1] 45) := ⟨_, rfl⟩
  have k8 : Keep w7 w8 := by rw [hw8]; exact (Keep.refl _).alloc _
  have hl8 : Lives w8 (some ⟨w7.heap.size, 0, none⟩) [lf a4 0 9, lf a5 1 2] := lives_of (by rw [hw8]; exact Blk.new w7 45 [.int .i64 0, .slice (some ⟨a4, 0, none⟩) 1 1, .int .i64 0, .slice (some ⟨a5, 0, none⟩) 1 1]) (lv2 (o4.keep k8) (o5.keep k8))
  have Hsc := Lib.hid (scan_good (some ⟨w7.heap.size, 0, none⟩) [lf a4 0 9, lf a5 1 2] 2 1 0 w8 hl8 (by simp) (by omega) (by omega) (by rfl))
  have HK8 := Lib.hid (HK7.out.trans k8)
  replace bg := bg.keep k8
  replace bx := bx.keep k8
  clear o4 o5 HK7 k8 hl8
  go_wp2_with fail
  rw [← hw8]
  clear hw8
  refine (show Calls Try.prog 10 #[.slice (some ⟨w7.heap.size, 0, none⟩) 2 2, .int .i64 1, .int .i64 0] w8 _ from Hsc.out).mono ?_
  rintro e w10 ⟨k10, hb, _, bh, rfl⟩
  rw [show ([lf a4 0 9, lf a5 1 2] : List LvD).length = 2 from rfl, (al2 a4 a5).1] at bh
  rw [show ([lf a4 0 9, lf a5 1 2] : List LvD).length = 2 from rfl, (al2 a4 a5).2]
  have HK10 := Lib.hid (HK8.out.trans k10)
  replace bg := bg.keep k10
  replace bx := bx.keep k10
  clear k10 HK8 Hsc
  obtain ⟨w11, hw11, k11, by_⟩ := box2 w10 27 (.slice (some ⟨hb, 0, none⟩) 2 2) (.int .i64 1)
  replace bg := bg.keep k11
  replace bx := bx.keep k11
  replace bh := bh.keep k11
  have HK11 := Lib.hid (HK10.out.trans k11)
  clear k11 HK10
  go_wp2_with fail
  rw [← hw11]
  clear hw11
  have g0 := bx.cell 0
  have g1 := bx.cell 1
  have h0 := by_.cell 0
  have h1 := by_.cell 1
  have c2 := bg.cell 2
  have c3 := bg.cell 3
  have c4 := bg.cell 4
  have c5 := bg.cell 5
  have d0 := bh.cell 0
  have d1 := bh.cell 1
  have d2 := bh.cell 2
  have d3 := bh.cell 3
  have lc0 := bg.lt
  have ld0 := bh.lt
  have lp0 := bx.lt
  have lq0 := by_.lt
  have HSp := Lib.hid (fun (wz : World) (hk : Keep w11 wz) => spilled_calls (some ⟨hb, 0, none⟩) [(true, 0), (false, 0)] 2 1 wz ((Seg.of_blk bh).keep hk) (by decide))
  have hq1 : ∀ wx : World, (binOp .eql 47 (.agg #[.bool false, .int .i64 1]) (.agg #[.bool false, .int .i64 1])).run Try.prog wx = .ok (.bool true) wx := fun wx => placeEq (false, 1) (false, 1) wx
  have hq2 : ∀ wx : World, (binOp .eql 47 (.agg #[.bool true, .int .i64 5]) (.agg #[.bool true, .int .i64 5])).run Try.prog wx = .ok (.bool true) wx := fun wx => placeEq (true, 5) (true, 5) wx
  have hq3 : ∀ wx : World, (binOp .eql 47 (.agg #[.bool true, .int .i64 0]) (.agg #[.bool true, .int .i64 0])).run Try.prog wx = .ok (.bool true) wx := fun wx => placeEq (true, 0) (true, 0) wx
  have hq4 : ∀ wx : World, (binOp .eql 47 (.agg #[.bool false, .int .i64 0]) (.agg #[.bool false, .int .i64 0])).run Try.prog wx = .ok (.bool true) wx := fun wx => placeEq (false, 0) (false, 0) wx
  have HK := HK11
  clear HK11 bx by_ bg bh
  obtain ⟨wd, hwd⟩ : ∃ wd, w11.drew = wd := ⟨_, rfl⟩
  have hkd : Keep w11 wd := by rw [← hwd]; exact (Keep.refl _).drew
  go_wp2_with fail
  refine region_begin (S := fun w' => ∃ y : KW w11, w' = y.val) (by kernel_rfl) ?_
  rw [hwd]
  clear hwd
  refine region_any (fuel := 12) (is := [0, 3]) (by kernel_rfl) (by simp) (mem2 ?_ ?_)
  · refine ⟨_, rfl, fun K hK => ?_⟩
    go_simp
    refine (life_calls 0 2 (w64_of (by decide)) (w64_of (by decide)) wd).mono ?_
    rintro e y0 ⟨⟨u0, rfl, o0⟩, m0'⟩
    have m0 := hkd.trans m0'
    refine hK _ _ (InK.mk' m0) ?_
    clear hK K
    refine region_any (fuel := 11) (is := [1, 3]) (by kernel_rfl) (by simp) (mem2 ?_ ?_)
    · refine ⟨_, rfl, fun K hK => ?_⟩
      go_simp
      refine (life_calls 1 3 (w64_of (by decide)) (w64_of (by decide)) y0).mono ?_
      rintro e y1 ⟨⟨u1, rfl, o1⟩, m1'⟩
      have m1 := m0.trans m1'
      replace o0 := o0.keep m1'
      refine hK _ _ (InK.mk' m1) ?_
      clear hK K
      refine region_any (fuel := 10) (is := [2, 3]) (by kernel_rfl) (by simp) (mem2 ?_ ?_)
      · refine ⟨_, rfl, fun K hK => ?_⟩
        go_simp
        have m2' : Keep y1 (y1.alloc (.cells #[.int .i64 0, .slice (some ⟨u0, 0, none⟩) 1 1, .int .i64 0, .slice (some ⟨u1, 0, none⟩) 1 1] 45)) := (Keep.refl _).alloc _
        have bS : Blk (y1.alloc (.cells #[.int .i64 0, .slice (some ⟨u0, 0, none⟩) 1 1, .int .i64 0, .slice (some ⟨u1, 0, none⟩) 1 1] 45)) y1.heap.size 45 [.int .i64 0, .slice (some ⟨u0, 0, none⟩) 1 1, .int .i64 0, .slice (some ⟨u1, 0, none⟩) 1 1] := Blk.new y1 45 [.int .i64 0, .slice (some ⟨u0, 0, none⟩) 1 1, .int .i64 0, .slice (some ⟨u1, 0, none⟩) 1 1]
        obtain ⟨y2, hy2⟩ : ∃ W : World, W = y1.alloc (.cells #[.int .i64 0, .slice (some ⟨u0, 0, none⟩) 1 1, .int .i64 0, .slice (some ⟨u1, 0, none⟩) 1 1] 45) := ⟨_, rfl⟩
        rw [← hy2] at m2' bS
        rw [← hy2]
        clear hy2
        have m2 := m1.trans m2'
        replace o0 := o0.keep m2'
        replace o1 := o1.keep m2'
        refine hK _ _ (InK.mk' m2) ?_
        clear hK K
        refine region_fix (i := 3) (fuel := 9) rfl (by kernel_rfl) (fun K hK => ?_)
        obtain ⟨y3, hmk, bP, m3'⟩ := make_places y2 2 (by omega)
        replace hmk : (Instr.makeSlice 25 (.int .i64 2) (.int .i64 2)).run Try.prog y2 = .ok (.slice (some ⟨y2.heap.size, 0, none⟩) 2 2) y3 := hmk
        go_simp
        clear hmk
        have m3 := m2.trans m3'
        replace o0 := o0.keep m3'
        replace o1 := o1.keep m3'
        replace bS := bS.keep m3'
        refine hK _ _ (InK.mk' m3) ?_
        clear hK K
        refine region_take [4] [0, 1, 2, 3] 8 (by kernel_rfl) (by kernel_rfl) (InK.mk' m3) ?_
        show wpQuiet _ _ _ _ [_] _
        repeat (go_big_quiet_step (fail))
        refine wpQuiet_nil ?_
        refine region_fix (i := 5) (fuel := 7) rfl (by kernel_rfl) (fun K hK => ?_)
        go_simp
        refine (clash2 (lives_of (ls := [⟨0, some ⟨u0, 0, none⟩, [(0, 2)], 1⟩, ⟨0, some ⟨u1, 0, none⟩, [(1, 3)], 1⟩]) bS (lv2 o0 o1)) bP).mono ?_
        rintro e yc ⟨rfl, mc'⟩
        have mc := m3.trans mc'
        refine hK _ _ (InK.mk' mc) ?_
        clear hK K
        refine region_take [6, 7, 8, 9, 10, 11, 12] [0, 1, 2, 3, 4, 5] 0 (by kernel_rfl) (by kernel_rfl) (InK.mk' mc) ?_
        show wpQuiet _ _ _ _ [_, _, _, _, _, _, _] _
        repeat (go_big_quiet_step (fail))
        refine wpQuiet_nil ?_
        refine region_done (by kernel_rfl) ?_
        have KX := mc
        clear o0 o1 bS bP
        have KX2 := Lib.hid (HK.out.trans KX)
        have p0 := KX.cell g0
        have p1 := KX.cell g1
        have q0 := KX.cell h0
        have pc2 := KX.cell c2
        have pc3 := KX.cell c3
        have pc4 := KX.cell c4
        have pc5 := KX.cell c5
        have pd0 := KX.cell d0
        have pd1 := KX.cell d1
        have pd2 := KX.cell d2
        have pd3 := KX.cell d3
        have pq1 := KX.cell h1
        have lc := Nat.lt_of_lt_of_le lc0 KX.size
        have ld := Nat.lt_of_lt_of_le ld0 KX.size
        have lp := Nat.lt_of_lt_of_le lp0 KX.size
        have lq := Nat.lt_of_lt_of_le lq0 KX.size
        have Hsp := Lib.hid (HSp.out _ KX)
        clear HSp g0 g1 h0 h1 c2 c3 c4 c5 d0 d1 d2 d3 lc0 ld0 lp0 lq0 KX
        go_wp2_with fail
        refine Hsp.out.mono ?_
        rintro e w9 ⟨rfl, k9⟩
        go_wp2_with fail
        go_ret
        exact ⟨rfl, KX2.out.trans k9⟩
      · refine ⟨_, rfl, fun K hK => ?_⟩
        obtain ⟨y2, hmk, bP, m2'⟩ := make_places y1 2 (by omega)
        replace hmk : (Instr.makeSlice 25 (.int .i64 2) (.int .i64 2)).run Try.prog y1 = .ok (.slice (some ⟨y1.heap.size, 0, none⟩) 2 2) y2 := hmk
        go_simp
        clear hmk
        have m2 := m1.trans m2'
        replace o0 := o0.keep m2'
        replace o1 := o1.keep m2'
        refine hK _ _ (InK.mk' m2) ?_
        clear hK K
        refine region_take [4] [0, 1, 3] 9 (by kernel_rfl) (by kernel_rfl) (InK.mk' m2) ?_
        show wpQuiet _ _ _ _ [_] _
        repeat (go_big_quiet_step (fail))
        refine wpQuiet_nil ?_
        refine region_fix (i := 2) (fuel := 8) rfl (by kernel_rfl) (fun K hK => ?_)
        go_simp
        have m3' : Keep y2 (y2.alloc (.cells #[.int .i64 0, .slice (some ⟨u0, 0, none⟩) 1 1, .int .i64 0, .slice (some ⟨u1, 0, none⟩) 1 1] 45)) := (Keep.refl _).alloc _
        have bS : Blk (y2.alloc (.cells #[.int .i64 0, .slice (some ⟨u0, 0, none⟩) 1 1, .int .i64 0, .slice (some ⟨u1, 0, none⟩) 1 1] 45)) y2.heap.size 45 [.int .i64 0, .slice (some ⟨u0, 0, none⟩) 1 1, .int .i64 0, .slice (some ⟨u1, 0, none⟩) 1 1] := Blk.new y2 45 [.int .i64 0, .slice (some ⟨u0, 0, none⟩) 1 1, .int .i64 0, .slice (some ⟨u1, 0, none⟩) 1 1]
        obtain ⟨y3, hy3⟩ : ∃ W : World, W = y2.alloc (.cells #[.int .i64 0, .slice (some ⟨u0, 0, none⟩) 1 1, .int .i64 0, .slice (some ⟨u1, 0, none⟩) 1 1] 45) := ⟨_, rfl⟩
        rw [← hy3] at m3' bS
        rw [← hy3]
        clear hy3
        have m3 := m2.trans m3'
        replace o0 := o0.keep m3'
        replace o1 := o1.keep m3'
        replace bP := bP.keep m3'
        refine hK _ _ (InK.mk' m3) ?_
        clear hK K
        refine region_fix (i := 5) (fuel := 7) rfl (by kernel_rfl) (fun K hK => ?_)
        go_simp
        refine (clash2 (lives_of (ls := [⟨0, some ⟨u0, 0, none⟩, [(0, 2)], 1⟩, ⟨0, some ⟨u1, 0, none⟩, [(1, 3)], 1⟩]) bS (lv2 o0 o1)) bP).mono ?_
        rintro e yc ⟨rfl, mc'⟩
        have mc := m3.trans mc'
        refine hK _ _ (InK.mk' mc) ?_
        clear hK K
        refine region_take [6, 7, 8, 9, 10, 11, 12] [0, 1, 3, 4, 2, 5] 0 (by kernel_rfl) (by kernel_rfl) (InK.mk' mc) ?_
        show wpQuiet _ _ _ _ [_, _, _, _, _, _, _] _
        repeat (go_big_quiet_step (fail))
        refine wpQuiet_nil ?_
        refine region_done (by kernel_rfl) ?_
        have KX := mc
        clear o0 o1 bS bP
        have KX2 := Lib.hid (HK.out.trans KX)
        have p0 := KX.cell g0
        have p1 := KX.cell g1
        have q0 := KX.cell h0
        have pc2 := KX.cell c2
        have pc3 := KX.cell c3
        have pc4 := KX.cell c4
        have pc5 := KX.cell c5
        have pd0 := KX.cell d0
        have pd1 := KX.cell d1
        have pd2 := KX.cell d2
        have pd3 := KX.cell d3
        have pq1 := KX.cell h1
        have lc := Nat.lt_of_lt_of_le lc0 KX.size
        have ld := Nat.lt_of_lt_of_le ld0 KX.size
        have lp := Nat.lt_of_lt_of_le lp0 KX.size
        have lq := Nat.lt_of_lt_of_le lq0 KX.size
        have Hsp := Lib.hid (HSp.out _ KX)
        clear HSp g0 g1 h0 h1 c2 c3 c4 c5 d0 d1 d2 d3 lc0 ld0 lp0 lq0 KX
        go_wp2_with fail
        refine Hsp.out.mono ?_
        rintro e w9 ⟨rfl, k9⟩
        go_wp2_with fail
        go_ret
        exact ⟨rfl, KX2.out.trans k9⟩
    · refine ⟨_, rfl, fun K hK => ?_⟩
      obtain ⟨y1, hmk, bP, m1'⟩ := make_places y0 2 (by omega)
      replace hmk : (Instr.makeSlice 25 (.int .i64 2) (.int .i64 2)).run Try.prog y0 = .ok (.slice (some ⟨y0.heap.size, 0, none⟩) 2 2) y1 := hmk
      go_simp
      clear hmk
      have m1 := m0.trans m1'
      replace o0 := o0.keep m1'
      refine hK _ _ (InK.mk' m1) ?_
      clear hK K
      refine region_take [4] [0, 3] 10 (by kernel_rfl) (by kernel_rfl) (InK.mk' m1) ?_
      show wpQuiet _ _ _ _ [_] _
      repeat (go_big_quiet_step (fail))
      refine wpQuiet_nil ?_
      refine region_fix (i := 1) (fuel := 9) rfl (by kernel_rfl) (fun K hK => ?_)
      go_simp
      refine (life_calls 1 3 (w64_of (by decide)) (w64_of (by decide)) y1).mono ?_
      rintro e y2 ⟨⟨u1, rfl, o1⟩, m2'⟩
      have m2 := m1.trans m2'
      replace o0 := o0.keep m2'
      replace bP := bP.keep m2'
      refine hK _ _ (InK.mk' m2) ?_
      clear hK K
      refine region_fix (i := 2) (fuel := 8) rfl (by kernel_rfl) (fun K hK => ?_)
      go_simp
      have m3' : Keep y2 (y2.alloc (.cells #[.int .i64 0, .slice (some ⟨u0, 0, none⟩) 1 1, .int .i64 0, .slice (some ⟨u1, 0, none⟩) 1 1] 45)) := (Keep.refl _).alloc _
      have bS : Blk (y2.alloc (.cells #[.int .i64 0, .slice (some ⟨u0, 0, none⟩) 1 1, .int .i64 0, .slice (some ⟨u1, 0, none⟩) 1 1] 45)) y2.heap.size 45 [.int .i64 0, .slice (some ⟨u0, 0, none⟩) 1 1, .int .i64 0, .slice (some ⟨u1, 0, none⟩) 1 1] := Blk.new y2 45 [.int .i64 0, .slice (some ⟨u0, 0, none⟩) 1 1, .int .i64 0, .slice (some ⟨u1, 0, none⟩) 1 1]
      obtain ⟨y3, hy3⟩ : ∃ W : World, W = y2.alloc (.cells #[.int .i64 0, .slice (some ⟨u0, 0, none⟩) 1 1, .int .i64 0, .slice (some ⟨u1, 0, none⟩) 1 1] 45) := ⟨_, rfl⟩
      rw [← hy3] at m3' bS
      rw [← hy3]
      clear hy3
      have m3 := m2.trans m3'
      replace o0 := o0.keep m3'
      replace bP := bP.keep m3'
      replace o1 := o1.keep m3'
      refine hK _ _ (InK.mk' m3) ?_
      clear hK K
      refine region_fix (i := 5) (fuel := 7) rfl (by kernel_rfl) (fun K hK => ?_)
      go_simp
      refine (clash2 (lives_of (ls := [⟨0, some ⟨u0, 0, none⟩, [(0, 2)], 1⟩, ⟨0, some ⟨u1, 0, none⟩, [(1, 3)], 1⟩]) bS (lv2 o0 o1)) bP).mono ?_
      rintro e yc ⟨rfl, mc'⟩
      have mc := m3.trans mc'
      refine hK _ _ (InK.mk' mc) ?_
      clear hK K
      refine region_take [6, 7, 8, 9, 10, 11, 12] [0, 3, 4, 1, 2, 5] 0 (by kernel_rfl) (by kernel_rfl) (InK.mk' mc) ?_
      show wpQuiet _ _ _ _ [_, _, _, _, _, _, _] _
      repeat (go_big_quiet_step (fail))
      refine wpQuiet_nil ?_
      refine region_done (by kernel_rfl) ?_
      have KX := mc
      clear o0 o1 bS bP
      have KX2 := Lib.hid (HK.out.trans KX)
      have p0 := KX.cell g0
      have p1 := KX.cell g1
      have q0 := KX.cell h0
      have pc2 := KX.cell c2
      have pc3 := KX.cell c3
      have pc4 := KX.cell c4
      have pc5 := KX.cell c5
      have pd0 := KX.cell d0
      have pd1 := KX.cell d1
      have pd2 := KX.cell d2
      have pd3 := KX.cell d3
      have pq1 := KX.cell h1
      have lc := Nat.lt_of_lt_of_le lc0 KX.size
      have ld := Nat.lt_of_lt_of_le ld0 KX.size
      have lp := Nat.lt_of_lt_of_le lp0 KX.size
      have lq := Nat.lt_of_lt_of_le lq0 KX.size
      have Hsp := Lib.hid (HSp.out _ KX)
      clear HSp g0 g1 h0 h1 c2 c3 c4 c5 d0 d1 d2 d3 lc0 ld0 lp0 lq0 KX
      go_wp2_with fail
      refine Hsp.out.mono ?_
      rintro e w9 ⟨rfl, k9⟩
      go_wp2_with fail
      go_ret
      exact ⟨rfl, KX2.out.trans k9⟩
  · refine ⟨_, rfl, fun K hK => ?_⟩
    obtain ⟨y0, hmk, bP, m0'⟩ := make_places wd 2 (by omega)
    replace hmk : (Instr.makeSlice 25 (.int .i64 2) (.int .i64 2)).run Try.prog wd = .ok (.slice (some ⟨wd.heap.size, 0, none⟩) 2 2) y0 := hmk
    go_simp
    clear hmk
    have m0 := hkd.trans m0'
    refine hK _ _ (InK.mk' m0) ?_
    clear hK K
    refine region_take [4] [3] 11 (by kernel_rfl) (by kernel_rfl) (InK.mk' m0) ?_
    show wpQuiet _ _ _ _ [_] _
    repeat (go_big_quiet_step (fail))
    refine wpQuiet_nil ?_
    refine region_fix (i := 0) (fuel := 10) rfl (by kernel_rfl) (fun K hK => ?_)
    go_simp
    refine (life_calls 0 2 (w64_of (by decide)) (w64_of (by decide)) y0).mono ?_
    rintro e y1 ⟨⟨u0, rfl, o0⟩, m1'⟩
    have m1 := m0.trans m1'
    replace bP := bP.keep m1'
    refine hK _ _ (InK.mk' m1) ?_
    clear hK K
    refine region_fix (i := 1) (fuel := 9) rfl (by kernel_rfl) (fun K hK => ?_)
    go_simp
    refine (life_calls 1 3 (w64_of (by decide)) (w64_of (by decide)) y1).mono ?_
    rintro e y2 ⟨⟨u1, rfl, o1⟩, m2'⟩
    have m2 := m1.trans m2'
    replace bP := bP.keep m2'
    replace o0 := o0.keep m2'
    refine hK _ _ (InK.mk' m2) ?_
    clear hK K
    refine region_fix (i := 2) (fuel := 8) rfl (by kernel_rfl) (fun K hK => ?_)
    go_simp
    have m3' : Keep y2 (y2.alloc (.cells #[.int .i64 0, .slice (some ⟨u0, 0, none⟩) 1 1, .int .i64 0, .slice (some ⟨u1, 0, none⟩) 1 1] 45)) := (Keep.refl _).alloc _
    have bS : Blk (y2.alloc (.cells #[.int .i64 0, .slice (some ⟨u0, 0, none⟩) 1 1, .int .i64 0, .slice (some ⟨u1, 0, none⟩) 1 1] 45)) y2.heap.size 45 [.int .i64 0, .slice (some ⟨u0, 0, none⟩) 1 1, .int .i64 0, .slice (some ⟨u1, 0, none⟩) 1 1] := Blk.new y2 45 [.int .i64 0, .slice (some ⟨u0, 0, none⟩) 1 1, .int .i64 0, .slice (some ⟨u1, 0, none⟩) 1 1]
    obtain ⟨y3, hy3⟩ : ∃ W : World, W = y2.alloc (.cells #[.int .i64 0, .slice (some ⟨u0, 0, none⟩) 1 1, .int .i64 0, .slice (some ⟨u1, 0, none⟩) 1 1] 45) := ⟨_, rfl⟩
    rw [← hy3] at m3' bS
    rw [← hy3]
    clear hy3
    have m3 := m2.trans m3'
    replace bP := bP.keep m3'
    replace o0 := o0.keep m3'
    replace o1 := o1.keep m3'
    refine hK _ _ (InK.mk' m3) ?_
    clear hK K
    refine region_fix (i := 5) (fuel := 7) rfl (by kernel_rfl) (fun K hK => ?_)
    go_simp
    refine (clash2 (lives_of (ls := [⟨0, some ⟨u0, 0, none⟩, [(0, 2)], 1⟩, ⟨0, some ⟨u1, 0, none⟩, [(1, 3)], 1⟩]) bS (lv2 o0 o1)) bP).mono ?_
    rintro e yc ⟨rfl, mc'⟩
    have mc := m3.trans mc'
    refine hK _ _ (InK.mk' mc) ?_
    clear hK K
    refine region_take [6, 7, 8, 9, 10, 11, 12] [3, 4, 0, 1, 2, 5] 0 (by kernel_rfl) (by kernel_rfl) (InK.mk' mc) ?_
    show wpQuiet _ _ _ _ [_, _, _, _, _, _, _] _
    repeat (go_big_quiet_step (fail))
    refine wpQuiet_nil ?_
    refine region_done (by kernel_rfl) ?_
    have KX := mc
    clear o0 o1 bS bP
    have KX2 := Lib.hid (HK.out.trans KX)
    have p0 := KX.cell g0
    have p1 := KX.cell g1
    have q0 := KX.cell h0
    have pc2 := KX.cell c2
    have pc3 := KX.cell c3
    have pc4 := KX.cell c4
    have pc5 := KX.cell c5
    have pd0 := KX.cell d0
    have pd1 := KX.cell d1
    have pd2 := KX.cell d2
    have pd3 := KX.cell d3
    have pq1 := KX.cell h1
    have lc := Nat.lt_of_lt_of_le lc0 KX.size
    have ld := Nat.lt_of_lt_of_le ld0 KX.size
    have lp := Nat.lt_of_lt_of_le lp0 KX.size
    have lq := Nat.lt_of_lt_of_le lq0 KX.size
    have Hsp := Lib.hid (HSp.out _ KX)
    clear HSp g0 g1 h0 h1 c2 c3 c4 c5 d0 d1 d2 d3 lc0 ld0 lp0 lq0 KX
    go_wp2_with fail
    refine Hsp.out.mono ?_
    rintro e w9 ⟨rfl, k9⟩
    go_wp2_with fail
    go_ret
    exact ⟨rfl, KX2.out.trans k9⟩
end Go.Proofs.Ytigidchignlpmaa
