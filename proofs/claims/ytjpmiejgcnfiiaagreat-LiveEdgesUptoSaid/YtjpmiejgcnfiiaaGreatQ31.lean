import Derived.Test.YtjpmiejgcnfiiaaGreatQ29
import Derived.Test.YtjpmiejgcnfiiaaGreatQ5
import Derived.Test.YtjpmiejgcnfiiaaGreatQ18
import Derived.Test.YtjpmiejgcnfiiaaGreatQ16
set_option linter.unusedVariables false
set_option linter.unusedSimpArgs false
namespace Go.Proofs.YtjpmiejgcnfiiaaGreat
open Go Go.RowKit

theorem Bulky.outsK {x : SsD} (h : Bulky x) (k : Nat) : (x.outsK k).length ≤ 1048576 := by
 have h1 := sum_flat (sz := szBk) (g := BkD.outsI) (fun y => by
  unfold BkD.outsI szBk
  have h4 := sum_flat (sz := szIn) (g := fun i : InD => i.outs.l) (fun i => by unfold szIn; omega) y.ins.l
  simp only [List.length_append]
  omega) x.blocks.l
 have h2 := h.sum
 have h3 : (x.outsK k).length ≤ (x.blocks.l.flatMap BkD.outsI).length := by
  unfold SsD.outsK
  rw [← List.take_append_drop k x.blocks.l, List.flatMap_append, List.length_append, List.take_append_drop]
  omega
 omega
/-- A block's cells, loaded whole. -/
theorem bk_cells {w wr : World} {A : Option Addr} {l : List BkD} {k : Nat} {y : BkD} (h : Seg w A (l.flatMap bkC)) (hkeep : Keep w wr) (hy : l[k]? = some y) :
  ∃ b off, A = some ⟨b, off, none⟩ ∧ b < w.heap.size ∧ wr.cell? ⟨b, off + k * 7, none⟩ = some (.slice y.params.a y.params.l.length y.params.c) ∧ wr.cell? ⟨b, off + k * 7 + 1, none⟩ = some (.slice y.ins.a y.ins.l.length y.ins.c) ∧
   wr.cell? ⟨b, off + k * 7 + 2, none⟩ = some (.int .i64 y.kind) ∧ wr.cell? ⟨b, off + k * 7 + 3, none⟩ = some (.int .i64 y.cond) ∧ wr.cell? ⟨b, off + k * 7 + 4, none⟩ = some (.slice y.args.a y.args.l.length y.args.c) ∧
   wr.cell? ⟨b, off + k * 7 + 5, none⟩ = some (.slice y.to.a y.to.l.length y.to.c) ∧ wr.cell? ⟨b, off + k * 7 + 6, none⟩ = some (.int .i64 y.trap) := by
 obtain ⟨B, off, e, hB, hc⟩ := bk_get h hkeep hy
 exact ⟨B, off, e, hB, by have := hc 0 _ rfl; simpa [RwD.v] using this, hc 1 _ rfl, hc 2 _ rfl, hc 3 _ rfl, hc 4 _ rfl, hc 5 _ rfl, hc 6 _ rfl⟩

set_option maxHeartbeats 4000000 in
set_option maxRecDepth 100000 in
theorem count39_calls (x : SsD) (w : World) (h : SsOk w x) (hb : Bulky x) (hv : x.vals.l.length ≤ 1000000) :
  Calls Tryz.prog 57 #[.agg (ssC x).toArray] w fun e w' => ∃ A n c r, e = .returned (.tuple #[.slice A n c, .bool r]) ∧ (r = true → ∀ v, v < x.vals.l.length → x.outsA.count (v : Int) ≤ 1) ∧ Keep w w' := by
 obtain ⟨W, hW, kW, bW, sW⟩ := boxN w 39 (ssC x)
 have c2 : W.cell? ⟨w.heap.size, 2, none⟩ = some (.slice x.vals.a x.vals.l.length x.vals.c) := bW.cell 2
 have lt := bW.lt
 have HC3 := Lib.hid (show W.cell? ⟨w.heap.size, 3, none⟩ = some (.slice x.blocks.a x.blocks.l.length x.blocks.c) from bW.cell 3)
 have HkW := Lib.hid kW
 have H := Lib.hid h
 have Hb := Lib.hid hb
 obtain ⟨n, hnb⟩ : ∃ n, x.blocks.l.length = n := ⟨_, rfl⟩
 obtain ⟨nv, hnv⟩ : ∃ nv, x.vals.l.length = nv := ⟨_, rfl⟩
 have Hnb := Lib.hid hnb
 have Hnv := Lib.hid hnv
 have hn : x.blocks.l.length ≤ 1048576 := hb.blocks
 rw [hnv] at c2 hv ⊢
 rw [hnb] at hn HC3
 obtain ⟨w1, hmake, hblk, hk1⟩ := make_ints W nv hv
 have Hblk := Lib.hid (show IBlk w1 W.heap.size 3 (cntA (x.outsK 0) nv) from by rw [show x.outsK 0 = [] from rfl, cntA_nil]; exact hblk)
 have HCW := HC3
 have HLW := Lib.hid lt
 have HC3 := Lib.hid (hk1.cell HC3.out)
 have HLT := Lib.hid (Nat.lt_of_lt_of_le lt hk1.size)
 have Hk1 := Lib.hid hk1
 have hgw := hblk.lt
 clear h hb bW sW kW hnb hnv hblk hk1
 go_enter Tryz.func57, Tryz.ntmps57
 go_wp2_with (refine wpList_make_eq rfl _ _ _ rfl _ _ rfl rfl _ _ hmake ?_; clear hmake)
 clear c2 lt
 go_loopw [5, 6, 7] (fun vi _ _ wr => ∃ k : Nat, k ≤ n ∧ vi = .int .i64 k ∧ Hid (IBlk wr W.heap.size 3 (cntA (x.outsK k) nv)) ∧ Hid (Keep W wr)) (fun i _ _ _ => n - (intOf i).toNat)
 case atStart => exact ⟨0, Nat.zero_le _, rfl, Hblk, Hk1⟩
 case round =>
  clear Hblk
  obtain ⟨k, hk, rfl, hib, hkeep⟩ := hrel
  obtain ⟨wI, rfl⟩ : ∃ z : World, z = wr := ⟨_, rfl⟩
  have c3 := hkeep.out.cell HCW.out
  have lt := Nat.lt_of_lt_of_le HLW.out hkeep.out.size
  by_cases hlt : k < n
  ·obtain ⟨y, hy⟩ := get_some (l := x.blocks.l) (k := k) (by rw [Hnb.out]; exact hlt)
   obtain ⟨B, off, hA, hB, q0, q1, q2, q3, q4, q5, q6⟩ := bk_cells H.out.seg (HkW.out.trans hkeep.out) hy
   have hBl := Nat.lt_of_lt_of_le hB (HkW.out.trans hkeep.out).size
   have hou := outs39_calls y wI ((H.out.blocks y (List.mem_of_getElem? hy)).keep (HkW.out.trans hkeep.out)) (Hb.out.block (List.mem_of_getElem? hy))
   have Hsucc := Lib.hid (SsD.outsK_succ hy)
   have Hout := Lib.hid hou
   have Hlen := Lib.hid (Hb.out.outsK (k + 1))
   rw [hA] at c3
   have k1 : (k : Int) < (n : Int) := by omega
   have k0 : (0 : Int) ≤ (k : Int) := by omega
   clear hy hA hou
   go_wp2_with fail
   refine Hout.out.mono ?_
   clear Hout q0 q1 q2 q3 q4 q5 q6 c3 lt
   rintro e w2 ⟨A, c, rfl, hown, hk2⟩
   have hil : y.outsI.length ≤ 1048576 := by have := Hlen.out; rw [Hsucc.out, List.length_append] at this; omega
   have Hrow := Lib.hid (show Seg w2 A (y.outsI.flatMap intC) ∧ ∀ ad, A = some ad → ad.block ≠ W.heap.size from ⟨hown.segN.2, fun ad e => by have := hown.addr_ge e; have := hib.out.lt; omega⟩)
   have Hib2 := Lib.hid (show IBlk w2 W.heap.size 3 (cntA (x.outsK k ++ y.outsI.take 0) nv) from by rw [List.take_zero, List.append_nil]; exact hib.out.keep hk2)
   have Hk2 := Lib.hid (hkeep.out.trans hk2)
   clear hib hown hk2 hkeep
   obtain ⟨L, hL⟩ : ∃ L, y.outsI = L := ⟨_, rfl⟩
   rw [hL] at Hsucc hil Hrow Hib2 ⊢
   clear hL
   go_wp2_with fail
   go_loopw [7] (fun vi wr => ∃ j : Nat, j ≤ L.length ∧ vi = .int .i64 j ∧ Hid (IBlk wr W.heap.size 3 (cntA (x.outsK k ++ L.take j) nv)) ∧ Hid (Ext (fun q => q = W.heap.size) w2 wr)) (fun i _ => L.length - (intOf i).toNat)
   case atStart => exact ⟨0, Nat.zero_le _, rfl, Hib2, Lib.hid (Ext.refl _ _)⟩
   case round =>
    clear Hib2
    obtain ⟨j, hj, rfl, hib, hE⟩ := hrel
    have hks := Lib.hid (Keep.of_ext Hk2.out hE.out (fun i hi e => by omega))
    by_cases hjl : j < L.length
    ·obtain ⟨b2, o2, hA2, hb2, r0⟩ := int_at (Hrow.out.1.ext hE.out (fun ad e _ => Hrow.out.2 ad e)) (Keep.refl _) hjl
     obtain ⟨u, hu⟩ : ∃ u, L[j] = u := ⟨_, rfl⟩
     rw [hu] at r0
     have hne := Hrow.out.2 _ hA2
     subst hA2
     have Htk := Lib.hid (show L.take (j + 1) = L.take j ++ [u] from by rw [take_snoc L hjl, hu])
     have j1 : (j : Int) < (L.length : Int) := by omega
     have j0 : (0 : Int) ≤ (j : Int) := by omega
     have gl := hib.out.lt
     clear hu
     by_cases g1 : 0 ≤ u
     ·by_cases g2 : u < (nv : Int)
      ·obtain ⟨v, rfl⟩ : ∃ v : Nat, u = (v : Int) := ⟨u.toNat, by omega⟩
       have hvn : v < nv := by omega
       have hcl : (cntA (x.outsK k ++ L.take j) nv).length = nv := cntA_len _ _
       have p0 := hib.out.get (k := v) (by rw [hcl]; exact hvn)
       obtain ⟨cn, hcn⟩ : ∃ cn, (x.outsK k ++ L.take j).count (v : Int) = cn := ⟨_, rfl⟩
       have hce : (cntA (x.outsK k ++ L.take j) nv)[v]'(by rw [hcl]; exact hvn) = (cn : Int) := by
        have := cntA_get (l := x.outsK k ++ L.take j) hvn
        rw [List.getElem?_eq_getElem (by rw [hcl]; exact hvn), hcn] at this
        exact Option.some.inj this
       rw [hce] at p0
       have hcb : cn ≤ 2097152 := by
        rw [← hcn]
        refine Nat.le_trans List.count_le_length ?_
        rw [List.length_append, List.length_take]
        have := Hb.out.outsK k
        omega
       have f0 := hib.out.frozen v
       have Hnew := Lib.hid (show ∀ wx : World, wx.heap[W.heap.size]? = wr.heap[W.heap.size]? → IBlk (wx.setCell ⟨W.heap.size, v, none⟩ (.int .i64 ((cn : Int) + 1))) W.heap.size 3 (cntA (x.outsK k ++ L.take (j + 1)) nv) from fun wx he => by
        rw [Htk.out, ← List.append_assoc, cntA_in hvn, hcn]
        exact IBlk.put (show IBlk wx W.heap.size 3 (cntA (x.outsK k ++ L.take j) nv) from he.trans hib.out) v _)
       have ep0 := fun z : KW wr => z.cell p0
       have er0 := fun z : KW wr => z.cell r0
       have v0 : (0 : Int) ≤ (v : Int) := by omega
       have hd : Keep wr wr.drew := (Keep.refl _).drew
       clear hcl hce hcn
       go_wp2_with fail
       refine tail_begin (S := fun w' => ∃ z : KW wr, w' = z.val) [14] (by kernel_rfl) ?_
       refine tail_take [0, 1, 2, 3, 4, 5, 6, 7, 8, 9, 10, 11, 12, 13] [] 1 (by kernel_rfl) (by kernel_rfl) (InK.mk' hd) ?_
       show wpQuiet _ _ _ _ [_, _, _, _, _, _, _, _, _, _, _, _, _, _] _
       repeat (go_big_quiet_step (fail))
       refine wpQuiet_nil ?_
       refine tail_fixU (i := 14) (fuel := 0) rfl rfl (by kernel_rfl) (fun K hK => ?_)
       go_simp
       refine hK _ _ (fun h => absurd h (by decide)) ?_
       clear hK K
       refine tail_done (by kernel_rfl) ?_
       have Hn := Lib.hid (Hnew.out wr.drew rfl)
       have HE := Lib.hid (show Ext (fun q => q = W.heap.size) w2 (wr.drew.setCell ⟨W.heap.size, v, none⟩ (.int .i64 ((cn : Int) + 1))) from (hE.out.drew).setCell (p := ⟨W.heap.size, v, none⟩) (fun _ => rfl) _)
       clear hib hE hks ep0 er0 p0 r0 f0 hd Hnew
       go_wp2
       go_roundw
       case rel => exact ⟨j + 1, hjl, by go_num, Hn, HE⟩
       case measure => simp [intOf]; omega
      ·have g2d : decide (u < (nv : Int)) = false := decide_eq_false g2
       have Hn := Lib.hid (show IBlk wr W.heap.size 3 (cntA (x.outsK k ++ L.take (j + 1)) nv) from by rw [Htk.out, ← List.append_assoc, cntA_out (by omega)]; exact hib.out)
       clear hib
       go_wp2
       go_roundw
       case rel => exact ⟨j + 1, hjl, by go_num, Hn, hE⟩
       case measure => simp [intOf]; omega
     ·have g1d : decide (0 ≤ u) = false := decide_eq_false g1
      have Hn := Lib.hid (show IBlk wr W.heap.size 3 (cntA (x.outsK k ++ L.take (j + 1)) nv) from by rw [Htk.out, ← List.append_assoc, cntA_out (by omega)]; exact hib.out)
      clear hib
      go_wp2
      go_roundw
      case rel => exact ⟨j + 1, hjl, by go_num, Hn, hE⟩
      case measure => simp [intOf]; omega
    ·have Hn := Lib.hid (show IBlk wr W.heap.size 3 (cntA (x.outsK (k + 1)) nv) from by rw [Hsucc.out]; have := hib.out; rw [List.take_of_length_le (by omega)] at this; exact this)
     clear hib hE
     go_wp2
     go_roundw
     case rel => exact ⟨k + 1, hlt, by go_num, Hn, hks⟩
     case measure => simp [intOf]; omega
  ·have hkn : k = n := by omega
   subst hkn
   have Hib := Lib.hid (show IBlk wI W.heap.size 3 (cntA x.outsA nv) from by rw [← x.outsK_all, Hnb.out]; exact hib.out)
   have Hkw := Lib.hid (HkW.out.trans hkeep.out)
   clear hib hkeep
   go_wp2_with fail
   go_loopw [8] (fun vi wr => ∃ j : Nat, j ≤ nv ∧ vi = .int .i64 j ∧ Hid (∀ v, v < j → x.outsA.count (v : Int) ≤ 1) ∧ wr = wI) (fun i _ => nv - (intOf i).toNat)
   case atStart => exact ⟨0, Nat.zero_le _, rfl, Lib.hid (fun v hv => by omega), rfl⟩
   case round =>
    obtain ⟨j, hj, rfl, hall, rfl⟩ := hrel
    by_cases hjl : j < nv
    ·have hcl : (cntA x.outsA nv).length = nv := cntA_len _ _
     have p0 := Hib.out.get (k := j) (by rw [hcl]; exact hjl)
     have hce : (cntA x.outsA nv)[j]'(by rw [hcl]; exact hjl) = ((x.outsA.count (j : Int) : Nat) : Int) := by
      have := cntA_get (l := x.outsA) hjl
      rw [List.getElem?_eq_getElem (by rw [hcl]; exact hjl)] at this
      exact Option.some.inj this
     rw [hce] at p0
     obtain ⟨cn, hcn⟩ : ∃ cn, x.outsA.count (j : Int) = cn := ⟨_, rfl⟩
     rw [hcn] at p0
     have gl := Hib.out.lt
     have j1 : (j : Int) < (nv : Int) := by omega
     have j0 : (0 : Int) ≤ (j : Int) := by omega
     by_cases g : cn ≤ 1
     ·have gd : decide ((1 : Int) < (cn : Int)) = false := decide_eq_false (by omega)
      have gd' : decide (1 < cn) = false := decide_eq_false (by omega)
      have Hn := Lib.hid (show ∀ v, v < j + 1 → x.outsA.count (v : Int) ≤ 1 from fun v hv => by
       by_cases e : v = j
       ·subst e; rw [hcn]; exact g
       ·exact hall.out v (by omega))
      clear hall hcn hce hcl
      go_wp2
      go_roundw
      case rel => exact ⟨j + 1, hjl, by go_num, Hn, trivial⟩
      case measure => simp [intOf]; omega
     ·have gd : decide ((1 : Int) < (cn : Int)) = true := decide_eq_true (by omega)
      have gd' : decide (1 < cn) = true := decide_eq_true (by omega)
      clear hall hcn hce hcl
      go_wp2
      refine bodyPost_ret (by simp [results, Tryz.results57, go_sem] <;> rfl) rfl ?_
      exact ⟨_, _, _, false, rfl, fun h => (by cases h), Hkw.out⟩
    ·have Hall := Lib.hid (show ∀ v, v < nv → x.outsA.count (v : Int) ≤ 1 from fun v hv => hall.out v (by omega))
     clear hall
     go_wp2
     refine bodyPost_ret (by simp [results, Tryz.results57, go_sem] <;> rfl) rfl ?_
     exact ⟨_, _, _, true, rfl, fun _ => Hall.out, Hkw.out⟩
end Go.Proofs.YtjpmiejgcnfiiaaGreat
namespace Go.Proofs.YtjpmiejgcnfiiaaGreat
open Go Go.RowKit

set_option maxHeartbeats 2000000 in
theorem vals06_calls (A : Option Addr) (n c : Nat) (w : World) (hA : IntsAt w A n) :
  Calls Tryz.prog 74 #[.slice A n c] w (RB w fun _ => True) := by
 obtain ⟨l, hl, hs, hn⟩ := hA
 subst hl
 have Hs := Lib.hid hs
 clear hs
 go_enter Tryz.func74, Tryz.ntmps74
 go_wp2_with fail
 go_loopw [3] (fun vi wr => ∃ k : Nat, k ≤ l.length ∧ vi = .int .i64 k ∧ Hid (Keep w wr)) (fun i _ => l.length - (intOf i).toNat)
 case atStart => exact ⟨0, Nat.zero_le _, rfl, Lib.hid (Keep.refl _)⟩
 case round =>
  obtain ⟨k, hk, rfl, hkeep⟩ := hrel
  by_cases hin : k < l.length
  ·obtain ⟨b, off, rfl, hb, c0⟩ := int_at Hs.out hkeep.out hin
   obtain ⟨x, hx⟩ : ∃ x, l[k] = x := ⟨_, rfl⟩
   rw [hx] at c0
   clear hx
   have hbl := Nat.lt_of_lt_of_le hb hkeep.out.size
   have hkk : (k : Int) < (l.length : Int) := by omega
   have hk0 : (0 : Int) ≤ (k : Int) := by omega
   go_wp2_with fail
   refine (val06_calls _ _).mono ?_
   rintro e w1 ⟨r, rfl, _, hk1⟩
   have Hk := Lib.hid (hkeep.out.trans hk1)
   clear hkeep hk1 c0
   cases r with
   | false =>
    go_wp2
    go_ret
    exact RB.mk rfl trivial Hk.out
   | true =>
    go_wp2
    go_roundw
    case rel => exact ⟨k + 1, hin, by go_num, Hk⟩
    case measure => simp [intOf]; omega
  ·go_wp2
   go_ret
   exact RB.mk rfl trivial hkeep.out
theorem right06_calls (A B : Option Addr) (n c k d : Nat) (w : World) (hA : IntsAt w A n) (hB : IntsAt w B k) :
  Calls Tryz.prog 55 #[.agg #[.slice A n c, .slice B k d]] w (RB w fun _ => True) := by
 obtain ⟨W, hW, kW, bW, sW⟩ := boxN w 36 [.slice A n c, .slice B k d]
 have z0 : W.cell? ⟨w.heap.size, 0, none⟩ = some (.slice A n c) := bW.cell 0
 have Hz1 := Lib.hid (show W.cell? ⟨w.heap.size, 1, none⟩ = some (.slice B k d) from bW.cell 1)
 have zl := bW.lt
 have Hl := Lib.hid bW.lt
 have H1 := Lib.hid (vals06_calls A n c W (hA.keep kW))
 have HB := Lib.hid (hB.keep kW)
 clear bW sW hA hB
 go_enter Tryz.func55, Tryz.ntmps55
 go_wp2_with fail
 refine H1.out.mono ?_
 clear H1 z0 zl
 rintro e w1 ⟨r, rfl, _, hk1⟩
 cases r with
 | false =>
  go_wp2
  go_ret
  exact RB.mk rfl trivial (kW.trans hk1)
 | true =>
  have z1 := hk1.cell Hz1.out
  have zl := Nat.lt_of_lt_of_le Hl.out hk1.size
  have H2 := Lib.hid (vals06_calls B k d w1 (HB.out.keep hk1))
  go_wp2_with fail
  refine H2.out.mono ?_
  rintro e w2 ⟨r2, rfl, _, hk2⟩
  go_wp2
  go_ret
  exact RB.mk rfl trivial (kW.trans (hk1.trans hk2))
/-- What is told of a form that is whole. -/
structure WholeOk (x : SsD) : Prop where
 ne : x.blocks.l ≠ []
 first : ∀ y, x.blocks.l[0]? = some y → y.params.l = []
 once : ∀ v, v < x.vals.l.length → x.outsA.count (v : Int) ≤ 1

set_option maxHeartbeats 4000000 in
set_option maxRecDepth 100000 in
theorem whole39_calls (x : SsD) (w : World) (h : SsOk w x) (hp : NumOk w x.params) (hr : NumOk w x.results) (hb : Bulky x) (hv : x.vals.l.length ≤ 1000000) :
  Calls Tryz.prog 38 #[.agg (ssC x).toArray] w (RB w fun r => r = true → WholeOk x) := by
 obtain ⟨W, hW, kW, bW, sW⟩ := boxN w 39 (ssC x)
 have Hc := Lib.hid (fun (w' : World) (hk : Keep W w') => (⟨(bW.keep hk).cell 0, (bW.keep hk).cell 1, (bW.keep hk).cell 2, (bW.keep hk).cell 3, (bW.keep hk).lt⟩ : w'.cell? ⟨w.heap.size, 0, none⟩ = some (.slice x.params.a x.params.l.length x.params.c) ∧ w'.cell? ⟨w.heap.size, 1, none⟩ = some (.slice x.results.a x.results.l.length x.results.c) ∧ w'.cell? ⟨w.heap.size, 2, none⟩ = some (.slice x.vals.a x.vals.l.length x.vals.c) ∧ w'.cell? ⟨w.heap.size, 3, none⟩ = some (.slice x.blocks.a x.blocks.l.length x.blocks.c) ∧ w.heap.size < w'.heap.size))
 have H := Lib.hid (fun (w' : World) (hk : Keep W w') => h.keep (kW.trans hk))
 have HkW := Lib.hid kW
 have Hri := Lib.hid (right06_calls x.params.a x.results.a x.params.l.length x.params.c x.results.l.length x.results.c W ((hp.keep kW).row (by have := hb.params; omega)).ints ((hr.keep kW).row (by have := hb.results; omega)).ints)
 have Hb := Lib.hid hb
 have hnl := hb.blocks
 obtain ⟨c0, c1, c2, c3, lt⟩ := Hc.out W (Keep.refl _)
 clear bW sW h hp hr hb kW
 go_enter Tryz.func38, Tryz.ntmps38
 go_wp2_with fail
 refine Hri.out.mono ?_
 clear Hri c0 c1 c2 c3 lt
 rintro e w1 ⟨r, rfl, _, hk1⟩
 obtain ⟨c0, c1, c2, c3, lt⟩ := Hc.out w1 hk1
 cases r with
 | false =>
  go_wp2
  go_ret
  exact RB.mk rfl (fun h => by cases h) (HkW.out.trans hk1)
 | true =>
  by_cases h0 : x.blocks.l.length = 0
  ·have h0b : ((x.blocks.l.length : Int) == 0) = true := by rw [h0]; rfl
   clear h0
   go_wp2
   go_ret
   exact RB.mk rfl (fun h => by cases h) (HkW.out.trans hk1)
  ·have h0b : ((x.blocks.l.length : Int) == 0) = false := beq_eq_false_iff_ne.2 (by omega)
   obtain ⟨y, hy⟩ := get_some (l := x.blocks.l) (k := 0) (by omega)
   obtain ⟨B, off, hA, hB, q0, _⟩ := bk_cells (H.out w1 hk1).seg (Keep.refl _) hy
   have hBl := hB
   rw [hA] at c3
   have q0' : w1.cell? ⟨B, off, none⟩ = some (.slice y.params.a y.params.l.length y.params.c) := by simpa using q0
   have n1 : (0 : Int) < (x.blocks.l.length : Int) := by omega
   have Hne := Lib.hid (show x.blocks.l ≠ [] from fun e => by rw [e] at hy; simp at hy)
   have hypl := (Hb.out.block (List.mem_of_getElem? hy)).params
   have Hy := Lib.hid hy
   clear hy hA h0
   by_cases hp0 : y.params.l.length = 0
   ·have hpb : decide ((0 : Int) < (y.params.l.length : Int)) = false := decide_eq_false (by omega)
    have hpb' : decide (0 < y.params.l.length) = false := decide_eq_false (by omega)
    have Hfirst := Lib.hid (show ∀ z, x.blocks.l[0]? = some z → z.params.l = [] from fun z hz => by
     rw [Hy.out] at hz; cases hz; exact List.eq_nil_of_length_eq_zero hp0)
    have Hcnt := Lib.hid (fun (w' : World) (hk : Keep W w') => count39_calls x w' (H.out w' hk) Hb.out hv)
    have Hk1 := Lib.hid hk1
    clear hp0
    go_wp2_with fail
    clear c0 c1 c2 c3 lt q0 q0' hBl
    go_loopw [3] (fun vi wr => ∃ j : Nat, j ≤ x.vals.l.length ∧ vi = .int .i64 j ∧ Hid (Keep W wr)) (fun i _ => x.vals.l.length - (intOf i).toNat)
    case atStart => exact ⟨0, Nat.zero_le _, rfl, Hk1⟩
    case round =>
     obtain ⟨j, hj, rfl, hkeep⟩ := hrel
     obtain ⟨c0, c1, c2, c3, lt⟩ := Hc.out wr hkeep.out
     by_cases hlt : j < x.vals.l.length
     ·obtain ⟨b2, o2, hA2, hb2, r0⟩ := int_at (H.out wr hkeep.out).vals.seg (Keep.refl _) hlt
      obtain ⟨u, hu⟩ : ∃ u, x.vals.l[j] = u := ⟨_, rfl⟩
      rw [hu] at r0
      rw [hA2] at c2
      have j1 : (j : Int) < (x.vals.l.length : Int) := by omega
      have j0 : (0 : Int) ≤ (j : Int) := by omega
      clear hu hA2
      go_wp2_with fail
      refine (val06_calls _ _).mono ?_
      rintro e w2 ⟨r2, rfl, _, hk2⟩
      have Hk := Lib.hid (hkeep.out.trans hk2)
      clear hkeep hk2 c0 c1 c2 c3 lt r0
      cases r2 with
      | false =>
       go_wp2
       go_ret
       exact RB.mk rfl (fun h => by cases h) (HkW.out.trans Hk.out)
      | true =>
       go_wp2
       go_roundw
       case rel => exact ⟨j + 1, hlt, by go_num, Hk⟩
       case measure => simp [intOf]; omega
     ·have Hct := Lib.hid (Hcnt.out wr hkeep.out)
      go_wp2_with fail
      refine Hct.out.mono ?_
      clear Hct
      rintro e w2 ⟨A2, n2, c2', r2, rfl, hcr, hk2⟩
      have Hcr := Lib.hid hcr
      clear hcr
      go_wp2
      go_ret
      exact RB.mk rfl (fun h => ⟨Hne.out, Hfirst.out, Hcr.out h⟩) (HkW.out.trans (hkeep.out.trans hk2))
   ·have hpb : decide ((0 : Int) < (y.params.l.length : Int)) = true := decide_eq_true (by omega)
    have hpb' : decide (0 < y.params.l.length) = true := decide_eq_true (by omega)
    clear hp0
    go_wp2
    go_ret
    exact RB.mk rfl (fun h => by cases h) (HkW.out.trans hk1)
end Go.Proofs.YtjpmiejgcnfiiaaGreat
namespace Go.Proofs.YtjpmiejgcnfiiaaGreat
open Go Go.RowKit

theorem fill_set {α : Type} (a b : α) (n : Nat) {j : Nat} (h : j < n) : (List.replicate j a ++ List.replicate (n - j) b).set j a = List.replicate (j + 1) a ++ List.replicate (n - (j + 1)) b := by
 refine List.ext_getElem? fun i => ?_
 by_cases e : j = i
 ·subst e
  rw [List.getElem?_set_self (by simp; omega), List.getElem?_append_left (by simp), List.getElem?_replicate, if_pos (by omega)]
 ·rw [List.getElem?_set_ne e]
  by_cases h1 : i < j
  ·rw [List.getElem?_append_left (by simpa using h1), List.getElem?_append_left (by simp; omega), List.getElem?_replicate, List.getElem?_replicate, if_pos h1, if_pos (by omega)]
  ·rw [List.getElem?_append_right (by simp; omega), List.getElem?_append_right (by simp; omega), List.getElem?_replicate, List.getElem?_replicate]
   simp only [List.length_replicate]
   by_cases h2 : i < n
   ·rw [if_pos (by omega), if_pos (by omega)]
   ·rw [if_neg (by omega), if_neg (by omega)]

set_option maxHeartbeats 4000000 in
set_option maxRecDepth 100000 in
theorem defs39_calls (x : SsD) (w : World) (h : SsOk w x) (hb : Bulky x) (hv : x.vals.l.length ≤ 1000000) :
  Calls Tryz.prog 39 #[.agg (ssC x).toArray] w fun e w' => ∃ g D, e = .returned (.slice (some ⟨g, 0, none⟩) x.vals.l.length x.vals.l.length) ∧ IBlk w' g 3 D ∧ DefsI x 0 D ∧ Keep w w' := by
 obtain ⟨W, hW, kW, bW, sW⟩ := boxN w 39 (ssC x)
 have c2 : W.cell? ⟨w.heap.size, 2, none⟩ = some (.slice x.vals.a x.vals.l.length x.vals.c) := bW.cell 2
 have lt := bW.lt
 have HC3 := Lib.hid (show W.cell? ⟨w.heap.size, 3, none⟩ = some (.slice x.blocks.a x.blocks.l.length x.blocks.c) from bW.cell 3)
 have HkW := Lib.hid kW
 have H := Lib.hid h
 have Hb := Lib.hid hb
 obtain ⟨n, hnb⟩ : ∃ n, x.blocks.l.length = n := ⟨_, rfl⟩
 obtain ⟨nv, hnv⟩ : ∃ nv, x.vals.l.length = nv := ⟨_, rfl⟩
 have Hnb := Lib.hid hnb
 have Hnv := Lib.hid hnv
 have hn : x.blocks.l.length ≤ 1048576 := hb.blocks
 rw [hnv] at c2 hv ⊢
 rw [hnb] at hn HC3
 have HLW := Lib.hid lt
 obtain ⟨w1, hmake, hblk, hk1⟩ := make_ints W nv hv
 have Hblk := Lib.hid (show IBlk w1 W.heap.size 3 (List.replicate 0 (-1) ++ List.replicate (nv - 0) 0) from by simpa using hblk)
 have Hk1 := Lib.hid hk1
 clear h hb bW sW kW hnb hnv hblk hk1
 go_enter Tryz.func39, Tryz.ntmps39
 go_wp2_with (refine wpList_make_eq rfl _ _ _ rfl _ _ rfl rfl _ _ hmake ?_; clear hmake)
 clear c2 lt
 go_loopw [4] (fun vi wr => ∃ j : Nat, j ≤ nv ∧ vi = .int .i64 j ∧ Hid (IBlk wr W.heap.size 3 (List.replicate j (-1) ++ List.replicate (nv - j) 0)) ∧ Hid (Keep W wr)) (fun i _ => nv - (intOf i).toNat)
 case atStart => exact ⟨0, Nat.zero_le _, rfl, Hblk, Hk1⟩
 case round =>
  clear Hblk Hk1
  obtain ⟨j, hj, rfl, hib, hkeep⟩ := hrel
  by_cases hjl : j < nv
  ·have p0 := hib.out.get (k := j) (by simp; omega)
   have f0 := hib.out.frozen j
   have gl := hib.out.lt
   have j1 : (j : Int) < (nv : Int) := by omega
   have j0 : (0 : Int) ≤ (j : Int) := by omega
   have Hn := Lib.hid (show IBlk (wr.setCell ⟨W.heap.size, j, none⟩ (.int .i64 (-1))) W.heap.size 3 (List.replicate (j + 1) (-1) ++ List.replicate (nv - (j + 1)) 0) from by rw [← fill_set _ _ _ hjl]; exact hib.out.put j _)
   have HE := Lib.hid (show Keep W (wr.setCell ⟨W.heap.size, j, none⟩ (.int .i64 (-1))) from hkeep.out.setCell (p := ⟨W.heap.size, j, none⟩) (Nat.le_refl _) _)
   clear hib hkeep
   go_wp2
   go_roundw
   case rel => exact ⟨j + 1, hjl, by go_num, Hn, HE⟩
   case measure => simp [intOf]; omega
  ·have hib2 := hib.out
   rw [show j = nv by omega, Nat.sub_self, List.replicate_zero, List.append_nil] at hib2
   have Hib2 := Lib.hid hib2
   have c3 := hkeep.out.cell HC3.out
   have lt := Nat.lt_of_lt_of_le HLW.out hkeep.out.size
   have HD0 := Lib.hid (show DefsI x ((n : Int) - 1 + 1).toNat (List.replicate nv (-1)) from by
    rw [show ((n : Int) - 1 + 1).toNat = x.blocks.l.length by rw [Hnb.out]; omega, ← Hnv.out]; exact DefsI.zero x)
   clear hib hib2
   go_wp2_with fail
   clear c3 lt
   go_loopw [5, 6, 7] (fun vi _ _ wr => ∃ (z : Int) (D : List Int), -1 ≤ z ∧ z < (n : Int) ∧ vi = .int .i64 z ∧ Hid (IBlk wr W.heap.size 3 D) ∧ Hid (DefsI x (z + 1).toNat D) ∧ Hid (Keep W wr)) (fun i _ _ _ => (intOf i + 1).toNat)
   case atStart => exact ⟨(n : Int) - 1, _, by omega, by omega, rfl, Hib2, HD0, hkeep⟩
   case round =>
    clear Hib2 HD0 hkeep
    obtain ⟨z, D, hz0, hz1, rfl, hib, hD, hkeep⟩ := hrel
    obtain ⟨wI, rfl⟩ : ∃ z : World, z = wr := ⟨_, rfl⟩
    by_cases hlt : 0 ≤ z
    ·obtain ⟨k, rfl⟩ : ∃ k : Nat, z = (k : Int) := ⟨z.toNat, by omega⟩
     have c3 := hkeep.out.cell HC3.out
     have lt := Nat.lt_of_lt_of_le HLW.out hkeep.out.size
     obtain ⟨y, hy⟩ := get_some (l := x.blocks.l) (k := k) (by rw [Hnb.out]; omega)
     have Hy := Lib.hid hy
     obtain ⟨B, off, hA, hB, q0, q1, q2, q3, q4, q5, q6⟩ := bk_cells H.out.seg (HkW.out.trans hkeep.out) hy
     have hBl := Nat.lt_of_lt_of_le hB (HkW.out.trans hkeep.out).size
     have hou := outs39_calls y wI ((H.out.blocks y (List.mem_of_getElem? hy)).keep (HkW.out.trans hkeep.out)) (Hb.out.block (List.mem_of_getElem? hy))
     have Hout := Lib.hid hou
     have hil : y.outsI.length ≤ 1048576 := (Hb.out.block (List.mem_of_getElem? hy)).outs
     have HP0 := Lib.hid (show DefsP x k [] D from by have := hD.out; rw [show ((k : Int) + 1).toNat = k + 1 by omega] at this; exact this.begin_)
     rw [hA] at c3
     clear hy hA hou hD
     go_wp2_with fail
     refine Hout.out.mono ?_
     clear Hout q0 q1 q2 q3 q4 q5 q6 c3 lt
     rintro e w2 ⟨A, c, rfl, hown, hk2⟩
     have Hrow := Lib.hid (show Seg w2 A (y.outsI.flatMap intC) ∧ ∀ ad, A = some ad → ad.block ≠ W.heap.size from ⟨hown.segN.2, fun ad e => by have := hown.addr_ge e; have := hib.out.lt; omega⟩)
     have Hib2 := Lib.hid (hib.out.keep hk2)
     have Hk2 := Lib.hid (hkeep.out.trans hk2)
     have HendP := Lib.hid (fun (D' : List Int) (h : DefsP x k y.outsI D') => DefsP.end_ Hy.out h)
     clear hib hown hk2 hkeep
     obtain ⟨L, hL⟩ : ∃ L, y.outsI = L := ⟨_, rfl⟩
     rw [hL] at hil Hrow HendP ⊢
     clear hL
     go_wp2_with fail
     go_loopw [7] (fun vi wr => ∃ (j : Nat) (D : List Int), j ≤ L.length ∧ vi = .int .i64 j ∧ Hid (IBlk wr W.heap.size 3 D) ∧ Hid (DefsP x k (L.take j) D) ∧ Hid (Ext (fun q => q = W.heap.size) w2 wr)) (fun i _ => L.length - (intOf i).toNat)
     case atStart => exact ⟨0, D, Nat.zero_le _, rfl, Hib2, HP0, Lib.hid (Ext.refl _ _)⟩
     case round =>
      clear Hib2 HP0
      obtain ⟨j, D, hj, rfl, hib, hP, hE⟩ := hrel
      have hks := Lib.hid (Keep.of_ext Hk2.out hE.out (fun i hi e => by omega))
      by_cases hjl : j < L.length
      ·obtain ⟨b2, o2, hA2, hb2, r0⟩ := int_at (Hrow.out.1.ext hE.out (fun ad e _ => Hrow.out.2 ad e)) (Keep.refl _) hjl
       obtain ⟨u, hu⟩ : ∃ u, L[j] = u := ⟨_, rfl⟩
       rw [hu] at r0
       have hne := Hrow.out.2 _ hA2
       subst hA2
       have Htk := Lib.hid (show L.take (j + 1) = L.take j ++ [u] from by rw [take_snoc L hjl, hu])
       have j1 : (j : Int) < (L.length : Int) := by omega
       have j0 : (0 : Int) ≤ (j : Int) := by omega
       have gl := hib.out.lt
       clear hu
       by_cases g1 : 0 ≤ u
       ·by_cases g2 : u < (nv : Int)
        ·obtain ⟨v, rfl⟩ : ∃ v : Nat, u = (v : Int) := ⟨u.toNat, by omega⟩
         have hvn : v < nv := by omega
         have hDl : D.length = nv := by rw [hP.out.len]; exact Hnv.out
         have p0 := hib.out.get (k := v) (by rw [hDl]; exact hvn)
         obtain ⟨d0, hd0⟩ : ∃ d, D[v]'(by rw [hDl]; exact hvn) = d := ⟨_, rfl⟩
         rw [hd0] at p0
         have f0 := hib.out.frozen v
         have v0 : (0 : Int) ≤ (v : Int) := by omega
         have Hn := Lib.hid (hib.out.put v (k : Int))
         have HPn := Lib.hid (show DefsP x k (L.take (j + 1)) (D.set v (k : Int)) from by rw [Htk.out]; exact hP.out.put (by rw [Hnv.out]; exact hvn))
         have HE := Lib.hid (show Ext (fun q => q = W.heap.size) w2 (wr.setCell ⟨W.heap.size, v, none⟩ (.int .i64 (k : Int))) from hE.out.setCell (p := ⟨W.heap.size, v, none⟩) (fun _ => rfl) _)
         clear hib hE hks hP hd0 hDl
         go_wp2
         go_roundw
         case rel => exact ⟨j + 1, _, hjl, by go_num, Hn, HPn, HE⟩
         case measure => simp [intOf]; omega
        ·have g2d : decide (u < (nv : Int)) = false := decide_eq_false g2
         have HPn := Lib.hid (show DefsP x k (L.take (j + 1)) D from by rw [Htk.out]; exact hP.out.skip (by rw [Hnv.out]; omega))
         clear hP
         go_wp2
         go_roundw
         case rel => exact ⟨j + 1, D, hjl, by go_num, hib, HPn, hE⟩
         case measure => simp [intOf]; omega
       ·have g1d : decide (0 ≤ u) = false := decide_eq_false g1
        have HPn := Lib.hid (show DefsP x k (L.take (j + 1)) D from by rw [Htk.out]; exact hP.out.skip (by omega))
        clear hP
        go_wp2
        go_roundw
        case rel => exact ⟨j + 1, D, hjl, by go_num, hib, HPn, hE⟩
        case measure => simp [intOf]; omega
      ·have HDn := Lib.hid (show DefsI x ((k : Int) - 1 + 1).toNat D from by
        have := hP.out
        rw [List.take_of_length_le (by omega)] at this
        rw [show ((k : Int) - 1 + 1).toNat = k by omega]
        exact HendP.out D this)
       clear hP hE
       go_wp2
       go_roundw
       case rel => exact ⟨(k : Int) - 1, D, by omega, by omega, rfl, hib, HDn, hks⟩
       case measure => simp [intOf]
    ·have HDn := Lib.hid (show DefsI x 0 D from by have := hD.out; rw [show (z + 1).toNat = 0 by omega] at this; exact this)
     have Hkw := Lib.hid (HkW.out.trans hkeep.out)
     clear hD hkeep
     go_wp2
     go_ret
     exact ⟨_, rfl, D, hib.out, HDn.out, Hkw.out⟩
end Go.Proofs.YtjpmiejgcnfiiaaGreat
