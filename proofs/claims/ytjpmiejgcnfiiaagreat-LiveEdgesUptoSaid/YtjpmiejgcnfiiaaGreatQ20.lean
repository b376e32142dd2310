import Derived.Test.YtjpmiejgcnfiiaaGreatQ19
import Derived.Test.YtjpmiejgcnfiiaaGreatQ18
set_option linter.unusedVariables false
set_option linter.unusedSimpArgs false
namespace Go.Proofs.YtjpmiejgcnfiiaaGreat
open Go Go.RowKit

theorem SigAt.box {w : World} {A B : Option Addr} {n k b : Nat} {T : TypeId} {a1 a2 : Option Addr} {n1 c1 n2 c2 : Nat} (h : SigAt w A n B k) (hb : Blk w b T [.slice a1 n1 c1, .slice a2 n2 c2]) (u v : Value) : SigAt ((w.setCell ⟨b, 0, none⟩ u).setCell ⟨b, 1, none⟩ v) A n B k := ⟨h.params.box hb u v, h.results.box hb u v⟩
theorem SigAt.nil (w : World) : SigAt w none 0 none 0 := ⟨IntsAt.nil _ _, IntsAt.nil _ _⟩
theorem SigAt.alloc {w : World} {A B : Option Addr} {n k : Nat} (h : SigAt w A n B k) (o : Obj) : SigAt (w.alloc o) A n B k := h.keep ((Keep.refl _).alloc o)

set_option maxHeartbeats 4000000 in
set_option maxRecDepth 100000 in
theorem func08_calls (m : MdD) (i : Int) (w : World) (h : MdOk w m) (hi : (Lit.int .i64 i).wf = true) : Calls Tryz.prog 124 #[.agg (mdC m).toArray, .int .i64 i] w (RSB w fun _ _ => True) := by
  obtain ⟨W, hW, kW, bW, sW⟩ := boxN w 33 (mdC m)
  obtain ⟨V, hV, kV, bV, sV⟩ := boxN W 36 [.slice none 0 0, .slice none 0 0]
  have Hc := Lib.hid (fun (w' : World) (k : Keep V w') => ((bW.keep kV).keep k).md)
  have Hy := Lib.hid (fun (w' : World) (k : Keep V w') => bV.keep k)
  have kk := kW.trans kV
  have hle := kW.size
  have hlt := bW.lt
  have H := Lib.hid h
  have Hi := Lib.hid hi
  have Hn := Lib.hid (fun kd => nth08_calls m kd i V (h.keep kk))
  obtain ⟨c0, c1, c2, c3, c4, c5, c6, c7, c8, c9, ca, cb, lt⟩ := Hc.out V (Keep.refl _)
  clear h bW sW bV sV hi
  go_enter Tryz.func124, Tryz.ntmps124
  go_wp2_with fail
  refine (Hn.out _).mono ?_
  rintro e w1 ⟨mo, na, kind, func, te, tmin, tmax, th, mmin, mmax, mh, gv, gm, r, rfl, hk1⟩
  clear c0 c1 c2 c3 c4 c5 c6 c7 c8 c9 ca cb lt
  have kw1 := kk.trans hk1
  obtain ⟨c0, c1, c2, c3, c4, c5, c6, c7, c8, c9, ca, cb, lt⟩ := Hc.out w1 hk1
  cases r with
  | true =>
    go_wp2_with fail
    refine (type08_calls m _ _ (H.out.keep (kw1.alloc _))).mono ?_
    rintro e w2 ⟨A, n, c, B, k, d, r, rfl, hs, _, hk2'⟩
    have hk2 : Keep V w2 := (hk1.alloc _).trans hk2'
    have kw2 := kk.trans hk2
    have yb := Hy.out w2 hk2
    obtain ⟨y0, y1, f0, f1, l1⟩ := yb.box2
    have Hs := Lib.hid hs
    have Hyb := Lib.hid yb
    clear hs yb hk2' c0 c1 c2 c3 c4 c5 c6 c7 c8 c9 ca cb lt
    go_wp2
    refine bodyPost_ret (v := .tuple #[.agg #[.slice A n c, .slice B k d], .bool r]) (by simp [results, Tryz.results124, go_sem, f0, f1, y0, y1, l1]) rfl ?_
    exact RSB.mk rfl (Hs.out.box Hyb.out _ _) trivial ((kw2.setCell (p := ⟨W.heap.size, 0, none⟩) hle _).setCell (p := ⟨W.heap.size, 1, none⟩) hle _)
  | false =>
    go_wp2_with fail
    refine (own08_calls m _ i _ _ (H.out.keep (kw1.alloc _)) Hi.out).mono ?_
    rintro e w2 ⟨j, rfl, hj, hk2'⟩
    have hk2 : Keep V w2 := (hk1.alloc _).trans hk2'
    have kw2 := kk.trans hk2
    clear c0 c1 c2 c3 c4 c5 c6 c7 c8 c9 ca cb lt hk2' hk1 kw1
    by_cases hj0 : 0 ≤ j
    · obtain ⟨k, rfl⟩ : ∃ k : Nat, j = (k : Int) := ⟨j.toNat, by omega⟩
      have hjn : (k : Int) < (m.funcs.l.length : Int) := by omega
      obtain ⟨y, hy⟩ := get_some (l := m.funcs.l) (k := k) (by omega)
      obtain ⟨b, off, hA, hb, hc⟩ := rw_get (s := 3) (fun _ => rfl) (by omega) H.out.funcs kw2 hy
      have q0 : w2.cell? ⟨b, off + k * 3, none⟩ = some (.int .i64 y.type) := hc 0 _ rfl
      obtain ⟨c0, c1, c2, c3, c4, c5, c6, c7, c8, c9, ca, cb, lt⟩ := Hc.out w2 hk2
      have HT := fun (t : Int) (W' : World) (k : Keep w2 W') => type08_calls m t W' (H.out.keep (kw2.trans k))
      simp only [mdC, RwD.v, SlD.v, hA] at HT
      replace HT := Lib.hid HT
      rw [hA] at c2
      have lb : b < w2.heap.size := Nat.lt_of_lt_of_le hb kw2.size
      have hne1 : ¬ w.heap.size = W.heap.size := by omega
      have hne2 : ¬ b = W.heap.size := by omega
      have e0 := fun z : KE (fun q => q = W.heap.size) w2 => z.cell c0 hne1
      have e1 := fun z : KE (fun q => q = W.heap.size) w2 => z.cell c1 hne1
      have e2 := fun z : KE (fun q => q = W.heap.size) w2 => z.cell c2 hne1
      have e3 := fun z : KE (fun q => q = W.heap.size) w2 => z.cell c3 hne1
      have e4 := fun z : KE (fun q => q = W.heap.size) w2 => z.cell c4 hne1
      have e5 := fun z : KE (fun q => q = W.heap.size) w2 => z.cell c5 hne1
      have e6 := fun z : KE (fun q => q = W.heap.size) w2 => z.cell c6 hne1
      have e7 := fun z : KE (fun q => q = W.heap.size) w2 => z.cell c7 hne1
      have e8 := fun z : KE (fun q => q = W.heap.size) w2 => z.cell c8 hne1
      have e9 := fun z : KE (fun q => q = W.heap.size) w2 => z.cell c9 hne1
      have ea := fun z : KE (fun q => q = W.heap.size) w2 => z.cell ca hne1
      have eb := fun z : KE (fun q => q = W.heap.size) w2 => z.cell cb hne1
      have p0 := fun z : KE (fun q => q = W.heap.size) w2 => z.cell q0 hne2
      have hd : Keep w2 w2.drew := (Keep.refl _).drew
      clear hc hy hj
      go_wp2_with fail
      refine region_begin (S := fun w' => ∃ z : KE (fun q => q = W.heap.size) w2, w' = z.val) (by kernel_rfl) ?_
      refine region_take [0, 1, 2, 3, 4, 5, 6] [] 5 (by kernel_rfl) (by kernel_rfl) (KE.mk' (hd.ext _)) ?_
      show wpQuiet _ _ _ _ [_, _, _, _, _, _, _] _
      repeat (go_big_quiet_step (fail))
      refine wpQuiet_nil ?_
      refine region_fix (i := 7) (fuel := 4) rfl (by kernel_rfl) (fun K hK => ?_)
      go_simp
      refine (HT.out _ _ hd).mono ?_
      rintro e w3 ⟨A, n, c, B, k', d, r, rfl, hs, _, hk3'⟩
      have hk3 := hd.trans hk3'
      refine hK _ _ (KE.mk' (hk3.ext _)) ?_
      clear hK K
      refine region_take [8, 9] [0, 1, 2, 3, 4, 5, 6, 7] 2 (by kernel_rfl) (by kernel_rfl) (KE.mk' (hk3.ext _)) ?_
      show wpQuiet _ _ _ _ [_, _] _
      repeat (go_big_quiet_step (fail))
      refine wpQuiet_nil ?_
      refine region_fixU (i := 10) (fuel := 1) rfl rfl (by kernel_rfl) (fun K hK => ?_)
      go_simp
      have yb := Hy.out w3 (hk2.trans hk3)
      obtain ⟨y0, y1, f0, f1, l1⟩ := yb.box2
      go_simp
      refine hK _ _ (KE.mk' (((hk3.ext (fun q => q = W.heap.size)).setCell (p := ⟨W.heap.size, 0, none⟩) (fun _ => rfl) _).setCell (p := ⟨W.heap.size, 1, none⟩) (fun _ => rfl) _)) ?_
      clear hK K
      refine region_take [11] [0, 1, 2, 3, 4, 5, 6, 7, 8, 9, 10] 0 (by kernel_rfl) (by kernel_rfl) (KE.mk' (((hk3.ext (fun q => q = W.heap.size)).setCell (p := ⟨W.heap.size, 0, none⟩) (fun _ => rfl) _).setCell (p := ⟨W.heap.size, 1, none⟩) (fun _ => rfl) _)) ?_
      show wpQuiet _ _ _ _ [_] _
      repeat (go_big_quiet_step (fail))
      refine wpQuiet_nil ?_
      refine region_done (by kernel_rfl) ?_
      have kw3 := kw2.trans hk3
      have Hs := Lib.hid hs
      have Hyb := Lib.hid yb
      clear hs yb e0 e1 e2 e3 e4 e5 e6 e7 e8 e9 ea eb p0 c0 c1 c2 c3 c4 c5 c6 c7 c8 c9 ca cb q0
      go_wp2
      refine bodyPost_ret (v := .tuple #[.agg #[.slice A n c, .slice B k' d], .bool r]) (by simp [results, Tryz.results124, go_sem, f0, f1, y0, y1, l1]) rfl ?_
      exact RSB.mk rfl (Hs.out.box Hyb.out _ _) trivial ((kw3.setCell (p := ⟨W.heap.size, 0, none⟩) hle _).setCell (p := ⟨W.heap.size, 1, none⟩) hle _)
    · have yb := Hy.out w2 hk2
      obtain ⟨y0, y1, f0, f1, l1⟩ := yb.box2
      have Hyb := Lib.hid yb
      clear yb
      go_wp2
      refine bodyPost_ret (v := .tuple #[.agg #[.slice none 0 0, .slice none 0 0], .bool false]) (by simp [results, Tryz.results124, go_sem, f0, f1, y0, y1, l1]) rfl ?_
      exact RSB.mk rfl (SigAt.nil _) trivial ((kw2.setCell (p := ⟨W.heap.size, 0, none⟩) hle _).setCell (p := ⟨W.heap.size, 1, none⟩) hle _)

theorem names08_calls (x : RwD IrD) (i : Int) (w : World) (h : RowOk irC w x) : Calls Tryz.prog 175 #[.slice x.a x.l.length x.c, .int .i64 i] w (RB w fun _ => True) := by
  have H := Lib.hid h
  obtain ⟨N, hN⟩ : ∃ N, x.l.length = N := ⟨_, rfl⟩
  have hl : N ≤ 2000000 := by rw [← hN]; exact h.len
  rw [hN]
  obtain ⟨A, hA0⟩ : ∃ A, x.a = A := ⟨_, rfl⟩
  rw [hA0]
  have HN := Lib.hid hN
  have HA := Lib.hid hA0
  clear h hN hA0
  go_enter Tryz.func175, Tryz.ntmps175
  go_wp2_with fail
  go_loopw [5] (fun vi wr => ∃ k : Nat, k ≤ N ∧ vi = .int .i64 k ∧ wr = w) (fun vi _ => N - (intOf vi).toNat)
  case atStart => exact ⟨0, Nat.zero_le _, rfl, rfl⟩
  case round =>
    obtain ⟨k, hk, rfl, rfl⟩ := hrel
    by_cases hin : k < N
    · obtain ⟨y, hy⟩ := get_some (l := x.l) (k := k) (by rw [HN.out]; exact hin)
      obtain ⟨b, off, hA, hb, hc⟩ := rw_get (s := 9) (fun _ => rfl) (by omega) H.out (Keep.refl _) hy
      have q0 : wr.cell? ⟨b, off + k * 9, none⟩ = some (.int .i64 y.op) := hc 0 _ rfl
      have q1 : wr.cell? ⟨b, off + k * 9 + 1, none⟩ = some (.int .i64 y.a) := hc 1 _ rfl
      rw [HA.out] at hA
      subst hA
      have k1 : (k : Int) < (N : Int) := by omega
      have k0 : (0 : Int) ≤ (k : Int) := by omega
      clear hc hy
      go_wp2
      all_goals first
        | (go_ret
           exact RB.mk rfl trivial (Keep.refl _))
        | (go_roundw
           case rel => exact ⟨k + 1, hin, by go_num, trivial⟩
           case measure => simp [intOf]; omega)
    · go_wp2
      go_ret
      exact RB.mk rfl trivial (Keep.refl _)

set_option maxRecDepth 100000 in
theorem funcs08_calls (m : MdD) (w : World) (h : MdOk w m) : Calls Tryz.prog 174 #[.agg (mdC m).toArray] w (RI w fun _ => True) := by
  obtain ⟨W, hW, kW, bW, sW⟩ := boxN w 33 (mdC m)
  obtain ⟨c0, c1, c2, c3, c4, c5, c6, c7, c8, c9, ca, cb, lt⟩ := bW.md
  have H := Lib.hid h
  have hd : Keep W W.drew := (Keep.refl _).drew
  have e0 := fun z : KW W => z.cell c0
  have e1 := fun z : KW W => z.cell c1
  have e2 := fun z : KW W => z.cell c2
  have e3 := fun z : KW W => z.cell c3
  have e4 := fun z : KW W => z.cell c4
  have e5 := fun z : KW W => z.cell c5
  have e6 := fun z : KW W => z.cell c6
  have e7 := fun z : KW W => z.cell c7
  have e8 := fun z : KW W => z.cell c8
  have e9 := fun z : KW W => z.cell c9
  have ea := fun z : KW W => z.cell ca
  have eb := fun z : KW W => z.cell cb
  clear h bW sW
  go_enter Tryz.func174, Tryz.ntmps174
  go_wp2_with fail
  refine region_begin (S := fun w' => ∃ z : KW W, w' = z.val) (by kernel_rfl) ?_
  refine region_take [0, 2, 3, 4] [] 3 (by kernel_rfl) (by kernel_rfl) (InK.mk' hd) ?_
  show wpQuiet _ _ _ _ [_, _, _, _] _
  repeat (go_big_quiet_step (fail))
  refine wpQuiet_nil ?_
  refine region_fix (i := 1) (fuel := 2) rfl (by kernel_rfl) (fun K hK => ?_)
  go_simp
  refine (imported08_calls m _ _ (H.out.keep (kW.trans hd))).mono ?_
  rintro e w2 ⟨r, rfl, ⟨hr0, hr1⟩, hk2'⟩
  have hk2 := hd.trans hk2'
  refine hK _ _ (InK.mk' hk2) ?_
  clear hK K
  refine region_take [5, 6] [0, 2, 3, 4, 1] 0 (by kernel_rfl) (by kernel_rfl) (InK.mk' hk2) ?_
  show wpQuiet _ _ _ _ [_, _] _
  repeat (go_big_quiet_step (fail))
  refine wpQuiet_nil ?_
  refine region_done (by kernel_rfl) ?_
  clear e0 e1 e2 e3 e4 e5 e6 e7 e8 e9 ea eb
  go_wp2
  go_ret
  exact RI.mk rfl trivial (kW.trans hk2)
end Go.Proofs.YtjpmiejgcnfiiaaGreat
namespace Go.Proofs.YtjpmiejgcnfiiaaGreat
open Go Go.RowKit

theorem val05_calls (n : Int) (w : World) : Calls Tryz.prog 155 #[.int .i64 n] w (RB w fun _ => True) := by
 go_enter Tryz.func155, Tryz.ntmps155
 go_wp2
 all_goals go_ret
 all_goals exact RB.mk rfl trivial (Keep.refl _)
theorem block05_calls (k v i : Int) (w : World) : Calls Tryz.prog 152 #[.agg #[.int .i64 k, .int .i64 v, .int .i64 i]] w (RB w fun _ => True) := by
 obtain ⟨W, hW, kW, bW, sW⟩ := boxN w 213 [.int .i64 k, .int .i64 v, .int .i64 i]
 have Hc := Lib.hid (fun (w' : World) (h : Keep W w') => (⟨(bW.keep h).cell 0, (bW.keep h).cell 1, (bW.keep h).cell 2⟩ : w'.cell? ⟨w.heap.size, 0, none⟩ = some (.int .i64 k) ∧ w'.cell? ⟨w.heap.size, 1, none⟩ = some (.int .i64 v) ∧ w'.cell? ⟨w.heap.size, 2, none⟩ = some (.int .i64 i)))
 obtain ⟨c0, c1, c2⟩ := Hc.out W (Keep.refl _)
 clear bW
 go_enter Tryz.func152, Tryz.ntmps152
 go_wp2_with (first
  | (go_at_call 155; refine (val05_calls _ _).mono ?_; rintro e w1 ⟨q, rfl, _, hk⟩; obtain ⟨d0, d1, d2⟩ := Hc.out w1 hk)
  | (go_at_call 153; refine (index05_calls _ _).mono ?_; rintro e w1 ⟨q, rfl, _, hk⟩; obtain ⟨d0, d1, d2⟩ := Hc.out w1 hk))
 all_goals go_ret
 all_goals exact RB.mk rfl trivial (by first | exact kW | exact kW.trans hk)
theorem labels05_calls (A : Option Addr) (c : Nat) (w : World) : Calls Tryz.prog 154 #[.slice A 0 c] w (RB w fun _ => True) := by
 go_enter Tryz.func154, Tryz.ntmps154
 go_wp2_with fail
 go_loopw [3] (fun vi wr => vi = .int .i64 0 ∧ wr = w) (fun _ _ => 0)
 case atStart => exact ⟨rfl, rfl⟩
 case round =>
  obtain ⟨rfl, rfl⟩ := hrel
  go_wp2
  go_ret
  exact RB.mk rfl trivial (Keep.refl _)
set_option maxRecDepth 100000 in
theorem row_long (op : Int) (h : (findRow op).1.imm = 17) : 3 ≤ (findRow op).1.name.size := by
 have hall : ∀ r ∈ rowsL, r.imm = 17 → 3 ≤ r.name.size := by decide
 unfold findRow findIn at h ⊢
 cases hf : rowsL.find? (fun r => r.op == op) with
 | none => rw [hf] at h; cases h
 | some r => rw [hf] at h; exact hall r (List.mem_of_find?_eq_some hf) h
set_option maxHeartbeats 4000000 in
theorem width05_calls (op : Int) (w : World) : Calls Tryz.prog 176 #[.int .i64 op] w (RI w fun _ => True) := by
 have Hn := Lib.hid (row_name op)
 have Hl := Lib.hid (row_long op)
 obtain ⟨nm, hnm⟩ : ∃ nm, (findRow op).1.name = nm := ⟨_, rfl⟩
 obtain ⟨im, him⟩ : ∃ im, (findRow op).1.imm = im := ⟨_, rfl⟩
 have Hnm := Lib.hid (fun w' => hnm ▸ name05_calls op w')
 have Hof := Lib.hid (fun w' => him ▸ of05_calls op w')
 rw [hnm] at Hn Hl
 rw [him] at Hl
 clear hnm him
 go_enter Tryz.func176, Tryz.ntmps176
 go_wp2_with fail
 refine (Hnm.out _).mono ?_
 rintro e w1 ⟨rfl, hk1⟩
 go_wp2_with fail
 refine (Hof.out _).mono ?_
 rintro e w2 ⟨rfl, hk2⟩
 have K2 := hk1.trans hk2
 clear hk1 hk2
 by_cases h17 : im = 17
 ·have h1 := Hl.out h17
  have h2 : (3 : Int) ≤ (nm.size : Int) := by omega
  go_wp2_with (first
   | (go_at_call 133; refine (within_calls _ _ (Nat.le_trans Hn.out (by omega)) (by decide) _).mono ?_; rintro e w4 ⟨q, rfl, _, hk4⟩; replace K2 := K2.trans hk4; clear hk4))
  all_goals go_ret
  all_goals exact RI.mk rfl trivial K2
 ·go_wp2
  go_ret
  exact RI.mk rfl trivial K2
theorem align05_calls (op : Int) (w : World) : Calls Tryz.prog 173 #[.int .i64 op] w (RI w fun _ => True) := by
 go_enter Tryz.func173, Tryz.ntmps173
 go_wp2_with fail
 refine (width05_calls _ _).mono ?_
 rintro e w1 ⟨q, rfl, _, hk⟩
 go_wp2
 all_goals go_ret
 all_goals exact RI.mk rfl trivial hk
theorem block_neq (w : World) : (binOp .neq 213 (.agg #[.int .i64 0, .int .i64 0, .int .i64 0]) (.agg #[.int .i64 0, .int .i64 0, .int .i64 0])).run Tryz.prog w = .ok (.bool false) w := by kernel_rfl
end Go.Proofs.YtjpmiejgcnfiiaaGreat
namespace Go.Proofs.YtjpmiejgcnfiiaaGreat
open Go Go.RowKit

/-- A call that gives a signature and an error. -/
def RW (w : World) (e : Ending) (w' : World) : Prop := ∃ A n c B k d er, e = .returned (.agg #[.slice A n c, .slice B k d, .int .i64 er]) ∧ SigAt w' A n B k ∧ Keep w w'
theorem RW.mk {w w' : World} {e : Ending} {A B : Option Addr} {n c k d : Nat} {er : Int} (he : e = .returned (.agg #[.slice A n c, .slice B k d, .int .i64 er])) (hs : SigAt w' A n B k) (hk : Keep w w') : RW w e w' := ⟨A, n, c, B, k, d, er, he, hs, hk⟩
theorem IntsAt.box3 {w : World} {A : Option Addr} {n b : Nat} {T : TypeId} {a1 a2 : Option Addr} {n1 c1 n2 c2 : Nat} {z0 : Int} (h : IntsAt w A n) (hb : Blk w b T [.slice a1 n1 c1, .slice a2 n2 c2, .int .i64 z0]) (u v : Value) (z : Int) : IntsAt (((w.setCell ⟨b, 0, none⟩ u).setCell ⟨b, 1, none⟩ v).setCell ⟨b, 2, none⟩ (.int .i64 z)) A n := by
 by_cases h0 : n = 0
 ·subst h0; exact IntsAt.nil _ _
 ·obtain ⟨l, h1, h2, h3⟩ := h
  obtain ⟨b', off, e, _, hc⟩ := h2.addr (by rw [flat_int, List.length_map]; omega)
  have hg : ∀ j, (hj : j < l.length) → w.cell? ⟨b', off + j, none⟩ = some (.int .i64 l[j]) := fun j hj => hc j _ (by rw [flat_int]; simp [List.getElem?_eq_getElem hj])
  by_cases hbb : b' = b
  ·subst hbb
   have h4 := hg 0 (by omega)
   rw [hb.cell] at h4
   rcases off with _ | _ | _ | off
   ·cases h4
   ·cases h4
   ·have hl1 : l.length = 1 := by
     rcases Nat.lt_or_ge 1 l.length with h5 | h5
     ·have h6 := hg 1 h5
      rw [hb.cell] at h6
      cases h6
     ·omega
    have hn1 : n = 1 := by omega
    subst hn1
    rw [e]
    have hB := ((hb.set_ 0 u).set_ 1 v).set_ 2 (.int .i64 z)
    refine ⟨[z], rfl, fun j w' hw => ?_, by omega⟩
    have hj : j = 0 := by have := (List.getElem?_eq_some_iff.1 hw).1; simp [intC] at this; omega
    subst hj
    refine ⟨_, rfl, ?_⟩
    simp [intC] at hw
    subst hw
    show World.cell? _ ⟨b', 2, none⟩ = _
    rw [hB.cell]
    rfl
   ·cases h4
  ·exact IntsAt.ext ⟨l, h1, h2, h3⟩ (((Ext.one b 0 u).trans (Ext.one b 1 v) (fun _ _ e => e)).trans (Ext.one b 2 (.int .i64 z)) (fun _ _ e => e)) (fun ad ha hbe => by rw [e] at ha; cases ha; exact hbb hbe)
theorem SigAt.box3 {w : World} {A B : Option Addr} {n k b : Nat} {T : TypeId} {a1 a2 : Option Addr} {n1 c1 n2 c2 : Nat} {z0 : Int} (h : SigAt w A n B k) (hb : Blk w b T [.slice a1 n1 c1, .slice a2 n2 c2, .int .i64 z0]) (u v : Value) (z : Int) : SigAt (((w.setCell ⟨b, 0, none⟩ u).setCell ⟨b, 1, none⟩ v).setCell ⟨b, 2, none⟩ (.int .i64 z)) A n B k := ⟨h.params.box3 hb u v z, h.results.box3 hb u v z⟩
theorem bad23_calls (er : Int) (w : World) : Calls Tryz.prog 156 #[.int .i64 er] w fun e w' => e = .returned (.agg #[.slice none 0 0, .slice none 0 0, .int .i64 er]) ∧ w' = w.alloc (.cells #[.slice none 0 0, .slice none 0 0, .int .i64 er] 234) := by
 go_enter Tryz.func156, Tryz.ntmps156
 go_wp2
 refine bodyPost_ret (v := .agg #[.slice none 0 0, .slice none 0 0, .int .i64 er]) (by simp [results, Tryz.results156, go_sem]) rfl ?_
 exact ⟨rfl, rfl⟩
theorem gives23_calls (A B : Option Addr) (n c k d : Nat) (w : World) : Calls Tryz.prog 159 #[.slice A n c, .slice B k d] w fun e w' => e = .returned (.agg #[.slice A n c, .slice B k d, .int .i64 0]) ∧ w' = w.alloc (.cells #[.slice A n c, .slice B k d, .int .i64 0] 234) := by
 go_enter Tryz.func159, Tryz.ntmps159
 go_wp2
 refine bodyPost_ret (v := .agg #[.slice A n c, .slice B k d, .int .i64 0]) (by simp [results, Tryz.results159, go_sem]) rfl ?_
 exact ⟨rfl, rfl⟩
theorem list23_calls (A : Option Addr) (n c : Nat) (w : World) : Calls Tryz.prog 160 #[.slice A n c] w fun e w' => e = .returned (.slice A n c) ∧ w' = w := by
 go_enter Tryz.func160, Tryz.ntmps160
 go_wp2
 go_ret
 exact ⟨rfl, rfl⟩
/-- The boxes of a rule: the module, the instruction, the result. -/
structure Rule3 (w : World) (bm bx br : Nat) (m : MdD) (op a b n : Int) : Prop where
 c0 : w.cell? ⟨bm, 0, none⟩ = some (.slice m.types.a m.types.l.length m.types.c)
 c1 : w.cell? ⟨bm, 1, none⟩ = some (.slice m.imports.a m.imports.l.length m.imports.c)
 c2 : w.cell? ⟨bm, 2, none⟩ = some (.slice m.funcs.a m.funcs.l.length m.funcs.c)
 c3 : w.cell? ⟨bm, 3, none⟩ = some (.slice m.tables.a m.tables.l.length m.tables.c)
 c4 : w.cell? ⟨bm, 4, none⟩ = some (.slice m.mems.a m.mems.l.length m.mems.c)
 c5 : w.cell? ⟨bm, 5, none⟩ = some (.slice m.globals.a m.globals.l.length m.globals.c)
 c6 : w.cell? ⟨bm, 6, none⟩ = some (.slice m.exports.a m.exports.l.length m.exports.c)
 c7 : w.cell? ⟨bm, 7, none⟩ = some (.bool m.hasStart)
 c8 : w.cell? ⟨bm, 8, none⟩ = some (.int .i64 m.start)
 c9 : w.cell? ⟨bm, 9, none⟩ = some (.slice m.elems.a m.elems.l.length m.elems.c)
 ca : w.cell? ⟨bm, 10, none⟩ = some (.slice m.datas.a m.datas.n m.datas.c)
 cb : w.cell? ⟨bm, 11, none⟩ = some (.slice m.customs.a m.customs.n m.customs.c)
 lt : bm < w.heap.size
 x0 : w.cell? ⟨bx, 0, none⟩ = some (.int .i64 op)
 x1 : w.cell? ⟨bx, 1, none⟩ = some (.int .i64 a)
 x2 : w.cell? ⟨bx, 2, none⟩ = some (.int .i64 b)
 x3 : w.cell? ⟨bx, 3, none⟩ = some (.int .u64 n)
 x4 : w.cell? ⟨bx, 4, none⟩ = some (.int .i64 0)
 x5 : w.cell? ⟨bx, 5, none⟩ = some (.int .i64 0)
 x6 : w.cell? ⟨bx, 6, none⟩ = some (.int .i64 0)
 x7 : w.cell? ⟨bx, 7, none⟩ = some (.slice none 0 0)
 x8 : w.cell? ⟨bx, 8, none⟩ = some (.slice none 0 0)
 y0 : w.cell? ⟨br, 0, none⟩ = some (.slice none 0 0)
 y1 : w.cell? ⟨br, 1, none⟩ = some (.slice none 0 0)
 y2 : w.cell? ⟨br, 2, none⟩ = some (.int .i64 0)
 f0 : w.frozen? ⟨br, 0, none⟩ = false
 f1 : w.frozen? ⟨br, 1, none⟩ = false
 f2 : w.frozen? ⟨br, 2, none⟩ = false
 l1 : br < w.heap.size
 l2 : br < w.heap.size + 1
 l3 : br < w.heap.size + 1 + 1
 l4 : br < w.heap.size + 1 + 1 + 1
 lx1 : bx < w.heap.size
 lx2 : bx < w.heap.size + 1
 lx3 : bx < w.heap.size + 1 + 1
 lx4 : bx < w.heap.size + 1 + 1 + 1
 lt2 : bm < w.heap.size + 1
 lt3 : bm < w.heap.size + 1 + 1
 lt4 : bm < w.heap.size + 1 + 1 + 1
theorem rule3 {w : World} {bm bx br : Nat} {T1 T2 T3 : TypeId} {m : MdD} {op a b n : Int} (h1 : Blk w bm T1 (mdC m)) (h2 : Blk w bx T2 [.int .i64 op, .int .i64 a, .int .i64 b, .int .u64 n, .int .i64 0, .int .i64 0, .int .i64 0, .slice none 0 0, .slice none 0 0]) (h3 : Blk w br T3 [.slice none 0 0, .slice none 0 0, .int .i64 0]) : Rule3 w bm bx br m op a b n :=
 ⟨h1.cell 0, h1.cell 1, h1.cell 2, h1.cell 3, h1.cell 4, h1.cell 5, h1.cell 6, h1.cell 7, h1.cell 8, h1.cell 9, h1.cell 10, h1.cell 11, h1.lt, h2.cell 0, h2.cell 1, h2.cell 2, h2.cell 3, h2.cell 4, h2.cell 5, h2.cell 6, h2.cell 7, h2.cell 8, h3.cell 0, h3.cell 1, h3.cell 2, h3.frozen 0, h3.frozen 1, h3.frozen 2, h3.lt, Nat.lt_succ_of_lt h3.lt, Nat.lt_succ_of_lt (Nat.lt_succ_of_lt h3.lt), Nat.lt_succ_of_lt (Nat.lt_succ_of_lt (Nat.lt_succ_of_lt h3.lt)), h2.lt, Nat.lt_succ_of_lt h2.lt, Nat.lt_succ_of_lt (Nat.lt_succ_of_lt h2.lt), Nat.lt_succ_of_lt (Nat.lt_succ_of_lt (Nat.lt_succ_of_lt h2.lt)), Nat.lt_succ_of_lt h1.lt, Nat.lt_succ_of_lt (Nat.lt_succ_of_lt h1.lt), Nat.lt_succ_of_lt (Nat.lt_succ_of_lt (Nat.lt_succ_of_lt h1.lt))⟩
theorem has23_calls (m : MdD) (i : Int) (w : World) (h : MdOk w m) (hi : (Lit.int .i64 i).wf = true) : Calls Tryz.prog 172 #[.agg (mdC m).toArray, .int .i64 i] w (RB w fun _ => True) := by
 obtain ⟨W, hW, kW, bW, sW⟩ := boxN w 33 (mdC m)
 obtain ⟨c0, c1, c2, c3, c4, c5, c6, c7, c8, c9, ca, cb, lt⟩ := bW.md
 have Hm := Lib.hid (mem08_calls m i W (h.keep kW) hi)
 clear h bW sW hi
 go_enter Tryz.func172, Tryz.ntmps172
 go_wp2_with fail
 refine Hm.out.mono ?_
 rintro e w1 ⟨v0, v1, v2, r, rfl, hk⟩
 go_wp2
 go_ret
 exact RB.mk rfl trivial ((kW.trans hk).alloc _)
theorem sig23_calls (op : Int) (w : World) : Calls Tryz.prog 168 #[.int .i64 op] w (RW w) := by
 obtain ⟨U, hU, kU, bU, sU⟩ := boxN w 234 [.slice none 0 0, .slice none 0 0, .int .i64 0]
 have Hy := Lib.hid (fun (w' : World) (k : Keep U w') => bU.keep k)
 clear bU sU
 go_enter Tryz.func168, Tryz.ntmps168
 go_wp2_with fail
 refine (sig05_calls _ _).mono ?_
 rintro e w1 ⟨A, n, c, B, k, d, r, rfl, hs, _, hk⟩
 have yb := Hy.out w1 hk
 have y0 : w1.cell? ⟨w.heap.size, 0, none⟩ = some (.slice none 0 0) := yb.cell 0
 have y1 : w1.cell? ⟨w.heap.size, 1, none⟩ = some (.slice none 0 0) := yb.cell 1
 have y2 : w1.cell? ⟨w.heap.size, 2, none⟩ = some (.int .i64 0) := yb.cell 2
 have yf := yb.frozen
 have l1 := yb.lt
 have l2 : w.heap.size < w1.heap.size + 1 := by omega
 have l3 : w.heap.size < w1.heap.size + 1 + 1 := by omega
 have Hs := Lib.hid hs
 have Hyb := Lib.hid yb
 clear hs yb
 cases r
 ·go_wp2_with (go_at_call 156; refine (bad23_calls _ _).mono ?_; rintro e w2 ⟨rfl, rfl⟩)
  refine bodyPost_ret (by simp [results, Tryz.results168, go_sem, y0, y1, y2, yf, l1, l2, l3] <;> rfl) rfl ?_
  refine RW.mk rfl (SigAt.nil _) ?_
  repeat (first | apply Keep.alloc | refine Keep.setCell (p := ⟨w.heap.size, _, none⟩) ?_ (Nat.le_refl _) _)
  exact kU.trans hk
 ·go_wp2
  refine bodyPost_ret (by simp [results, Tryz.results168, go_sem, y0, y1, y2, yf, l1, l2, l3] <;> rfl) rfl ?_
  refine RW.mk rfl ?_ ?_
  ·first
    | exact SigAt.alloc (Hs.out.box3 Hyb.out _ _ _) _
    | exact Hs.out.box3 Hyb.out _ _ _
  ·repeat (first | apply Keep.alloc | refine Keep.setCell (p := ⟨w.heap.size, _, none⟩) ?_ (Nat.le_refl _) _)
   exact kU.trans hk
end Go.Proofs.YtjpmiejgcnfiiaaGreat
