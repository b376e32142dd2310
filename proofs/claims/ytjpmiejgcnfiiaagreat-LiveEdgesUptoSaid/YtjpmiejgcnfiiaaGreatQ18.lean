import Derived.Test.YtjpmiejgcnfiiaaGreatQ17
import Derived.Test.YtjpmiejgcnfiiaaGreatQ16
set_option linter.unusedVariables false
set_option linter.unusedSimpArgs false
namespace Go.Proofs.YtjpmiejgcnfiiaaGreat
open Go Go.RowKit

set_option maxHeartbeats 4000000 in
set_option maxRecDepth 100000 in
theorem plain05_calls (op : Int) (w : World) : Calls Tryz.prog 130 #[.int .i64 op] w (RSB w fun _ _ => True) := by
  go_enter Tryz.func130, Tryz.ntmps130
  go_wp2_with (go_at_call 134; refine (fn05_calls _ _ _ _ _ _ _).mono ?_; rintro e w1 ⟨rfl, rfl⟩)
  all_goals (refine bodyPost_ret (by simp [results, Tryz.results130, go_sem]; rfl) rfl ?_)
  all_goals exact RSB.mk rfl ⟨by first | exact IntsAt.nil _ _ | exact IntsAt.one (by simp [go_sem] <;> rfl) | exact IntsAt.three (by simp [go_sem] <;> rfl) (by simp [go_sem] <;> rfl) (by simp [go_sem] <;> rfl), by first | exact IntsAt.nil _ _ | exact IntsAt.one (by simp [go_sem] <;> rfl)⟩ trivial (by repeat (first | exact Keep.refl _ | apply Keep.alloc))

set_option maxRecDepth 100000 in
theorem row_name (op : Int) : (findRow op).1.name.size ≤ 100 := by
  have hall : ∀ r ∈ rowsL, r.name.size ≤ 100 := by decide
  unfold findRow findIn
  cases h : rowsL.find? (fun r => r.op == op) with
  | none => decide
  | some r => exact hall r (List.mem_of_find?_eq_some h)

set_option maxHeartbeats 8000000 in
set_option maxRecDepth 100000 in
theorem sig05_calls (op : Int) (w : World) : Calls Tryz.prog 118 #[.int .i64 op] w (RSB w fun _ _ => True) := by
  obtain ⟨W, hW, kW, bW, sW⟩ := boxN w 36 [.slice none 0 0, .slice none 0 0]
  have Hb := Lib.hid (fun (w' : World) (k : Keep W w') => (bW.keep k).box2)
  have HB := Lib.hid (fun (w' : World) (k : Keep W w') => bW.keep k)
  have Hn := Lib.hid (row_name op)
  obtain ⟨nm, hnm⟩ : ∃ nm, (findRow op).1.name = nm := ⟨_, rfl⟩
  obtain ⟨im, him⟩ : ∃ im, (findRow op).1.imm = im := ⟨_, rfl⟩
  have Hnm := Lib.hid (fun w' => hnm ▸ name05_calls op w')
  have Hof := Lib.hid (fun w' => him ▸ of05_calls op w')
  rw [hnm] at Hn
  clear hnm him bW
  go_enter Tryz.func118, Tryz.ntmps118
  go_wp2_with fail
  refine (plain05_calls op _).mono ?_
  rintro e w1 ⟨A, n, c, B, k, d, r, rfl, hs, _, hk1⟩
  obtain ⟨y0, y1, f0, f1, l1⟩ := Hb.out w1 hk1
  have Hs := Lib.hid hs
  have kw1 := kW.trans hk1
  clear hs
  cases r with
  | true =>
    go_wp2
    refine bodyPost_ret (v := .tuple #[.agg #[.slice A n c, .slice B k d], .bool true]) (by simp [results, Tryz.results118, go_sem, f0, f1, y0, y1, l1]) rfl ?_
    exact RSB.mk rfl ⟨IntsAt.alloc (IntsAt.box2 (HB.out _ hk1) Hs.out.params) _, IntsAt.alloc (IntsAt.box2 (HB.out _ hk1) Hs.out.results) _⟩ trivial (((kw1.setCell (p := ⟨w.heap.size, 0, none⟩) (Nat.le_refl _) _).setCell (p := ⟨w.heap.size, 1, none⟩) (Nat.le_refl _) _).alloc _)
  | false =>
    clear y0 y1 f0 f1 l1
    go_wp2_with fail
    refine (Hnm.out _).mono ?_
    rintro e w2 ⟨rfl, hk2⟩
    go_wp2_with fail
    refine (typ05_calls _ _).mono ?_
    rintro e w3 ⟨t, rfl, _, hk3⟩
    have K3 : Keep W w3 := (hk1.trans (Keep.trans ((Keep.refl _).alloc _) hk2)).trans hk3
    obtain ⟨W4, hW4, kW4, bo, so⟩ := boxN w3 74 [.int .i64 t]
    obtain ⟨W5, hW5, kW5, bt, st⟩ := boxN W4 74 [.int .i64 t, .int .i64 t]
    rw [so] at bt
    have Hone := Lib.hid (fun (w' : World) (k : Keep W5 w') => (IntsAt.one ((kW5.trans k).cell (bo.cell 0))))
    have Htwo := Lib.hid (fun (w' : World) (k : Keep W5 w') => (IntsAt.two (k.cell (bt.cell 0)) (k.cell (bt.cell 1))))
    have K5 : Keep W W5 := (K3.trans kW4).trans kW5
    have hl3 : w.heap.size < w3.heap.size := Nat.lt_of_lt_of_le (by omega) K3.size
    have Hkw := Lib.hid (kW.trans K5)
    clear bo bt hk1 hk2 hk3 kW4 kW5 kw1 K3
    go_wp2_with (first
      | (go_at_call 119; refine (Hof.out _).mono ?_; rintro e w4 ⟨rfl, hk4⟩; have K4 : Keep W5 w4 := Keep.trans (by repeat (first | exact Keep.refl _ | assumption | apply Keep.alloc)) hk4; obtain ⟨y0, y1, f0, f1, l1⟩ := Hb.out _ (K5.trans K4); have l2 : w.heap.size < w4.heap.size + 1 := (by omega); have l3 : w.heap.size < w4.heap.size + 1 + 1 := (by omega); have l4 : w.heap.size < w4.heap.size + 1 + 1 + 1 := (by omega); clear hk4)
      | (go_at_call 133; refine (within_calls _ _ (Nat.le_trans Hn.out (by omega)) (by decide) _).mono ?_; rintro e w4 ⟨q, rfl, _, hk4⟩; have K4 : Keep W5 w4 := Keep.trans (by repeat (first | exact Keep.refl _ | assumption | apply Keep.alloc)) hk4; obtain ⟨y0, y1, f0, f1, l1⟩ := Hb.out _ (K5.trans K4); have l2 : w.heap.size < w4.heap.size + 1 := (by omega); have l3 : w.heap.size < w4.heap.size + 1 + 1 := (by omega); have l4 : w.heap.size < w4.heap.size + 1 + 1 + 1 := (by omega); clear hk4)
      | (go_at_call 134; refine (fn05_calls _ _ _ _ _ _ _).mono ?_; rintro e w7 ⟨rfl, rfl⟩))
    all_goals (refine bodyPost_ret (by simp [results, Tryz.results118, go_sem, f0, f1, y0, y1, l1, l2, l3, l4] <;> rfl) rfl ?_)
    all_goals (refine RSB.mk rfl ⟨?_, ?_⟩ trivial ?_)
    all_goals first
      | exact IntsAt.nil _ _
      | exact IntsAt.one (by simp [go_sem] <;> rfl)
      | exact IntsAt.two (by simp [go_sem] <;> rfl) (by simp [go_sem] <;> rfl)
      | (repeat apply IntsAt.alloc
         first
         | exact IntsAt.box2 (HB.out _ (K5.trans K4)) (Hone.out _ K4)
         | exact IntsAt.box2 (HB.out _ (K5.trans K4)) (Htwo.out _ K4))
      | (repeat (first | exact Hkw.out.trans K4 | apply Keep.alloc | refine Keep.setCell (p := ⟨w.heap.size, _, none⟩) ?_ (Nat.le_refl _) _))
end Go.Proofs.YtjpmiejgcnfiiaaGreat
namespace Go.Proofs.YtjpmiejgcnfiiaaGreat
open Go Go.RowKit

/-- The box of an instruction of a form. -/
structure SX (w : World) (bx : Nat) (kd op a b n : Int) (aa : Option Addr) (al : List Int) (ac : Nat) (oa : Option Addr) (ol : List Int) (oc : Nat) : Prop where
 x0 : w.cell? ⟨bx, 0, none⟩ = some (.int .i64 kd)
 x1 : w.cell? ⟨bx, 1, none⟩ = some (.int .i64 op)
 x2 : w.cell? ⟨bx, 2, none⟩ = some (.int .i64 a)
 x3 : w.cell? ⟨bx, 3, none⟩ = some (.int .i64 b)
 x4 : w.cell? ⟨bx, 4, none⟩ = some (.int .u64 n)
 x5 : w.cell? ⟨bx, 5, none⟩ = some (.slice aa al.length ac)
 x6 : w.cell? ⟨bx, 6, none⟩ = some (.slice oa ol.length oc)
 lx1 : bx < w.heap.size
 lx2 : bx < w.heap.size + 1
 lx3 : bx < w.heap.size + 1 + 1
 lx4 : bx < w.heap.size + 1 + 1 + 1
theorem Blk.sx {w : World} {bx : Nat} {T : TypeId} {kd op a b n : Int} {aa : Option Addr} {al : List Int} {ac : Nat} {oa : Option Addr} {ol : List Int} {oc : Nat} (h : Blk w bx T [.int .i64 kd, .int .i64 op, .int .i64 a, .int .i64 b, .int .u64 n, .slice aa al.length ac, .slice oa ol.length oc]) : SX w bx kd op a b n aa al ac oa ol oc :=
 ⟨h.cell 0, h.cell 1, h.cell 2, h.cell 3, h.cell 4, h.cell 5, h.cell 6, h.lt, Nat.lt_succ_of_lt h.lt, Nat.lt_succ_of_lt (Nat.lt_succ_of_lt h.lt), Nat.lt_succ_of_lt (Nat.lt_succ_of_lt (Nat.lt_succ_of_lt h.lt))⟩
/-- The box of a signature that is still to be given. -/
structure YX (w : World) (br : Nat) : Prop where
 y0 : w.cell? ⟨br, 0, none⟩ = some (.slice none 0 0)
 y1 : w.cell? ⟨br, 1, none⟩ = some (.slice none 0 0)
 f0 : w.frozen? ⟨br, 0, none⟩ = false
 f1 : w.frozen? ⟨br, 1, none⟩ = false
 l1 : br < w.heap.size
 l2 : br < w.heap.size + 1
 l3 : br < w.heap.size + 1 + 1
 l4 : br < w.heap.size + 1 + 1 + 1
theorem Blk.yx {w : World} {br : Nat} {T : TypeId} (h : Blk w br T [.slice none 0 0, .slice none 0 0]) : YX w br :=
 ⟨h.cell 0, h.cell 1, h.frozen 0, h.frozen 1, h.lt, Nat.lt_succ_of_lt h.lt, Nat.lt_succ_of_lt (Nat.lt_succ_of_lt h.lt), Nat.lt_succ_of_lt (Nat.lt_succ_of_lt (Nat.lt_succ_of_lt h.lt))⟩
/-- A call that gives a type, and whether there is one. -/
def RO (w : World) (e : Ending) (w' : World) : Prop := ∃ t r, e = .returned (.tuple #[.int .i64 t, .bool r]) ∧ Keep w w'
theorem RO.mk {w w' : World} {e : Ending} {t : Int} {r : Bool} (he : e = .returned (.tuple #[.int .i64 t, .bool r])) (hk : Keep w w') : RO w e w' := ⟨t, r, he, hk⟩
theorem IntsAt.head {w : World} {A : Option Addr} {n : Nat} (h : IntsAt w A n) (h0 : 0 < n) : ∃ b off u, A = some ⟨b, off, none⟩ ∧ b < w.heap.size ∧ w.cell? ⟨b, off, none⟩ = some (.int .i64 u) := by
 obtain ⟨l, h1, h2, _⟩ := h
 obtain ⟨b, off, e, hb, hc⟩ := int_at h2 (Keep.refl _) (k := 0) (by omega)
 exact ⟨b, off, _, e, hb, hc⟩
theorem Seg.one_ {w : World} {A : Option Addr} {l : List Int} (h : Seg w A (l.flatMap intC)) : Seg w A ((l.take 1).flatMap intC) := by
 intro j u hu
 refine h j u ?_
 rw [flat_int] at hu ⊢
 rw [List.map_take, List.getElem?_take] at hu
 split at hu
 ·exact hu
 ·cases hu
set_option maxHeartbeats 4000000 in
theorem zero39_calls (kd op a b n : Int) (aa : Option Addr) (al : List Int) (ac : Nat) (oa : Option Addr) (ol : List Int) (oc : Nat) (p q r s : Bool) (w : World) : Calls Tryz.prog 96 #[.agg #[.int .i64 kd, .int .i64 op, .int .i64 a, .int .i64 b, .int .u64 n, .slice aa al.length ac, .slice oa ol.length oc], .bool p, .bool q, .bool r, .bool s] w (RB w fun _ => True) := by
 obtain ⟨W, hW, kW, bW, sW⟩ := boxN w 63 [.int .i64 kd, .int .i64 op, .int .i64 a, .int .i64 b, .int .u64 n, .slice aa al.length ac, .slice oa ol.length oc]
 obtain ⟨x0, x1, x2, x3, x4, x5, x6, lx1, lx2, lx3, lx4⟩ := bW.sx
 clear bW sW
 go_enter Tryz.func96, Tryz.ntmps96
 go_wp2
 all_goals go_ret
 all_goals exact RB.mk rfl trivial kW
set_option maxHeartbeats 2000000 in
theorem own39_calls (kd op a b n : Int) (aa : Option Addr) (al : List Int) (ac : Nat) (oa : Option Addr) (ol : List Int) (oc : Nat) (vl : List Int) (va : Option Addr) (vc : Nat) (w : World) (ho : Seg w oa (ol.flatMap intC)) (hol : ol.length ≤ 2000000) (hv : Seg w va (vl.flatMap intC)) (hvn : vl.length ≤ 2000000) : Calls Tryz.prog 115 #[.agg #[.int .i64 kd, .int .i64 op, .int .i64 a, .int .i64 b, .int .u64 n, .slice aa al.length ac, .slice oa ol.length oc], .slice va vl.length vc] w (RO w) := by
 obtain ⟨W, hW, kW, bW, sW⟩ := boxN w 63 [.int .i64 kd, .int .i64 op, .int .i64 a, .int .i64 b, .int .u64 n, .slice aa al.length ac, .slice oa ol.length oc]
 obtain ⟨x0, x1, x2, x3, x4, x5, x6, lx1, lx2, lx3, lx4⟩ := bW.sx
 have Hall := Lib.hid (all39_calls ol oa oc vl va vc W (ho.keep kW) hol (hv.keep kW) hvn)
 clear bW sW ho hv
 go_enter Tryz.func115, Tryz.ntmps115
 go_wp2_with fail
 refine Hall.out.mono ?_
 rintro e w1 ⟨A, k, c, r, rfl, hA, hr, hk1⟩
 clear Hall hr x0 x1 x2 x3 x4 x5 x6 lx1 lx2 lx3 lx4
 have kw := kW.trans hk1
 cases r with
 | false =>
  go_wp2
  refine bodyPost_ret (by simp [results, Tryz.results115, go_sem] <;> rfl) rfl ?_
  exact RO.mk rfl kw
 | true =>
  by_cases h1 : k = 1
  ·obtain ⟨b', off, u, rfl, hb, hc⟩ := hA.head (by omega)
   have h2 : ((k : Int) != 1) = false := by simp [h1]
   have h3 : (0 : Int) < (k : Int) := by omega
   clear hA h1
   go_wp2
   refine bodyPost_ret (by simp [results, Tryz.results115, go_sem] <;> rfl) rfl ?_
   exact RO.mk rfl kw
  ·have h2 : ((k : Int) != 1) = true := by simp; omega
   clear hA
   go_wp2
   refine bodyPost_ret (by simp [results, Tryz.results115, go_sem] <;> rfl) rfl ?_
   exact RO.mk rfl kw
set_option maxHeartbeats 2000000 in
theorem first39_calls (kd op a b n : Int) (aa : Option Addr) (al : List Int) (ac : Nat) (oa : Option Addr) (ol : List Int) (oc : Nat) (vl : List Int) (va : Option Addr) (vc : Nat) (w : World) (ho : Seg w aa (al.flatMap intC)) (hol : al.length ≤ 2000000) (hac : al.length ≤ ac) (hv : Seg w va (vl.flatMap intC)) (hvn : vl.length ≤ 2000000) : Calls Tryz.prog 117 #[.agg #[.int .i64 kd, .int .i64 op, .int .i64 a, .int .i64 b, .int .u64 n, .slice aa al.length ac, .slice oa ol.length oc], .slice va vl.length vc] w (RO w) := by
 obtain ⟨W, hW, kW, bW, sW⟩ := boxN w 63 [.int .i64 kd, .int .i64 op, .int .i64 a, .int .i64 b, .int .u64 n, .slice aa al.length ac, .slice oa ol.length oc]
 obtain ⟨x0, x1, x2, x3, x4, x5, x6, lx1, lx2, lx3, lx4⟩ := bW.sx
 by_cases h0 : al.length = 0
 ·have h0b : ((al.length : Int) == 0) = true := by rw [beq_iff_eq]; omega
  clear bW sW h0
  go_enter Tryz.func117, Tryz.ntmps117
  go_wp2
  refine bodyPost_ret (by simp [results, Tryz.results117, go_sem] <;> rfl) rfl ?_
  exact RO.mk rfl kW
 have hl1 : (al.take 1).length = 1 := by simp; omega
 have hall := all39_calls (al.take 1) aa ac vl va vc W (ho.one_.keep kW) (by omega) (hv.keep kW) hvn
 rw [hl1] at hall
 have Hall := Lib.hid hall
 have h0b : ((al.length : Int) == 0) = false := by rw [beq_eq_false_iff_ne]; omega
 have h1 : (1 : Int) ≤ (al.length : Int) := by omega
 have h2 : (1 : Int) ≤ (ac : Int) := by omega
 clear bW sW ho hv hall hl1 h0
 go_enter Tryz.func117, Tryz.ntmps117
 go_wp2_with fail
 refine Hall.out.mono ?_
 rintro e w1 ⟨A, k, c, r, rfl, hA, hr, hk1⟩
 clear Hall x0 x1 x2 x3 x4 x5 x6 lx1 lx2 lx3 lx4 h0b
 have kw := kW.trans hk1
 cases r with
 | false =>
  go_wp2
  refine bodyPost_ret (by simp [results, Tryz.results117, go_sem] <;> rfl) rfl ?_
  exact RO.mk rfl kw
 | true =>
  have hk : k = 1 := by rw [(hr rfl).1]; simp; omega
  obtain ⟨b', off, u, rfl, hb, hc⟩ := hA.head (by omega)
  have h3 : (0 : Int) < (k : Int) := by omega
  clear hA hr hk
  go_wp2
  refine bodyPost_ret (by simp [results, Tryz.results117, go_sem] <;> rfl) rfl ?_
  exact RO.mk rfl kw
set_option maxHeartbeats 2000000 in
theorem sameVals06_calls (A B : Option Addr) (n c k d : Nat) (w : World) (hA : IntsAt w A n) (hB : IntsAt w B k) : Calls Tryz.prog 99 #[.slice A n c, .slice B k d] w (RB w fun _ => True) := by
 by_cases hne : n = k
 ·subst hne
  obtain ⟨l, hl, hs, hn⟩ := hA
  obtain ⟨l', hl', hs', _⟩ := hB
  have hnn : ((n : Int) != (n : Int)) = false := by simp
  go_enter Tryz.func99, Tryz.ntmps99
  go_wp2_with fail
  go_loopw [5] (fun vi wr => ∃ k : Nat, k ≤ n ∧ vi = .int .i64 k ∧ Hid (Keep w wr)) (fun i _ => n - (intOf i).toNat)
  case atStart => exact ⟨0, Nat.zero_le _, rfl, Lib.hid (Keep.refl _)⟩
  case round =>
   clear hnn
   obtain ⟨k, hk, rfl, hkeep⟩ := hrel
   by_cases hin : k < n
   ·obtain ⟨b, off, rfl, hb, c0⟩ := int_at hs hkeep.out (k := k) (by omega)
    obtain ⟨b', off', rfl, hb', d0⟩ := int_at hs' hkeep.out (k := k) (by omega)
    obtain ⟨x, hx⟩ : ∃ x, l[k]'(by omega) = x := ⟨_, rfl⟩
    obtain ⟨y, hy⟩ : ∃ y, l'[k]'(by omega) = y := ⟨_, rfl⟩
    rw [hx] at c0
    rw [hy] at d0
    have hkk : (k : Int) < (n : Int) := by omega
    have hk0 : (0 : Int) ≤ (k : Int) := by omega
    have Hk := Lib.hid (hkeep.out.drew)
    clear hx hy hs hs' hl hl'
    go_wp2_with fail
    go_quiet (fail)
    by_cases g : x = y
    ·have g1 : (x != y) = false := by simpa using g
     clear g
     go_wp2
     go_roundw
     case rel => exact ⟨k + 1, hin, by go_num, by first | exact Hk | exact Lib.hid (hkeep.out.drewN _)⟩
     case measure => simp [intOf]; omega
    ·have g1 : (x != y) = true := by simpa using g
     clear g
     go_wp2
     go_ret
     exact RB.mk rfl trivial (by first | exact Hk.out | exact hkeep.out.drewN _)
   ·go_wp2
    go_ret
    exact RB.mk rfl trivial hkeep.out
 ·have hnn : ((n : Int) != (k : Int)) = true := by simp; omega
  go_enter Tryz.func99, Tryz.ntmps99
  go_wp2
  go_ret
  exact RB.mk rfl trivial (Keep.refl _)
theorem load39_calls (op : Int) (w : World) : Calls Tryz.prog 121 #[.int .i64 op] w (RB w fun _ => True) := by
 go_enter Tryz.func121, Tryz.ntmps121
 go_wp2_with fail
 refine (sig05_calls _ _).mono ?_
 rintro e w1 ⟨A, n, c, B, k, d, r, rfl, hs, _, hk⟩
 clear hs
 go_wp2
 go_ret
 exact RB.mk rfl trivial (hk.alloc _)
theorem begins39_calls (op : Int) (s : ByteArray) (hs : s.size ≤ 100) (w : World) : Calls Tryz.prog 120 #[.int .i64 op, .string s] w (RB w fun _ => True) := by
 obtain ⟨nm, hnm⟩ : ∃ nm, (findRow op).1.name = nm := ⟨_, rfl⟩
 have Hnm := Lib.hid (fun w' => hnm ▸ name05_calls op w')
 have hn : nm.size ≤ 100 := by rw [← hnm]; exact row_name op
 clear hnm
 go_enter Tryz.func120, Tryz.ntmps120
 go_wp2_with fail
 refine (Hnm.out _).mono ?_
 rintro e w1 ⟨rfl, hk⟩
 by_cases h : s.size ≤ nm.size
 ·have h1 : (s.size : Int) ≤ (nm.size : Int) := by omega
  go_wp2
  all_goals go_ret
  all_goals exact RB.mk rfl trivial hk
 ·have h1 : ¬ (s.size : Int) ≤ (nm.size : Int) := by omega
  go_wp2
  all_goals go_ret
  all_goals exact RB.mk rfl trivial hk
end Go.Proofs.YtjpmiejgcnfiiaaGreat
namespace Go.Proofs.YtjpmiejgcnfiiaaGreat
open Go Go.RowKit

set_option maxHeartbeats 4000000 in
set_option maxRecDepth 100000 in
theorem stands39_calls (k : LkD) (b : Nat) (here : List Int) (ha : Option Addr) (hc : Nat) (v : Int) (w : World) (h : LkOk w k) (hh : Seg w ha (here.flatMap intC)) (hl : here.length ≤ 2000000) (hb : b < k.x.blocks.l.length) :
  Calls Tryz.prog 77 #[.agg (lkC k).toArray, .int .i64 (b : Int), .slice ha here.length hc, .int .i64 v] w fun e w' => e = .returned (.bool (k.K.standsB b here v)) ∧ Keep w w' := by
 obtain ⟨W, hW, kW, bW, sW⟩ := boxN w 108 (lkC k)
 obtain ⟨c0, c1, c2, c3, c4, c5, c6, c7, c8, c9, ca, cb, cc, cd, ce, cf, cg, ch, ci, lt⟩ := bW.lk
 have H := Lib.hid (h.keep kW)
 have Hh := Lib.hid (hh.keep kW)
 have hdl : k.defs.l.length ≤ 1048576 := by rw [h.defsLen]; exact h.bulk.vals
 have hbr : b < k.reached.l.length := by rw [h.reachedLen]; exact hb
 have hrl : k.reached.l.length ≤ 1048576 := by rw [h.reachedLen]; exact h.bulk.blocks
 have hil := h.idomLen
 obtain ⟨E, hE⟩ : ∃ E, k.K.standsB b here v = E := ⟨_, rfl⟩
 rw [hE]
 have HE0 := Lib.hid (show E = if v < 0 ∨ (k.defs.l.length : Int) ≤ v then false else if k.defs.l.getD v.toNat (-1) < 0 then false else if k.reached.l.getD b false = false then true else if k.defs.l.getD v.toNat (-1) = (b : Int) then decide (v ∈ here) else Dom.overF k.idom.l (k.defs.l.getD v.toNat (-1)) (b : Int) from by rw [← hE]; rfl)
 clear bW sW h hh hE
 by_cases h1 : v < 0
 ·have HE := Lib.hid (show E = false from by rw [HE0.out, if_pos (.inl h1)])
  have d1 : decide (v < 0) = true := decide_eq_true h1
  clear HE0 h1
  go_enter Tryz.func77, Tryz.ntmps77
  go_wp2
  first | go_ret | (refine bodyPost_ret (by simp [results, Tryz.results77, go_sem] <;> rfl) rfl ?_)
  exact ⟨by rw [HE.out]; rfl, kW⟩
 have d1 : decide (v < 0) = false := decide_eq_false h1
 by_cases h2 : (k.defs.l.length : Int) ≤ v
 ·have HE := Lib.hid (show E = false from by rw [HE0.out, if_pos (.inr h2)])
  have d2 : decide ((k.defs.l.length : Int) ≤ v) = true := decide_eq_true h2
  clear HE0 h2
  go_enter Tryz.func77, Tryz.ntmps77
  go_wp2
  first | go_ret | (refine bodyPost_ret (by simp [results, Tryz.results77, go_sem] <;> rfl) rfl ?_)
  exact ⟨by rw [HE.out]; rfl, kW⟩
 have d2 : decide ((k.defs.l.length : Int) ≤ v) = false := decide_eq_false h2
 obtain ⟨u, rfl⟩ : ∃ u : Nat, v = (u : Int) := ⟨v.toNat, by omega⟩
 have hul : u < k.defs.l.length := by omega
 obtain ⟨bD, oD, hDA, hbD, q0⟩ := int_at H.out.defs (Keep.refl _) hul
 obtain ⟨dv, hdv⟩ : ∃ dv, k.defs.l[u] = dv := ⟨_, rfl⟩
 have hget : k.defs.l.getD (u : Int).toNat (-1) = dv := by rw [Int.toNat_natCast, List.getD_eq_getElem?_getD, List.getElem?_eq_getElem hul, hdv]; rfl
 rw [hdv] at q0
 have HE1 := Lib.hid (show E = if dv < 0 then false else if k.reached.l.getD b false = false then true else if dv = (b : Int) then decide ((u : Int) ∈ here) else Dom.overF k.idom.l dv (b : Int) from by rw [HE0.out, if_neg (by omega), hget])
 rw [hDA] at ch
 have u0 : (0 : Int) ≤ (u : Int) := by omega
 have u1 : (u : Int) < (k.defs.l.length : Int) := by omega
 clear HE0 hdv hget h1 h2
 by_cases h3 : dv < 0
 ·have HE := Lib.hid (show E = false from by rw [HE1.out, if_pos h3])
  have d3 : decide (dv < 0) = true := decide_eq_true h3
  clear HE1 h3
  go_enter Tryz.func77, Tryz.ntmps77
  go_wp2
  first | go_ret | (refine bodyPost_ret (by simp [results, Tryz.results77, go_sem] <;> rfl) rfl ?_)
  exact ⟨by rw [HE.out]; rfl, kW⟩
 have d3 : decide (dv < 0) = false := decide_eq_false h3
 obtain ⟨bR, oR, hRA, hbR, r0⟩ := bool_at H.out.reached (Keep.refl _) hbr
 obtain ⟨rv, hrv⟩ : ∃ rv, k.reached.l[b] = rv := ⟨_, rfl⟩
 have hgr : k.reached.l.getD b false = rv := by rw [List.getD_eq_getElem?_getD, List.getElem?_eq_getElem hbr, hrv]; rfl
 rw [hrv] at r0
 rw [hRA] at ci
 have b0 : (0 : Int) ≤ (b : Int) := by omega
 have b1 : (b : Int) < (k.reached.l.length : Int) := by omega
 have HE2 := Lib.hid (show E = if rv = false then true else if dv = (b : Int) then decide ((u : Int) ∈ here) else Dom.overF k.idom.l dv (b : Int) from by rw [HE1.out, if_neg h3, hgr])
 clear HE1 hrv hgr h3
 cases rv with
 | false =>
  have HE := Lib.hid (show E = true from by rw [HE2.out, if_pos rfl])
  clear HE2
  go_enter Tryz.func77, Tryz.ntmps77
  go_wp2
  first | go_ret | (refine bodyPost_ret (by simp [results, Tryz.results77, go_sem] <;> rfl) rfl ?_)
  exact ⟨by rw [HE.out]; rfl, kW⟩
 | true =>
  have HE3 := Lib.hid (show E = if dv = (b : Int) then decide ((u : Int) ∈ here) else Dom.overF k.idom.l dv (b : Int) from by rw [HE2.out, if_neg (by simp)])
  clear HE2
  by_cases h4 : dv = (b : Int)
  ·have Hhas := Lib.hid (has39_calls here ha hc (u : Int) W Hh.out hl)
   have HE := Lib.hid (show E = decide ((u : Int) ∈ here) from by rw [HE3.out, if_pos h4])
   subst h4
   have d4 : ((b : Int) == (b : Int)) = true := by simp
   clear HE3
   go_enter Tryz.func77, Tryz.ntmps77
   go_wp2_with fail
   refine Hhas.out.mono ?_
   rintro e w1 ⟨rfl, rfl⟩
   go_wp2
   go_ret
   exact ⟨by rw [HE.out]; rfl, kW⟩
  ·have d4 : (dv == (b : Int)) = false := beq_eq_false_iff_ne.2 h4
   have HE := Lib.hid (show E = Dom.overF k.idom.l dv (b : Int) from by rw [HE3.out, if_neg h4])
   have hd : Keep W W.drew := (Keep.refl _).drew
   have Hov := Lib.hid (DZ.refOver_calls k.idom.l k.idom.a k.idom.c W.drew (H.out.idom.keep hd) (by omega) dv (b : Int))
   have ecg := fun z : KW W => z.cell cg
   have ech := fun z : KW W => z.cell ch
   have eq0 := fun z : KW W => z.cell q0
   clear HE3 h4
   go_enter Tryz.func77, Tryz.ntmps77
   go_wp2_with fail
   refine region_begin (S := fun w' => ∃ z : KW W, w' = z.val) (by kernel_rfl) ?_
   refine region_take [0, 1, 2, 3, 4, 5, 6, 7] [] 2 (by kernel_rfl) (by kernel_rfl) (InK.mk' hd) ?_
   show wpQuiet _ _ _ _ [_, _, _, _, _, _, _, _] _
   repeat (go_big_quiet_step (fail))
   refine wpQuiet_nil ?_
   refine region_fix (i := 8) (fuel := 1) rfl (by kernel_rfl) (fun K hK => ?_)
   go_simp
   refine Hov.out.mono ?_
   rintro e w1 ⟨rfl, hw1⟩
   rw [← hw1]
   clear hw1
   refine hK _ _ (InK.mk' hd) ?_
   clear hK K
   refine region_take [9] [0, 1, 2, 3, 4, 5, 6, 7, 8] 0 (by kernel_rfl) (by kernel_rfl) (InK.mk' hd) ?_
   show wpQuiet _ _ _ _ [_] _
   repeat (go_big_quiet_step (fail))
   refine wpQuiet_nil ?_
   refine region_done (by kernel_rfl) ?_
   go_wp2
   go_ret
   exact ⟨by rw [HE.out]; rfl, kW.trans hd⟩
set_option maxHeartbeats 4000000 in
set_option maxRecDepth 100000 in
theorem typed39_calls (k : LkD) (l : List Int) (la : Option Addr) (lc : Nat) (ta : Option Addr) (tn tc : Nat) (w : World) (h : LkOk w k) (hs : Seg w la (l.flatMap intC)) (hn : l.length ≤ 2000000) (ht : IntsAt w ta tn) :
  Calls Tryz.prog 76 #[.agg (lkC k).toArray, .slice la l.length lc, .slice ta tn tc] w (RB w fun r => r = true → ∀ v ∈ l, 0 ≤ v ∧ v < (k.x.vals.l.length : Int)) := by
 obtain ⟨W, hW, kW, bW, sW⟩ := boxN w 108 (lkC k)
 obtain ⟨c0, c1, c2, c3, c4, c5, c6, c7, c8, c9, ca, cb, cc, cd, ce, cf, cg, ch, ci, lt⟩ := bW.lk
 have Hall := Lib.hid (all39_calls l la lc k.x.vals.l k.x.vals.a k.x.vals.c W (hs.keep kW) hn (h.x.vals.keep kW).seg (by have := h.bulk.vals; omega))
 have Ht := Lib.hid (ht.keep kW)
 clear bW sW h hs ht
 go_enter Tryz.func76, Tryz.ntmps76
 go_wp2_with fail
 refine Hall.out.mono ?_
 rintro e w1 ⟨A, n, c, r, rfl, hA, hr, hk1⟩
 have Hk1 := Lib.hid (kW.trans hk1)
 cases r with
 | false =>
  clear Hall hr hA
  go_wp2
  go_ret
  exact RB.mk rfl (fun h => by cases h) Hk1.out
 | true =>
  have Hr := Lib.hid (hr rfl).2
  have Hsv := Lib.hid (sameVals06_calls A ta n c tn tc w1 hA (Ht.out.keep hk1))
  clear Hall hr hA
  go_wp2_with fail
  refine Hsv.out.mono ?_
  rintro e w2 ⟨r2, rfl, _, hk2⟩
  go_wp2
  go_ret
  exact RB.mk rfl (fun _ => Hr.out) (Hk1.out.trans hk2)
end Go.Proofs.YtjpmiejgcnfiiaaGreat
