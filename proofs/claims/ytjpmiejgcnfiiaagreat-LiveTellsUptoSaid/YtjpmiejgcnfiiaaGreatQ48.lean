import Derived.Test.YtjpmiejgcnfiiaaGreatQ37
import Derived.Test.YtjpmiejgcnfiiaaGreatQ11
import Derived.Laws.Tables
import Derived.Laws.ResultCell
import Derived.Test.YtjpmiejgcnfiiaaGreatQ16
import Derived.Test.YtjpmiejgcnfiiaaGreatQ12
import Derived.Test.YtjpmiejgcnfiiaaGreatQ44
import Derived.WalkMore
import Derived.Deep.DeepCutAuto
import Derived.Deep.Cut
set_option linter.unusedVariables false
set_option linter.unusedSimpArgs false
namespace Go.Proofs.YtjpmiejgcnfiiaaGreat
open Go Go.RowKit

theorem Lv.mdI_bound (b : Lv.PBlk) (v : Nat) : -2 ≤ Lv.mdI b v ∧ Lv.mdI b v < (b.ins.length : Int) := by
 unfold Lv.mdI Lv.madeI
 by_cases h : v ∈ b.params
 ·rw [if_pos h]; simp [Lv.findM]; omega
 ·rw [if_neg h]
  unfold Lv.findM
  cases hf : b.ins.zipIdx.find? (fun p => decide (v ∈ p.1.outs)) with
  | none => simp; omega
  | some p =>
   have := List.snd_lt_of_mem_zipIdx (List.mem_of_find?_eq_some hf)
   simp only
   omega
theorem Lv.lastU_le (v : Nat) (n : Nat) : ∀ (l : List (Lv.PIns × Nat)) (u : Option Nat), (∀ p ∈ l, p.2 ≤ n) → (∀ i, u = some i → i ≤ n) → ∀ i, Lv.lastU v l u = some i → i ≤ n
 | [], u, _, hu, i, h => hu i h
 | p :: l, u, hl, hu, i, h => by
  refine Lv.lastU_le v n l _ (fun q hq => hl q (by simp [hq])) (fun j hj => ?_) i h
  by_cases hv : v ∈ p.1.args
  ·have hj' : (if v ∈ p.1.args then some p.2 else u) = some j := hj
   rw [if_pos hv] at hj'; cases hj'; exact hl p (by simp)
  ·have hj' : (if v ∈ p.1.args then some p.2 else u) = some j := hj
   rw [if_neg hv] at hj'; exact hu j hj'
theorem Lv.usI_bound (b : Lv.PBlk) (v : Nat) : -1 ≤ Lv.usI b v ∧ Lv.usI b v ≤ (b.ins.length : Int) := by
 unfold Lv.usI Lv.usedI
 by_cases h : v ∈ b.ends
 ·rw [if_pos h]; simp only; omega
 ·rw [if_neg h]
  cases hf : Lv.lastU v b.ins.zipIdx none with
  | none => simp only; omega
  | some i =>
   have := Lv.lastU_le v b.ins.length b.ins.zipIdx none (fun p hp => by have := List.snd_lt_of_mem_zipIdx hp; omega) (fun i hi => by cases hi) i hf
   simp only
   omega
theorem Blk.setRow {w0 w : World} {g : Nat} {T : TypeId} {old : List Value} (h : Blk w g T old) (hk : Keep w0 w) (hg : w0.heap.size ≤ g) (cs : List Value) : Blk (w.setRow g cs.toArray) g T cs ∧ Keep w0 (w.setRow g cs.toArray) :=
 ⟨setRow_heap w g _ cs.toArray _ _ h, Keep.of_ext hk (⟨rfl, rfl, rfl, by rw [setRow_size]; exact Nat.le_refl _, fun q _ hq => setRow_other _ _ _ _ hq⟩ : Ext (fun q => q = g) w (w.setRow g cs.toArray)) (fun q hq e => by omega)⟩
/-- What within leaves. -/
def WithinPost (r : Option (Int × Int)) (w : World) (e : Ending) (w' : World) : Prop :=
 ∃ a b, e = .returned (.tuple #[.agg #[.int .i64 a, .int .i64 b], .bool r.isSome]) ∧ (∀ p, r = some p → p = (a, b)) ∧ Keep w w'
theorem within_ret {w : World} {g : Nat} {tmps : Array Value} {a b : Value} {r : Value} (hg : Blk w g 70 [a, b]) (h10 : tmps.getD 10 undef = .pointer (some ⟨g, 0, none⟩)) (h11 : tmps.getD 11 undef = r) :
  (results Tryz.f33 tmps).run Tryz.prog w = .ok (.tuple #[.agg #[a, b], r]) w := by
 rw [results_cell_tmp (p := 10) (u := 11) (ty := 70) rfl, h10, h11]
 simp only [asAddr, Sem.run_pure, Result.andThen_ok]
 rw [run_loadVar_row w g 70 70 #[a, b] (0, 0) _ hg Tryz.underlying70 rfl (by show _ = some 2; kernel_rfl)]
 rfl

set_option maxHeartbeats 8000000 in
set_option maxRecDepth 100000 in
theorem within47_calls (y : BkD) (nv n v : Nat) (at_ : Int) (bg bh : Bool) (w : World) (h : BkOk w y) (hin : y.In nv) (hb : BulkyB y) (hi : y.ins.l.length ≤ 1000) (h0 : 0 ≤ at_ ∧ at_ ≤ 2004000) :
  Calls Tryz.prog 33 #[.agg (bkC y).toArray, .int .i64 at_, .int .i64 (v : Int), .bool bg, .bool bh] w (WithinPost (Lv.rangeR (y.p n) v at_ bg bh) w) := by
 obtain ⟨W, hW, kW, bW, sW⟩ := boxN w 57 (bkC y)
 obtain ⟨V, hV, kV, bV, sV⟩ := boxN W 70 [.int .i64 0, .int .i64 0]
 have Hc := Lib.hid (fun (w' : World) (hk : Keep V w') => have b := (bW.keep kV).keep hk; (⟨b.cell 0, b.cell 1, b.cell 2, b.cell 3, b.cell 4, b.cell 5, b.cell 6, b.lt⟩ :
  w'.cell? ⟨w.heap.size, 0, none⟩ = some (.slice y.params.a y.params.l.length y.params.c) ∧ w'.cell? ⟨w.heap.size, 1, none⟩ = some (.slice y.ins.a y.ins.l.length y.ins.c) ∧
  w'.cell? ⟨w.heap.size, 2, none⟩ = some (.int .i64 y.kind) ∧ w'.cell? ⟨w.heap.size, 3, none⟩ = some (.int .i64 y.cond) ∧ w'.cell? ⟨w.heap.size, 4, none⟩ = some (.slice y.args.a y.args.l.length y.args.c) ∧
  w'.cell? ⟨w.heap.size, 5, none⟩ = some (.slice y.to.a y.to.l.length y.to.c) ∧ w'.cell? ⟨w.heap.size, 6, none⟩ = some (.int .i64 y.trap) ∧ w.heap.size < w'.heap.size))
 have HV := Lib.hid bV
 have kk := kW.trans kV
 have Hkk := Lib.hid kk
 have Hbk := Lib.hid (fun (w' : World) (hk : Keep V w') => h.keep (kk.trans hk))
 have Hmd := Lib.hid (made47_calls y nv n v V (h.keep kk) hin hb)
 have Hus := Lib.hid (fun (w' : World) (hk : Keep V w') => used47_calls y nv n v w' (h.keep (kk.trans hk)) hin hb)
 have HWs := Lib.hid (show w.heap.size ≤ W.heap.size from kW.size)
 obtain ⟨c0, c1, c2, c3, c4, c5, c6, lt⟩ := Hc.out V (Keep.refl _)
 have hmb := Lv.mdI_bound (y.p n) v
 have hub := Lv.usI_bound (y.p n) v
 have hrr := Lv.rangeR_eq (y.p n) v at_ bg bh
 unfold Lv.closeV at hrr
 rw [BkD.p_ins] at hmb hub hrr
 obtain ⟨md, hmd⟩ : ∃ md, Lv.mdI (y.p n) v = md := ⟨_, rfl⟩
 obtain ⟨us, hus⟩ : ∃ us, Lv.usI (y.p n) v = us := ⟨_, rfl⟩
 rw [hmd] at hmb hrr Hmd
 rw [hus] at hub hrr Hus
 obtain ⟨R, hR⟩ : ∃ R, Lv.rangeR (y.p n) v at_ bg bh = R := ⟨_, rfl⟩
 rw [hR] at hrr ⊢
 have Hrr := Lib.hid hrr
 clear bW sW bV sV h hin hb kW kV kk hmd hus hR hrr
 go_enter Tryz.func33, Tryz.ntmps33
 go_wp2_with fail
 refine Hmd.out.mono ?_
 clear Hmd c0 c1 c2 c3 c4 c5 c6 lt
 rintro e w1 ⟨rfl, hk1⟩
 have Hk1 := Lib.hid hk1
 clear hk1
 by_cases hnone : bg = false ∧ md = -2
 ·obtain ⟨rfl, rfl⟩ := hnone
  have hr : R = none := by rw [Hrr.out]; simp
  have Hr := Lib.hid hr
  have hb1 := HV.out.keep Hk1.out
  have Hset := Lib.hid (hb1.setRow (Hkk.out.trans Hk1.out) HWs.out [.int .i64 0, .int .i64 0])
  have Hb1 := Lib.hid hb1
  clear hr hb1
  go_wp2_with (refine wpList_store_row rfl _ _ _ rfl W.heap.size #[.int .i64 0, .int .i64 0] rfl rfl _ _ Hb1.out (by show _ = some 2; kernel_rfl) rfl (by simp [Value.oneCell']) ?_)
  refine bodyPost_ret (within_ret (r := .bool false) Hset.out.1 ?_ ?_) ?_ ?_
  ·rfl
  ·rfl
  ·rfl
  exact ⟨0, 0, by rw [Hr.out]; rfl, (fun p hp => by rw [Hr.out] at hp; cases hp), Hset.out.2⟩
 ·rw [if_neg hnone] at Hrr
  have hg : (bg = true) ∨ (bg = false ∧ (md == -2) = false ∧ decide (md = -2) = false) := by
   cases bg with
   | true => exact .inl rfl
   | false =>
    have : md ≠ -2 := fun e => hnone ⟨rfl, e⟩
    exact .inr ⟨rfl, beq_eq_false_iff_ne.2 this, decide_eq_false this⟩
  clear hnone
  obtain ⟨c0, c1, c2, c3, c4, c5, c6, lt⟩ := Hc.out w1 Hk1.out
  have Hu1 := Lib.hid (Hus.out w1 Hk1.out)
  clear Hus
  rcases hg with rfl | ⟨rfl, g1, g2⟩
  ·by_cases hm : 0 ≤ md
   ·have hmdd : decide ((0 : Int) ≤ md) = true := decide_eq_true hm
    rw [if_pos hm] at Hrr
    go_wp2_with fail
    refine Hu1.out.mono ?_
    clear Hu1 c0 c1 c2 c3 c4 c5 c6 lt
    rintro e w2 ⟨rfl, hk2⟩
    have Hk2 := Lib.hid (Hk1.out.trans hk2)
    clear hk2
    by_cases hu : 0 ≤ us
    ·have hud : decide ((0 : Int) ≤ us) = true := decide_eq_true hu
     cases bh with
     | false =>
      have hb2 := HV.out.keep Hk2.out
      have Hset := Lib.hid (fun cs => hb2.setRow (Hkk.out.trans Hk2.out) HWs.out cs)
      have Hb2 := Lib.hid hb2
      have Hr := Lib.hid (show R = some ((at_ + 2 * (md + 1) + 1), (max ((at_ + 2 * (md + 1) + 1) + 1) (at_ + 2 * (us + 1) + 1))) from by rw [Hrr.out]; rw [if_neg (by simp), if_pos hu])
      clear hb2
      go_wp2_with (refine wpList_store_row rfl _ _ _ rfl W.heap.size _ rfl rfl _ _ Hb2.out (by show _ = some 2; kernel_rfl) rfl (by simp [Value.oneCell']) ?_)
      all_goals
       refine bodyPost_ret (within_ret (r := .bool true) (Hset.out [_, _]).1 ?_ ?_) ?_ ?_
       ·rfl
       ·rfl
       ·rfl
       exact ⟨_, _, by rw [Hr.out]; rfl, (fun p hp => by rw [Hr.out] at hp; cases hp; first | rfl | (congr 1; omega)), (Hset.out [_, _]).2⟩
     | true =>
      obtain ⟨c0, c1, c2, c3, c4, c5, c6, lt⟩ := Hc.out w2 Hk2.out
      have hb2 := HV.out.keep Hk2.out
      have Hset := Lib.hid (fun cs => hb2.setRow (Hkk.out.trans Hk2.out) HWs.out cs)
      have Hb2 := Lib.hid hb2
      have Hr := Lib.hid (show R = some ((at_ + 2 * (md + 1) + 1), (at_ + 2 * ((y.ins.l.length : Int) + 2))) from by rw [Hrr.out]; rw [if_pos rfl])
      clear hb2
      go_wp2_with (refine wpList_store_row rfl _ _ _ rfl W.heap.size _ rfl rfl _ _ Hb2.out (by show _ = some 2; kernel_rfl) rfl (by simp [Value.oneCell']) ?_)
      all_goals
       refine bodyPost_ret (within_ret (r := .bool true) (Hset.out [_, _]).1 ?_ ?_) ?_ ?_
       ·rfl
       ·rfl
       ·rfl
       exact ⟨_, _, by rw [Hr.out]; rfl, (fun p hp => by rw [Hr.out] at hp; cases hp; first | rfl | (congr 1; omega)), (Hset.out [_, _]).2⟩
    ·have hud : decide ((0 : Int) ≤ us) = false := decide_eq_false hu
     cases bh with
     | false =>
      have hb2 := HV.out.keep Hk2.out
      have Hset := Lib.hid (fun cs => hb2.setRow (Hkk.out.trans Hk2.out) HWs.out cs)
      have Hb2 := Lib.hid hb2
      have Hr := Lib.hid (show R = some ((at_ + 2 * (md + 1) + 1), ((at_ + 2 * (md + 1) + 1) + 1)) from by rw [Hrr.out]; rw [if_neg (by simp), if_neg hu])
      clear hb2
      go_wp2_with (refine wpList_store_row rfl _ _ _ rfl W.heap.size _ rfl rfl _ _ Hb2.out (by show _ = some 2; kernel_rfl) rfl (by simp [Value.oneCell']) ?_)
      all_goals
       refine bodyPost_ret (within_ret (r := .bool true) (Hset.out [_, _]).1 ?_ ?_) ?_ ?_
       ·rfl
       ·rfl
       ·rfl
       exact ⟨_, _, by rw [Hr.out]; rfl, (fun p hp => by rw [Hr.out] at hp; cases hp; first | rfl | (congr 1; omega)), (Hset.out [_, _]).2⟩
     | true =>
      obtain ⟨c0, c1, c2, c3, c4, c5, c6, lt⟩ := Hc.out w2 Hk2.out
      have hb2 := HV.out.keep Hk2.out
      have Hset := Lib.hid (fun cs => hb2.setRow (Hkk.out.trans Hk2.out) HWs.out cs)
      have Hb2 := Lib.hid hb2
      have Hr := Lib.hid (show R = some ((at_ + 2 * (md + 1) + 1), (at_ + 2 * ((y.ins.l.length : Int) + 2))) from by rw [Hrr.out]; rw [if_pos rfl])
      clear hb2
      go_wp2_with (refine wpList_store_row rfl _ _ _ rfl W.heap.size _ rfl rfl _ _ Hb2.out (by show _ = some 2; kernel_rfl) rfl (by simp [Value.oneCell']) ?_)
      all_goals
       refine bodyPost_ret (within_ret (r := .bool true) (Hset.out [_, _]).1 ?_ ?_) ?_ ?_
       ·rfl
       ·rfl
       ·rfl
       exact ⟨_, _, by rw [Hr.out]; rfl, (fun p hp => by rw [Hr.out] at hp; cases hp; first | rfl | (congr 1; omega)), (Hset.out [_, _]).2⟩
   ·have hmdd : decide ((0 : Int) ≤ md) = false := decide_eq_false hm
    rw [if_neg hm] at Hrr
    go_wp2_with fail
    refine Hu1.out.mono ?_
    clear Hu1 c0 c1 c2 c3 c4 c5 c6 lt
    rintro e w2 ⟨rfl, hk2⟩
    have Hk2 := Lib.hid (Hk1.out.trans hk2)
    clear hk2
    by_cases hu : 0 ≤ us
    ·have hud : decide ((0 : Int) ≤ us) = true := decide_eq_true hu
     cases bh with
     | false =>
      have hb2 := HV.out.keep Hk2.out
      have Hset := Lib.hid (fun cs => hb2.setRow (Hkk.out.trans Hk2.out) HWs.out cs)
      have Hb2 := Lib.hid hb2
      have Hr := Lib.hid (show R = some (at_, (max (at_ + 1) (at_ + 2 * (us + 1) + 1))) from by rw [Hrr.out]; rw [if_neg (by simp), if_pos hu])
      clear hb2
      go_wp2_with (refine wpList_store_row rfl _ _ _ rfl W.heap.size _ rfl rfl _ _ Hb2.out (by show _ = some 2; kernel_rfl) rfl (by simp [Value.oneCell']) ?_)
      all_goals
       refine bodyPost_ret (within_ret (r := .bool true) (Hset.out [_, _]).1 ?_ ?_) ?_ ?_
       ·rfl
       ·rfl
       ·rfl
       exact ⟨_, _, by rw [Hr.out]; rfl, (fun p hp => by rw [Hr.out] at hp; cases hp; first | rfl | (congr 1; omega)), (Hset.out [_, _]).2⟩
     | true =>
      obtain ⟨c0, c1, c2, c3, c4, c5, c6, lt⟩ := Hc.out w2 Hk2.out
      have hb2 := HV.out.keep Hk2.out
      have Hset := Lib.hid (fun cs => hb2.setRow (Hkk.out.trans Hk2.out) HWs.out cs)
      have Hb2 := Lib.hid hb2
      have Hr := Lib.hid (show R = some (at_, (at_ + 2 * ((y.ins.l.length : Int) + 2))) from by rw [Hrr.out]; rw [if_pos rfl])
      clear hb2
      go_wp2_with (refine wpList_store_row rfl _ _ _ rfl W.heap.size _ rfl rfl _ _ Hb2.out (by show _ = some 2; kernel_rfl) rfl (by simp [Value.oneCell']) ?_)
      all_goals
       refine bodyPost_ret (within_ret (r := .bool true) (Hset.out [_, _]).1 ?_ ?_) ?_ ?_
       ·rfl
       ·rfl
       ·rfl
       exact ⟨_, _, by rw [Hr.out]; rfl, (fun p hp => by rw [Hr.out] at hp; cases hp; first | rfl | (congr 1; omega)), (Hset.out [_, _]).2⟩
    ·have hud : decide ((0 : Int) ≤ us) = false := decide_eq_false hu
     cases bh with
     | false =>
      have hb2 := HV.out.keep Hk2.out
      have Hset := Lib.hid (fun cs => hb2.setRow (Hkk.out.trans Hk2.out) HWs.out cs)
      have Hb2 := Lib.hid hb2
      have Hr := Lib.hid (show R = some (at_, (at_ + 1)) from by rw [Hrr.out]; rw [if_neg (by simp), if_neg hu])
      clear hb2
      go_wp2_with (refine wpList_store_row rfl _ _ _ rfl W.heap.size _ rfl rfl _ _ Hb2.out (by show _ = some 2; kernel_rfl) rfl (by simp [Value.oneCell']) ?_)
      all_goals
       refine bodyPost_ret (within_ret (r := .bool true) (Hset.out [_, _]).1 ?_ ?_) ?_ ?_
       ·rfl
       ·rfl
       ·rfl
       exact ⟨_, _, by rw [Hr.out]; rfl, (fun p hp => by rw [Hr.out] at hp; cases hp; first | rfl | (congr 1; omega)), (Hset.out [_, _]).2⟩
     | true =>
      obtain ⟨c0, c1, c2, c3, c4, c5, c6, lt⟩ := Hc.out w2 Hk2.out
      have hb2 := HV.out.keep Hk2.out
      have Hset := Lib.hid (fun cs => hb2.setRow (Hkk.out.trans Hk2.out) HWs.out cs)
      have Hb2 := Lib.hid hb2
      have Hr := Lib.hid (show R = some (at_, (at_ + 2 * ((y.ins.l.length : Int) + 2))) from by rw [Hrr.out]; rw [if_pos rfl])
      clear hb2
      go_wp2_with (refine wpList_store_row rfl _ _ _ rfl W.heap.size _ rfl rfl _ _ Hb2.out (by show _ = some 2; kernel_rfl) rfl (by simp [Value.oneCell']) ?_)
      all_goals
       refine bodyPost_ret (within_ret (r := .bool true) (Hset.out [_, _]).1 ?_ ?_) ?_ ?_
       ·rfl
       ·rfl
       ·rfl
       exact ⟨_, _, by rw [Hr.out]; rfl, (fun p hp => by rw [Hr.out] at hp; cases hp; first | rfl | (congr 1; omega)), (Hset.out [_, _]).2⟩
  ·by_cases hm : 0 ≤ md
   ·have hmdd : decide ((0 : Int) ≤ md) = true := decide_eq_true hm
    rw [if_pos hm] at Hrr
    go_wp2_with fail
    refine Hu1.out.mono ?_
    clear Hu1 c0 c1 c2 c3 c4 c5 c6 lt
    rintro e w2 ⟨rfl, hk2⟩
    have Hk2 := Lib.hid (Hk1.out.trans hk2)
    clear hk2
    by_cases hu : 0 ≤ us
    ·have hud : decide ((0 : Int) ≤ us) = true := decide_eq_true hu
     cases bh with
     | false =>
      have hb2 := HV.out.keep Hk2.out
      have Hset := Lib.hid (fun cs => hb2.setRow (Hkk.out.trans Hk2.out) HWs.out cs)
      have Hb2 := Lib.hid hb2
      have Hr := Lib.hid (show R = some ((at_ + 2 * (md + 1) + 1), (max ((at_ + 2 * (md + 1) + 1) + 1) (at_ + 2 * (us + 1) + 1))) from by rw [Hrr.out]; rw [if_neg (by simp), if_pos hu])
      clear hb2
      go_wp2_with (refine wpList_store_row rfl _ _ _ rfl W.heap.size _ rfl rfl _ _ Hb2.out (by show _ = some 2; kernel_rfl) rfl (by simp [Value.oneCell']) ?_)
      all_goals
       refine bodyPost_ret (within_ret (r := .bool true) (Hset.out [_, _]).1 ?_ ?_) ?_ ?_
       ·rfl
       ·rfl
       ·rfl
       exact ⟨_, _, by rw [Hr.out]; rfl, (fun p hp => by rw [Hr.out] at hp; cases hp; first | rfl | (congr 1; omega)), (Hset.out [_, _]).2⟩
     | true =>
      obtain ⟨c0, c1, c2, c3, c4, c5, c6, lt⟩ := Hc.out w2 Hk2.out
      have hb2 := HV.out.keep Hk2.out
      have Hset := Lib.hid (fun cs => hb2.setRow (Hkk.out.trans Hk2.out) HWs.out cs)
      have Hb2 := Lib.hid hb2
      have Hr := Lib.hid (show R = some ((at_ + 2 * (md + 1) + 1), (at_ + 2 * ((y.ins.l.length : Int) + 2))) from by rw [Hrr.out]; rw [if_pos rfl])
      clear hb2
      go_wp2_with (refine wpList_store_row rfl _ _ _ rfl W.heap.size _ rfl rfl _ _ Hb2.out (by show _ = some 2; kernel_rfl) rfl (by simp [Value.oneCell']) ?_)
      all_goals
       refine bodyPost_ret (within_ret (r := .bool true) (Hset.out [_, _]).1 ?_ ?_) ?_ ?_
       ·rfl
       ·rfl
       ·rfl
       exact ⟨_, _, by rw [Hr.out]; rfl, (fun p hp => by rw [Hr.out] at hp; cases hp; first | rfl | (congr 1; omega)), (Hset.out [_, _]).2⟩
    ·have hud : decide ((0 : Int) ≤ us) = false := decide_eq_false hu
     cases bh with
     | false =>
      have hb2 := HV.out.keep Hk2.out
      have Hset := Lib.hid (fun cs => hb2.setRow (Hkk.out.trans Hk2.out) HWs.out cs)
      have Hb2 := Lib.hid hb2
      have Hr := Lib.hid (show R = some ((at_ + 2 * (md + 1) + 1), ((at_ + 2 * (md + 1) + 1) + 1)) from by rw [Hrr.out]; rw [if_neg (by simp), if_neg hu])
      clear hb2
      go_wp2_with (refine wpList_store_row rfl _ _ _ rfl W.heap.size _ rfl rfl _ _ Hb2.out (by show _ = some 2; kernel_rfl) rfl (by simp [Value.oneCell']) ?_)
      all_goals
       refine bodyPost_ret (within_ret (r := .bool true) (Hset.out [_, _]).1 ?_ ?_) ?_ ?_
       ·rfl
       ·rfl
       ·rfl
       exact ⟨_, _, by rw [Hr.out]; rfl, (fun p hp => by rw [Hr.out] at hp; cases hp; first | rfl | (congr 1; omega)), (Hset.out [_, _]).2⟩
     | true =>
      obtain ⟨c0, c1, c2, c3, c4, c5, c6, lt⟩ := Hc.out w2 Hk2.out
      have hb2 := HV.out.keep Hk2.out
      have Hset := Lib.hid (fun cs => hb2.setRow (Hkk.out.trans Hk2.out) HWs.out cs)
      have Hb2 := Lib.hid hb2
      have Hr := Lib.hid (show R = some ((at_ + 2 * (md + 1) + 1), (at_ + 2 * ((y.ins.l.length : Int) + 2))) from by rw [Hrr.out]; rw [if_pos rfl])
      clear hb2
      go_wp2_with (refine wpList_store_row rfl _ _ _ rfl W.heap.size _ rfl rfl _ _ Hb2.out (by show _ = some 2; kernel_rfl) rfl (by simp [Value.oneCell']) ?_)
      all_goals
       refine bodyPost_ret (within_ret (r := .bool true) (Hset.out [_, _]).1 ?_ ?_) ?_ ?_
       ·rfl
       ·rfl
       ·rfl
       exact ⟨_, _, by rw [Hr.out]; rfl, (fun p hp => by rw [Hr.out] at hp; cases hp; first | rfl | (congr 1; omega)), (Hset.out [_, _]).2⟩
   ·have hmdd : decide ((0 : Int) ≤ md) = false := decide_eq_false hm
    rw [if_neg hm] at Hrr
    go_wp2_with fail
    refine Hu1.out.mono ?_
    clear Hu1 c0 c1 c2 c3 c4 c5 c6 lt
    rintro e w2 ⟨rfl, hk2⟩
    have Hk2 := Lib.hid (Hk1.out.trans hk2)
    clear hk2
    by_cases hu : 0 ≤ us
    ·have hud : decide ((0 : Int) ≤ us) = true := decide_eq_true hu
     cases bh with
     | false =>
      have hb2 := HV.out.keep Hk2.out
      have Hset := Lib.hid (fun cs => hb2.setRow (Hkk.out.trans Hk2.out) HWs.out cs)
      have Hb2 := Lib.hid hb2
      have Hr := Lib.hid (show R = some (at_, (max (at_ + 1) (at_ + 2 * (us + 1) + 1))) from by rw [Hrr.out]; rw [if_neg (by simp), if_pos hu])
      clear hb2
      go_wp2_with (refine wpList_store_row rfl _ _ _ rfl W.heap.size _ rfl rfl _ _ Hb2.out (by show _ = some 2; kernel_rfl) rfl (by simp [Value.oneCell']) ?_)
      all_goals
       refine bodyPost_ret (within_ret (r := .bool true) (Hset.out [_, _]).1 ?_ ?_) ?_ ?_
       ·rfl
       ·rfl
       ·rfl
       exact ⟨_, _, by rw [Hr.out]; rfl, (fun p hp => by rw [Hr.out] at hp; cases hp; first | rfl | (congr 1; omega)), (Hset.out [_, _]).2⟩
     | true =>
      obtain ⟨c0, c1, c2, c3, c4, c5, c6, lt⟩ := Hc.out w2 Hk2.out
      have hb2 := HV.out.keep Hk2.out
      have Hset := Lib.hid (fun cs => hb2.setRow (Hkk.out.trans Hk2.out) HWs.out cs)
      have Hb2 := Lib.hid hb2
      have Hr := Lib.hid (show R = some (at_, (at_ + 2 * ((y.ins.l.length : Int) + 2))) from by rw [Hrr.out]; rw [if_pos rfl])
      clear hb2
      go_wp2_with (refine wpList_store_row rfl _ _ _ rfl W.heap.size _ rfl rfl _ _ Hb2.out (by show _ = some 2; kernel_rfl) rfl (by simp [Value.oneCell']) ?_)
      all_goals
       refine bodyPost_ret (within_ret (r := .bool true) (Hset.out [_, _]).1 ?_ ?_) ?_ ?_
       ·rfl
       ·rfl
       ·rfl
       exact ⟨_, _, by rw [Hr.out]; rfl, (fun p hp => by rw [Hr.out] at hp; cases hp; first | rfl | (congr 1; omega)), (Hset.out [_, _]).2⟩
    ·have hud : decide ((0 : Int) ≤ us) = false := decide_eq_false hu
     cases bh with
     | false =>
      have hb2 := HV.out.keep Hk2.out
      have Hset := Lib.hid (fun cs => hb2.setRow (Hkk.out.trans Hk2.out) HWs.out cs)
      have Hb2 := Lib.hid hb2
      have Hr := Lib.hid (show R = some (at_, (at_ + 1)) from by rw [Hrr.out]; rw [if_neg (by simp), if_neg hu])
      clear hb2
      go_wp2_with (refine wpList_store_row rfl _ _ _ rfl W.heap.size _ rfl rfl _ _ Hb2.out (by show _ = some 2; kernel_rfl) rfl (by simp [Value.oneCell']) ?_)
      all_goals
       refine bodyPost_ret (within_ret (r := .bool true) (Hset.out [_, _]).1 ?_ ?_) ?_ ?_
       ·rfl
       ·rfl
       ·rfl
       exact ⟨_, _, by rw [Hr.out]; rfl, (fun p hp => by rw [Hr.out] at hp; cases hp; first | rfl | (congr 1; omega)), (Hset.out [_, _]).2⟩
     | true =>
      obtain ⟨c0, c1, c2, c3, c4, c5, c6, lt⟩ := Hc.out w2 Hk2.out
      have hb2 := HV.out.keep Hk2.out
      have Hset := Lib.hid (fun cs => hb2.setRow (Hkk.out.trans Hk2.out) HWs.out cs)
      have Hb2 := Lib.hid hb2
      have Hr := Lib.hid (show R = some (at_, (at_ + 2 * ((y.ins.l.length : Int) + 2))) from by rw [Hrr.out]; rw [if_pos rfl])
      clear hb2
      go_wp2_with (refine wpList_store_row rfl _ _ _ rfl W.heap.size _ rfl rfl _ _ Hb2.out (by show _ = some 2; kernel_rfl) rfl (by simp [Value.oneCell']) ?_)
      all_goals
       refine bodyPost_ret (within_ret (r := .bool true) (Hset.out [_, _]).1 ?_ ?_) ?_ ?_
       ·rfl
       ·rfl
       ·rfl
       exact ⟨_, _, by rw [Hr.out]; rfl, (fun p hp => by rw [Hr.out] at hp; cases hp; first | rfl | (congr 1; omega)), (Hset.out [_, _]).2⟩
end Go.Proofs.YtjpmiejgcnfiiaaGreat
namespace Go.Proofs.YtjpmiejgcnfiiaaGreat
open Go Go.RowKit

abbrev ROwn := Own rngC 2 70
theorem rng_first (k : List Lv.Rng) (q q' : Lv.Rng) (h : q'.2 = q.2) : (k ++ [q']).flatMap rngC = ((k ++ [q]).flatMap rngC).set (k.length * 2) (.int .i64 q'.1) := by
 have hl := flat_length rngC 2 (fun _ => rfl) k
 rw [List.flatMap_append, List.flatMap_append, List.set_append, if_neg (by omega), hl, Nat.sub_self]
 simp [rngC, h]
theorem ROwn.last {w : World} {base g n c : Nat} {ks : List Lv.Rng} {q : Lv.Rng} (h : ROwn w base (.slice (some ⟨g, 0, none⟩) n c) (ks ++ [q])) {k : Nat} (hk : ks.length = k) (a b : Int) :
  ROwn ((w.setCell ⟨g, k * 2, none⟩ (.int .i64 a)).setCell ⟨g, k * 2 + 1, none⟩ (.int .i64 b)) base (.slice (some ⟨g, 0, none⟩) n c) (ks ++ [(a, b)]) := by
 subst hk
 have h1 := Own.put (f := rngC) (fun _ => rfl) h (ks.length * 2) (.int .i64 a) (ys := ks ++ [(a, q.2)]) (rng_first ks q (a, q.2) rfl) (by simp)
 exact Own.put (f := rngC) (fun _ => rfl) h1 (ks.length * 2 + 1) (.int .i64 b) (ys := ks ++ [(a, b)]) (rng_last ks (a, q.2) (a, b) rfl) (by simp)
theorem Ext.two {w : World} (g i j : Nat) (u v : Value) : Ext (fun k => k = g) w ((w.setCell ⟨g, i, none⟩ u).setCell ⟨g, j, none⟩ v) :=
 (Ext.one g i u).trans (Ext.one g j v) (fun _ _ e => e)

theorem rngPush {w : World} {base : Nat} {v : Value} {xs : List Lv.Rng} (h : ROwn w base v xs) (r1 r2 : Int) (hn : xs.length + 1 ≤ 1000000) (hb : base ≤ w.heap.size) :
  ∃ A c, v = .slice A xs.length c ∧ ∃ A' c' w2, (Builtin.append_ #[66, 66] 66 #[.slice A xs.length c, .slice (some ⟨w.heap.size, 0, none⟩) 1 1]).run Tryz.prog (w.alloc (.cells #[.int .i64 r1, .int .i64 r2] 70)) = .ok (.slice A' (xs.length + 1) c') w2 ∧
   ROwn w2 base (.slice A' (xs.length + 1) c') (xs ++ [(r1, r2)]) ∧ Ext (fun k => v.ownBlock = some k) w w2 := by
 obtain ⟨A, c, hform, _⟩ := h.form
 have hka : Keep w (w.alloc (.cells #[.int .i64 r1, .int .i64 r2] 70)) := (Keep.refl _).alloc _
 have hseg : Seg (w.alloc (.cells #[.int .i64 r1, .int .i64 r2] 70)) (some ⟨w.heap.size, 0, none⟩) (([(r1, r2)] : List Lv.Rng).flatMap rngC) := Seg.of_blk (Blk.new w 70 [.int .i64 r1, .int .i64 r2])
 obtain ⟨v', w2, hrun, hown, hg, _⟩ := append_run (ys := [(r1, r2)]) elR (h.keep hka) hseg 1 66 (by simp [maxLen]; omega) (by simp; omega) (Nat.le_trans hb hka.size)
 obtain ⟨A', c', rfl, _⟩ := hown.form
 have e : (xs ++ [(r1, r2)]).length = xs.length + 1 := by simp
 rw [e] at hrun hown
 subst hform
 exact ⟨A, c, rfl, A', c', w2, hrun, hown, (hka.ext _).grown hg (fun k hk _ => hk)⟩

set_option maxHeartbeats 4000000 in
set_option maxRecDepth 100000 in
theorem joined47_calls (xs : List Lv.Rng) (r1 r2 : Int) (v : Value) (base : Nat) (w : World) (h : ROwn w base v xs) (hn : xs.length ≤ 100000) (hb : base ≤ w.heap.size) :
  Calls Tryz.prog 35 #[v, .agg #[.int .i64 r1, .int .i64 r2]] w fun e w' => ∃ v', e = .returned v' ∧ ROwn w' base v' (Lv.joinR xs (r1, r2)) ∧ Ext (fun k => v.ownBlock = some k) w w' := by
 obtain ⟨W, hW, kW, bW, sW⟩ := boxN w 70 [.int .i64 r1, .int .i64 r2]
 have c0 : W.cell? ⟨w.heap.size, 0, none⟩ = some (.int .i64 r1) := bW.cell 0
 have c1 : W.cell? ⟨w.heap.size, 1, none⟩ = some (.int .i64 r2) := bW.cell 1
 have lt := bW.lt
 have HkW := Lib.hid kW
 have HB := Lib.hid (fun (w' : World) (hk : Keep W w') => (⟨(bW.keep hk).cell 0, (bW.keep hk).cell 1, (bW.keep hk).lt⟩ : w'.cell? ⟨w.heap.size, 0, none⟩ = some (.int .i64 r1) ∧ w'.cell? ⟨w.heap.size, 1, none⟩ = some (.int .i64 r2) ∧ w.heap.size < w'.heap.size))
 have ho := h.keep kW
 have hb' := Nat.le_trans hb kW.size
 clear h bW sW kW hb
 have hd : Keep W W.drew := (Keep.refl _).drew
 have ec0 := fun z : KW W => z.cell c0
 have ec1 := fun z : KW W => z.cell c1
 obtain ⟨wd, hwd⟩ : ∃ wd, W.drew = wd := ⟨_, rfl⟩
 rw [hwd] at hd
 obtain ⟨d0, d1, dlt⟩ := HB.out wd hd
 have hod := ho.keep hd
 have hbd := Nat.le_trans hb' hd.size
 rcases List.eq_nil_or_concat xs with rfl | ⟨ks, q, rfl⟩
 ·obtain ⟨A, c, rfl, A', c', w2, hrun, hown, hE⟩ := rngPush hod r1 r2 (by simp) hbd
  have Hn := Lib.hid (show ROwn w2 base (.slice A' 1 c') (Lv.joinR [] (r1, r2)) ∧ Ext (fun k => Value.ownBlock (.slice A 0 c) = some k) w w2 from ⟨by rw [Lv.joinR_nil]; exact hown, ((HkW.out.trans hd).ext _).trans hE (fun _ _ e => e)⟩)
  clear ho hod hown hE hb' hbd
  rw [List.length_nil] at hrun ⊢
  go_enter Tryz.func35, Tryz.ntmps35
  go_wp2_with fail
  refine region_begin (S := fun w' => ∃ z : KW W, w' = z.val) (by kernel_rfl) ?_
  rw [hwd]
  refine region_take [0, 1, 2, 3, 4, 5, 6, 7, 8, 9, 10, 11, 12] [] 0 (by kernel_rfl) (by kernel_rfl) (InK.mk' hd) ?_
  show wpQuiet _ _ _ _ [_, _, _, _, _, _, _, _, _, _, _, _, _] _
  repeat (go_big_quiet_step (fail))
  refine wpQuiet_nil ?_
  refine region_done (by kernel_rfl) ?_
  clear hd ec0 ec1 c0 c1 hwd
  go_wp2_with (at_builtin; refine wpList_append_eq rfl _ _ _ rfl _ _ rfl rfl _ _ hrun ?_; clear hrun)
  go_ret
  exact ⟨_, rfl, Hn.out.1, Hn.out.2⟩
 ·rw [List.concat_eq_append] at *
  have hl : (ks ++ [q]).length = ks.length + 1 := by simp
  obtain ⟨g, c, rfl, hgl, hgb, hgc⟩ := own_at ho (by simp)
  have q0 := hgc (ks.length * 2) (.int .i64 q.1) (by have := flat_get rngC 2 (fun _ => rfl) (ks ++ [q]) ks.length 0 (by simp) (by omega); simpa [rngC] using this)
  have q1 := hgc (ks.length * 2 + 1) (.int .i64 q.2) (by have := flat_get rngC 2 (fun _ => rfl) (ks ++ [q]) ks.length 1 (by simp) (by omega); simpa [rngC] using this)
  obtain ⟨p1, hp1⟩ : ∃ p1, q.1 = p1 := ⟨_, rfl⟩
  obtain ⟨p2, hp2⟩ : ∃ p2, q.2 = p2 := ⟨_, rfl⟩
  have Hp := Lib.hid (show q.1 = p1 ∧ q.2 = p2 from ⟨hp1, hp2⟩)
  rw [hp1] at q0
  rw [hp2] at q1
  clear hp1 hp2 hgc
  rw [hl] at ho hod hn ⊢
  obtain ⟨k, hk⟩ : ∃ k, ks.length = k := ⟨_, rfl⟩
  have Hk := Lib.hid hk
  rw [hk] at ho hod hn q0 q1 hl ⊢
  obtain ⟨M, hM⟩ : ∃ M, M = k + 1 := ⟨_, rfl⟩
  rw [← hM] at ho hod hn hl ⊢
  have hM1 : (M : Int) - 1 = (k : Int) := by omega
  have hw : IntKind.i64.wrap ((M : Int) - 1) = (k : Int) := by rw [hM1]; exact IntWalk.i64_in _ (by omega)
  have k0 : (0 : Int) ≤ (k : Int) := by omega
  have k1 : (k : Int) < (M : Int) := by omega
  have mp : decide ((0 : Int) < (M : Int)) = true := decide_eq_true (by omega)
  have mp' : decide (0 < M) = true := decide_eq_true (by omega)
  have eq0 := fun z : KW W => z.cell q0
  have eq1 := fun z : KW W => z.cell q1
  have HOd := Lib.hid hod
  have Hl := Lib.hid hl
  have Hb := Lib.hid hbd
  clear ho hod hk hM hM1 hl hb' hbd
  by_cases hle : r1 ≤ p2
  ·have hdl : decide (r1 ≤ p2) = true := decide_eq_true hle
   go_enter Tryz.func35, Tryz.ntmps35
   go_wp2_with fail
   refine region_begin (S := fun w' => ∃ z : KW W, w' = z.val) (by kernel_rfl) ?_
   rw [hwd]
   refine region_take [0, 1, 2, 3, 4, 5, 6, 7, 8, 9, 10, 11, 12] [] 0 (by kernel_rfl) (by kernel_rfl) (InK.mk' hd) ?_
   show wpQuiet _ _ _ _ [_, _, _, _, _, _, _, _, _, _, _, _, _] _
   repeat (go_big_quiet_step (fail))
   refine wpQuiet_nil ?_
   refine region_done (by kernel_rfl) ?_
   have hd2 : Keep wd wd.drew := (Keep.refl _).drew
   have e2q0 := fun z : KW wd => z.cell (hd.cell q0)
   have e2q1 := fun z : KW wd => z.cell (hd.cell q1)
   have e2c0 := fun z : KW wd => z.cell d0
   have e2c1 := fun z : KW wd => z.cell d1
   have p0 := (hd.trans hd2).cell q0
   have p1' := (hd.trans hd2).cell q1
   have pl := Nat.lt_of_lt_of_le hgl (hd.trans hd2).size
   have hoe := HOd.out.keep hd2
   have f0 := hoe.thawed (k * 2)
   have f1 := hoe.thawed (k * 2 + 1)
   have HOe := Lib.hid hoe
   have HE := Lib.hid (show Keep w wd.drew from HkW.out.trans (hd.trans hd2))
   obtain ⟨we, hwe⟩ : ∃ we, wd.drew = we := ⟨_, rfl⟩
   rw [hwe] at hd2 p0 p1' pl f0 f1 HOe HE
   clear hoe hd ec0 ec1 eq0 eq1 q0 q1 c0 c1 hwd d0 d1 dlt hgl lt
   by_cases hmx : r2 ≤ p2
   ·have hmd : decide (r2 ≤ p2) = true := decide_eq_true hmx
    have hmn : decide (p2 < r2) = false := decide_eq_false (by omega)
    have hmm : max p2 r2 = p2 := by omega
    have Hmm := Lib.hid hmm
    go_wp2_with fail
    refine tail_begin (S := fun w' => ∃ z : KW wd, w' = z.val) [20] (by kernel_rfl) ?_
    rw [hwe]
    refine tail_take [0, 1, 2, 3, 4, 5, 6, 7, 8, 9, 10, 11, 12, 13, 14, 15, 16, 17, 18, 19] [] 1 (by kernel_rfl) (by kernel_rfl) (InK.mk' hd2) ?_
    show wpQuiet _ _ _ _ [_, _, _, _, _, _, _, _, _, _, _, _, _, _, _, _, _, _, _, _] _
    repeat (go_big_quiet_step (fail))
    refine wpQuiet_nil ?_
    refine tail_fixU (i := 20) (fuel := 0) rfl rfl (by kernel_rfl) (fun K hK => ?_)
    go_simp
    refine hK _ _ (fun h => absurd h (by decide)) ?_
    clear hK K
    refine tail_done (by kernel_rfl) ?_
    have Hn := Lib.hid (show ROwn ((we.setCell ⟨g, k * 2, none⟩ (.int .i64 p1)).setCell ⟨g, k * 2 + 1, none⟩ (.int .i64 p2)) base (.slice (some ⟨g, 0, none⟩) M c) (Lv.joinR (ks ++ [q]) (r1, r2)) ∧ Ext (fun k => Value.ownBlock (.slice (some ⟨g, 0, none⟩) M c) = some k) w ((we.setCell ⟨g, k * 2, none⟩ (.int .i64 p1)).setCell ⟨g, k * 2 + 1, none⟩ (.int .i64 p2)) from ⟨by
     rw [Lv.joinR_in (by rw [Hp.out.2]; exact hle), Hp.out.1, Hp.out.2, Hmm.out]; exact ROwn.last HOe.out Hk.out p1 p2, (HE.out.ext _).trans (Ext.two g _ _ _ _) (fun i _ e => by subst e; rfl)⟩)
    clear e2q0 e2q1 e2c0 e2c1 p0 p1' f0 f1
    go_wp2_with fail
    go_ret
    exact ⟨_, rfl, Hn.out.1, Hn.out.2⟩
   ·have hmd : decide (r2 ≤ p2) = false := decide_eq_false hmx
    have hmn : decide (p2 < r2) = true := decide_eq_true (by omega)
    have hmm : max p2 r2 = r2 := by omega
    have Hmm := Lib.hid hmm
    go_wp2_with fail
    refine tail_begin (S := fun w' => ∃ z : KW wd, w' = z.val) [20] (by kernel_rfl) ?_
    rw [hwe]
    refine tail_take [0, 1, 2, 3, 4, 5, 6, 7, 8, 9, 10, 11, 12, 13, 14, 15, 16, 17, 18, 19] [] 1 (by kernel_rfl) (by kernel_rfl) (InK.mk' hd2) ?_
    show wpQuiet _ _ _ _ [_, _, _, _, _, _, _, _, _, _, _, _, _, _, _, _, _, _, _, _] _
    repeat (go_big_quiet_step (fail))
    refine wpQuiet_nil ?_
    refine tail_fixU (i := 20) (fuel := 0) rfl rfl (by kernel_rfl) (fun K hK => ?_)
    go_simp
    refine hK _ _ (fun h => absurd h (by decide)) ?_
    clear hK K
    refine tail_done (by kernel_rfl) ?_
    have Hn := Lib.hid (show ROwn ((we.setCell ⟨g, k * 2, none⟩ (.int .i64 p1)).setCell ⟨g, k * 2 + 1, none⟩ (.int .i64 r2)) base (.slice (some ⟨g, 0, none⟩) M c) (Lv.joinR (ks ++ [q]) (r1, r2)) ∧ Ext (fun k => Value.ownBlock (.slice (some ⟨g, 0, none⟩) M c) = some k) w ((we.setCell ⟨g, k * 2, none⟩ (.int .i64 p1)).setCell ⟨g, k * 2 + 1, none⟩ (.int .i64 r2)) from ⟨by
     rw [Lv.joinR_in (by rw [Hp.out.2]; exact hle), Hp.out.1, Hp.out.2, Hmm.out]; exact ROwn.last HOe.out Hk.out p1 r2, (HE.out.ext _).trans (Ext.two g _ _ _ _) (fun i _ e => by subst e; rfl)⟩)
    clear e2q0 e2q1 e2c0 e2c1 p0 p1' f0 f1
    go_wp2_with fail
    go_ret
    exact ⟨_, rfl, Hn.out.1, Hn.out.2⟩
  ·have hdl : decide (r1 ≤ p2) = false := decide_eq_false hle
   obtain ⟨A, cc, hv, A', c', w2, hrun, hown, hE⟩ := rngPush HOd.out r1 r2 (by rw [Hl.out]; omega) Hb.out
   rw [Hl.out] at hv hrun hown
   cases hv
   have Hn := Lib.hid (show ROwn w2 base (.slice A' (M + 1) c') (Lv.joinR (ks ++ [q]) (r1, r2)) ∧ Ext (fun k => Value.ownBlock (.slice (some ⟨g, 0, none⟩) M c) = some k) w w2 from ⟨by rw [Lv.joinR_out (by rw [Hp.out.2]; exact hle)]; exact hown, ((HkW.out.trans hd).ext _).trans hE (fun _ _ e => e)⟩)
   clear hown hE
   go_enter Tryz.func35, Tryz.ntmps35
   go_wp2_with fail
   refine region_begin (S := fun w' => ∃ z : KW W, w' = z.val) (by kernel_rfl) ?_
   rw [hwd]
   refine region_take [0, 1, 2, 3, 4, 5, 6, 7, 8, 9, 10, 11, 12] [] 0 (by kernel_rfl) (by kernel_rfl) (InK.mk' hd) ?_
   show wpQuiet _ _ _ _ [_, _, _, _, _, _, _, _, _, _, _, _, _] _
   repeat (go_big_quiet_step (fail))
   refine wpQuiet_nil ?_
   refine region_done (by kernel_rfl) ?_
   clear hd ec0 ec1 c0 c1 eq0 eq1 q0 q1 hwd
   go_wp2_with (at_builtin; refine wpList_append_eq rfl _ _ _ rfl _ _ rfl rfl _ _ hrun ?_; clear hrun)
   go_ret
   exact ⟨_, rfl, Hn.out.1, Hn.out.2⟩
end Go.Proofs.YtjpmiejgcnfiiaaGreat
namespace Go.Proofs.YtjpmiejgcnfiiaaGreat
open Go Go.RowKit

theorem livePush {w : World} {base : Nat} {v : Value} {xs : List LvD} (h : Own lvC 2 68 w base v xs) (x : LvD) (hn : xs.length + 1 ≤ 1000000) (hb : base ≤ w.heap.size) :
  ∃ A c, v = .slice A xs.length c ∧ ∃ A' c' w2, (Builtin.append_ #[49, 49] 49 #[.slice A xs.length c, .slice (some ⟨w.heap.size, 0, none⟩) 1 1]).run Tryz.prog (w.alloc (.cells #[.int .i64 x.val, .slice x.a x.l.length x.c] 68)) = .ok (.slice A' (xs.length + 1) c') w2 ∧
   Own lvC 2 68 w2 base (.slice A' (xs.length + 1) c') (xs ++ [x]) ∧ Ext (fun k => v.ownBlock = some k) w w2 := by
 obtain ⟨A, c, hform, _⟩ := h.form
 have hka : Keep w (w.alloc (.cells #[.int .i64 x.val, .slice x.a x.l.length x.c] 68)) := (Keep.refl _).alloc _
 have hseg : Seg (w.alloc (.cells #[.int .i64 x.val, .slice x.a x.l.length x.c] 68)) (some ⟨w.heap.size, 0, none⟩) (([x] : List LvD).flatMap lvC) := Seg.of_blk (Blk.new w 68 [.int .i64 x.val, .slice x.a x.l.length x.c])
 obtain ⟨v', w2, hrun, hown, hg, _⟩ := append_run (ys := [x]) elL (h.keep hka) hseg 1 49 (by simp [maxLen]; omega) (by simp; omega) (Nat.le_trans hb hka.size)
 obtain ⟨A', c', rfl, _⟩ := hown.form
 have e : (xs ++ [x]).length = xs.length + 1 := by simp
 rw [e] at hrun hown
 subst hform
 exact ⟨A, c, rfl, A', c', w2, hrun, hown, (hka.ext _).grown hg (fun k hk _ => hk)⟩

open Classical in
/-- Whether one of the first k blocks of the order makes the value. -/
noncomputable def thereK (x : SsD) (v k : Nat) : Bool := decide (∃ b ∈ x.ord.take k, (x.F.getD b default).makes v)
theorem thereK_iff {x : SsD} {v k : Nat} : thereK x v k = true ↔ ∃ b ∈ x.ord.take k, (x.F.getD b default).makes v := by unfold thereK; simp
theorem thereK_zero (x : SsD) (v : Nat) : thereK x v 0 = false := by
 cases h : thereK x v 0 with
 | false => rfl
 | true => obtain ⟨b, hb, _⟩ := thereK_iff.1 h; simp at hb
theorem thereK_full (x : SsD) (v : Nat) : thereK x v x.ord.length = thereB x v := bool_eq thereK_iff (by rw [List.take_length]; exact thereB_iff)
theorem thereK_on {x : SsD} {v k : Nat} (h : thereK x v k = true) : thereK x v (k + 1) = true := by
 obtain ⟨b, hb, hm⟩ := thereK_iff.1 h
 exact thereK_iff.2 ⟨b, (List.take_subset_take_left _ (Nat.le_succ k)) hb, hm⟩
theorem thereK_new {x : SsD} {v k b : Nat} {y : BkD} (h : thereK x v k = false) (hb : x.ord[k]? = some b) (hy : x.blocks.l[b]? = some y) : thereK x v (k + 1) = (Lv.mdI (y.p x.blocks.l.length) v != -2) := by
 refine bool_eq thereK_iff ?_
 rw [bne_iff_ne, Ne, Lv.mdI_makes, ← SsD.F_get hy, Classical.not_not, List.take_add_one, hb]
 constructor
 ·intro hm; exact ⟨b, by simp, hm⟩
 ·rintro ⟨c, hc, hm⟩
  rcases List.mem_append.1 hc with hc | hc
  ·rw [thereK_iff.2 ⟨c, hc, hm⟩] at h; cases h
  ·obtain rfl : c = b := by simpa using hc
   exact hm
theorem rowR_len (x : SsD) (v : Nat) : ∀ k, k ≤ x.ord.length → (rowR x v k).length ≤ k
 | 0, _ => by unfold rowR; rw [List.take_zero]; exact Nat.le_refl _
 | k + 1, hk => by
  obtain ⟨b, hb⟩ := get_some (l := x.ord) (k := k) (by omega)
  have ih := rowR_len x v k (by omega)
  rw [rowR_succ hb]
  split
  ·have := joinR_len (rowR x v k) ‹_›; omega
  ·omega
theorem rowR_zero (x : SsD) (v : Nat) : rowR x v 0 = [] := by unfold rowR; rw [List.take_zero]; rfl
theorem liveR_len (x : SsD) (k : Nat) : (liveR x k).length ≤ k := by
 unfold liveR
 exact Nat.le_trans (List.length_filterMap_le _ _) (by simp)
theorem needRow_getD (x : SsD) (v t : Nat) (ht : t < x.blocks.l.length) : (needRow x v).getD t false = needB x v t := by
 rw [List.getD_eq_getElem?_getD, needRow_get ht]; rfl
theorem out_any {x : SsD} {v b : Nat} {y : BkD} {l : List Int} (hy : x.blocks.l[b]? = some y) (hl : x.N.getD b [] = nat l) (hin : ∀ t ∈ l, 0 ≤ t ∧ t < (x.blocks.l.length : Int)) : (l.any fun t => (needRow x v).getD t.toNat false) = outB x v b := by
 refine bool_eq (any_next hl) ?_
 rw [outB_iff, SsD.F_next hy]
 have hlt : ∀ t ∈ x.N.getD b [], t < x.blocks.l.length := fun t ht => by
  rw [hl] at ht
  obtain ⟨u, hu, rfl⟩ := List.mem_map.1 (show t ∈ l.map Int.toNat from ht)
  have := hin u hu
  omega
 constructor
 ·rintro ⟨t, ht, hn⟩; exact ⟨t, ht, by rw [needRow_getD x v t (hlt t ht)]; exact needB_iff.2 hn⟩
 ·rintro ⟨t, ht, hn⟩; rw [needRow_getD x v t (hlt t ht)] at hn; exact ⟨t, ht, needB_iff.1 hn⟩
/-- A range that has been put into a box of its own. -/
structure RBox (wI wx : World) (r : Option (Int × Int)) (v14 v15 : Value) : Prop where
 ex : ∃ bl a b, v14 = .pointer (some ⟨bl, 0, none⟩) ∧ v15 = .bool r.isSome ∧ Blk wx bl 70 [.int .i64 a, .int .i64 b] ∧ (∀ p, r = some p → p = (a, b)) ∧ Keep wI wx

set_option maxHeartbeats 16000000 in
set_option maxRecDepth 100000 in
theorem of47_calls (x : SsD) (w : World) (h : SsOk w x) (hb : Bulky x) (hsm : Small x) (hin : ∀ (b : Nat) (y : BkD), x.blocks.l[b]? = some y → y.In x.vals.l.length) :
  Calls Tryz.prog 17 #[.agg (ssC x).toArray] w fun e w' => ∃ A ls c, e = .returned (.slice A ls.length c) ∧ Lives w' A ls ∧ ls.map (fun z => (z.val, z.l)) = liveR x x.vals.l.length ∧ Keep w w' := by
 obtain ⟨W, hW, kW, bW, sW⟩ := boxN w 39 (ssC x)
 have Hc := Lib.hid (fun (w' : World) (hk : Keep W w') => (⟨(bW.keep hk).cell 0, (bW.keep hk).cell 1, (bW.keep hk).cell 2, (bW.keep hk).cell 3, (bW.keep hk).lt⟩ : w'.cell? ⟨w.heap.size, 0, none⟩ = some (.slice x.params.a x.params.l.length x.params.c) ∧ w'.cell? ⟨w.heap.size, 1, none⟩ = some (.slice x.results.a x.results.l.length x.results.c) ∧ w'.cell? ⟨w.heap.size, 2, none⟩ = some (.slice x.vals.a x.vals.l.length x.vals.c) ∧ w'.cell? ⟨w.heap.size, 3, none⟩ = some (.slice x.blocks.a x.blocks.l.length x.blocks.c) ∧ w.heap.size < w'.heap.size))
 have HkW := Lib.hid kW
 have H := Lib.hid (fun (w' : World) (hk : Keep W w') => h.keep (kW.trans hk))
 have Hb := Lib.hid hb
 have Hs := Lib.hid hsm
 have Hin := Lib.hid hin
 have hn := hsm.blocks
 have hnv := hsm.vals
 have hol := x.ord_len
 obtain ⟨c0, c1, c2, c3, lt⟩ := Hc.out W (Keep.refl _)
 have Hnx := Lib.hid (next39_calls x W (H.out W (Keep.refl _)) hb (by omega))
 clear h hb bW sW kW hsm hin
 go_enter Tryz.func17, Tryz.ntmps17
 go_wp2_with fail
 refine Hnx.out.mono ?_
 clear Hnx c0 c1 c2 c3 lt
 rintro e w1 ⟨A, rs, c, rfl, hg, hgr, hk1⟩
 have Hg := Lib.hid (show DZ.Graph w1 A rs ∧ DZ.gr rs = x.G from ⟨hg, hgr⟩)
 have Hrl := Lib.hid (gr_length hgr)
 have Hk1 := Lib.hid hk1
 obtain ⟨c0, c1, c2, c3, lt⟩ := Hc.out w1 hk1
 have Hor := Lib.hid (order47_calls x w1 (H.out w1 hk1) Hb.out (by omega))
 clear hg hgr hk1
 go_wp2_with fail
 refine Hor.out.mono ?_
 clear Hor c0 c1 c2 c3 lt
 rintro e w2 ⟨AO, cO, rfl, how, hk2⟩
 have How := Lib.hid how.segN.2
 have Hk2 := Lib.hid (Hk1.out.trans hk2)
 have Hg2 := Lib.hid (Hg.out.1.keep hk2)
 obtain ⟨c0, c1, c2, c3, lt⟩ := Hc.out w2 Hk2.out
 have Hbg := Lib.hid (begins47_calls x w2 (H.out w2 Hk2.out) Hb.out Hs.out)
 clear how hk2 Hk1
 go_wp2_with fail
 refine Hbg.out.mono ?_
 clear Hbg c0 c1 c2 c3 lt
 rintro e w3 ⟨g5, rfl, hbeg, hk3⟩
 have Hbeg := Lib.hid hbeg
 have Hk3 := Lib.hid (Hk2.out.trans hk3)
 have Hg3 := Lib.hid (Hg2.out.keep hk3)
 have Ho3 := Lib.hid (How.out.keep hk3)
 clear hbeg hk3 Hk2 Hg2 How
 go_wp2_with fail
 go_loopw [7, 8, 9, 10, 11, 12, 13, 14, 15] (fun vo vk _ _ _ _ _ _ _ wr => ∃ (k : Nat) (ls : List LvD), k ≤ x.vals.l.length ∧ vk = .int .i64 k ∧ Hid (Own lvC 2 68 wr w3.heap.size vo ls) ∧ Hid (ls.map (fun z => (z.val, z.l)) = liveR x k) ∧ Hid (∀ z ∈ ls, ROwn wr w3.heap.size (.slice z.a z.l.length z.c) z.l) ∧ Hid (Keep w3 wr)) (fun _ vk _ _ _ _ _ _ _ _ => x.vals.l.length - (intOf vk).toNat)
 case atStart => exact ⟨0, [], Nat.zero_le _, rfl, Lib.hid (Own.nil _ _ _ _ _), Lib.hid rfl, Lib.hid (fun z hz => by simp at hz), Lib.hid (Keep.refl _)⟩
 case round =>
  obtain ⟨k, ls, hk, rfl, hout, hls, hrows, hkeep⟩ := hrel
  obtain ⟨wO, rfl⟩ : ∃ z : World, z = wr := ⟨_, rfl⟩
  obtain ⟨c0, c1, c2, c3, lt⟩ := Hc.out wO (Hk3.out.trans hkeep.out)
  by_cases hlt : k < x.vals.l.length
  ·have Hnd := Lib.hid (needs47_calls c cO k wO (H.out wO (Hk3.out.trans hkeep.out)) Hb.out Hs.out Hin.out (Hg3.out.keep hkeep.out) Hg.out.2 (Ho3.out.keep hkeep.out))
   have k1 : (k : Int) < (x.vals.l.length : Int) := by omega
   go_wp2_with fail
   refine Hnd.out.mono ?_
   clear Hnd c0 c1 c2 c3 lt
   rintro e w4 ⟨g9, rfl, hgb, hgg, hk4⟩
   have Hk4 := Lib.hid (hkeep.out.trans hk4)
   have Hgb := Lib.hid hgb
   have Hout := Lib.hid (hout.out.keep hk4)
   have Hrows := Lib.hid (fun z hz => (hrows.out z hz).keep hk4)
   clear hgb hgg hk4 hout hrows hkeep
   go_wp2_with fail
   go_loopw [10, 11, 12, 13, 14, 15] (fun vl vt vi _ _ _ wz => ∃ (i : Nat), i ≤ x.ord.length ∧ vi = .int .i64 i ∧ vt = .bool (thereK x k i) ∧ Hid (ROwn wz w4.heap.size vl (rowR x k i)) ∧ Hid (Keep w4 wz)) (fun _ _ vi _ _ _ _ => x.ord.length - (intOf vi).toNat)
   case atStart => exact ⟨0, Nat.zero_le _, rfl, by rw [thereK_zero], Lib.hid (by rw [rowR_zero]; exact Own.nil _ _ _ _ _), Lib.hid (Keep.refl _)⟩
   case round =>
    obtain ⟨i, hi, rfl, rfl, hrow, hkeep⟩ := hrel
    obtain ⟨wI, rfl⟩ : ∃ z : World, z = wr := ⟨_, rfl⟩
    by_cases hil : i < x.ord.length
    ·obtain ⟨b, hbk⟩ := get_some hil
     obtain ⟨y, hy⟩ := SsD.ord_get hbk
     have hbn : b < x.blocks.l.length := (List.getElem?_eq_some_iff.1 hy).1
     have hy0 := hy
     have HkI := Lib.hid (Hk4.out.trans hkeep.out)
     have HC := Lib.hid (fun (wx : World) (hkx : Keep w3 wx) => show ∃ bo oo BB ob, AO = some ⟨bo, oo, none⟩ ∧ x.blocks.a = some ⟨BB, ob, none⟩ ∧ bo < wx.heap.size ∧ BB < wx.heap.size ∧ wx.cell? ⟨bo, oo + i, none⟩ = some (.int .i64 (b : Int)) ∧
      wx.cell? ⟨BB, ob + b * 7, none⟩ = some (.slice y.params.a y.params.l.length y.params.c) ∧ wx.cell? ⟨BB, ob + b * 7 + 1, none⟩ = some (.slice y.ins.a y.ins.l.length y.ins.c) ∧ wx.cell? ⟨BB, ob + b * 7 + 2, none⟩ = some (.int .i64 y.kind) ∧ wx.cell? ⟨BB, ob + b * 7 + 3, none⟩ = some (.int .i64 y.cond) ∧
      wx.cell? ⟨BB, ob + b * 7 + 4, none⟩ = some (.slice y.args.a y.args.l.length y.args.c) ∧ wx.cell? ⟨BB, ob + b * 7 + 5, none⟩ = some (.slice y.to.a y.to.l.length y.to.c) ∧ wx.cell? ⟨BB, ob + b * 7 + 6, none⟩ = some (.int .i64 y.trap) from by
      obtain ⟨bo, oo, e1, hbo, hq⟩ := int_at Ho3.out hkx (k := i) (by rw [ints_len]; exact hil)
      have hbe : (ints x.ord)[i]'(by rw [ints_len]; exact hil) = (b : Int) := by
       have := ints_get hbk
       rw [List.getElem?_eq_getElem (by rw [ints_len]; exact hil)] at this
       exact Option.some.inj this
      rw [hbe] at hq
      obtain ⟨BB, ob, e2, hB, q0, q1, q2, q3, q4, q5, q6⟩ := bk_cells (H.out w3 Hk3.out).seg hkx hy
      exact ⟨bo, oo, BB, ob, e1, e2, Nat.lt_of_lt_of_le hbo hkx.size, Nat.lt_of_lt_of_le hB hkx.size, hq, q0, q1, q2, q3, q4, q5, q6⟩)
     obtain ⟨bo, oo, BB, ob, hAO, hBA, hbo, hBB, q, q0, q1, q2, q3, q4, q5, q6⟩ := HC.out wI HkI.out
     obtain ⟨c0, c1, c2, c3, lt⟩ := Hc.out wI (Hk3.out.trans HkI.out)
     rw [hBA] at c3
     subst hAO
     have HBA := Lib.hid hBA
     have i0 : (0 : Int) ≤ (i : Int) := by omega
     have i1 : (i : Int) < (x.ord.length : Int) := by omega
     have b0 : (0 : Int) ≤ (b : Int) := by omega
     have b1 : (b : Int) < (x.blocks.l.length : Int) := by omega
     have HY := Lib.hid (show BkOk w3 y ∧ y.In x.vals.l.length ∧ BulkyB y ∧ y.ins.l.length ≤ 1000 from ⟨(H.out w3 Hk3.out).blocks y (List.mem_of_getElem? hy), Hin.out b y hy, Hb.out.block (List.mem_of_getElem? hy), Hs.out.ins y (List.mem_of_getElem? hy)⟩)
     have Hmd := Lib.hid (made47_calls y x.vals.l.length x.blocks.l.length k wI (HY.out.1.keep HkI.out) HY.out.2.1 HY.out.2.2.1)
     have Hby := Lib.hid (show x.ord[i]? = some b ∧ x.blocks.l[b]? = some y from ⟨hbk, hy⟩)
     clear hbk hy hy0 hBA
     go_upto_region 15 with fail
     go_cut [11] from 47 to 57 (fun v11 wx => v11 = .bool (thereK x k (i + 1)) ∧ Hid (Keep wI wx))
     case first =>
      clear hrow
      cases htk : thereK x k i with
      | true =>
       have Ht := Lib.hid (thereK_on htk)
       clear htk
       go_wp2_with fail
       go_meet
       case rel => exact ⟨by rw [Ht.out], Lib.hid (Keep.refl _)⟩
      | false =>
       have Ht := Lib.hid (thereK_new htk Hby.out.1 Hby.out.2)
       clear htk
       go_wp2_with fail
       refine Hmd.out.mono ?_
       rintro e w5 ⟨rfl, hk5⟩
       have Hk5 := Lib.hid hk5
       clear hk5
       go_wp2_with fail
       go_meet
       case rel => exact ⟨by rw [Ht.out], Hk5⟩
     case rest =>
     obtain ⟨rfl, hk5⟩ := hcut
     obtain ⟨wE, rfl⟩ : ∃ z : World, z = wc := ⟨_, rfl⟩
     have hkE := HkI.out.trans hk5.out
     have HkE := Lib.hid hkE
     clear q q0 q1 q2 q3 q4 q5 q6 c0 c1 c2 c3 lt hbo hBB Hmd
     obtain ⟨bo', oo', BB', ob', hAO', hBA', hbo, hBB, q, q0, q1, q2, q3, q4, q5, q6⟩ := HC.out wE hkE
     cases hAO'
     cases HBA.out.symm.trans hBA'
     obtain ⟨_, _, _, c3, lt⟩ := Hc.out wE (Hk3.out.trans hkE)
     rw [HBA.out] at c3
     have hbeg := Hbeg.out.keep hkE
     have hbegE : IBlk wE g5 3 (begL x x.ord.length) := hbeg
     have s0 := hbegE.get (k := b) (by rw [begL_len]; exact hbn)
     have hse : (begL x x.ord.length)[b]'(by rw [begL_len]; exact hbn) = x.atk i := by
      have := begL_get Hby.out.1 x.ord.length hil (Nat.le_refl _)
      rw [List.getElem?_eq_getElem (by rw [begL_len]; exact hbn)] at this
      exact Option.some.inj this
     rw [hse] at s0
     have sl := hbegE.lt
     have hndE : BBlk wE g9 4 (needRow x k) := Hgb.out.keep (hkeep.out.trans hk5.out)
     have t0 := hndE.get (k := b) (by rw [needRow_len]; exact hbn)
     have hte : (needRow x k)[b]'(by rw [needRow_len]; exact hbn) = needB x k b := by
      have := needRow_get (x := x) (v := k) hbn
      rw [List.getElem?_eq_getElem (by rw [needRow_len]; exact hbn)] at this
      exact Option.some.inj this
     rw [hte] at t0
     have tl := hndE.lt
     obtain ⟨r, hr⟩ := get_some (l := rs) (k := b) (by rw [Hrl.out]; exact hbn)
     obtain ⟨y', hy', hrn, hNb⟩ := gr_row Hg.out.2 hr
     obtain rfl : y' = y := by have h1 := hy'; rw [Hby.out.2] at h1; exact (Option.some.inj h1).symm
     have hkr : b < rs.length := by rw [Hrl.out]; exact hbn
     have hrk : rs[b] = r := (List.getElem?_eq_some_iff.1 hr).2
     obtain ⟨bA, oA, hA, hbA, rc⟩ := DZ.row_at Hg3.out.seg hkE hkr
     rw [hrk] at rc
     have hbAl := Nat.lt_of_lt_of_le hbA hkE.size
     have hrin : ∀ t ∈ r.l, 0 ≤ t ∧ t < (x.blocks.l.length : Int) := fun t ht => by rw [hrn] at ht; exact SsD.nextI_mem ht
     have hrlen : r.l.length ≤ 2000000 := by rw [hrn]; have := nextL_len x.blocks.l.length y'.to.l; have h2 := HY.out.2.2.1.to; rw [nextI_L]; omega
     have hokr := Hg3.out.rows r (List.mem_of_getElem? hr)
     have Hbh := Lib.hid (fun (wx : World) (hkx : Keep wE wx) => show Calls Tryz.prog 34 #[.slice r.a r.l.length r.c, .slice (some ⟨g9, 0, none⟩) x.blocks.l.length x.blocks.l.length] wx (fun e w' => e = .returned (.bool (outB x k b)) ∧ w' = wx) from by
      have hc := behind47_calls r.l r.a r.c (needRow x k) (some ⟨g9, 0, none⟩) x.blocks.l.length wx (hokr.seg.keep (hkE.trans hkx)) hrlen (BBlk.seg (show BBlk wx g9 4 (needRow x k) from hndE.keep hkx)) (fun t ht => by rw [needRow_len]; exact hrin t ht)
      rw [needRow_len, out_any Hby.out.2 hNb hrin] at hc
      exact hc)
     have hat := SsD.atk_lt Hs.out i
     have Hsu := Lib.hid (show rowR x k (i + 1) = match Lv.rangeR (y'.p x.blocks.l.length) k (x.atk i) (needB x k b) (outB x k b) with | some r => Lv.joinR (rowR x k i) r | none => rowR x k i from by rw [rowR_succ Hby.out.1, SsD.F_get Hby.out.2]; cases Lv.rangeR (y'.p x.blocks.l.length) k (x.atk i) (needB x k b) (outB x k b) <;> rfl)
     have Hwi := Lib.hid (fun (wx : World) (hkx : Keep wE wx) => within47_calls y' x.vals.l.length x.blocks.l.length k (x.atk i) (needB x k b) (outB x k b) wx (HY.out.1.keep (hkE.trans hkx)) HY.out.2.1 HY.out.2.2.1 HY.out.2.2.2 hat)
     obtain ⟨R, hR⟩ : ∃ R, Lv.rangeR (y'.p x.blocks.l.length) k (x.atk i) (needB x k b) (outB x k b) = R := ⟨_, rfl⟩
     rw [hR] at Hsu Hwi
     obtain ⟨at_, hate⟩ : ∃ a, x.atk i = a := ⟨_, rfl⟩
     obtain ⟨ob_, hobe⟩ : ∃ a, outB x k b = a := ⟨_, rfl⟩
     obtain ⟨nb_, hnbe⟩ : ∃ a, needB x k b = a := ⟨_, rfl⟩
     rw [hate] at Hwi s0
     rw [hobe] at Hwi Hbh
     rw [hnbe] at Hwi t0
     have b2 : (b : Int) < (rs.length : Int) := by omega
     subst hA
     clear hR hate hobe hnbe hse hte hbeg hbegE hndE hr hy' hrn hNb hrk hrin hrlen hokr hat hBA'
     go_upto_region 16 with fail
     go_cut [14, 15] from 58 to 81 (fun v14 v15 wx => RBox wE wx R v14 v15)
     case first =>
      obtain ⟨wd, hwd⟩ : ∃ wd, wE.drew = wd := ⟨_, rfl⟩
      have hd : Keep wE wd := by rw [← hwd]; exact (Keep.refl _).drew
      have ec3 := fun z : KW wE => z.cell c3
      have eq0 := fun z : KW wE => z.cell q0
      have eq1 := fun z : KW wE => z.cell q1
      have eq2 := fun z : KW wE => z.cell q2
      have eq3 := fun z : KW wE => z.cell q3
      have eq4 := fun z : KW wE => z.cell q4
      have eq5 := fun z : KW wE => z.cell q5
      have eq6 := fun z : KW wE => z.cell q6
      have es0 := fun z : KW wE => z.cell s0
      have et0 := fun z : KW wE => z.cell t0
      have erc := fun z : KW wE => z.cell rc
      refine region_begin (S := fun w' => ∃ z : KW wE, w' = z.val) (by kernel_rfl) ?_
      rw [hwd]
      refine region_take [0, 1, 2, 3, 4, 5, 6, 7, 8, 9, 10, 11, 12, 13, 14, 15, 16, 17, 18] [] 8 (by kernel_rfl) (by kernel_rfl) (InK.mk' hd) ?_
      show wpQuiet _ _ _ _ [_, _, _, _, _, _, _, _, _, _, _, _, _, _, _, _, _, _, _] _
      repeat (go_big_quiet_step (fail))
      refine wpQuiet_nil ?_
      clear hwd ec3 eq0 eq1 eq2 eq3 eq4 eq5 eq6 es0 et0 erc c3 q0 q1 q2 q3 q4 q5 q6 s0 t0 rc q lt hbo hBB sl tl hbAl
      refine region_any (fuel := 7) (is := [19, 24]) (by kernel_rfl) (by simp) (mem2 ?_ ?_)
      ·refine ⟨_, rfl, fun K hK => ?_⟩
       go_simp
       refine (Hbh.out wd hd).mono ?_
       rintro e wv ⟨rfl, hwv⟩
       rw [hwv]
       clear hwv
       refine hK _ _ (InK.mk' hd) ?_
       clear hK K
       refine region_any (fuel := 6) (is := [20, 24]) (by kernel_rfl) (by simp) (mem2 ?_ ?_)
       ·refine ⟨_, rfl, fun K hK => ?_⟩
        go_simp
        refine (Hwi.out wd hd).mono ?_
        rintro e wN ⟨ra, rb, rfl, hp, hkN⟩
        have hK20 : Keep wE wN := hd.trans hkN
        refine hK _ _ (InK.mk' hK20) ?_
        clear hK K
        refine region_take [21, 22, 23] [0, 1, 2, 3, 4, 5, 6, 7, 8, 9, 10, 11, 12, 13, 14, 15, 16, 17, 18, 19, 20] 3 (by kernel_rfl) (by kernel_rfl) (InK.mk' hK20) ?_
        show wpQuiet _ _ _ _ [_, _, _] _
        repeat (go_big_quiet_step (fail))
        refine wpQuiet_nil ?_
        refine region_fix (i := 24) (fuel := 2) rfl (by kernel_rfl) (fun K hK => ?_)
        go_simp
        have bz : Blk (wN.alloc (.cells #[.int .i64 0, .int .i64 0] 70)) wN.heap.size 70 [.int .i64 0, .int .i64 0] := Blk.new _ _ _
        obtain ⟨wZ, hwZ⟩ : ∃ W, wN.alloc (.cells #[.int .i64 0, .int .i64 0] 70) = W := ⟨_, rfl⟩
        have hK24 : Keep wE wZ := by rw [← hwZ]; exact hK20.alloc _
        obtain ⟨bl, hbl⟩ : ∃ bl, wN.heap.size = bl := ⟨_, rfl⟩
        rw [hwZ] at bz ⊢
        rw [hbl] at bz ⊢
        have hge : wE.heap.size ≤ bl := by rw [← hbl]; exact hK20.size
        clear hwZ hbl
        refine hK _ _ (InK.mk' hK24) ?_
        clear hK K
        have hF := bz.setRow hK24 hge [.int .i64 ra, .int .i64 rb]
        refine region_fixU (i := 25) (fuel := 1) rfl rfl (by kernel_rfl) (fun K hK => ?_)
        refine wp_store_row _ _ _ rfl bl #[.int .i64 ra, .int .i64 rb] rfl rfl _ _ bz (by show _ = some 2; kernel_rfl) rfl (by simp [Value.oneCell']) ?_
        refine hK _ _ (InK.mk' hF.2) ?_
        clear hK K
        simp only [Act.put, List.setIfInBounds_toArray, List.set_cons_succ, List.set_cons_zero]
        refine region_take [26] [0, 1, 2, 3, 4, 5, 6, 7, 8, 9, 10, 11, 12, 13, 14, 15, 16, 17, 18, 19, 20, 21, 22, 23, 24, 25] 0 (by kernel_rfl) (by kernel_rfl) (InK.mk' hF.2) ?_
        show wpQuiet _ _ _ _ [_] _
        repeat (go_big_quiet_step (fail))
        refine wpQuiet_nil ?_
        refine region_done (by kernel_rfl) ?_
        have HF := Lib.hid hF
        have Hp := Lib.hid hp
        clear hF hp hd
        go_wp2_with fail
        go_meet
        case rel => exact ⟨⟨bl, ra, rb, rfl, rfl, HF.out.1, Hp.out, HF.out.2⟩⟩
       ·refine ⟨_, rfl, fun K hK => ?_⟩
        go_simp
        have bz : Blk (wd.alloc (.cells #[.int .i64 0, .int .i64 0] 70)) wd.heap.size 70 [.int .i64 0, .int .i64 0] := Blk.new _ _ _
        obtain ⟨wZ, hwZ⟩ : ∃ W, wd.alloc (.cells #[.int .i64 0, .int .i64 0] 70) = W := ⟨_, rfl⟩
        have hK24 : Keep wE wZ := by rw [← hwZ]; exact hd.alloc _
        obtain ⟨bl, hbl⟩ : ∃ bl, wd.heap.size = bl := ⟨_, rfl⟩
        rw [hwZ] at bz ⊢
        rw [hbl] at bz ⊢
        have hge : wE.heap.size ≤ bl := by rw [← hbl]; exact hd.size
        clear hwZ hbl
        refine hK _ _ (InK.mk' hK24) ?_
        clear hK K
        refine region_fix (i := 20) (fuel := 5) rfl (by kernel_rfl) (fun K hK => ?_)
        go_simp
        refine (Hwi.out wZ hK24).mono ?_
        rintro e wN ⟨ra, rb, rfl, hp, hkN⟩
        have hK20 : Keep wE wN := hK24.trans hkN
        refine hK _ _ (InK.mk' hK20) ?_
        clear hK K
        have bz2 := bz.keep hkN
        refine region_take [21, 22, 23] [0, 1, 2, 3, 4, 5, 6, 7, 8, 9, 10, 11, 12, 13, 14, 15, 16, 17, 18, 19, 24, 20] 2 (by kernel_rfl) (by kernel_rfl) (InK.mk' hK20) ?_
        show wpQuiet _ _ _ _ [_, _, _] _
        repeat (go_big_quiet_step (fail))
        refine wpQuiet_nil ?_
        have hF := bz2.setRow hK20 hge [.int .i64 ra, .int .i64 rb]
        refine region_fixU (i := 25) (fuel := 1) rfl rfl (by kernel_rfl) (fun K hK => ?_)
        refine wp_store_row _ _ _ rfl bl #[.int .i64 ra, .int .i64 rb] rfl rfl _ _ bz2 (by show _ = some 2; kernel_rfl) rfl (by simp [Value.oneCell']) ?_
        refine hK _ _ (InK.mk' hF.2) ?_
        clear hK K
        simp only [Act.put, List.setIfInBounds_toArray, List.set_cons_succ, List.set_cons_zero]
        refine region_take [26] [0, 1, 2, 3, 4, 5, 6, 7, 8, 9, 10, 11, 12, 13, 14, 15, 16, 17, 18, 19, 24, 20, 21, 22, 23, 25] 0 (by kernel_rfl) (by kernel_rfl) (InK.mk' hF.2) ?_
        show wpQuiet _ _ _ _ [_] _
        repeat (go_big_quiet_step (fail))
        refine wpQuiet_nil ?_
        refine region_done (by kernel_rfl) ?_
        have HF := Lib.hid hF
        have Hp := Lib.hid hp
        clear hF hp hd
        go_wp2_with fail
        go_meet
        case rel => exact ⟨⟨bl, ra, rb, rfl, rfl, HF.out.1, Hp.out, HF.out.2⟩⟩
      ·refine ⟨_, rfl, fun K hK => ?_⟩
       go_simp
       have bz : Blk (wd.alloc (.cells #[.int .i64 0, .int .i64 0] 70)) wd.heap.size 70 [.int .i64 0, .int .i64 0] := Blk.new _ _ _
       obtain ⟨wZ, hwZ⟩ : ∃ W, wd.alloc (.cells #[.int .i64 0, .int .i64 0] 70) = W := ⟨_, rfl⟩
       have hK24 : Keep wE wZ := by rw [← hwZ]; exact hd.alloc _
       obtain ⟨bl, hbl⟩ : ∃ bl, wd.heap.size = bl := ⟨_, rfl⟩
       rw [hwZ] at bz ⊢
       rw [hbl] at bz ⊢
       have hge : wE.heap.size ≤ bl := by rw [← hbl]; exact hd.size
       clear hwZ hbl
       refine hK _ _ (InK.mk' hK24) ?_
       clear hK K
       refine region_fix (i := 19) (fuel := 6) rfl (by kernel_rfl) (fun K hK => ?_)
       go_simp
       refine (Hbh.out wZ hK24).mono ?_
       rintro e wv ⟨rfl, hwv⟩
       rw [hwv]
       clear hwv
       refine hK _ _ (InK.mk' hK24) ?_
       clear hK K
       refine region_fix (i := 20) (fuel := 5) rfl (by kernel_rfl) (fun K hK => ?_)
       go_simp
       refine (Hwi.out wZ hK24).mono ?_
       rintro e wN ⟨ra, rb, rfl, hp, hkN⟩
       have hK20 : Keep wE wN := hK24.trans hkN
       refine hK _ _ (InK.mk' hK20) ?_
       clear hK K
       have bz2 := bz.keep hkN
       refine region_take [21, 22, 23] [0, 1, 2, 3, 4, 5, 6, 7, 8, 9, 10, 11, 12, 13, 14, 15, 16, 17, 18, 24, 19, 20] 2 (by kernel_rfl) (by kernel_rfl) (InK.mk' hK20) ?_
       show wpQuiet _ _ _ _ [_, _, _] _
       repeat (go_big_quiet_step (fail))
       refine wpQuiet_nil ?_
       have hF := bz2.setRow hK20 hge [.int .i64 ra, .int .i64 rb]
       refine region_fixU (i := 25) (fuel := 1) rfl rfl (by kernel_rfl) (fun K hK => ?_)
       refine wp_store_row _ _ _ rfl bl #[.int .i64 ra, .int .i64 rb] rfl rfl _ _ bz2 (by show _ = some 2; kernel_rfl) rfl (by simp [Value.oneCell']) ?_
       refine hK _ _ (InK.mk' hF.2) ?_
       clear hK K
       simp only [Act.put, List.setIfInBounds_toArray, List.set_cons_succ, List.set_cons_zero]
       refine region_take [26] [0, 1, 2, 3, 4, 5, 6, 7, 8, 9, 10, 11, 12, 13, 14, 15, 16, 17, 18, 24, 19, 20, 21, 22, 23, 25] 0 (by kernel_rfl) (by kernel_rfl) (InK.mk' hF.2) ?_
       show wpQuiet _ _ _ _ [_] _
       repeat (go_big_quiet_step (fail))
       refine wpQuiet_nil ?_
       refine region_done (by kernel_rfl) ?_
       have HF := Lib.hid hF
       have Hp := Lib.hid hp
       clear hF hp hd
       go_wp2_with fail
       go_meet
       case rel => exact ⟨⟨bl, ra, rb, rfl, rfl, HF.out.1, Hp.out, HF.out.2⟩⟩
     case rest =>
      obtain ⟨bl, ra, rb, rfl, rfl, hblk, hp, hkF⟩ := hcut.ex
      obtain ⟨wF, rfl⟩ : ∃ z : World, z = wc := ⟨_, rfl⟩
      have d0 : wF.cell? ⟨bl, 0, none⟩ = some (.int .i64 ra) := hblk.cell 0
      have d1 : wF.cell? ⟨bl, 1, none⟩ = some (.int .i64 rb) := hblk.cell 1
      have dl := hblk.lt
      have hrl := rowR_len x k i (by omega)
      have HkF := Lib.hid (hkeep.out.trans (hk5.out.trans hkF))
      have HrF := Lib.hid (hrow.out.keep (hk5.out.trans hkF))
      clear hrow hblk hkF hcut hk5 hkE c3 q q0 q1 q2 q3 q4 q5 q6 s0 t0 rc lt hbo hBB sl tl hbAl
      cases R with
      | none =>
       have Hn := Lib.hid (show ROwn wF w4.heap.size u10 (rowR x k (i + 1)) from by rw [Hsu.out]; exact HrF.out)
       clear hp d0 d1 dl
       go_wp2_with fail
       go_roundw
       case rel => exact ⟨i + 1, hil, by go_num, rfl, Hn, HkF⟩
       case measure => simp [intOf] <;> omega
      | some p =>
       obtain rfl := hp p rfl
       have Hj := Lib.hid (joined47_calls (rowR x k i) ra rb u10 w4.heap.size wF HrF.out (by omega) HkF.out.size)
       clear hp
       go_wp2_with fail
       refine Hj.out.mono ?_
       clear Hj d0 d1 dl
       rintro e w8 ⟨v8, rfl, ho8, hE8⟩
       have Hn := Lib.hid (show ROwn w8 w4.heap.size v8 (rowR x k (i + 1)) ∧ Keep w4 w8 from ⟨by rw [Hsu.out]; exact ho8, Keep.of_ext HkF.out hE8 (fun q hq e => by have := (HrF.out.lt q e).1; omega)⟩)
       clear ho8 hE8
       go_wp2_with fail
       go_roundw
       case rel => exact ⟨i + 1, hil, by go_num, rfl, Lib.hid Hn.out.1, Lib.hid Hn.out.2⟩
       case measure => simp [intOf] <;> omega
    ·have hie : i = x.ord.length := by omega
     subst hie
     rw [thereK_full]
     have hsn := liveR_succ x k
     have hll := liveR_len x k
     have hlsl : ls.length ≤ k := by rw [← hls.out, List.length_map] at hll; exact hll
     cases htb : thereB x k with
     | false =>
      rw [htb] at hsn
      have Hn := Lib.hid (show Own lvC 2 68 wI w3.heap.size u7 ls ∧ ls.map (fun z => (z.val, z.l)) = liveR x (k + 1) ∧ (∀ z ∈ ls, ROwn wI w3.heap.size (.slice z.a z.l.length z.c) z.l) ∧ Keep w3 wI from
       ⟨Hout.out.keep hkeep.out, by rw [hsn, hls.out]; simp, fun z hz => (Hrows.out z hz).keep hkeep.out, Hk4.out.trans hkeep.out⟩)
      clear htb hsn hll hls hrow hkeep
      go_wp2_with fail
      go_roundw
      case rel => exact ⟨k + 1, ls, hlt, by go_num, Lib.hid Hn.out.1, Lib.hid Hn.out.2.1, Lib.hid Hn.out.2.2.1, Lib.hid Hn.out.2.2.2⟩
      case measure => simp [intOf] <;> omega
     | true =>
      rw [htb] at hsn
      obtain ⟨Ar, cr, rfl, _⟩ := hrow.out.form
      have hoI := Hout.out.keep hkeep.out
      obtain ⟨Ao, co, rfl, A', c', w7, hrun, ho7, hE7⟩ := livePush hoI ⟨(k : Int), Ar, rowR x k x.ord.length, cr⟩ (by omega) (Hk4.out.trans hkeep.out).size
      have Hn := Lib.hid (show Own lvC 2 68 w7 w3.heap.size (.slice A' (ls.length + 1) c') (ls ++ [⟨(k : Int), Ar, rowR x k x.ord.length, cr⟩]) ∧ (ls ++ [(⟨(k : Int), Ar, rowR x k x.ord.length, cr⟩ : LvD)]).map (fun z => (z.val, z.l)) = liveR x (k + 1) ∧ (∀ z ∈ ls ++ [(⟨(k : Int), Ar, rowR x k x.ord.length, cr⟩ : LvD)], ROwn w7 w3.heap.size (.slice z.a z.l.length z.c) z.l) ∧ Keep w3 w7 from
       ⟨ho7, by rw [hsn, List.map_append, hls.out]; rfl, fun z hz => by
        have hz' : ROwn wI w3.heap.size (.slice z.a z.l.length z.c) z.l := by
         rcases List.mem_append.1 hz with hz | hz
         ·exact (Hrows.out z hz).keep hkeep.out
         ·obtain rfl := List.mem_singleton.1 hz
          exact hrow.out.mono Hk4.out.size
        exact hz'.ext hE7 (fun q hq e => hz'.kinds hoI (by decide) hq e), Keep.of_ext (Hk4.out.trans hkeep.out) hE7 (fun q hq e => by have := (hoI.lt q e).1; omega)⟩)
      replace hrun : (Builtin.append_ #[49, 49] 49 #[.slice Ao ls.length co, .slice (some ⟨wI.heap.size, 0, none⟩) 1 1]).run Tryz.prog (wI.alloc (.cells #[.int .i64 (k : Int), .slice Ar (rowR x k x.ord.length).length cr] 68)) = .ok (.slice A' (ls.length + 1) c') w7 := hrun
      obtain ⟨nl, hnl⟩ : ∃ nl, ls.length = nl := ⟨_, rfl⟩
      obtain ⟨nk, hnk⟩ : ∃ nk, (rowR x k x.ord.length).length = nk := ⟨_, rfl⟩
      rw [hnl, hnk] at hrun
      rw [hnl] at Hn ⊢
      rw [hnk]
      clear htb hsn hll hls hrow hkeep hoI ho7 hE7 hnl hnk hlsl Hout
      go_wp2_with (at_builtin; refine wpList_append_eq rfl _ _ _ rfl _ _ rfl rfl _ _ hrun ?_; clear hrun)
      go_roundw
      case rel => exact ⟨k + 1, _, hlt, by go_num, Lib.hid Hn.out.1, Lib.hid Hn.out.2.1, Lib.hid Hn.out.2.2.1, Lib.hid Hn.out.2.2.2⟩
      case measure => simp [intOf] <;> omega
  ·have hke : k = x.vals.l.length := by omega
   obtain ⟨Ao, co, rfl, _⟩ := hout.out.form
   have Hr := Lib.hid (show Lives wO Ao ls ∧ ls.map (fun z => (z.val, z.l)) = liveR x x.vals.l.length ∧ Keep w wO from ⟨⟨hout.out.segN.2, fun z hz => ⟨(hrows.out z hz).segN.2, by obtain ⟨_, _, e, h1, h2⟩ := (hrows.out z hz).form; injection e with e1 e2 e3; omega⟩⟩, by rw [← hke]; exact hls.out, HkW.out.trans (Hk3.out.trans hkeep.out)⟩)
   clear hout hls hrows hkeep hke
   go_wp2_with fail
   go_ret
   exact ⟨_, ls, _, rfl, Hr.out.1, Hr.out.2.1, Hr.out.2.2⟩
end Go.Proofs.YtjpmiejgcnfiiaaGreat
