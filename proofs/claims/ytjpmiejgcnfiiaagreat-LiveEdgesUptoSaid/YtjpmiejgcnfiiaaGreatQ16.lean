import Derived.Test.YtjpmiejgcnfiiaaGreatQ15
import Derived.Test.YtjpmiejgcnfiiaaGreatQ8
import Derived.Test.YtjpmiejgcnfiiaaGreatQ14
import Derived.Laws.Rows
import Derived.Test.YtjpmiejgcnfiiaaGreatQ7
set_option linter.unusedVariables false
set_option linter.unusedSimpArgs false
namespace Go.Proofs.YtjpmiejgcnfiiaaGreat.DZ
open Go Go.RowKit

set_option maxHeartbeats 1000000 in
theorem refOver_calls (l : List Int) (A : Option Addr) (c : Nat) (w : World) (hs : Seg w A (l.flatMap intC)) (hm : l.length ≤ 1000000) (a b : Int) :
  Calls Tryz.prog 101 #[.slice A l.length c, .int .i64 a, .int .i64 b] w fun e w' => e = .returned (.bool (Dom.overF l a b)) ∧ w = w' := by
 by_cases h0 : a < 0
 ·have e : Hid (Dom.overF l a b = false) := Lib.hid (by unfold Dom.overF; rw [if_pos (by omega)])
  have d0 : decide (a < 0) = true := decide_eq_true h0
  clear h0
  go_enter Tryz.func101, Tryz.ntmps101
  go_wp2
  go_ret
  exact ⟨by rw [e.out]; rfl, rfl⟩
 have d0 : decide (a < 0) = false := decide_eq_false h0
 by_cases h1 : (l.length : Int) ≤ a
 ·have e : Hid (Dom.overF l a b = false) := Lib.hid (by unfold Dom.overF; rw [if_pos (by omega)])
  have d1 : decide ((l.length : Int) ≤ a) = true := decide_eq_true h1
  clear h1
  go_enter Tryz.func101, Tryz.ntmps101
  go_wp2
  go_ret
  exact ⟨by rw [e.out]; rfl, rfl⟩
 have d1 : decide ((l.length : Int) ≤ a) = false := decide_eq_false h1
 by_cases h2 : b < 0
 ·have e : Hid (Dom.overF l a b = false) := Lib.hid (by unfold Dom.overF; rw [if_pos (by omega)])
  have d2 : decide (b < 0) = true := decide_eq_true h2
  clear h2
  go_enter Tryz.func101, Tryz.ntmps101
  go_wp2
  go_ret
  exact ⟨by rw [e.out]; rfl, rfl⟩
 have d2 : decide (b < 0) = false := decide_eq_false h2
 by_cases h3 : (l.length : Int) ≤ b
 ·have e : Hid (Dom.overF l a b = false) := Lib.hid (by unfold Dom.overF; rw [if_pos (by omega)])
  have d3 : decide ((l.length : Int) ≤ b) = true := decide_eq_true h3
  clear h3
  go_enter Tryz.func101, Tryz.ntmps101
  go_wp2
  go_ret
  exact ⟨by rw [e.out]; rfl, rfl⟩
 have d3 : decide ((l.length : Int) ≤ b) = false := decide_eq_false h3
 have Hr := Lib.hid (show Dom.overF l a b = if b < 0 then false else Dom.overK l a (l.length + 1) b by unfold Dom.overF; rw [if_neg (by omega), if_neg h2])
 have Hu := Lib.hid (fun x => refUp_calls l A c w hs (by unfold maxLen; omega) x)
 clear hs
 go_enter Tryz.func101, Tryz.ntmps101
 go_wp2_with fail
 clear d0 d1 d2 d3 h0 h1 h2 h3
 go_loop [2, 7] (fun vb vn => ∃ (k : Nat) (y : Int), k ≤ l.length + 1 ∧ vb = .int .i64 y ∧ vn = .int .i64 k ∧ Dom.overF l a b = if y < 0 then false else Dom.overK l a (l.length + 1 - k) y) (fun _ vn => l.length + 1 - (intOf vn).toNat)
 case atStart => exact ⟨0, b, by omega, rfl, rfl, Hr.out⟩
 case round =>
  obtain ⟨k, y, hk, rfl, rfl, he⟩ := hrel
  have He := Lib.hid he
  clear he Hr
  by_cases hlt : k < l.length + 1
  ·have dk : decide ((k : Int) ≤ (l.length : Int)) = true := decide_eq_true (by omega)
   have dk' : decide (k ≤ l.length) = true := decide_eq_true (by omega)
   by_cases hy : y < 0
   ·have Hf := Lib.hid (show Dom.overF l a b = false by rw [He.out, if_pos hy])
    have dy : decide (0 ≤ y) = false := decide_eq_false (by omega)
    clear He
    go_wp2
    go_ret
    exact ⟨by rw [Hf.out]; rfl, rfl⟩
   ·have dy : decide (0 ≤ y) = true := decide_eq_true (by omega)
    have Hstep := Lib.hid (show Dom.overF l a b = if a = y then true else if Dom.upF l y < 0 then false else Dom.overK l a (l.length + 1 - (k + 1)) (Dom.upF l y) by
     rw [He.out, if_neg hy, show l.length + 1 - k = (l.length + 1 - (k + 1)) + 1 by omega]; rfl)
    clear He
    by_cases hay : a = y
    ·have Hf := Lib.hid (show Dom.overF l a b = true by rw [Hstep.out, if_pos hay])
     clear Hstep
     subst hay
     go_wp2
     go_ret
     exact ⟨by rw [Hf.out]; rfl, rfl⟩
    ·have dne : (a == y) = false := by simpa using hay
     have Hf := Lib.hid (show Dom.overF l a b = if Dom.upF l y < 0 then false else Dom.overK l a (l.length + 1 - (k + 1)) (Dom.upF l y) by rw [Hstep.out, if_neg hay])
     clear Hstep hay
     go_wp2_with (go_at_call 125; refine (Hu.out _).mono ?_; rintro e w' ⟨rfl, rfl⟩)
     go_round
     case rel => exact ⟨k + 1, Dom.upF l y, by omega, rfl, by go_num, Hf.out⟩
     case measure => simp [intOf]; omega
  ·have dk : decide ((k : Int) ≤ (l.length : Int)) = false := decide_eq_false (by omega)
   have dk' : decide (k ≤ l.length) = false := decide_eq_false (by omega)
   have Hf := Lib.hid (show Dom.overF l a b = false by rw [He.out, show l.length + 1 - k = 0 by omega]; split <;> rfl)
   clear He
   go_wp2
   go_ret
   exact ⟨by rw [Hf.out]; rfl, rfl⟩

end Go.Proofs.YtjpmiejgcnfiiaaGreat.DZ
namespace Go.Proofs.YtjpmiejgcnfiiaaGreat
open Go Go.RowKit

/-- The record of the check. -/
structure LkD where
 m : MdD
 x : SsD
 idom : RwD Int
 defs : RwD Int
 reached : RwD Bool
def lkC (k : LkD) : List Value := [k.m.types.v, k.m.imports.v, k.m.funcs.v, k.m.tables.v, k.m.mems.v, k.m.globals.v, k.m.exports.v, .bool k.m.hasStart, .int .i64 k.m.start, k.m.elems.v, k.m.datas.v, k.m.customs.v, k.x.params.v, k.x.results.v, k.x.vals.v, k.x.blocks.v, k.idom.v, k.defs.v, k.reached.v]
/-- Such a record in memory. -/
structure LkOk (w : World) (k : LkD) : Prop where
 m : MdOk w k.m
 x : SsOk w k.x
 params : NumOk w k.x.params
 results : NumOk w k.x.results
 bulk : Bulky k.x
 wf : ∀ y ∈ k.x.blocks.l, ∀ i ∈ y.ins.l, InWf i
 idom : Seg w k.idom.a (k.idom.l.flatMap intC)
 idomLen : k.idom.l.length ≤ 1000000
 defs : Seg w k.defs.a (k.defs.l.flatMap intC)
 defsLen : k.defs.l.length = k.x.vals.l.length
 reached : Seg w k.reached.a (k.reached.l.flatMap boolC)
 reachedLen : k.reached.l.length = k.x.blocks.l.length
theorem LkOk.keep {w w' : World} {k : LkD} (h : LkOk w k) (hk : Keep w w') : LkOk w' k where
 m := h.m.keep hk
 x := h.x.keep hk
 params := h.params.keep hk
 results := h.results.keep hk
 bulk := h.bulk
 wf := h.wf
 idom := h.idom.keep hk
 idomLen := h.idomLen
 defs := h.defs.keep hk
 defsLen := h.defsLen
 reached := h.reached.keep hk
 reachedLen := h.reachedLen
def LkD.K (k : LkD) : VK := ⟨Dom.overF k.idom.l, k.defs.l, k.reached.l⟩
/-- The cells of the record in its box. -/
structure LkCells (w : World) (b : Nat) (k : LkD) : Prop where
 c0 : w.cell? ⟨b, 0, none⟩ = some (.slice k.m.types.a k.m.types.l.length k.m.types.c)
 c1 : w.cell? ⟨b, 1, none⟩ = some (.slice k.m.imports.a k.m.imports.l.length k.m.imports.c)
 c2 : w.cell? ⟨b, 2, none⟩ = some (.slice k.m.funcs.a k.m.funcs.l.length k.m.funcs.c)
 c3 : w.cell? ⟨b, 3, none⟩ = some (.slice k.m.tables.a k.m.tables.l.length k.m.tables.c)
 c4 : w.cell? ⟨b, 4, none⟩ = some (.slice k.m.mems.a k.m.mems.l.length k.m.mems.c)
 c5 : w.cell? ⟨b, 5, none⟩ = some (.slice k.m.globals.a k.m.globals.l.length k.m.globals.c)
 c6 : w.cell? ⟨b, 6, none⟩ = some (.slice k.m.exports.a k.m.exports.l.length k.m.exports.c)
 c7 : w.cell? ⟨b, 7, none⟩ = some (.bool k.m.hasStart)
 c8 : w.cell? ⟨b, 8, none⟩ = some (.int .i64 k.m.start)
 c9 : w.cell? ⟨b, 9, none⟩ = some (.slice k.m.elems.a k.m.elems.l.length k.m.elems.c)
 ca : w.cell? ⟨b, 10, none⟩ = some (.slice k.m.datas.a k.m.datas.n k.m.datas.c)
 cb : w.cell? ⟨b, 11, none⟩ = some (.slice k.m.customs.a k.m.customs.n k.m.customs.c)
 cc : w.cell? ⟨b, 12, none⟩ = some (.slice k.x.params.a k.x.params.l.length k.x.params.c)
 cd : w.cell? ⟨b, 13, none⟩ = some (.slice k.x.results.a k.x.results.l.length k.x.results.c)
 ce : w.cell? ⟨b, 14, none⟩ = some (.slice k.x.vals.a k.x.vals.l.length k.x.vals.c)
 cf : w.cell? ⟨b, 15, none⟩ = some (.slice k.x.blocks.a k.x.blocks.l.length k.x.blocks.c)
 cg : w.cell? ⟨b, 16, none⟩ = some (.slice k.idom.a k.idom.l.length k.idom.c)
 ch : w.cell? ⟨b, 17, none⟩ = some (.slice k.defs.a k.defs.l.length k.defs.c)
 ci : w.cell? ⟨b, 18, none⟩ = some (.slice k.reached.a k.reached.l.length k.reached.c)
 lt : b < w.heap.size
theorem Blk.lk {w : World} {b : Nat} {T : TypeId} {k : LkD} (h : Blk w b T (lkC k)) : LkCells w b k :=
 ⟨h.cell 0, h.cell 1, h.cell 2, h.cell 3, h.cell 4, h.cell 5, h.cell 6, h.cell 7, h.cell 8, h.cell 9, h.cell 10, h.cell 11, h.cell 12, h.cell 13, h.cell 14, h.cell 15, h.cell 16, h.cell 17, h.cell 18, h.lt⟩
/-- A load among operations that only read. -/
theorem quiet_load {P : Program} {C : World → Prop} {K : Act → Prop} {a : Act} {o : Oper} (t : TypeId) (x : Operand) (h : o.op = .load t x) (v : Value) (hv : ∀ w, C w → (Instr.loadAt t (a.eval x)).run P w = .ok v w) (hk : K (a.put o.dst v)) : o.quiet P a C K :=
 ⟨v, fun w hw => by
  unfold Oper.quietAt execOp
  simp only [h, Sem.run_bind, hv w hw, Result.andThen_ok, Sem.run_pure]
  exact ⟨rfl, rfl⟩, hk⟩
theorem wpList_load_eq {P : Program} {w : World} {ops : Array Oper} {rest : List Oper} {o : Oper} {a : Act} {Q : Exit → Act → World → Prop} (hgd : o.guard = none) (x : Operand) (t : TypeId) (ho : o.op = .load t x) (u : Value) (hx : a.eval x = u)
  (v : Value) (hrun : (Instr.loadAt t u).run P w = .ok v w) (h : wpList P ops Q rest (a.put o.dst v) w) : wpList P ops Q (o :: rest) a w := by
 refine wpList_plain hgd fun K hK => ?_
 unfold Oper.wp
 simp [execOp, ho, hx, hrun, Result.andThen]
 exact hK _ _ h
/-- The record, loaded whole. -/
theorem lk_load {w : World} {b : Nat} {k : LkD} (h : Blk w b 108 (lkC k)) : (Instr.loadAt 108 (.pointer (some ⟨b, 0, none⟩))).run Tryz.prog w = .ok (.agg (lkC k).toArray) w := by
 simp only [Instr.loadAt, Instr.sureAddr, Sem.run_bind, Sem.run_pure, Result.andThen]
 exact run_loadVar_row w b _ _ (lkC k).toArray (0, 0) _ h Tryz.underlying108 rfl (by show _ = some 19; kernel_rfl)
theorem NumOk.row {w : World} {x : RwD Int} (h : NumOk w x) (hl : x.l.length ≤ 2000000) : RowOk intC w x := ⟨h.seg, hl⟩
end Go.Proofs.YtjpmiejgcnfiiaaGreat
namespace Go.Proofs.YtjpmiejgcnfiiaaGreat
open Go Go.RowKit

/-- A call that gives types of values, and whether all are known. -/
def RAl (w : World) (l : List Int) (nv : Nat) (e : Ending) (w' : World) : Prop := ∃ A n c r, e = .returned (.tuple #[.slice A n c, .bool r]) ∧ IntsAt w' A n ∧ (r = true → n = l.length ∧ ∀ v ∈ l, 0 ≤ v ∧ v < (nv : Int)) ∧ Keep w w'
theorem RAl.mk {w w' : World} {l : List Int} {nv : Nat} {e : Ending} {A : Option Addr} {n c : Nat} {r : Bool} (he : e = .returned (.tuple #[.slice A n c, .bool r])) (h1 : IntsAt w' A n) (h2 : r = true → n = l.length ∧ ∀ v ∈ l, 0 ≤ v ∧ v < (nv : Int)) (hk : Keep w w') : RAl w l nv e w' := ⟨A, n, c, r, he, h1, h2, hk⟩
theorem valPush {w : World} {base : Nat} {v : Value} {xs : List Int} (h : Own intC 1 74 w base v xs) (x : Int) (hn : xs.length + 1 ≤ 17592186044416) (hb : base ≤ w.heap.size) :
  ∃ A c, v = .slice A xs.length c ∧ ∃ A' c' w2, (Builtin.append_ #[34, 34] 34 #[.slice A xs.length c, .slice (some ⟨w.heap.size, 0, none⟩) 1 1]).run Tryz.prog (w.alloc (.cells #[.int .i64 x] 74)) = .ok (.slice A' (xs.length + 1) c') w2 ∧
   Own intC 1 74 w2 base (.slice A' (xs.length + 1) c') (xs ++ [x]) ∧ Ext (fun k => v.ownBlock = some k) w w2 := by
 obtain ⟨A, c, hform, _⟩ := h.form
 have hka : Keep w (w.alloc (.cells #[.int .i64 x] 74)) := (Keep.refl _).alloc _
 have hseg : Seg (w.alloc (.cells #[.int .i64 x] 74)) (some ⟨w.heap.size, 0, none⟩) (([x] : List Int).flatMap intC) := Seg.of_blk (Blk.new w 74 [.int .i64 x])
 obtain ⟨v', w2, hrun, hown, hg, _⟩ := append_run (ys := [x]) elVal (h.keep hka) hseg 1 34 (by simp [maxLen]; omega) (by simp; omega) (Nat.le_trans hb hka.size)
 obtain ⟨A', c', rfl, _⟩ := hown.form
 have e : (xs ++ [x]).length = xs.length + 1 := by simp
 rw [e] at hrun hown
 subst hform
 exact ⟨A, c, rfl, A', c', w2, hrun, hown, (hka.ext _).grown hg (fun k hk _ => hk)⟩
theorem Own.intsAt {w : World} {T : TypeId} {base n c : Nat} {A : Option Addr} {xs : List Int} (h : Own intC 1 T w base (.slice A n c) xs) (hn : xs.length ≤ 2000000) : IntsAt w A n := by
 obtain ⟨e, hs⟩ := h.segN
 exact ⟨xs, e.symm, hs, by omega⟩
set_option maxHeartbeats 2000000 in
theorem all39_calls (l : List Int) (A : Option Addr) (c : Nat) (vl : List Int) (va : Option Addr) (vc : Nat) (w : World) (hs : Seg w A (l.flatMap intC)) (hn : l.length ≤ 2000000) (hv : Seg w va (vl.flatMap intC)) (hvn : vl.length ≤ 2000000) :
  Calls Tryz.prog 59 #[.slice A l.length c, .slice va vl.length vc] w (RAl w l vl.length) := by
 have Hs := Lib.hid hs
 have Hv := Lib.hid hv
 clear hs hv
 go_enter Tryz.func59, Tryz.ntmps59
 go_wp2_with fail
 go_loopw [6, 7] (fun vo vi wr => ∃ k : Nat, k ≤ l.length ∧ vi = .int .i64 k ∧ Hid (∃ xs : List Int, xs.length = k ∧ Own intC 1 74 wr w.heap.size vo xs) ∧ Hid (∀ v ∈ l.take k, 0 ≤ v ∧ v < (vl.length : Int)) ∧ Hid (Keep w wr)) (fun _ i _ => l.length - (intOf i).toNat)
 case atStart => exact ⟨0, Nat.zero_le _, rfl, Lib.hid ⟨[], rfl, Own.nil _ _ _ _ _⟩, Lib.hid (by simp), Lib.hid (Keep.refl _)⟩
 case round =>
  obtain ⟨k, hk, rfl, hown, hall, hkeep⟩ := hrel
  by_cases hin : k < l.length
  ·obtain ⟨b, off, rfl, hb, c0⟩ := int_at Hs.out hkeep.out hin
   obtain ⟨x, hx⟩ : ∃ x, l[k] = x := ⟨_, rfl⟩
   have Hx := Lib.hid (show l[k]? = some x by rw [List.getElem?_eq_getElem hin, hx])
   rw [hx] at c0
   clear hx
   have hbl := Nat.lt_of_lt_of_le hb hkeep.out.size
   have hkk : (k : Int) < (l.length : Int) := by omega
   have hk0 : (0 : Int) ≤ (k : Int) := by omega
   by_cases g0 : x < 0
   ·go_wp2
    refine bodyPost_ret (by simp [results, Tryz.results59, go_sem] <;> rfl) rfl ?_
    exact RAl.mk rfl (IntsAt.nil _ _) (fun h => by cases h) hkeep.out
   ·by_cases g1 : (vl.length : Int) ≤ x
    ·have g0d : decide (x < 0) = false := decide_eq_false g0
     go_wp2
     refine bodyPost_ret (by simp [results, Tryz.results59, go_sem] <;> rfl) rfl ?_
     exact RAl.mk rfl (IntsAt.nil _ _) (fun h => by cases h) hkeep.out
    ·obtain ⟨j, rfl⟩ : ∃ j : Nat, x = (j : Int) := ⟨x.toNat, by omega⟩
     obtain ⟨b2, off2, rfl, hb2, q0⟩ := int_at Hv.out hkeep.out (k := j) (by omega)
     obtain ⟨u, hu⟩ : ∃ u, vl[j]'(by omega) = u := ⟨_, rfl⟩
     rw [hu] at q0
     have hb2l := Nat.lt_of_lt_of_le hb2 hkeep.out.size
     have g0d : decide ((j : Int) < 0) = false := decide_eq_false g0
     have g1d : decide ((vl.length : Int) ≤ (j : Int)) = false := decide_eq_false g1
     have hj0 : (0 : Int) ≤ (j : Int) := by omega
     have hj1 : (j : Int) < (vl.length : Int) := by omega
     obtain ⟨xs, hxs, ho⟩ := hown.out
     obtain ⟨Ao, co, rfl, A', c', w7, hrun, hown7, hE7⟩ := valPush ho u (by omega) hkeep.out.size
     have Hn := Lib.hid (show (∃ ys : List Int, ys.length = k + 1 ∧ Own intC 1 74 w7 w.heap.size (.slice A' (xs.length + 1) c') ys) ∧ (∀ v ∈ l.take (k + 1), 0 ≤ v ∧ v < (vl.length : Int)) ∧ Keep w w7 from
      ⟨⟨xs ++ [u], by simp [hxs], hown7⟩, fun v hv => by
       rw [List.take_add_one, Hx.out] at hv
       rcases List.mem_append.1 hv with h | h
       ·exact hall.out v h
       ·have : v = (j : Int) := by simpa using h
        subst this; omega, Keep.of_ext hkeep.out hE7 (fun i hi e => by have := (ho.lt i e).1; omega)⟩)
     clear hown hall hkeep ho hown7 hE7 hu hxs Hx
     go_wp2_with (at_builtin; refine wpList_append_eq rfl _ _ _ rfl _ _ rfl rfl _ _ hrun ?_; clear hrun)
     go_roundw
     case rel => exact ⟨k + 1, hin, by go_num, Lib.hid Hn.out.1, Lib.hid Hn.out.2.1, Lib.hid Hn.out.2.2⟩
     case measure => simp [intOf]; omega
  ·have hkl : k = l.length := by omega
   obtain ⟨xs, hxs, ho⟩ := hown.out
   obtain ⟨Ao, co, rfl, _⟩ := ho.form
   have Hn := Lib.hid (show IntsAt wr Ao xs.length ∧ (xs.length = l.length ∧ ∀ v ∈ l, 0 ≤ v ∧ v < (vl.length : Int)) from ⟨ho.intsAt (by omega), by omega, fun v hv => hall.out v (by rw [hkl, List.take_length]; exact hv)⟩)
   clear hown hall ho hxs hkl
   go_wp2
   refine bodyPost_ret (by simp [results, Tryz.results59, go_sem] <;> rfl) rfl ?_
   exact RAl.mk rfl Hn.out.1 (fun _ => Hn.out.2) hkeep.out
theorem has39_calls (l : List Int) (A : Option Addr) (c : Nat) (n : Int) (w : World) (hs : Seg w A (l.flatMap intC)) (hn : l.length ≤ 2000000) :
  Calls Tryz.prog 100 #[.slice A l.length c, .int .i64 n] w fun e w' => e = .returned (.bool (decide (n ∈ l))) ∧ w' = w := by
 go_enter Tryz.func100, Tryz.ntmps100
 go_wp2_with fail
 go_loopw [5] (fun vi wr => ∃ k : Nat, k ≤ l.length ∧ vi = .int .i64 k ∧ Hid (n ∉ l.take k) ∧ wr = w) (fun i _ => l.length - (intOf i).toNat)
 case atStart => exact ⟨0, Nat.zero_le _, rfl, Lib.hid (by simp), rfl⟩
 case round =>
  obtain ⟨k, hk, rfl, hno, rfl⟩ := hrel
  by_cases hin : k < l.length
  ·obtain ⟨b, off, rfl, hb, c0⟩ := int_at hs (Keep.refl _) hin
   obtain ⟨x, hx⟩ : ∃ x, l[k] = x := ⟨_, rfl⟩
   have Hx := Lib.hid (show l[k]? = some x by rw [List.getElem?_eq_getElem hin, hx])
   rw [hx] at c0
   clear hx
   have hkk : (k : Int) < (l.length : Int) := by omega
   have hk0 : (0 : Int) ≤ (k : Int) := by omega
   by_cases g : x = n
   ·subst g
    have g1 : (x == x) = true := by simp
    go_wp2
    go_ret
    exact ⟨by rw [decide_eq_true (List.mem_of_getElem? Hx.out)]; rfl, rfl⟩
   ·have g1 : (x == n) = false := by simpa using g
    have Hn := Lib.hid (show n ∉ l.take (k + 1) by
     rw [List.take_add_one, Hx.out]
     intro h
     rcases List.mem_append.1 h with h | h
     ·exact hno.out h
     ·have : n = x := by simpa using h
      exact g this.symm)
    clear g
    go_wp2
    go_roundw
    case rel => exact ⟨k + 1, hin, by go_num, Hn, trivial⟩
    case measure => simp [intOf]; omega
  ·go_wp2
   go_ret
   refine ⟨?_, rfl⟩
   have h := hno.out
   rw [List.take_of_length_le (by omega)] at h
   rw [decide_eq_false h]
   rfl
theorem has47_calls (l : List Int) (A : Option Addr) (c : Nat) (n : Int) (w : World) (hs : Seg w A (l.flatMap intC)) (hn : l.length ≤ 2000000) :
  Calls Tryz.prog 52 #[.slice A l.length c, .int .i64 n] w fun e w' => e = .returned (.bool (decide (n ∈ l))) ∧ w' = w := by
 go_enter Tryz.func52, Tryz.ntmps52
 go_wp2_with fail
 go_loopw [5] (fun vi wr => ∃ k : Nat, k ≤ l.length ∧ vi = .int .i64 k ∧ Hid (n ∉ l.take k) ∧ wr = w) (fun i _ => l.length - (intOf i).toNat)
 case atStart => exact ⟨0, Nat.zero_le _, rfl, Lib.hid (by simp), rfl⟩
 case round =>
  obtain ⟨k, hk, rfl, hno, rfl⟩ := hrel
  by_cases hin : k < l.length
  ·obtain ⟨b, off, rfl, hb, c0⟩ := int_at hs (Keep.refl _) hin
   obtain ⟨x, hx⟩ : ∃ x, l[k] = x := ⟨_, rfl⟩
   have Hx := Lib.hid (show l[k]? = some x by rw [List.getElem?_eq_getElem hin, hx])
   rw [hx] at c0
   clear hx
   have hkk : (k : Int) < (l.length : Int) := by omega
   have hk0 : (0 : Int) ≤ (k : Int) := by omega
   by_cases g : x = n
   ·subst g
    have g1 : (x == x) = true := by simp
    go_wp2
    go_ret
    exact ⟨by rw [decide_eq_true (List.mem_of_getElem? Hx.out)]; rfl, rfl⟩
   ·have g1 : (x == n) = false := by simpa using g
    have Hn := Lib.hid (show n ∉ l.take (k + 1) by
     rw [List.take_add_one, Hx.out]
     intro h
     rcases List.mem_append.1 h with h | h
     ·exact hno.out h
     ·have : n = x := by simpa using h
      exact g this.symm)
    clear g
    go_wp2
    go_roundw
    case rel => exact ⟨k + 1, hin, by go_num, Hn, trivial⟩
    case measure => simp [intOf]; omega
  ·go_wp2
   go_ret
   refine ⟨?_, rfl⟩
   have h := hno.out
   rw [List.take_of_length_le (by omega)] at h
   rw [decide_eq_false h]
   rfl
end Go.Proofs.YtjpmiejgcnfiiaaGreat
