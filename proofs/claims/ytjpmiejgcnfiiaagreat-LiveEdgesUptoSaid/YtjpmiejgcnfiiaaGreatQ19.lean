import Derived.Test.YtjpmiejgcnfiiaaGreatQ18
import Derived.Test.YtjpmiejgcnfiiaaGreatQ8
set_option linter.unusedVariables false
set_option linter.unusedSimpArgs false
namespace Go.Proofs.YtjpmiejgcnfiiaaGreat
open Go Go.RowKit

set_option maxHeartbeats 4000000 in
set_option maxRecDepth 100000 in
theorem stand39_calls (k : LkD) (b : Nat) (here : List Int) (ha : Option Addr) (hc : Nat) (l : List Int) (la : Option Addr) (lc : Nat) (w : World) (h : LkOk w k) (hh : Seg w ha (here.flatMap intC)) (hl : here.length ≤ 2000000) (hb : b < k.x.blocks.l.length) (hs : Seg w la (l.flatMap intC)) (hn : l.length ≤ 2000000) :
  Calls Tryz.prog 61 #[.agg (lkC k).toArray, .int .i64 (b : Int), .slice ha here.length hc, .slice la l.length lc] w (RB w fun r => r = true → ∀ v ∈ l, k.K.standsB b here v = true) := by
 obtain ⟨W, hW, kW, bW, sW⟩ := boxN w 108 (lkC k)
 have Hst := Lib.hid (fun (w' : World) (v : Int) (hk : Keep W w') => stands39_calls k b here ha hc v w' (h.keep (kW.trans hk)) (hh.keep (kW.trans hk)) hl hb)
 have Hld := Lib.hid (fun (w' : World) (hk : Keep W w') => lk_load (bW.keep hk))
 have Hlt := Lib.hid bW.lt
 have Hs := Lib.hid (hs.keep kW)
 clear bW sW h hh hs
 go_enter Tryz.func61, Tryz.ntmps61
 go_wp2_with fail
 go_loopw [9] (fun vi wr => ∃ j : Nat, j ≤ l.length ∧ vi = .int .i64 j ∧ Hid (∀ v ∈ l.take j, k.K.standsB b here v = true) ∧ Hid (Keep W wr)) (fun i _ => l.length - (intOf i).toNat)
 case atStart => exact ⟨0, Nat.zero_le _, rfl, Lib.hid (by simp), Lib.hid (Keep.refl _)⟩
 case round =>
  obtain ⟨j, hj, rfl, hall, hkeep⟩ := hrel
  by_cases hlt : j < l.length
  ·have lt := Nat.lt_of_lt_of_le Hlt.out hkeep.out.size
   obtain ⟨b2, o2, hA2, hb2, r0⟩ := int_at Hs.out hkeep.out hlt
   obtain ⟨u, hu⟩ : ∃ u, l[j] = u := ⟨_, rfl⟩
   rw [hu] at r0
   have Htk := Lib.hid (show l.take (j + 1) = l.take j ++ [u] from by rw [take_snoc l hlt, hu])
   have hb2l := Nat.lt_of_lt_of_le hb2 hkeep.out.size
   have j1 : (j : Int) < (l.length : Int) := by omega
   have j0 : (0 : Int) ≤ (j : Int) := by omega
   subst hA2
   have hd : Keep wr wr.drew := (Keep.refl _).drew
   have er0 := fun z : KW wr => z.cell r0
   have Hsu := Lib.hid (Hst.out wr.drew u (hkeep.out.trans hd))
   clear hu
   go_wp2_with fail
   refine region_begin (S := fun w' => ∃ z : KW wr, w' = z.val) (by kernel_rfl) ?_
   refine region_take [0, 1, 2, 3, 4, 5, 6] [] 2 (by kernel_rfl) (by kernel_rfl) (InK.mk' hd) ?_
   show wpQuiet _ _ _ _ [_, _, _, _, _, _, _] _
   go_big_quiet_want
   refine quiet_load _ _ rfl (.agg (lkC k).toArray) (fun w' hw => ?_) ?_
   ·obtain ⟨z, rfl⟩ := hw
    exact Hld.out z.val (hkeep.out.trans z.keep)
   simp only [Act.put, List.setIfInBounds_toArray, List.set_cons_succ, List.set_cons_zero]
   go_big_quiet_on
   repeat (go_big_quiet_step (fail))
   refine wpQuiet_nil ?_
   refine region_fix (i := 7) (fuel := 1) rfl (by kernel_rfl) (fun K hK => ?_)
   go_simp
   refine Hsu.out.mono ?_
   rintro e w1 ⟨rfl, hk1⟩
   have hd1 := hd.trans hk1
   refine hK _ _ (InK.mk' hd1) ?_
   clear hK K Hsu
   refine region_take [8] [0, 1, 2, 3, 4, 5, 6, 7] 0 (by kernel_rfl) (by kernel_rfl) (InK.mk' hd1) ?_
   show wpQuiet _ _ _ _ [_] _
   repeat (go_big_quiet_step (fail))
   refine wpQuiet_nil ?_
   refine region_done (by kernel_rfl) ?_
   have Hk1 := Lib.hid (hkeep.out.trans hd1)
   clear er0 hkeep hd hk1 hd1 lt
   cases hE : k.K.standsB b here u with
   | true =>
    have Hn := Lib.hid (show ∀ v ∈ l.take (j + 1), k.K.standsB b here v = true from fun v hv => by
     rw [Htk.out] at hv
     rcases List.mem_append.1 hv with hv | hv
     ·exact hall.out v hv
     ·obtain rfl := List.mem_singleton.1 hv; exact hE)
    clear hE hall
    go_wp2
    go_roundw
    case rel => exact ⟨j + 1, hlt, by go_num, Hn, Hk1⟩
    case measure => simp [intOf]; omega
   | false =>
    clear hE hall
    go_wp2
    go_ret
    exact RB.mk rfl (fun h => by cases h) (kW.trans Hk1.out)
  ·have Hall := Lib.hid (show ∀ v ∈ l, k.K.standsB b here v = true from by have := hall.out; rwa [List.take_of_length_le (by omega)] at this)
   clear hall
   go_wp2
   go_ret
   exact RB.mk rfl (fun _ => Hall.out) (kW.trans hkeep.out)
end Go.Proofs.YtjpmiejgcnfiiaaGreat
namespace Go.Proofs.YtjpmiejgcnfiiaaGreat
open Go Go.RowKit

/-- An import, and whether it is there. -/
def RIm (w : World) (e : Ending) (w' : World) : Prop := ∃ mo na kind func te tmin tmax th mmin mmax mh gv gm r, e = .returned (.tuple #[.agg #[.string mo, .string na, .int .i64 kind, .int .i64 func, .int .i64 te, .int .i64 tmin, .int .i64 tmax, .bool th, .int .i64 mmin, .int .i64 mmax, .bool mh, .int .i64 gv, .bool gm], .bool r]) ∧ Keep w w'
def imZ : List Value := [.string ⟨#[]⟩, .string ⟨#[]⟩, .int .i64 0, .int .i64 0, .int .i64 0, .int .i64 0, .int .i64 0, .bool false, .int .i64 0, .int .i64 0, .bool false, .int .i64 0, .bool false]

set_option maxHeartbeats 4000000 in
theorem nth08_calls (m : MdD) (kd i : Int) (w : World) (h : MdOk w m) : Calls Tryz.prog 137 #[.agg (mdC m).toArray, .int .i64 kd, .int .i64 i] w (RIm w) := by
 obtain ⟨W, hW, kW, bW, sW⟩ := boxN w 33 (mdC m)
 obtain ⟨V, hV, kV, bV, sV⟩ := boxN W 222 [.string ⟨#[]⟩, .string ⟨#[]⟩, .int .i64 0, .int .i64 0, .int .i64 0, .int .i64 0, .int .i64 0, .bool false, .int .i64 0, .int .i64 0, .bool false, .int .i64 0, .bool false]
 obtain ⟨c0, c1, c2, c3, c4, c5, c6, c7, c8, c9, ca, cb, lt⟩ := (bW.keep kV).md
 have y0 : V.cell? ⟨W.heap.size, 0, none⟩ = some (.string ⟨#[]⟩) := bV.cell 0
 have y1 : V.cell? ⟨W.heap.size, 1, none⟩ = some (.string ⟨#[]⟩) := bV.cell 1
 have y2 : V.cell? ⟨W.heap.size, 2, none⟩ = some (.int .i64 0) := bV.cell 2
 have y3 : V.cell? ⟨W.heap.size, 3, none⟩ = some (.int .i64 0) := bV.cell 3
 have y4 : V.cell? ⟨W.heap.size, 4, none⟩ = some (.int .i64 0) := bV.cell 4
 have y5 : V.cell? ⟨W.heap.size, 5, none⟩ = some (.int .i64 0) := bV.cell 5
 have y6 : V.cell? ⟨W.heap.size, 6, none⟩ = some (.int .i64 0) := bV.cell 6
 have y7 : V.cell? ⟨W.heap.size, 7, none⟩ = some (.bool false) := bV.cell 7
 have y8 : V.cell? ⟨W.heap.size, 8, none⟩ = some (.int .i64 0) := bV.cell 8
 have y9 : V.cell? ⟨W.heap.size, 9, none⟩ = some (.int .i64 0) := bV.cell 9
 have y10 : V.cell? ⟨W.heap.size, 10, none⟩ = some (.bool false) := bV.cell 10
 have y11 : V.cell? ⟨W.heap.size, 11, none⟩ = some (.int .i64 0) := bV.cell 11
 have y12 : V.cell? ⟨W.heap.size, 12, none⟩ = some (.bool false) := bV.cell 12
 have yf := bV.frozen
 have yl := bV.lt
 have kk := kW.trans kV
 have hle := kW.size
 have H := Lib.hid h
 have hl : m.imports.l.length ≤ 2000000 := H.out.imports.len
 obtain ⟨N, hN⟩ : ∃ N, m.imports.l.length = N := ⟨_, rfl⟩
 rw [hN] at c1 hl
 have HN := Lib.hid hN
 clear h bW sW bV sV hN
 go_enter Tryz.func137, Tryz.ntmps137
 go_wp2_with fail
 go_loopw [2, 8] (fun vi vj wr => ∃ (z : Int) (k : Nat), k ≤ N ∧ vi = .int .i64 z ∧ vj = .int .i64 k ∧ wr = V) (fun _ vj _ => N - (intOf vj).toNat)
 case atStart => exact ⟨_, 0, Nat.zero_le _, rfl, rfl, rfl⟩
 case round =>
  obtain ⟨z, k, hk, rfl, rfl, rfl⟩ := hrel
  by_cases hin : k < N
  ·obtain ⟨y, hy⟩ := get_some (l := m.imports.l) (k := k) (by rw [HN.out]; exact hin)
   obtain ⟨b, off, hA, hb, hc⟩ := rw_get (s := 13) (fun _ => rfl) (by omega) H.out.imports kk hy
   have q0 : wr.cell? ⟨b, off + k * 13, none⟩ = some (.string y.mo) := hc 0 _ rfl
   have q1 : wr.cell? ⟨b, off + k * 13 + 1, none⟩ = some (.string y.na) := hc 1 _ rfl
   have q2 : wr.cell? ⟨b, off + k * 13 + 2, none⟩ = some (.int .i64 y.kind) := hc 2 _ rfl
   have q3 : wr.cell? ⟨b, off + k * 13 + 3, none⟩ = some (.int .i64 y.func) := hc 3 _ rfl
   have q4 : wr.cell? ⟨b, off + k * 13 + 4, none⟩ = some (.int .i64 y.te) := hc 4 _ rfl
   have q5 : wr.cell? ⟨b, off + k * 13 + 5, none⟩ = some (.int .i64 y.tmin) := hc 5 _ rfl
   have q6 : wr.cell? ⟨b, off + k * 13 + 6, none⟩ = some (.int .i64 y.tmax) := hc 6 _ rfl
   have q7 : wr.cell? ⟨b, off + k * 13 + 7, none⟩ = some (.bool y.th) := hc 7 _ rfl
   have q8 : wr.cell? ⟨b, off + k * 13 + 8, none⟩ = some (.int .i64 y.mmin) := hc 8 _ rfl
   have q9 : wr.cell? ⟨b, off + k * 13 + 9, none⟩ = some (.int .i64 y.mmax) := hc 9 _ rfl
   have q10 : wr.cell? ⟨b, off + k * 13 + 10, none⟩ = some (.bool y.mh) := hc 10 _ rfl
   have q11 : wr.cell? ⟨b, off + k * 13 + 11, none⟩ = some (.int .i64 y.gv) := hc 11 _ rfl
   have q12 : wr.cell? ⟨b, off + k * 13 + 12, none⟩ = some (.bool y.gm) := hc 12 _ rfl
   obtain ⟨mo, na, kind, func, te, tmin, tmax, th, mmin, mmax, mh, gv, gm⟩ := y
   simp only [] at q0 q1 q2 q3 q4 q5 q6 q7 q8 q9 q10 q11 q12
   rw [hA] at c1
   have k1 : (k : Int) < (N : Int) := by omega
   have k0 : (0 : Int) ≤ (k : Int) := by omega
   clear hc hy
   by_cases hkd : kind = kd
   ·subst hkd
    by_cases hz : z = 0
    ·subst hz
     have e1 : (kind == kind) = true := by simp
     have e2 : (kind != kind) = false := by simp
     go_wp2
     refine bodyPost_ret (v := .tuple #[.agg #[.string mo, .string na, .int .i64 kind, .int .i64 func, .int .i64 te, .int .i64 tmin, .int .i64 tmax, .bool th, .int .i64 mmin, .int .i64 mmax, .bool mh, .int .i64 gv, .bool gm], .bool true]) (by simp [results, Tryz.results137, go_sem, y0, y1, y2, y3, y4, y5, y6, y7, y8, y9, y10, y11, y12, yl]) rfl ?_
     refine ⟨mo, na, kind, func, te, tmin, tmax, th, mmin, mmax, mh, gv, gm, true, rfl, ?_⟩
     repeat (refine Keep.setCell (p := ⟨_, _, none⟩) ?_ hle _)
     exact kk
    ·have e1 : (kind == kind) = true := by simp
     have e2 : (kind != kind) = false := by simp
     have e3 : (z == 0) = false := by simpa using hz
     go_wp2
     go_roundw
     case rel => exact ⟨_, k + 1, hin, rfl, by go_num, trivial⟩
     case measure => simp [intOf]; omega
   ·have e2 : (kind != kd) = true := by simpa using hkd
    go_wp2
    go_roundw
    case rel => exact ⟨z, k + 1, hin, rfl, by go_num, trivial⟩
    case measure => simp [intOf]; omega
  ·go_wp2
   refine bodyPost_ret (v := .tuple #[.agg #[.string ⟨#[]⟩, .string ⟨#[]⟩, .int .i64 0, .int .i64 0, .int .i64 0, .int .i64 0, .int .i64 0, .bool false, .int .i64 0, .int .i64 0, .bool false, .int .i64 0, .bool false], .bool false]) (by simp [results, Tryz.results137, go_sem, y0, y1, y2, y3, y4, y5, y6, y7, y8, y9, y10, y11, y12, yl]) rfl ?_
   refine ⟨_, _, _, _, _, _, _, _, _, _, _, _, _, _, rfl, ?_⟩
   repeat (refine Keep.setCell (p := ⟨_, _, none⟩) ?_ hle _)
   exact kk
end Go.Proofs.YtjpmiejgcnfiiaaGreat
namespace Go.Proofs.YtjpmiejgcnfiiaaGreat
open Go Go.RowKit

/-- A table, and whether it is there. -/
def RTb (w : World) (e : Ending) (w' : World) : Prop := ∃ v0 v1 v2 v3 r, e = .returned (.tuple #[.agg #[.int .i64 v0, .int .i64 v1, .int .i64 v2, .bool v3], .bool r]) ∧ Keep w w'
set_option maxHeartbeats 4000000 in
theorem table08_calls (m : MdD) (i : Int) (w : World) (h : MdOk w m) (hi : (Lit.int .i64 i).wf = true) : Calls Tryz.prog 170 #[.agg (mdC m).toArray, .int .i64 i] w (RTb w) := by
 obtain ⟨W, hW, kW, bW, sW⟩ := boxN w 33 (mdC m)
 obtain ⟨V, hV, kV, bV, sV⟩ := boxN W 218 [.int .i64 0, .int .i64 0, .int .i64 0, .bool false]
 have Hc := Lib.hid (fun (w' : World) (k : Keep V w') => ((bW.keep kV).keep k).md)
 have Hy := Lib.hid (fun (w' : World) (k : Keep V w') => bV.keep k)
 have kk := kW.trans kV
 have hle := kW.size
 have H := Lib.hid h
 have Hi := Lib.hid hi
 have Hn := Lib.hid (fun kd => nth08_calls m kd i V (h.keep kk))
 obtain ⟨c0, c1, c2, c3, c4, c5, c6, c7, c8, c9, ca, cb, lt⟩ := Hc.out V (Keep.refl _)
 clear h bW sW bV sV hi
 go_enter Tryz.func170, Tryz.ntmps170
 go_wp2_with fail
 refine (Hn.out _).mono ?_
 rintro e w1 ⟨mo, na, kind, func, te, tmin, tmax, th, mmin, mmax, mh, gv, gm, r, rfl, hk1⟩
 clear c0 c1 c2 c3 c4 c5 c6 c7 c8 c9 ca cb lt
 have yb := Hy.out w1 hk1
 have y0 : w1.cell? ⟨W.heap.size, 0, none⟩ = some (.int .i64 0) := yb.cell 0
 have y1 : w1.cell? ⟨W.heap.size, 1, none⟩ = some (.int .i64 0) := yb.cell 1
 have y2 : w1.cell? ⟨W.heap.size, 2, none⟩ = some (.int .i64 0) := yb.cell 2
 have y3 : w1.cell? ⟨W.heap.size, 3, none⟩ = some (.bool false) := yb.cell 3
 have yf := yb.frozen
 have yl := yb.lt
 have kw1 := kk.trans hk1
 cases r with
 | true =>
  clear yb
  go_wp2
  refine bodyPost_ret (by simp [results, Tryz.results170, go_sem, y0, y1, y2, y3, yl] <;> rfl) rfl ?_
  refine ⟨_, _, _, _, _, rfl, ?_⟩
  repeat (first | exact kw1 | apply Keep.alloc | refine Keep.setCell (p := ⟨_, _, none⟩) ?_ hle _)
 | false =>
  clear yb yf yl y0 y1 y2 y3
  obtain ⟨c0, c1, c2, c3, c4, c5, c6, c7, c8, c9, ca, cb, lt⟩ := Hc.out w1 hk1
  go_wp2_with fail
  refine (own08_calls m _ i _ _ (H.out.keep (kw1.alloc _)) Hi.out).mono ?_
  rintro e w2 ⟨j, rfl, hj, hk2'⟩
  have hk2 : Keep V w2 := (hk1.alloc _).trans hk2'
  clear c0 c1 c2 c3 c4 c5 c6 c7 c8 c9 ca cb lt hk2' hk1 kw1
  have yb := Hy.out w2 hk2
  have y0 : w2.cell? ⟨W.heap.size, 0, none⟩ = some (.int .i64 0) := yb.cell 0
  have y1 : w2.cell? ⟨W.heap.size, 1, none⟩ = some (.int .i64 0) := yb.cell 1
  have y2 : w2.cell? ⟨W.heap.size, 2, none⟩ = some (.int .i64 0) := yb.cell 2
  have y3 : w2.cell? ⟨W.heap.size, 3, none⟩ = some (.bool false) := yb.cell 3
  have yf := yb.frozen
  have yl := yb.lt
  have kw2 := kk.trans hk2
  clear yb
  by_cases hj0 : 0 ≤ j
  ·obtain ⟨k, rfl⟩ : ∃ k : Nat, j = (k : Int) := ⟨j.toNat, by omega⟩
   have hjn : (k : Int) < (m.tables.l.length : Int) := by omega
   obtain ⟨y, hy⟩ := get_some (l := m.tables.l) (k := k) (by omega)
   obtain ⟨b, off, hA, hb, hc⟩ := rw_get (s := 4) (fun _ => rfl) (by omega) H.out.tables kw2 hy
   have q0 : w2.cell? ⟨b, off + k * 4, none⟩ = some (.int .i64 y.elem) := hc 0 _ rfl
   have q1 : w2.cell? ⟨b, off + k * 4 + 1, none⟩ = some (.int .i64 y.min) := hc 1 _ rfl
   have q2 : w2.cell? ⟨b, off + k * 4 + 2, none⟩ = some (.int .i64 y.max) := hc 2 _ rfl
   have q3 : w2.cell? ⟨b, off + k * 4 + 3, none⟩ = some (.bool y.has) := hc 3 _ rfl
   obtain ⟨c0, c1, c2, c3, c4, c5, c6, c7, c8, c9, ca, cb, lt⟩ := Hc.out w2 hk2
   rw [hA] at c3
   have lb : b < w2.heap.size := Nat.lt_of_lt_of_le hb kw2.size
   clear hc hy hj
   go_wp2
   refine bodyPost_ret (by simp [results, Tryz.results170, go_sem, y0, y1, y2, y3, yl] <;> rfl) rfl ?_
   refine ⟨_, _, _, _, _, rfl, ?_⟩
   repeat (first | exact kw2 | apply Keep.alloc | refine Keep.setCell (p := ⟨_, _, none⟩) ?_ hle _)
  ·go_wp2
   refine bodyPost_ret (by simp [results, Tryz.results170, go_sem, y0, y1, y2, y3, yl] <;> rfl) rfl ?_
   refine ⟨_, _, _, _, _, rfl, ?_⟩
   repeat (first | exact kw2 | apply Keep.alloc | refine Keep.setCell (p := ⟨_, _, none⟩) ?_ hle _)

/-- A memory, and whether it is there. -/
def RLm (w : World) (e : Ending) (w' : World) : Prop := ∃ v0 v1 v2 r, e = .returned (.tuple #[.agg #[.int .i64 v0, .int .i64 v1, .bool v2], .bool r]) ∧ Keep w w'
set_option maxHeartbeats 4000000 in
theorem mem08_calls (m : MdD) (i : Int) (w : World) (h : MdOk w m) (hi : (Lit.int .i64 i).wf = true) : Calls Tryz.prog 123 #[.agg (mdC m).toArray, .int .i64 i] w (RLm w) := by
 obtain ⟨W, hW, kW, bW, sW⟩ := boxN w 33 (mdC m)
 obtain ⟨V, hV, kV, bV, sV⟩ := boxN W 192 [.int .i64 0, .int .i64 0, .bool false]
 have Hc := Lib.hid (fun (w' : World) (k : Keep V w') => ((bW.keep kV).keep k).md)
 have Hy := Lib.hid (fun (w' : World) (k : Keep V w') => bV.keep k)
 have kk := kW.trans kV
 have hle := kW.size
 have H := Lib.hid h
 have Hi := Lib.hid hi
 have Hn := Lib.hid (fun kd => nth08_calls m kd i V (h.keep kk))
 obtain ⟨c0, c1, c2, c3, c4, c5, c6, c7, c8, c9, ca, cb, lt⟩ := Hc.out V (Keep.refl _)
 clear h bW sW bV sV hi
 go_enter Tryz.func123, Tryz.ntmps123
 go_wp2_with fail
 refine (Hn.out _).mono ?_
 rintro e w1 ⟨mo, na, kind, func, te, tmin, tmax, th, mmin, mmax, mh, gv, gm, r, rfl, hk1⟩
 clear c0 c1 c2 c3 c4 c5 c6 c7 c8 c9 ca cb lt
 have yb := Hy.out w1 hk1
 have y0 : w1.cell? ⟨W.heap.size, 0, none⟩ = some (.int .i64 0) := yb.cell 0
 have y1 : w1.cell? ⟨W.heap.size, 1, none⟩ = some (.int .i64 0) := yb.cell 1
 have y2 : w1.cell? ⟨W.heap.size, 2, none⟩ = some (.bool false) := yb.cell 2
 have yf := yb.frozen
 have yl := yb.lt
 have kw1 := kk.trans hk1
 cases r with
 | true =>
  clear yb
  go_wp2
  refine bodyPost_ret (by simp [results, Tryz.results123, go_sem, y0, y1, y2, yl] <;> rfl) rfl ?_
  refine ⟨_, _, _, _, rfl, ?_⟩
  repeat (first | exact kw1 | apply Keep.alloc | refine Keep.setCell (p := ⟨_, _, none⟩) ?_ hle _)
 | false =>
  clear yb yf yl y0 y1 y2
  obtain ⟨c0, c1, c2, c3, c4, c5, c6, c7, c8, c9, ca, cb, lt⟩ := Hc.out w1 hk1
  go_wp2_with fail
  refine (own08_calls m _ i _ _ (H.out.keep (kw1.alloc _)) Hi.out).mono ?_
  rintro e w2 ⟨j, rfl, hj, hk2'⟩
  have hk2 : Keep V w2 := (hk1.alloc _).trans hk2'
  clear c0 c1 c2 c3 c4 c5 c6 c7 c8 c9 ca cb lt hk2' hk1 kw1
  have yb := Hy.out w2 hk2
  have y0 : w2.cell? ⟨W.heap.size, 0, none⟩ = some (.int .i64 0) := yb.cell 0
  have y1 : w2.cell? ⟨W.heap.size, 1, none⟩ = some (.int .i64 0) := yb.cell 1
  have y2 : w2.cell? ⟨W.heap.size, 2, none⟩ = some (.bool false) := yb.cell 2
  have yf := yb.frozen
  have yl := yb.lt
  have kw2 := kk.trans hk2
  clear yb
  by_cases hj0 : 0 ≤ j
  ·obtain ⟨k, rfl⟩ : ∃ k : Nat, j = (k : Int) := ⟨j.toNat, by omega⟩
   have hjn : (k : Int) < (m.mems.l.length : Int) := by omega
   obtain ⟨y, hy⟩ := get_some (l := m.mems.l) (k := k) (by omega)
   obtain ⟨b, off, hA, hb, hc⟩ := rw_get (s := 3) (fun _ => rfl) (by omega) H.out.mems kw2 hy
   have q0 : w2.cell? ⟨b, off + k * 3, none⟩ = some (.int .i64 y.min) := hc 0 _ rfl
   have q1 : w2.cell? ⟨b, off + k * 3 + 1, none⟩ = some (.int .i64 y.max) := hc 1 _ rfl
   have q2 : w2.cell? ⟨b, off + k * 3 + 2, none⟩ = some (.bool y.has) := hc 2 _ rfl
   obtain ⟨c0, c1, c2, c3, c4, c5, c6, c7, c8, c9, ca, cb, lt⟩ := Hc.out w2 hk2
   rw [hA] at c4
   have lb : b < w2.heap.size := Nat.lt_of_lt_of_le hb kw2.size
   clear hc hy hj
   go_wp2
   refine bodyPost_ret (by simp [results, Tryz.results123, go_sem, y0, y1, y2, yl] <;> rfl) rfl ?_
   refine ⟨_, _, _, _, rfl, ?_⟩
   repeat (first | exact kw2 | apply Keep.alloc | refine Keep.setCell (p := ⟨_, _, none⟩) ?_ hle _)
  ·go_wp2
   refine bodyPost_ret (by simp [results, Tryz.results123, go_sem, y0, y1, y2, yl] <;> rfl) rfl ?_
   refine ⟨_, _, _, _, rfl, ?_⟩
   repeat (first | exact kw2 | apply Keep.alloc | refine Keep.setCell (p := ⟨_, _, none⟩) ?_ hle _)

/-- A global, and whether it is there. -/
def RGl (w : World) (e : Ending) (w' : World) : Prop := ∃ v0 v1 r, e = .returned (.tuple #[.agg #[.int .i64 v0, .bool v1], .bool r]) ∧ Keep w w'
set_option maxHeartbeats 4000000 in
theorem global08_calls (m : MdD) (i : Int) (w : World) (h : MdOk w m) (hi : (Lit.int .i64 i).wf = true) : Calls Tryz.prog 171 #[.agg (mdC m).toArray, .int .i64 i] w (RGl w) := by
 obtain ⟨W, hW, kW, bW, sW⟩ := boxN w 33 (mdC m)
 obtain ⟨V, hV, kV, bV, sV⟩ := boxN W 220 [.int .i64 0, .bool false]
 have Hc := Lib.hid (fun (w' : World) (k : Keep V w') => ((bW.keep kV).keep k).md)
 have Hy := Lib.hid (fun (w' : World) (k : Keep V w') => bV.keep k)
 have kk := kW.trans kV
 have hle := kW.size
 have H := Lib.hid h
 have Hi := Lib.hid hi
 have Hn := Lib.hid (fun kd => nth08_calls m kd i V (h.keep kk))
 obtain ⟨c0, c1, c2, c3, c4, c5, c6, c7, c8, c9, ca, cb, lt⟩ := Hc.out V (Keep.refl _)
 clear h bW sW bV sV hi
 go_enter Tryz.func171, Tryz.ntmps171
 go_wp2_with fail
 refine (Hn.out _).mono ?_
 rintro e w1 ⟨mo, na, kind, func, te, tmin, tmax, th, mmin, mmax, mh, gv, gm, r, rfl, hk1⟩
 clear c0 c1 c2 c3 c4 c5 c6 c7 c8 c9 ca cb lt
 have yb := Hy.out w1 hk1
 have y0 : w1.cell? ⟨W.heap.size, 0, none⟩ = some (.int .i64 0) := yb.cell 0
 have y1 : w1.cell? ⟨W.heap.size, 1, none⟩ = some (.bool false) := yb.cell 1
 have yf := yb.frozen
 have yl := yb.lt
 have kw1 := kk.trans hk1
 cases r with
 | true =>
  clear yb
  go_wp2
  refine bodyPost_ret (by simp [results, Tryz.results171, go_sem, y0, y1, yl] <;> rfl) rfl ?_
  refine ⟨_, _, _, rfl, ?_⟩
  repeat (first | exact kw1 | apply Keep.alloc | refine Keep.setCell (p := ⟨_, _, none⟩) ?_ hle _)
 | false =>
  clear yb yf yl y0 y1
  obtain ⟨c0, c1, c2, c3, c4, c5, c6, c7, c8, c9, ca, cb, lt⟩ := Hc.out w1 hk1
  go_wp2_with fail
  refine (own08_calls m _ i _ _ (H.out.keep (kw1.alloc _)) Hi.out).mono ?_
  rintro e w2 ⟨j, rfl, hj, hk2'⟩
  have hk2 : Keep V w2 := (hk1.alloc _).trans hk2'
  clear c0 c1 c2 c3 c4 c5 c6 c7 c8 c9 ca cb lt hk2' hk1 kw1
  have yb := Hy.out w2 hk2
  have y0 : w2.cell? ⟨W.heap.size, 0, none⟩ = some (.int .i64 0) := yb.cell 0
  have y1 : w2.cell? ⟨W.heap.size, 1, none⟩ = some (.bool false) := yb.cell 1
  have yf := yb.frozen
  have yl := yb.lt
  have kw2 := kk.trans hk2
  clear yb
  by_cases hj0 : 0 ≤ j
  ·obtain ⟨k, rfl⟩ : ∃ k : Nat, j = (k : Int) := ⟨j.toNat, by omega⟩
   have hjn : (k : Int) < (m.globals.l.length : Int) := by omega
   obtain ⟨y, hy⟩ := get_some (l := m.globals.l) (k := k) (by omega)
   obtain ⟨b, off, hA, hb, hc⟩ := rw_get (s := 3) (fun _ => rfl) (by omega) H.out.globals kw2 hy
   have q0 : w2.cell? ⟨b, off + k * 3, none⟩ = some (.int .i64 y.gv) := hc 0 _ rfl
   have q1 : w2.cell? ⟨b, off + k * 3 + 1, none⟩ = some (.bool y.gm) := hc 1 _ rfl
   obtain ⟨c0, c1, c2, c3, c4, c5, c6, c7, c8, c9, ca, cb, lt⟩ := Hc.out w2 hk2
   rw [hA] at c5
   have lb : b < w2.heap.size := Nat.lt_of_lt_of_le hb kw2.size
   clear hc hy hj
   go_wp2
   refine bodyPost_ret (by simp [results, Tryz.results171, go_sem, y0, y1, yl] <;> rfl) rfl ?_
   refine ⟨_, _, _, rfl, ?_⟩
   repeat (first | exact kw2 | apply Keep.alloc | refine Keep.setCell (p := ⟨_, _, none⟩) ?_ hle _)
  ·go_wp2
   refine bodyPost_ret (by simp [results, Tryz.results171, go_sem, y0, y1, yl] <;> rfl) rfl ?_
   refine ⟨_, _, _, rfl, ?_⟩
   repeat (first | exact kw2 | apply Keep.alloc | refine Keep.setCell (p := ⟨_, _, none⟩) ?_ hle _)
end Go.Proofs.YtjpmiejgcnfiiaaGreat
