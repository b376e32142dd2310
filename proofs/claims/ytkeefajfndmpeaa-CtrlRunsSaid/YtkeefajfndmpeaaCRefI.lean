/-
  The reference's State: Enter.
-/
import Derived.Test.YtkeefajfndmpeaaCRefN
namespace Go.Proofs.Ytkeefajfndmpeaa
open Go Go.RowKit

/-- Behind the condition of an if. -/
def RC.enter2 (c : RC) (op : Int) (p r : LD) : RC × Int :=
  if (c.s.want p.l).2 ≠ 0 then ({ c with broken := (c.s.want p.l).2 }, (c.s.want p.l).2)
  else ({ c with s := (c.s.want p.l).1.opened.push p.l, fs := c.fs ++ [⟨op, p, r, liveTop c.fs, liveTop c.fs⟩] }, 0)
def RC.enter (c : RC) (op : Int) (p r : LD) : RC × Int :=
  if c.broken ≠ 0 then (c, c.broken)
  else if op ≠ 2 ∧ op ≠ 3 ∧ op ≠ 4 then (c, 1)
  else if c.fs = [] then (c, 16)
  else if op = 4 then (if (c.s.want [1]).2 ≠ 0 then ({ c with broken := (c.s.want [1]).2 }, (c.s.want [1]).2) else ({ c with s := (c.s.want [1]).1 } : RC).enter2 op p r)
  else c.enter2 op p r

theorem enter_boxes (w : World) (cs : List Value) (p r : LD) {wa : World} (hwa : wa = ((w.alloc (.cells cs.toArray 74)).alloc (.cells (fnC (p, r)).toArray 56)).alloc (.cells rzero7.toArray 74)) :
    Keep w wa ∧ Blk wa w.heap.size 74 cs ∧ Blk wa (w.heap.size + 1) 56 (fnC (p, r)) ∧ Blk wa (w.heap.size + 1 + 1) 74 rzero7 ∧ wa.heap.size = w.heap.size + 1 + 1 + 1 := by
  refine ⟨by rw [hwa]; exact (((Keep.refl _).alloc _).alloc _).alloc _, by rw [hwa]; exact (Blk.new w _ _).keep (((Keep.refl _).alloc _).alloc _), ?_, ?_, by rw [hwa]; simp⟩
  · rw [hwa]
    have := (Blk.new (w.alloc (.cells cs.toArray 74)) 56 (fnC (p, r))).keep ((Keep.refl _).alloc (.cells rzero7.toArray 74))
    simpa using this
  · rw [hwa]
    have := Blk.new ((w.alloc (.cells cs.toArray 74)).alloc (.cells (fnC (p, r)).toArray 56)) 74 rzero7
    simpa using this

set_option maxHeartbeats 4000000 in
set_option maxRecDepth 100000 in
theorem refEnter_no {w0 : World} {G : Nat → Prop} {w : World} {v : Value} {c : RC} (h : RefC w0 G w v c) (op : Int) (p r : LD) (hno : c.broken = 0 ∧ ((op ≠ 2 ∧ op ≠ 3 ∧ op ≠ 4) ∨ c.fs = [])) :
    Calls Try.prog 64 #[v, .int .i64 op, .agg #[.slice p.a p.l.length p.c, .slice r.a r.l.length r.c]] w fun e w' => ∃ v', e = .returned (.tuple #[v', .int .i64 (c.enter op p r).2]) ∧ RefC w0 (Grow G w) w' v' (c.enter op p r).1 ∧ Keep w w' := by
  have hR := h
  obtain ⟨A1, A2, A3, c1, c2, c3, most, Af, cf, rfl, hra, hfr⟩ := h
  have Hno := Lib.hid (fun (W : World) (hk : Keep w W) => show RefC w0 (Grow G w) W (.agg (rcells7 A1 A2 A3 c.s.T.length c.s.P.length c1 c2 c3 most Af c.fs.length cf c.res c.broken).toArray) c ∧ Keep w W from ⟨(hR.keep hk).mono (fun _ _ hg => .inl hg), hk⟩)
  obtain ⟨hb, hno⟩ := hno
  have db : (c.broken != 0) = false := by simpa using hb
  have Hk3 := Lib.hid (fun (a b d : Obj) => (((Keep.refl w).alloc a).alloc b).alloc d)
  by_cases hop : op ≠ 2 ∧ op ≠ 3 ∧ op ≠ 4
  · have Hd := Lib.hid (show c.enter op p r = (c, 1) by unfold RC.enter; rw [if_neg (by omega), if_pos hop])
    have n2 : (op != 2) = true := by simpa using hop.1
    have n3 : (op != 3) = true := by simpa using hop.2.1
    have n4 : (op != 4) = true := by simpa using hop.2.2
    rw [Hd.out]
    clear hb hra hfr hR hno hop
    unfold rcells7 LD.v at *
    go_enter Try.func64, Try.ntmps64
    go_wp2
    refine bodyPost_ret (v := .tuple #[.agg #[.slice A1 c.s.T.length c1, .slice A2 c.s.P.length c2, .slice A3 c.s.P.length c3, .int .i64 (most : Int), .slice Af c.fs.length cf, .slice c.res.a c.res.l.length c.res.c, .int .i64 c.broken], .int .i64 1]) (by simp [results, Try.results64, go_sem]) rfl ⟨_, rfl, Hno.out _ (Hk3.out _ _ _)⟩
  have hz := hno.resolve_left hop
  have dz : ((c.fs.length : Int) == 0) = true := by rw [hz]; rfl
  have Hd := Lib.hid (show c.enter op p r = (c, 16) by unfold RC.enter; rw [if_neg (by omega), if_neg hop, if_pos hz])
  rw [Hd.out]
  have ho : op = 2 ∨ op = 3 ∨ op = 4 := by omega
  clear hb hra hfr hR hno hop hz Hd
  unfold rcells7 LD.v at *
  rcases ho with rfl | rfl | rfl
  all_goals
    go_enter Try.func64, Try.ntmps64
    go_wp2
    refine bodyPost_ret (v := .tuple #[.agg #[.slice A1 c.s.T.length c1, .slice A2 c.s.P.length c2, .slice A3 c.s.P.length c3, .int .i64 (most : Int), .slice Af c.fs.length cf, .slice c.res.a c.res.l.length c.res.c, .int .i64 c.broken], .int .i64 16]) (by simp [results, Try.results64, go_sem]) rfl ⟨_, rfl, Hno.out _ (Hk3.out _ _ _)⟩

set_option maxHeartbeats 4000000 in
set_option maxRecDepth 100000 in
theorem refEnter_broken {w0 : World} {G : Nat → Prop} {w : World} {v : Value} {c : RC} (h : RefC w0 G w v c) (op : Int) (p r : LD) (hb : c.broken ≠ 0) :
    Calls Try.prog 64 #[v, .int .i64 op, .agg #[.slice p.a p.l.length p.c, .slice r.a r.l.length r.c]] w fun e w' => ∃ v', e = .returned (.tuple #[v', .int .i64 (c.enter op p r).2]) ∧ RefC w0 (Grow G w) w' v' (c.enter op p r).1 ∧ Keep w w' := by
  have hR := h
  obtain ⟨A1, A2, A3, c1, c2, c3, most, Af, cf, rfl, hra, hfr⟩ := h
  have Hno := Lib.hid (fun (W : World) (hk : Keep w W) => show RefC w0 (Grow G w) W (.agg (rcells7 A1 A2 A3 c.s.T.length c.s.P.length c1 c2 c3 most Af c.fs.length cf c.res c.broken).toArray) c ∧ Keep w W from ⟨(hR.keep hk).mono (fun _ _ hg => .inl hg), hk⟩)
  have Hd := Lib.hid (show c.enter op p r = (c, c.broken) by unfold RC.enter; rw [if_pos hb])
  have db : (c.broken != 0) = true := by simpa using hb
  rw [Hd.out]
  obtain ⟨wa, hwa⟩ : ∃ wa : World, wa = ((w.alloc (.cells (rcells7 A1 A2 A3 c.s.T.length c.s.P.length c1 c2 c3 most Af c.fs.length cf c.res c.broken).toArray 74)).alloc (.cells (fnC (p, r)).toArray 56)).alloc (.cells rzero7.toArray 74) := ⟨_, rfl⟩
  obtain ⟨hka, ba, _, bb, hza⟩ := enter_boxes w _ p r hwa
  have hblk : ∀ x : KB wa w.heap.size, ∀ i, x.val.cell? ⟨w.heap.size, i, none⟩ = (rcells7 A1 A2 A3 c.s.T.length c.s.P.length c1 c2 c3 most Af c.fs.length cf c.res c.broken)[i]? := fun x i => (World.cell?_of_block x.blk).trans (ba.cell i)
  have k0 := fun x : KB wa w.heap.size => (show x.val.cell? ⟨w.heap.size, 0, none⟩ = some (.slice A1 c.s.T.length c1) from hblk x 0)
  have k1 := fun x : KB wa w.heap.size => (show x.val.cell? ⟨w.heap.size, 1, none⟩ = some (.slice A2 c.s.P.length c2) from hblk x 1)
  have k2 := fun x : KB wa w.heap.size => (show x.val.cell? ⟨w.heap.size, 2, none⟩ = some (.slice A3 c.s.P.length c3) from hblk x 2)
  have k3 := fun x : KB wa w.heap.size => (show x.val.cell? ⟨w.heap.size, 3, none⟩ = some (.int .i64 (most : Int)) from hblk x 3)
  have k4 := fun x : KB wa w.heap.size => (show x.val.cell? ⟨w.heap.size, 4, none⟩ = some (.slice Af c.fs.length cf) from hblk x 4)
  have k5 := fun x : KB wa w.heap.size => (show x.val.cell? ⟨w.heap.size, 5, none⟩ = some (.slice c.res.a c.res.l.length c.res.c) from hblk x 5)
  have k6 := fun x : KB wa w.heap.size => (show x.val.cell? ⟨w.heap.size, 6, none⟩ = some (.int .i64 c.broken) from hblk x 6)
  have k9 := fun x : KB wa w.heap.size => x.lt ba.lt
  have y0 : wa.cell? ⟨w.heap.size + 1 + 1, 0, none⟩ = some (.slice none 0 0) := bb.cell 0
  have y1 : wa.cell? ⟨w.heap.size + 1 + 1, 1, none⟩ = some (.slice none 0 0) := bb.cell 1
  have y2 : wa.cell? ⟨w.heap.size + 1 + 1, 2, none⟩ = some (.slice none 0 0) := bb.cell 2
  have y3 : wa.cell? ⟨w.heap.size + 1 + 1, 3, none⟩ = some (.int .i64 0) := bb.cell 3
  have y4 : wa.cell? ⟨w.heap.size + 1 + 1, 4, none⟩ = some (.slice none 0 0) := bb.cell 4
  have y5 : wa.cell? ⟨w.heap.size + 1 + 1, 5, none⟩ = some (.slice none 0 0) := bb.cell 5
  have y6 : wa.cell? ⟨w.heap.size + 1 + 1, 6, none⟩ = some (.int .i64 0) := bb.cell 6
  have fy := bb.frozen
  have ly := bb.lt
  have Hka := Lib.hid hka
  have Hlt := Lib.hid ba.lt
  clear hb hra hfr hR hblk hka ba bb hza
  replace hwa : wa = ((w.alloc (.cells #[.slice A1 c.s.T.length c1, .slice A2 c.s.P.length c2, .slice A3 c.s.P.length c3, .int .i64 (most : Int), .slice Af c.fs.length cf, .slice c.res.a c.res.l.length c.res.c, .int .i64 c.broken] 74)).alloc (.cells #[.slice p.a p.l.length p.c, .slice r.a r.l.length r.c] 56)).alloc (.cells #[.slice none 0 0, .slice none 0 0, .slice none 0 0, .int .i64 0, .slice none 0 0, .slice none 0 0, .int .i64 0] 74) := hwa
  unfold rcells7 LD.v at Hno ⊢
  go_enter Try.func64, Try.ntmps64
  go_wp2_with fail
  rw [← hwa]
  clear hwa
  refine tail_begin (S := fun w' => ∃ x : KB wa w.heap.size, w' = x.val) [] (by kernel_rfl) ?_
  refine tail_take [0, 1, 2] [] 2 (by kernel_rfl) (by kernel_rfl) (KB.mk' rfl) ?_
  show wpQuiet _ _ _ _ (_ :: _ :: _ :: []) _
  repeat (go_big_quiet_step (fail))
  refine wpQuiet_nil ?_
  refine tail_fix (i := 3) (fuel := 1) rfl (by kernel_rfl) (fun K hK => ?_)
  go_simp
  have Hst := Lib.hid (fun (W : World) (hE : Ext (fun q => q = w.heap.size + 1 + 1) wa W) => show W.heap[w.heap.size]? = wa.heap[w.heap.size]? from hE.block _ Hlt.out (by omega))
  refine hK _ _ (fun _ => KB.mk' (Hst.out _ (Ext.drew (ext7 _ _ _ _ _ _ _ _ _)))) ?_
  clear hK K
  refine tail_fix (i := 4) (fuel := 0) rfl (by kernel_rfl) (fun K hK => ?_)
  go_simp
  refine hK _ _ (fun _ => KB.mk' (Hst.out _ (Ext.drew (ext7 _ _ _ _ _ _ _ _ _)))) ?_
  clear hK K
  refine tail_done (by kernel_rfl) ?_
  go_wp2
  refine bodyPost_ret (v := .tuple #[.agg #[.slice A1 c.s.T.length c1, .slice A2 c.s.P.length c2, .slice A3 c.s.P.length c3, .int .i64 (most : Int), .slice Af c.fs.length cf, .slice c.res.a c.res.l.length c.res.c, .int .i64 c.broken], .int .i64 c.broken]) (by simp [results, Try.results64, go_sem, y0, y1, y2, y3, y4, y5, y6]) rfl ⟨_, rfl, Hno.out _ (Keep.of_ext2 Hka.out (S := fun q => q = w.heap.size + 1 + 1) (Ext.drew (ext7 _ _ _ _ _ _ _ _ _)) (fun q hq h => by omega))⟩
end Go.Proofs.Ytkeefajfndmpeaa
