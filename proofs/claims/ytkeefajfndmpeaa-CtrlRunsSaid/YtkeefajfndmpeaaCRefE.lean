/-
  The reference's State: Else.
-/
import Derived.Test.YtkeefajfndmpeaaCRefL
import Derived.Test.YtkeefajfndmpeaaRegion
namespace Go.Proofs.Ytkeefajfndmpeaa
open Go Go.RowKit

theorem frame_op (o : Int) (p r : LD) (l wa : Bool) (w : World) : Sem.run Try.prog (Instr.field 105 (.agg #[.int .i64 o, .slice p.a p.l.length p.c, .slice r.a r.l.length r.c, .bool l, .bool wa]) 0) w = .ok (.int .i64 o) w := by kernel_rfl

def RC.els (c : RC) : RC × Int :=
  if c.broken ≠ 0 then (c, c.broken)
  else match c.fs.getLast? with
    | none => (c, 16)
    | some f =>
      if f.op ≠ 4 then (c, 16)
      else if (c.s.shut f.r.l).2 ≠ 0 then ({ c with broken := (c.s.shut f.r.l).2 }, (c.s.shut f.r.l).2)
      else ({ c with s := (c.s.shut f.r.l).1.opened.push f.p.l, fs := c.fs.dropLast ++ [{ f with op := 5, live := f.was }] }, 0)

set_option maxHeartbeats 4000000 in
set_option maxRecDepth 100000 in
theorem refElse_calls {w0 : World} {G : Nat → Prop} {w : World} {v : Value} {c : RC} (h : RefC w0 G w v c) (hw0 : Keep w0 w) (hok : c.s.Ok) (hn : c.fs.length ≤ 1000000) (hT : c.s.T.length ≤ 900000) (hm : c.s.P.length ≤ 1000000) (hl : ∀ f ∈ c.fs, f.p.l.length ≤ 100000 ∧ f.r.l.length ≤ 100000) :
    Calls Try.prog 65 #[v] w fun e w' => ∃ v', e = .returned (.tuple #[v', .int .i64 c.els.2]) ∧ RefC w0 (Grow G w) w' v' c.els.1 ∧ Keep w w' := by
  have hR := h
  obtain ⟨A1, A2, A3, c1, c2, c3, most, Af, cf, rfl, hra, hfr⟩ := h
  have Hno := Lib.hid (fun (W : World) (hk : Keep w W) => show RefC w0 (Grow G w) W (.agg (rcells7 A1 A2 A3 c.s.T.length c.s.P.length c1 c2 c3 most Af c.fs.length cf c.res c.broken).toArray) c ∧ Keep w W from ⟨(hR.keep hk).mono (fun _ _ hg => .inl hg), hk⟩)
  by_cases hb : c.broken = 0
  rotate_left
  · have Hd := Lib.hid (show c.els = (c, c.broken) by unfold RC.els; rw [if_pos hb])
    have db : (c.broken != 0) = true := by simpa using hb
    rw [Hd.out]
    obtain ⟨wa, hwa⟩ : ∃ wa : World, wa = (w.alloc (.cells (rcells7 A1 A2 A3 c.s.T.length c.s.P.length c1 c2 c3 most Af c.fs.length cf c.res c.broken).toArray 74)).alloc (.cells rzero7.toArray 74) := ⟨_, rfl⟩
    obtain ⟨hka, ba, bb, hza⟩ := two_boxes7 w _ hwa
    have hblk : ∀ x : KB wa w.heap.size, ∀ i, x.val.cell? ⟨w.heap.size, i, none⟩ = (rcells7 A1 A2 A3 c.s.T.length c.s.P.length c1 c2 c3 most Af c.fs.length cf c.res c.broken)[i]? := fun x i => (World.cell?_of_block x.blk).trans (ba.cell i)
    have k0 := fun x : KB wa w.heap.size => (show x.val.cell? ⟨w.heap.size, 0, none⟩ = some (.slice A1 c.s.T.length c1) from hblk x 0)
    have k1 := fun x : KB wa w.heap.size => (show x.val.cell? ⟨w.heap.size, 1, none⟩ = some (.slice A2 c.s.P.length c2) from hblk x 1)
    have k2 := fun x : KB wa w.heap.size => (show x.val.cell? ⟨w.heap.size, 2, none⟩ = some (.slice A3 c.s.P.length c3) from hblk x 2)
    have k3 := fun x : KB wa w.heap.size => (show x.val.cell? ⟨w.heap.size, 3, none⟩ = some (.int .i64 (most : Int)) from hblk x 3)
    have k4 := fun x : KB wa w.heap.size => (show x.val.cell? ⟨w.heap.size, 4, none⟩ = some (.slice Af c.fs.length cf) from hblk x 4)
    have k5 := fun x : KB wa w.heap.size => (show x.val.cell? ⟨w.heap.size, 5, none⟩ = some (.slice c.res.a c.res.l.length c.res.c) from hblk x 5)
    have k6 := fun x : KB wa w.heap.size => (show x.val.cell? ⟨w.heap.size, 6, none⟩ = some (.int .i64 c.broken) from hblk x 6)
    have k9 := fun x : KB wa w.heap.size => x.lt ba.lt
    have y0 : wa.cell? ⟨w.heap.size + 1, 0, none⟩ = some (.slice none 0 0) := bb.cell 0
    have y1 : wa.cell? ⟨w.heap.size + 1, 1, none⟩ = some (.slice none 0 0) := bb.cell 1
    have y2 : wa.cell? ⟨w.heap.size + 1, 2, none⟩ = some (.slice none 0 0) := bb.cell 2
    have y3 : wa.cell? ⟨w.heap.size + 1, 3, none⟩ = some (.int .i64 0) := bb.cell 3
    have y4 : wa.cell? ⟨w.heap.size + 1, 4, none⟩ = some (.slice none 0 0) := bb.cell 4
    have y5 : wa.cell? ⟨w.heap.size + 1, 5, none⟩ = some (.slice none 0 0) := bb.cell 5
    have y6 : wa.cell? ⟨w.heap.size + 1, 6, none⟩ = some (.int .i64 0) := bb.cell 6
    have fy := bb.frozen
    have ly := bb.lt
    have Hka := Lib.hid hka
    have Hlt := Lib.hid ba.lt
    clear hb hra hfr hR hblk hka ba bb hza hok hn hT hm hl hw0
    unfold rcells7 LD.v at *
    go_enter Try.func65, Try.ntmps65
    go_wp2_with fail
    show Code.wp _ _ _ _ ((w.alloc (.cells #[.slice A1 c.s.T.length c1, .slice A2 c.s.P.length c2, .slice A3 c.s.P.length c3, .int .i64 (most : Int), .slice Af c.fs.length cf, .slice c.res.a c.res.l.length c.res.c, .int .i64 c.broken] 74)).alloc (.cells rzero7.toArray 74))
    rw [show (w.alloc (.cells #[.slice A1 c.s.T.length c1, .slice A2 c.s.P.length c2, .slice A3 c.s.P.length c3, .int .i64 (most : Int), .slice Af c.fs.length cf, .slice c.res.a c.res.l.length c.res.c, .int .i64 c.broken] 74)).alloc (.cells rzero7.toArray 74) = wa from hwa.symm]
    clear hwa
    refine tail_begin (S := fun w' => ∃ x : KB wa w.heap.size, w' = x.val) [] (by kernel_rfl) ?_
    refine tail_take [0, 1, 2] [] 2 (by kernel_rfl) (by kernel_rfl) (KB.mk' rfl) ?_
    show wpQuiet _ _ _ _ (_ :: _ :: _ :: []) _
    repeat (go_big_quiet_step (fail))
    refine wpQuiet_nil ?_
    refine tail_fix (i := 3) (fuel := 1) rfl (by kernel_rfl) (fun K hK => ?_)
    go_simp
    have Hst := Lib.hid (fun (W : World) (hE : Ext (fun q => q = w.heap.size + 1) wa W) => show W.heap[w.heap.size]? = wa.heap[w.heap.size]? from hE.block _ Hlt.out (by omega))
    refine hK _ _ (fun _ => KB.mk' (Hst.out _ (Ext.drew (ext7 _ _ _ _ _ _ _ _ _)))) ?_
    clear hK K
    refine tail_fix (i := 4) (fuel := 0) rfl (by kernel_rfl) (fun K hK => ?_)
    go_simp
    refine hK _ _ (fun _ => KB.mk' (Hst.out _ (Ext.drew (ext7 _ _ _ _ _ _ _ _ _)))) ?_
    clear hK K
    refine tail_done (by kernel_rfl) ?_
    go_wp2
    refine bodyPost_ret (v := .tuple #[.agg #[.slice A1 c.s.T.length c1, .slice A2 c.s.P.length c2, .slice A3 c.s.P.length c3, .int .i64 (most : Int), .slice Af c.fs.length cf, .slice c.res.a c.res.l.length c.res.c, .int .i64 c.broken], .int .i64 c.broken]) (by simp [results, Try.results65, go_sem, y0, y1, y2, y3, y4, y5, y6]) rfl ⟨_, rfl, Hno.out _ (Keep.of_ext2 Hka.out (S := fun q => q = w.heap.size + 1) (Ext.drew (ext7 _ _ _ _ _ _ _ _ _)) (fun q hq h => by omega))⟩
  have db : (c.broken != 0) = false := by simpa using hb
  by_cases hz : c.fs = []
  · have Hd := Lib.hid (show c.els = (c, 16) by unfold RC.els; rw [if_neg (by omega), hz]; rfl)
    have dz : ((c.fs.length : Int) == 0) = true := by rw [hz]; rfl
    rw [Hd.out]
    clear hb hra hfr hR hz
    unfold rcells7 LD.v at *
    go_enter Try.func65, Try.ntmps65
    go_wp2
    refine bodyPost_ret (v := .tuple #[.agg #[.slice A1 c.s.T.length c1, .slice A2 c.s.P.length c2, .slice A3 c.s.P.length c3, .int .i64 (most : Int), .slice Af c.fs.length cf, .slice c.res.a c.res.l.length c.res.c, .int .i64 c.broken], .int .i64 16]) (by simp [results, Try.results65, go_sem]) rfl ⟨_, rfl, Hno.out _ ?_⟩
    repeat first | exact ((Keep.refl _).alloc _).alloc _ | refine Keep.set1 ?_ _ _
  have hp : 0 < c.fs.length := List.length_pos_iff.2 hz
  obtain ⟨k, hk⟩ : ∃ k, k + 1 = c.fs.length := ⟨c.fs.length - 1, by omega⟩
  obtain ⟨f, hf⟩ : ∃ f, c.fs[k]'(by omega) = f := ⟨_, rfl⟩
  have hfm : f ∈ c.fs := by rw [← hf]; exact List.getElem_mem _
  have hfl : c.fs.getLast? = some f := by rw [List.getLast?_eq_getElem?, show c.fs.length - 1 = k by omega, List.getElem?_eq_getElem (by omega), hf]
  obtain ⟨s1, e1, hX⟩ : ∃ s1 e1, c.s.shut f.r.l = (s1, e1) := ⟨_, _, rfl⟩
  have Hd := Lib.hid (show c.els = (if f.op ≠ 4 then (c, 16) else if e1 ≠ 0 then ({ c with broken := e1 }, e1) else ({ c with s := s1.opened.push f.p.l, fs := c.fs.take k ++ [{ f with op := 5, live := f.was }] }, 0)) by
    unfold RC.els; rw [if_neg (by omega), hfl]; simp only [hX]; rw [List.dropLast_eq_take, show c.fs.length - 1 = k by omega])
  obtain ⟨cd, hcd⟩ : ∃ cd, c.els = cd := ⟨_, rfl⟩
  rw [hcd] at Hd ⊢
  clear hcd
  have dz : ((c.fs.length : Int) == 0) = false := by rw [beq_eq_false_iff_ne]; omega
  obtain ⟨wa, hwa⟩ : ∃ wa : World, wa = (w.alloc (.cells (rcells7 A1 A2 A3 c.s.T.length c.s.P.length c1 c2 c3 most Af c.fs.length cf c.res c.broken).toArray 74)).alloc (.cells rzero7.toArray 74) := ⟨_, rfl⟩
  obtain ⟨hka, ba, bb, hza⟩ := two_boxes7 w _ hwa
  have hra' : RefAt (fun k => G k ∧ k < w.heap.size) w _ c.s := hra.mono (fun k hk hg => ⟨hg, hk⟩)
  have hfr' : FrAt w0 (fun k => G k ∧ k < w.heap.size) w Af cf c.fs c.res := hfr.mono (fun k hk hg => ⟨hg, hk⟩)
  obtain ⟨his, g1, g2, g3⟩ := hra'.parts
  have Ht := Lib.hid (fun (wx : World) (hk' : Keep w wx) => refTop_calls (hR.keep hk') hk hn hf)
  have HS := Lib.hid (fun (wx : World) (hk' : Keep wa wx) => refShut_calls (his.keep (hka.trans hk')) g1 g2 g3 hok f.r.l f.r.a f.r.c ((hfr.ls f hfm).2.seg.keep (hw0.trans (hka.trans hk'))) (by omega) hm (by have := (hl f hfm).2; omega))
  rw [hX] at HS
  have HW := Lib.hid (fun (wx : World) (s5 : Stk) (B1 B2 B3 : Option Addr) (d1 d2 d3 mo : Nat) (hr : RefAt (fun k => (G k ∧ k < w.heap.size) ∨ wa.heap.size ≤ k) wx (.agg (rcells B1 B2 B3 s5.T.length s5.P.length d1 d2 d3 mo).toArray) s5) (hkx : Keep w wx) =>
    refWith_calls (w0 := w0) (c := { c with s := s5 }) (f := { f with op := 5, live := f.was }) hr ((hfr'.keep hkx).mono (fun k _ hg => .inl hg)) hk hn (hfr.ls f hfm))
  have Hfr := Lib.hid hfr'
  have Hra := Lib.hid hra'
  have Hls := Lib.hid (hfr.ls f hfm)
  have Hlf := Lib.hid (hl f hfm)
  have Hs1 := Lib.hid (show s1.T.length ≤ 900000 by have := (Stk.shut_le c.s f.r.l).1; rw [hX] at this; simp only [] at this; omega)
  have Hzz := Lib.hid hza
  have Hka := Lib.hid hka
  have Hk := Lib.hid hk
  have Hs2 := Lib.hid (show s1.P.length ≤ 1000000 by have := (Stk.shut_le c.s f.r.l).2; rw [hX] at this; simp only [] at this; omega)
  have Hw0 := Lib.hid hw0
  clear hra hfr hR hfr' hk hf hfm hfl hz hp hb hT hm hok hza hra' his g1 g2 g3 hl hX hw0
  unfold rcells7 LD.v at *
  by_cases ho : f.op = 4
  rotate_left
  · have do_ : (f.op != 4) = true := by simpa using ho
    have Hcd := Lib.hid (show cd = (c, 16) by rw [Hd.out, if_pos ho])
    have Hbb := Lib.hid bb
    clear ho Hd hn HW HS Hra Hfr ba bb Hls Hlf Hs1
    go_enter Try.func65, Try.ntmps65
    go_wp2_with fail
    refine (Ht.out _ (((Keep.refl _).alloc _).alloc _)).mono ?_
    rintro e w1 ⟨rfl, hk1⟩
    have hk1' : Keep wa w1 := by rw [hwa]; exact hk1
    have ba1 : Blk w1 w.heap.size 74 (rcells7 A1 A2 A3 c.s.T.length c.s.P.length c1 c2 c3 most Af c.fs.length cf c.res c.broken) := by
      have := ((Blk.new w 74 (rcells7 A1 A2 A3 c.s.T.length c.s.P.length c1 c2 c3 most Af c.fs.length cf c.res c.broken)).keep ((Keep.refl _).alloc _)).keep hk1
      exact this
    have bb1 := Hbb.out.keep hk1'
    clear hk1 hwa Ht
    have Hk1 := Lib.hid hk1'
    clear hk1'
    have x0 : w1.cell? ⟨w.heap.size, 0, none⟩ = some (.slice A1 c.s.T.length c1) := ba1.cell 0
    have x1 : w1.cell? ⟨w.heap.size, 1, none⟩ = some (.slice A2 c.s.P.length c2) := ba1.cell 1
    have x2 : w1.cell? ⟨w.heap.size, 2, none⟩ = some (.slice A3 c.s.P.length c3) := ba1.cell 2
    have x3 : w1.cell? ⟨w.heap.size, 3, none⟩ = some (.int .i64 (most : Int)) := ba1.cell 3
    have x4 : w1.cell? ⟨w.heap.size, 4, none⟩ = some (.slice Af c.fs.length cf) := ba1.cell 4
    have x5 : w1.cell? ⟨w.heap.size, 5, none⟩ = some (.slice c.res.a c.res.l.length c.res.c) := ba1.cell 5
    have x6 : w1.cell? ⟨w.heap.size, 6, none⟩ = some (.int .i64 c.broken) := ba1.cell 6
    have y0 : w1.cell? ⟨w.heap.size + 1, 0, none⟩ = some (.slice none 0 0) := bb1.cell 0
    have y1 : w1.cell? ⟨w.heap.size + 1, 1, none⟩ = some (.slice none 0 0) := bb1.cell 1
    have y2 : w1.cell? ⟨w.heap.size + 1, 2, none⟩ = some (.slice none 0 0) := bb1.cell 2
    have y3 : w1.cell? ⟨w.heap.size + 1, 3, none⟩ = some (.int .i64 0) := bb1.cell 3
    have y4 : w1.cell? ⟨w.heap.size + 1, 4, none⟩ = some (.slice none 0 0) := bb1.cell 4
    have y5 : w1.cell? ⟨w.heap.size + 1, 5, none⟩ = some (.slice none 0 0) := bb1.cell 5
    have y6 : w1.cell? ⟨w.heap.size + 1, 6, none⟩ = some (.int .i64 0) := bb1.cell 6
    have fy := bb1.frozen
    have ly := bb1.lt
    have lx := ba1.lt
    clear ba1 bb1 Hbb
    go_wp2
    rw [frame_op]
    go_wp2
    refine bodyPost_ret (v := .tuple #[.agg #[.slice A1 c.s.T.length c1, .slice A2 c.s.P.length c2, .slice A3 c.s.P.length c3, .int .i64 (most : Int), .slice Af c.fs.length cf, .slice c.res.a c.res.l.length c.res.c, .int .i64 c.broken], .int .i64 16]) (by simp [results, Try.results65, go_sem, y0, y1, y2, y3, y4, y5, y6]) rfl ⟨_, by rw [Hcd.out], ?_⟩
    rw [Hcd.out]
    exact Hno.out _ (Keep.of_ext2 (Hka.out.trans Hk1.out) (ext7 _ _ _ _ _ _ _ _ _) (fun q hq h => by omega))
  have do_ : (f.op != 4) = false := by simpa using ho
  have Ho := Lib.hid ho
  clear ho
  go_enter Try.func65, Try.ntmps65
  go_wp2_with fail
  refine (Ht.out _ (((Keep.refl _).alloc _).alloc _)).mono ?_
  rintro e wt ⟨rfl, hkt⟩
  have hkt' : Keep wa wt := by rw [hwa]; exact hkt
  clear hkt hwa
  have bat := ba.keep hkt'
  have x0 : wt.cell? ⟨w.heap.size, 0, none⟩ = some (.slice A1 c.s.T.length c1) := bat.cell 0
  have x1 : wt.cell? ⟨w.heap.size, 1, none⟩ = some (.slice A2 c.s.P.length c2) := bat.cell 1
  have x2 : wt.cell? ⟨w.heap.size, 2, none⟩ = some (.slice A3 c.s.P.length c3) := bat.cell 2
  have x3 : wt.cell? ⟨w.heap.size, 3, none⟩ = some (.int .i64 (most : Int)) := bat.cell 3
  have x4 : wt.cell? ⟨w.heap.size, 4, none⟩ = some (.slice Af c.fs.length cf) := bat.cell 4
  have x5 : wt.cell? ⟨w.heap.size, 5, none⟩ = some (.slice c.res.a c.res.l.length c.res.c) := bat.cell 5
  have x6 : wt.cell? ⟨w.heap.size, 6, none⟩ = some (.int .i64 c.broken) := bat.cell 6
  have lx := bat.lt
  have Hkt := Lib.hid hkt'
  clear hkt' bat
  go_wp2_with fail
  rw [frame_op]
  go_wp2_with fail
  refine (Ht.out _ (Hka.out.trans Hkt.out)).mono ?_
  rintro e w1 ⟨rfl, hk1⟩
  have hk1' : Keep wa w1 := Hkt.out.trans hk1
  clear x0 x1 x2 x3 x4 x5 x6 lx
  clear hk1 Ht
  have ba1 := ba.keep hk1'
  have x0 : w1.cell? ⟨w.heap.size, 0, none⟩ = some (.slice A1 c.s.T.length c1) := ba1.cell 0
  have x1 : w1.cell? ⟨w.heap.size, 1, none⟩ = some (.slice A2 c.s.P.length c2) := ba1.cell 1
  have x2 : w1.cell? ⟨w.heap.size, 2, none⟩ = some (.slice A3 c.s.P.length c3) := ba1.cell 2
  have x3 : w1.cell? ⟨w.heap.size, 3, none⟩ = some (.int .i64 (most : Int)) := ba1.cell 3
  have fx := ba1.frozen
  have lx := ba1.lt
  have Hk1 := Lib.hid hk1'
  clear hk1' ba1
  go_wp2_with fail
  refine (HS.out _ (Hk1.out.alloc _)).mono ?_
  rintro e w2 ⟨v2, rfl, hr2, hk2⟩
  have ba2 := (ba.keep (Hk1.out.alloc _)).keep hk2
  have bb2 := (bb.keep (Hk1.out.alloc _)).keep hk2
  have bf2 : Blk w2 w1.heap.size 105 (frC f) := (Blk.new w1 105 (frC f)).keep hk2
  have hk2' : Keep wa w2 := (Hk1.out.alloc _).trans hk2
  have hsz := Hk1.out.size
  have hzz := Hzz.out
  have hr2' : RefAt (fun k => (G k ∧ k < w.heap.size) ∨ w1.heap.size < k) w2 v2 s1 := hr2.mono (fun k _ hg => hg.imp id (fun h => by simp at h; omega))
  clear hr2 hk2 HS x0 x1 x2 x3 fx lx
  obtain ⟨B1, B2, B3, d1, d2, d3, mo, rfl, _⟩ := id hr2'
  go_upto_region 7 with fail
  obtain ⟨w3, hw3⟩ : ∃ w3 : World, w3 = w2.alloc (.cells #[.slice B1 s1.T.length d1, .slice B2 s1.P.length d2, .slice B3 s1.P.length d3, .int .i64 (mo : Int)] 31) := ⟨_, rfl⟩
  have hk23 : Keep w2 w3 := by rw [hw3]; exact (Keep.refl _).alloc _
  have bt3 : Blk w3 w2.heap.size 31 (rcells B1 B2 B3 s1.T.length s1.P.length d1 d2 d3 mo) := by rw [hw3]; exact Blk.new w2 _ (rcells B1 B2 B3 s1.T.length s1.P.length d1 d2 d3 mo)
  have ba3 := ba2.keep hk23
  have bb3 := bb2.keep hk23
  have bf3 := bf2.keep hk23
  have hk3 := hk2'.trans hk23
  have hr3 := hr2'.keep hk23
  have hm3 := hk2'.size
  rw [← hw3]
  clear hw3 hk23 ba2 bb2 bf2 hk2' hr2'
  by_cases he : e1 = 0
  rotate_left
  · have de : (e1 != 0) = true := by simpa using he
    have Hcd := Lib.hid (show cd = ({ c with broken := e1 }, e1) by rw [Hd.out, if_neg (fun h => h Ho.out), if_pos he])
    have x0 : w3.cell? ⟨w.heap.size, 0, none⟩ = some (.slice A1 c.s.T.length c1) := ba3.cell 0
    have x1 : w3.cell? ⟨w.heap.size, 1, none⟩ = some (.slice A2 c.s.P.length c2) := ba3.cell 1
    have x2 : w3.cell? ⟨w.heap.size, 2, none⟩ = some (.slice A3 c.s.P.length c3) := ba3.cell 2
    have x3 : w3.cell? ⟨w.heap.size, 3, none⟩ = some (.int .i64 (most : Int)) := ba3.cell 3
    have x4 : w3.cell? ⟨w.heap.size, 4, none⟩ = some (.slice Af c.fs.length cf) := ba3.cell 4
    have x5 : w3.cell? ⟨w.heap.size, 5, none⟩ = some (.slice c.res.a c.res.l.length c.res.c) := ba3.cell 5
    have x6 : w3.cell? ⟨w.heap.size, 6, none⟩ = some (.int .i64 c.broken) := ba3.cell 6
    have lx := ba3.lt
    have Hk3 := Lib.hid hk3
    have Hbb := Lib.hid bb3
    clear he hk3 ba3 bb3 bf3 bt3 hr3 ba bb hka Hd
    go_wp2_with fail
    refine (refBroken_calls A1 A2 A3 _ _ c1 c2 c3 most Af _ cf c.res _ e1).mono ?_
    rintro e w4 ⟨rfl, hk4⟩
    have bb4 := Hbb.out.keep hk4
    have y0 : w4.cell? ⟨w.heap.size + 1, 0, none⟩ = some (.slice none 0 0) := bb4.cell 0
    have y1 : w4.cell? ⟨w.heap.size + 1, 1, none⟩ = some (.slice none 0 0) := bb4.cell 1
    have y2 : w4.cell? ⟨w.heap.size + 1, 2, none⟩ = some (.slice none 0 0) := bb4.cell 2
    have y3 : w4.cell? ⟨w.heap.size + 1, 3, none⟩ = some (.int .i64 0) := bb4.cell 3
    have y4 : w4.cell? ⟨w.heap.size + 1, 4, none⟩ = some (.slice none 0 0) := bb4.cell 4
    have y5 : w4.cell? ⟨w.heap.size + 1, 5, none⟩ = some (.slice none 0 0) := bb4.cell 5
    have y6 : w4.cell? ⟨w.heap.size + 1, 6, none⟩ = some (.int .i64 0) := bb4.cell 6
    have fy := bb4.frozen
    have ly := bb4.lt
    have Hfin := Lib.hid (fun (W : World) (hE : Ext (fun q => q = w.heap.size + 1) w4 W) => show RefC w0 (Grow G w) W (.agg (rcells7 A1 A2 A3 c.s.T.length c.s.P.length c1 c2 c3 most Af c.fs.length cf c.res e1).toArray) { c with broken := e1 } ∧ Keep w W from by
      have hkW : Keep w W := Keep.of_ext2 (Hka.out.trans (Hk3.out.trans hk4)) hE (fun q hq h => by omega)
      exact ⟨⟨A1, A2, A3, c1, c2, c3, most, Af, cf, rfl, (Hra.out.keep hkW).mono (fun k _ hg => .inl hg.1), (Hfr.out.keep hkW).mono (fun k _ hg => .inl hg.1)⟩, hkW⟩)
    clear bb4 hk4 Hbb x0 x1 x2 x3 x4 x5 x6 lx
    unfold rcells7 LD.v at *
    go_wp2
    refine bodyPost_ret (v := .tuple #[.agg #[.slice A1 c.s.T.length c1, .slice A2 c.s.P.length c2, .slice A3 c.s.P.length c3, .int .i64 (most : Int), .slice Af c.fs.length cf, .slice c.res.a c.res.l.length c.res.c, .int .i64 e1], .int .i64 e1]) (by simp [results, Try.results65, go_sem, y0, y1, y2, y3, y4, y5, y6]) rfl ⟨_, by rw [Hcd.out], ?_⟩
    rw [Hcd.out]
    refine Hfin.out _ ?_
    refine Ext.setCell (Ext.setCell (Ext.setCell (Ext.setCell (Ext.setCell (Ext.setCell (Ext.setCell (Ext.refl _ _) ?_ _) ?_ _) ?_ _) ?_ _) ?_ _) ?_ _) ?_ _
    all_goals exact fun _ => rfl
  have de : (e1 != 0) = false := by simpa using he
  have hlw2' := bt3.lt
  have hlw3' := bf3.lt
  have HO := Lib.hid (fun (wx : World) (hk' : Keep w3 wx) => refOpen_calls (hr3.keep hk') (by have := Hs1.out; omega) (by have := Hs2.out; omega))
  have HP := Lib.hid (fun (G' : Nat → Prop) (wx : World) (v' : Value) (hr' : RefAt G' wx v' s1.opened) (hk' : Keep w3 wx) => refPush_calls hr' f.p.l f.p.a f.p.c ((Hls.out.1.seg.keep Hw0.out).keep (Hka.out.trans (hk3.trans hk'))) (by rw [(Stk.opened_len s1).1]; have := Hs1.out; have := Hlf.out.1; omega))
  have hd3 : Keep w3 w3.drew := (Keep.refl _).drew
  have t0 := fun y : KE (fun q => q = w.heap.size) w3 => y.cell (v := .slice B1 s1.T.length d1) (bt3.cell 0) (by show ¬ (w2.heap.size = w.heap.size); omega)
  have t1 := fun y : KE (fun q => q = w.heap.size) w3 => y.cell (v := .slice B2 s1.P.length d2) (bt3.cell 1) (by show ¬ (w2.heap.size = w.heap.size); omega)
  have t2 := fun y : KE (fun q => q = w.heap.size) w3 => y.cell (v := .slice B3 s1.P.length d3) (bt3.cell 2) (by show ¬ (w2.heap.size = w.heap.size); omega)
  have t3 := fun y : KE (fun q => q = w.heap.size) w3 => y.cell (v := .int .i64 (mo : Int)) (bt3.cell 3) (by show ¬ (w2.heap.size = w.heap.size); omega)
  have p1 := fun y : KE (fun q => q = w.heap.size) w3 => y.cell (v := .slice f.p.a f.p.l.length f.p.c) (bf3.cell 1) (by show ¬ (w1.heap.size = w.heap.size); omega)
  go_wp2_with fail
  refine region_begin (S := fun w' => ∃ y : KE (fun q => q = w.heap.size) w3, w' = y.val) (by kernel_rfl) ?_
  refine region_take [0, 2, 3, 4] [] 4 (by kernel_rfl) (by kernel_rfl) (KE.mk' (Ext.drew (Ext.refl _ _))) ?_
  show wpQuiet _ _ _ _ [_, _, _, _] _
  repeat (go_big_quiet_step (fail))
  refine wpQuiet_nil ?_
  clear t0 t1 t2 t3 p1
  refine region_fix (i := 1) (fuel := 3) rfl (by kernel_rfl) (fun K hK => ?_)
  go_simp
  refine (HO.out _ hd3).mono ?_
  rintro e w4 ⟨v4, rfl, hr4, hk4⟩
  have hk34 := hd3.trans hk4
  refine hK _ _ (KE.mk' (hk34.ext _)) ?_
  clear hK K HO
  refine region_fix (i := 5) (fuel := 2) rfl (by kernel_rfl) (fun K hK => ?_)
  go_simp
  refine (HP.out _ _ _ hr4 hk34).mono ?_
  rintro e w5 ⟨v5, rfl, hr5, hk5⟩
  have hk35 := hk34.trans hk5
  refine hK _ _ (KE.mk' (hk35.ext _)) ?_
  clear hK K HP
  obtain ⟨s5, hs5⟩ : ∃ s5, s1.opened.push f.p.l = s5 := ⟨_, rfl⟩
  rw [hs5] at hr5 Hd
  clear hs5
  have hz3 := hk3.size
  have hz4 : w3.heap.size ≤ w4.heap.size := hk34.size
  have hs1w := Hk1.out.size
  have hlw2 := hlw2'
  have hr5' : RefAt (fun k => (G k ∧ k < w.heap.size) ∨ w1.heap.size < k) w5 v5 s5 := hr5.mono (fun k _ hg => hg.elim (fun h => h.elim id (fun h => .inr (by have e : w3.drew.heap.size = w3.heap.size := rfl; omega))) (fun h => .inr (by omega)))
  obtain ⟨C1, C2, C3, e1', e2', e3', mo', rfl, _⟩ := id hr5'
  have ba5 := ba3.keep hk35
  have bb5 := bb3.keep hk35
  have bf5 := bf3.keep hk35
  have hk5' := hk3.trans hk35
  clear hr4 hk4 hk34 hk5 hr5 hr3 hk3 hd3 ba3 bb3 bf3 bt3
  have x0 : w5.cell? ⟨w.heap.size, 0, none⟩ = some (.slice A1 c.s.T.length c1) := ba5.cell 0
  have x1 : w5.cell? ⟨w.heap.size, 1, none⟩ = some (.slice A2 c.s.P.length c2) := ba5.cell 1
  have x2 : w5.cell? ⟨w.heap.size, 2, none⟩ = some (.slice A3 c.s.P.length c3) := ba5.cell 2
  have x3 : w5.cell? ⟨w.heap.size, 3, none⟩ = some (.int .i64 (most : Int)) := ba5.cell 3
  have fx := ba5.frozen
  have lx := ba5.lt
  refine region_fix (i := 6) (fuel := 1) rfl (by kernel_rfl) (fun K hK => ?_)
  go_simp
  refine hK _ _ (KE.mk' (hk35.ext _)) ?_
  clear hK K
  refine region_fix (i := 7) (fuel := 0) rfl (by kernel_rfl) (fun K hK => ?_)
  go_simp
  obtain ⟨w6, hw6⟩ : ∃ w6 : World, w6 = ((((w5.setCell ⟨w.heap.size, 0, none⟩ (.slice C1 s5.T.length e1')).setCell ⟨w.heap.size, 1, none⟩ (.slice C2 s5.P.length e2')).setCell ⟨w.heap.size, 2, none⟩ (.slice C3 s5.P.length e3')).setCell ⟨w.heap.size, 3, none⟩ (.int .i64 (mo' : Int))) := ⟨_, rfl⟩
  have hE6 : Ext (fun k => k = w.heap.size) w5 w6 := by
    rw [hw6]
    refine Ext.setCell (Ext.setCell (Ext.setCell (Ext.setCell (Ext.refl _ _) ?_ _) ?_ _) ?_ _) ?_ _
    all_goals exact fun _ => rfl
  have ba6 : Blk w6 w.heap.size 74 (rcells7 C1 C2 C3 s5.T.length s5.P.length e1' e2' e3' mo' Af c.fs.length cf c.res c.broken) := by rw [hw6]; exact (((ba5.set_ 0 _).set_ 1 _).set_ 2 _).set_ 3 _
  rw [← hw6]
  refine hK _ _ (KE.mk' ((hk35.ext _).trans hE6 (fun _ _ h => h))) ?_
  clear hK K
  refine region_done (by kernel_rfl) ?_
  have hz5 := hk35.size
  have bb6 := bb5.ext hE6 (by omega)
  have bf6 := bf5.ext hE6 (by have := Hk1.out.size; omega)
  have hk6 : Keep w w6 := Keep.of_ext2 (Hka.out.trans hk5') hE6 (fun q hq h => by omega)
  have hr6 := hr5'.ext hE6 (fun q hq h => by rcases hq with h1 | h1 <;> omega)
  have hz6 := hE6.size
  clear hw6 hE6 hk35 ba5 bb5 bf5 hr5' hk5' x0 x1 x2 x3 fx lx
  have p0 : w6.cell? ⟨w1.heap.size, 0, none⟩ = some (.int .i64 f.op) := bf6.cell 0
  have p1 : w6.cell? ⟨w1.heap.size, 1, none⟩ = some (.slice f.p.a f.p.l.length f.p.c) := bf6.cell 1
  have p2 : w6.cell? ⟨w1.heap.size, 2, none⟩ = some (.slice f.r.a f.r.l.length f.r.c) := bf6.cell 2
  have p3 : w6.cell? ⟨w1.heap.size, 3, none⟩ = some (.bool f.live) := bf6.cell 3
  have p4 : w6.cell? ⟨w1.heap.size, 4, none⟩ = some (.bool f.was) := bf6.cell 4
  have ff := bf6.frozen
  have lf := bf6.lt
  go_upto_region 12 with fail
  obtain ⟨w7, hw7⟩ : ∃ w7 : World, w7 = (w6.setCell ⟨w1.heap.size, 0, none⟩ (.int .i64 5)).setCell ⟨w1.heap.size, 3, none⟩ (.bool f.was) := ⟨_, rfl⟩
  have hE7 : Ext (fun k => k = w1.heap.size) w6 w7 := by
    rw [hw7]
    refine Ext.setCell (Ext.setCell (Ext.refl _ _) ?_ _) ?_ _
    all_goals exact fun _ => rfl
  have bf7 : Blk w7 w1.heap.size 105 (frC { f with op := 5, live := f.was }) := by rw [hw7]; exact (bf6.set_ 0 _).set_ 3 _
  have hs1w := Hk1.out.size
  have ba7 := ba6.ext hE7 (by omega)
  have bb7 := bb6.ext hE7 (by omega)
  have hk7 : Keep w w7 := Keep.of_ext2 hk6 hE7 (fun q hq h => by omega)
  have hr7 := hr6.ext hE7 (fun q hq h => by rcases hq with h1 | h1 <;> omega)
  have hz7 := hE7.size
  rw [← hw7]
  clear hw7 hE7 ba6 bb6 bf6 hk6 hr6 p0 p1 p2 p3 p4 ff lf
  have p0 : w7.cell? ⟨w1.heap.size, 0, none⟩ = some (.int .i64 5) := bf7.cell 0
  have p1 : w7.cell? ⟨w1.heap.size, 1, none⟩ = some (.slice f.p.a f.p.l.length f.p.c) := bf7.cell 1
  have p2 : w7.cell? ⟨w1.heap.size, 2, none⟩ = some (.slice f.r.a f.r.l.length f.r.c) := bf7.cell 2
  have p3 : w7.cell? ⟨w1.heap.size, 3, none⟩ = some (.bool f.was) := bf7.cell 3
  have p4 : w7.cell? ⟨w1.heap.size, 4, none⟩ = some (.bool f.was) := bf7.cell 4
  have x0 : w7.cell? ⟨w.heap.size, 0, none⟩ = some (.slice C1 s5.T.length e1') := ba7.cell 0
  have x1 : w7.cell? ⟨w.heap.size, 1, none⟩ = some (.slice C2 s5.P.length e2') := ba7.cell 1
  have x2 : w7.cell? ⟨w.heap.size, 2, none⟩ = some (.slice C3 s5.P.length e3') := ba7.cell 2
  have x3 : w7.cell? ⟨w.heap.size, 3, none⟩ = some (.int .i64 (mo' : Int)) := ba7.cell 3
  have x4 : w7.cell? ⟨w.heap.size, 4, none⟩ = some (.slice Af c.fs.length cf) := ba7.cell 4
  have x5 : w7.cell? ⟨w.heap.size, 5, none⟩ = some (.slice c.res.a c.res.l.length c.res.c) := ba7.cell 5
  have x6 : w7.cell? ⟨w.heap.size, 6, none⟩ = some (.int .i64 c.broken) := ba7.cell 6
  have lx := ba7.lt
  have lf := bf7.lt
  have Hc := Lib.hid (HW.out w7 s5 C1 C2 C3 e1' e2' e3' mo' (hr7.mono (fun k _ hg => hg.imp id (fun h => by omega))) hk7)
  have Hcd := Lib.hid (show cd = ({ c with s := s5, fs := c.fs.take k ++ [{ f with op := 5, live := f.was }] }, 0) by rw [Hd.out, if_neg (fun h => h Ho.out), if_neg (by omega)])
  obtain ⟨cx, hcx⟩ : ∃ cx : RC, ({ c with s := s5, fs := c.fs.take k ++ [{ f with op := 5, live := f.was }] } : RC) = cx := ⟨_, rfl⟩
  have hs7 : wa.heap.size ≤ w7.heap.size := by omega
  have hnw := Hzz.out
  clear hr7 ba7 bf7
  go_wp2_with fail
  refine Hc.out.mono ?_
  rintro e w8 ⟨v8, rfl, hR8, hk8⟩
  have bb8 := bb7.keep hk8
  rw [hcx] at Hcd
  have hR8' : RefC w0 (fun k => (G k ∧ k < w.heap.size) ∨ wa.heap.size ≤ k) w8 v8 cx := by
    rw [← hcx]
    exact hR8.mono (fun k _ hg => hg.elim id (fun h => .inr (by omega)))
  clear hR8 hcx
  have Hfin := Lib.hid (fun (W : World) (hE : Ext (fun q => q = w.heap.size + 1) w8 W) => show RefC w0 (Grow G w) W v8 cx ∧ Keep w W from
    ⟨(hR8'.ext hE (fun q hq h => by rcases hq with h1 | h1 <;> omega)).mono (fun k _ hg => hg.elim (fun h => .inl h.1) (fun h => .inr (by omega))), Keep.of_ext2 (hk7.trans hk8) hE (fun q hq h => by omega)⟩)
  obtain ⟨D1, D2, D3, i1, i2, i3, mq, Ag, cg, rfl, _, _⟩ := id hR8'
  clear hR8'
  have y0 : w8.cell? ⟨w.heap.size + 1, 0, none⟩ = some (.slice none 0 0) := bb8.cell 0
  have y1 : w8.cell? ⟨w.heap.size + 1, 1, none⟩ = some (.slice none 0 0) := bb8.cell 1
  have y2 : w8.cell? ⟨w.heap.size + 1, 2, none⟩ = some (.slice none 0 0) := bb8.cell 2
  have y3 : w8.cell? ⟨w.heap.size + 1, 3, none⟩ = some (.int .i64 0) := bb8.cell 3
  have y4 : w8.cell? ⟨w.heap.size + 1, 4, none⟩ = some (.slice none 0 0) := bb8.cell 4
  have y5 : w8.cell? ⟨w.heap.size + 1, 5, none⟩ = some (.slice none 0 0) := bb8.cell 5
  have y6 : w8.cell? ⟨w.heap.size + 1, 6, none⟩ = some (.int .i64 0) := bb8.cell 6
  have fy := bb8.frozen
  have ly := bb8.lt
  clear bb8 bb7 p0 p1 p2 p3 p4 x0 x1 x2 x3 x4 x5 x6 lx lf hk7 hk8 Hc HW
  unfold rcells7 LD.v at *
  go_wp2
  refine bodyPost_ret (v := .tuple #[.agg #[.slice D1 cx.s.T.length i1, .slice D2 cx.s.P.length i2, .slice D3 cx.s.P.length i3, .int .i64 (mq : Int), .slice Ag cx.fs.length cg, .slice cx.res.a cx.res.l.length cx.res.c, .int .i64 cx.broken], .int .i64 0]) (by simp [results, Try.results65, go_sem, y0, y1, y2, y3, y4, y5, y6]) rfl ⟨_, by rw [Hcd.out], ?_⟩
  rw [Hcd.out]
  exact Hfin.out _ (ext7 _ _ _ _ _ _ _ _ _)
end Go.Proofs.Ytkeefajfndmpeaa
