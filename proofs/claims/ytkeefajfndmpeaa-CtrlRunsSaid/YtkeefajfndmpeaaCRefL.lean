/-
  The reference's State: Leave.
-/
import Derived.Test.YtkeefajfndmpeaaCRefD
import Derived.Test.YtkeefajfndmpeaaCSame
namespace Go.Proofs.Ytkeefajfndmpeaa
open Go Go.RowKit

theorem RefAt.parts {G : Nat → Prop} {w : World} {A1 A2 A3 : Option Addr} {c1 c2 c3 most : Nat} {s : Stk} (h : RefAt G w (.agg (rcells A1 A2 A3 s.T.length s.P.length c1 c2 c3 most).toArray) s) :
    RefIs w A1 A2 A3 c1 c2 c3 most s ∧ InG G A1 s.T.length ∧ InG G A2 s.P.length ∧ InG G A3 s.P.length := by
  obtain ⟨B1, B2, B3, d1, d2, d3, mo, e, h1, h2, h3, h4, h5, h6, h7, h8, g1, g2, g3⟩ := h
  simp [rcells] at e
  obtain ⟨⟨rfl, rfl⟩, ⟨rfl, rfl⟩, ⟨rfl, rfl⟩, e4⟩ := e
  obtain rfl : most = mo := by omega
  exact ⟨⟨h1, h2, h3, h4, h5, h6, h7, h8⟩, g1, g2, g3⟩

theorem ext7 (w : World) (n : Nat) (a b c d e f g : Value) : Ext (fun q => q = n) w (((((((w.setCell ⟨n, 0, none⟩ a).setCell ⟨n, 1, none⟩ b).setCell ⟨n, 2, none⟩ c).setCell ⟨n, 3, none⟩ d).setCell ⟨n, 4, none⟩ e).setCell ⟨n, 5, none⟩ f).setCell ⟨n, 6, none⟩ g) := by
  refine Ext.setCell (Ext.setCell (Ext.setCell (Ext.setCell (Ext.setCell (Ext.setCell (Ext.setCell (Ext.refl _ _) ?_ _) ?_ _) ?_ _) ?_ _) ?_ _) ?_ _) ?_ _
  all_goals exact fun _ => rfl

def RC.leave (c : RC) : RC × Int :=
  if c.broken ≠ 0 then (c, c.broken)
  else match c.fs.getLast? with
    | none => (c, 16)
    | some f =>
      if (c.s.shut f.r.l).2 ≠ 0 then ({ c with broken := (c.s.shut f.r.l).2 }, (c.s.shut f.r.l).2)
      else if f.op = 4 ∧ f.p.l ≠ f.r.l then ({ c with s := (c.s.shut f.r.l).1, broken := 12 }, 12)
      else ({ c with s := (c.s.shut f.r.l).1.push f.r.l, fs := c.fs.dropLast }, 0)

set_option maxHeartbeats 4000000 in
set_option maxRecDepth 100000 in
theorem refLeave_calls {w0 : World} {G : Nat → Prop} {w : World} {v : Value} {c : RC} (h : RefC w0 G w v c) (hw0 : Keep w0 w) (hok : c.s.Ok) (hn : c.fs.length ≤ 1000000) (hT : c.s.T.length ≤ 900000) (hm : c.s.P.length ≤ 1000000) (hl : ∀ f ∈ c.fs, f.p.l.length ≤ 100000 ∧ f.r.l.length ≤ 100000) :
    Calls Try.prog 66 #[v] w fun e w' => ∃ v', e = .returned (.tuple #[v', .int .i64 c.leave.2]) ∧ RefC w0 (Grow G w) w' v' c.leave.1 ∧ Keep w w' := by
  have hR := h
  obtain ⟨A1, A2, A3, c1, c2, c3, most, Af, cf, rfl, hra, hfr⟩ := h
  have Hno := Lib.hid (fun (W : World) (hk : Keep w W) => show RefC w0 (Grow G w) W (.agg (rcells7 A1 A2 A3 c.s.T.length c.s.P.length c1 c2 c3 most Af c.fs.length cf c.res c.broken).toArray) c ∧ Keep w W from ⟨(hR.keep hk).mono (fun _ _ hg => .inl hg), hk⟩)
  by_cases hb : c.broken = 0
  rotate_left
  · have Hd := Lib.hid (show c.leave = (c, c.broken) by unfold RC.leave; rw [if_pos hb])
    have db : (c.broken != 0) = true := by simpa using hb
    rw [Hd.out]
    obtain ⟨wa, hwa⟩ : ∃ wa : World, wa = (w.alloc (.cells (rcells7 A1 A2 A3 c.s.T.length c.s.P.length c1 c2 c3 most Af c.fs.length cf c.res c.broken).toArray 74)).alloc (.cells rzero7.toArray 74) := ⟨_, rfl⟩
    obtain ⟨hka, ba, bb, hza⟩ := two_boxes7 w _ hwa
    have hblk : ∀ x : KB wa w.heap.size, ∀ i, x.val.cell? ⟨w.heap.size, i, none⟩ = (rcells7 A1 A2 A3 c.s.T.length c.s.P.length c1 c2 c3 most Af c.fs.length cf c.res c.broken)[i]? := fun x i => (World.cell?_of_block x.blk).trans (ba.cell i)
    have k0 := fun x : KB wa w.heap.size => (show x.val.cell? ⟨w.heap.size, 0, none⟩ = some (.slice A1 c.s.T.length c1) from hblk x 0)
    have k1 := fun x : KB wa w.heap.size => (show x.val.cell? ⟨w.heap.size, 1, none⟩ = some (.slice A2 c.s.P.length c2) from hblk x 1)
    have k2 := fun x : KB wa w.heap.size => (show x.val.cell? ⟨w.heap.size, 2, none⟩ = some (.slice A3 c.s.P.length c3) from hblk x 2)
    have k3 := fun x : KB wa w.heap.size => (show x.val.cell? ⟨w.heap.size, 3, none⟩ = some (.int .i64 (most : Int)) from hblk x 3)
    have k4 := fun x : KB wa w.heap.size => (show x.val.cell? ⟨w.heap.size, 4, none⟩ = some (.slice Af c.fs.length cf) from hblk x 4)
    have k5 := fun x : KB wa w.heap.size => (show x.val.cell? ⟨w.heap.size, 5, none⟩ = some (.slice c.res.a c.res.l.length c.res.c) from hblk x 5)
    have k6 := fun x : KB wa w.heap.size => (show x.val.cell? ⟨w.heap.size, 6, none⟩ = some (.int .i64 c.broken) from hblk x 6)
    have k9 := fun x : KB wa w.heap.size => x.lt ba.lt
    have y0 : wa.cell? ⟨w.heap.size + 1, 0, none⟩ = some (.slice none 0 0) := bb.cell 0
    have y1 : wa.cell? ⟨w.heap.size + 1, 1, none⟩ = some (.slice none 0 0) := bb.cell 1
    have y2 : wa.cell? ⟨w.heap.size + 1, 2, none⟩ = some (.slice none 0 0) := bb.cell 2
    have y3 : wa.cell? ⟨w.heap.size + 1, 3, none⟩ = some (.int .i64 0) := bb.cell 3
    have y4 : wa.cell? ⟨w.heap.size + 1, 4, none⟩ = some (.slice none 0 0) := bb.cell 4
    have y5 : wa.cell? ⟨w.heap.size + 1, 5, none⟩ = some (.slice none 0 0) := bb.cell 5
    have y6 : wa.cell? ⟨w.heap.size + 1, 6, none⟩ = some (.int .i64 0) := bb.cell 6
    have fy := bb.frozen
    have ly := bb.lt
    have Hka := Lib.hid hka
    have Hlt := Lib.hid ba.lt
    clear hb hra hfr hR hblk hka ba bb hza hok hn hT hm hl hw0
    unfold rcells7 LD.v at *
    go_enter Try.func66, Try.ntmps66
    go_wp2_with fail
    show Code.wp _ _ _ _ ((w.alloc (.cells #[.slice A1 c.s.T.length c1, .slice A2 c.s.P.length c2, .slice A3 c.s.P.length c3, .int .i64 (most : Int), .slice Af c.fs.length cf, .slice c.res.a c.res.l.length c.res.c, .int .i64 c.broken] 74)).alloc (.cells rzero7.toArray 74))
    rw [show (w.alloc (.cells #[.slice A1 c.s.T.length c1, .slice A2 c.s.P.length c2, .slice A3 c.s.P.length c3, .int .i64 (most : Int), .slice Af c.fs.length cf, .slice c.res.a c.res.l.length c.res.c, .int .i64 c.broken] 74)).alloc (.cells rzero7.toArray 74) = wa from hwa.symm]
    clear hwa
    refine tail_begin (S := fun w' => ∃ x : KB wa w.heap.size, w' = x.val) [] (by kernel_rfl) ?_
    refine tail_take [0, 1, 2] [] 2 (by kernel_rfl) (by kernel_rfl) (KB.mk' rfl) ?_
    show wpQuiet _ _ _ _ (_ :: _ :: _ :: []) _
    repeat (go_big_quiet_step (fail))
    refine wpQuiet_nil ?_
    refine tail_fix (i := 3) (fuel := 1) rfl (by kernel_rfl) (fun K hK => ?_)
    go_simp
    have Hst := Lib.hid (fun (W : World) (hE : Ext (fun q => q = w.heap.size + 1) wa W) => show W.heap[w.heap.size]? = wa.heap[w.heap.size]? from hE.block _ Hlt.out (by omega))
    refine hK _ _ (fun _ => KB.mk' (Hst.out _ (Ext.drew (ext7 _ _ _ _ _ _ _ _ _)))) ?_
    clear hK K
    refine tail_fix (i := 4) (fuel := 0) rfl (by kernel_rfl) (fun K hK => ?_)
    go_simp
    refine hK _ _ (fun _ => KB.mk' (Hst.out _ (Ext.drew (ext7 _ _ _ _ _ _ _ _ _)))) ?_
    clear hK K
    refine tail_done (by kernel_rfl) ?_
    go_wp2
    refine bodyPost_ret (v := .tuple #[.agg #[.slice A1 c.s.T.length c1, .slice A2 c.s.P.length c2, .slice A3 c.s.P.length c3, .int .i64 (most : Int), .slice Af c.fs.length cf, .slice c.res.a c.res.l.length c.res.c, .int .i64 c.broken], .int .i64 c.broken]) (by simp [results, Try.results66, go_sem, y0, y1, y2, y3, y4, y5, y6]) rfl ⟨_, rfl, Hno.out _ (Keep.of_ext2 Hka.out (S := fun q => q = w.heap.size + 1) (Ext.drew (ext7 _ _ _ _ _ _ _ _ _)) (fun q hq h => by omega))⟩
  have db : (c.broken != 0) = false := by simpa using hb
  by_cases hz : c.fs = []
  · have Hd := Lib.hid (show c.leave = (c, 16) by unfold RC.leave; rw [if_neg (by omega), hz]; rfl)
    have dz : ((c.fs.length : Int) == 0) = true := by rw [hz]; rfl
    rw [Hd.out]
    clear hb hra hfr hR hz
    unfold rcells7 LD.v at *
    go_enter Try.func66, Try.ntmps66
    go_wp2
    refine bodyPost_ret (v := .tuple #[.agg #[.slice A1 c.s.T.length c1, .slice A2 c.s.P.length c2, .slice A3 c.s.P.length c3, .int .i64 (most : Int), .slice Af c.fs.length cf, .slice c.res.a c.res.l.length c.res.c, .int .i64 c.broken], .int .i64 16]) (by simp [results, Try.results66, go_sem]) rfl ⟨_, rfl, Hno.out _ ?_⟩
    repeat first | exact ((Keep.refl _).alloc _).alloc _ | refine Keep.set1 ?_ _ _
  have hp : 0 < c.fs.length := List.length_pos_iff.2 hz
  obtain ⟨k, hk⟩ : ∃ k, k + 1 = c.fs.length := ⟨c.fs.length - 1, by omega⟩
  obtain ⟨f, hf⟩ : ∃ f, c.fs[k]'(by omega) = f := ⟨_, rfl⟩
  have hfm : f ∈ c.fs := by rw [← hf]; exact List.getElem_mem _
  have hfl : c.fs.getLast? = some f := by rw [List.getLast?_eq_getElem?, show c.fs.length - 1 = k by omega, List.getElem?_eq_getElem (by omega), hf]
  obtain ⟨s1, e1, hX⟩ : ∃ s1 e1, c.s.shut f.r.l = (s1, e1) := ⟨_, _, rfl⟩
  have Hd := Lib.hid (show c.leave = (if e1 ≠ 0 then ({ c with broken := e1 }, e1) else if f.op = 4 ∧ f.p.l ≠ f.r.l then ({ c with s := s1, broken := 12 }, 12) else ({ c with s := s1.push f.r.l, fs := c.fs.take k }, 0)) by
    unfold RC.leave; rw [if_neg (by omega), hfl]; simp only [hX]; rw [List.dropLast_eq_take, show c.fs.length - 1 = k by omega])
  obtain ⟨cd, hcd⟩ : ∃ cd, c.leave = cd := ⟨_, rfl⟩
  rw [hcd] at Hd ⊢
  clear hcd
  have dz : ((c.fs.length : Int) == 0) = false := by rw [beq_eq_false_iff_ne]; omega
  obtain ⟨wa, hwa⟩ : ∃ wa : World, wa = (w.alloc (.cells (rcells7 A1 A2 A3 c.s.T.length c.s.P.length c1 c2 c3 most Af c.fs.length cf c.res c.broken).toArray 74)).alloc (.cells rzero7.toArray 74) := ⟨_, rfl⟩
  obtain ⟨hka, ba, bb, hza⟩ := two_boxes7 w _ hwa
  have hra' : RefAt (fun k => G k ∧ k < w.heap.size) w _ c.s := hra.mono (fun k hk hg => ⟨hg, hk⟩)
  have hfr' : FrAt w0 (fun k => G k ∧ k < w.heap.size) w Af cf c.fs c.res := hfr.mono (fun k hk hg => ⟨hg, hk⟩)
  obtain ⟨his, g1, g2, g3⟩ := hra'.parts
  have Ht := Lib.hid (fun (wx : World) (hk' : Keep w wx) => refTop_calls (hR.keep hk') hk hn hf)
  have HS := Lib.hid (fun (wx : World) (hk' : Keep wa wx) => refShut_calls (his.keep (hka.trans hk')) g1 g2 g3 hok f.r.l f.r.a f.r.c ((hfr.ls f hfm).2.seg.keep (hw0.trans (hka.trans hk'))) (by omega) hm (by have := (hl f hfm).2; omega))
  rw [hX] at HS
  have Hfr := Lib.hid hfr'
  have Hra := Lib.hid hra'
  have Hls := Lib.hid (hfr.ls f hfm)
  have Hlf := Lib.hid (hl f hfm)
  have Hs1 := Lib.hid (show s1.T.length ≤ 900000 by have := (Stk.shut_le c.s f.r.l).1; rw [hX] at this; simp only [] at this; omega)
  have Hzz := Lib.hid hza
  have Hka := Lib.hid hka
  have Hk := Lib.hid hk
  have Hw0 := Lib.hid hw0
  clear hra hfr hR hfr' hk hf hfm hfl hz hp hb hT hm hok hza hra' his g1 g2 g3 hl hX hw0
  unfold rcells7 LD.v at *
  go_enter Try.func66, Try.ntmps66
  go_wp2_with fail
  refine (Ht.out _ (((Keep.refl _).alloc _).alloc _)).mono ?_
  rintro e w1 ⟨rfl, hk1⟩
  have hk1' : Keep wa w1 := by rw [hwa]; exact hk1
  clear hk1 hwa Ht
  have ba1 := ba.keep hk1'
  have x0 : w1.cell? ⟨w.heap.size, 0, none⟩ = some (.slice A1 c.s.T.length c1) := ba1.cell 0
  have x1 : w1.cell? ⟨w.heap.size, 1, none⟩ = some (.slice A2 c.s.P.length c2) := ba1.cell 1
  have x2 : w1.cell? ⟨w.heap.size, 2, none⟩ = some (.slice A3 c.s.P.length c3) := ba1.cell 2
  have x3 : w1.cell? ⟨w.heap.size, 3, none⟩ = some (.int .i64 (most : Int)) := ba1.cell 3
  have fx := ba1.frozen
  have lx := ba1.lt
  have Hk1 := Lib.hid hk1'
  clear hk1' ba1
  go_wp2_with fail
  refine (HS.out _ (Hk1.out.alloc _)).mono ?_
  rintro e w2 ⟨v2, rfl, hr2, hk2⟩
  have ba2 := (ba.keep (Hk1.out.alloc _)).keep hk2
  have bb2 := (bb.keep (Hk1.out.alloc _)).keep hk2
  have bf2 : Blk w2 w1.heap.size 105 (frC f) := (Blk.new w1 105 (frC f)).keep hk2
  have hk2' : Keep wa w2 := (Hk1.out.alloc _).trans hk2
  have hsz := Hk1.out.size
  have hzz := Hzz.out
  have hr2' : RefAt (fun k => (G k ∧ k < w.heap.size) ∨ wa.heap.size ≤ k) w2 v2 s1 := hr2.mono (fun k _ hg => hg.imp id (fun h => by simp at h; omega))
  clear hr2 hk2 HS x0 x1 x2 x3 fx lx
  obtain ⟨B1, B2, B3, d1, d2, d3, mo, rfl, _⟩ := id hr2'
  go_upto_region 7 with fail
  obtain ⟨w3, hw3⟩ : ∃ w3 : World, w3 = w2.alloc (.cells #[.slice B1 s1.T.length d1, .slice B2 s1.P.length d2, .slice B3 s1.P.length d3, .int .i64 (mo : Int)] 31) := ⟨_, rfl⟩
  have hk23 : Keep w2 w3 := by rw [hw3]; exact (Keep.refl _).alloc _
  have bt3 : Blk w3 w2.heap.size 31 (rcells B1 B2 B3 s1.T.length s1.P.length d1 d2 d3 mo) := by rw [hw3]; exact Blk.new w2 _ (rcells B1 B2 B3 s1.T.length s1.P.length d1 d2 d3 mo)
  have ba3 := ba2.keep hk23
  have bb3 := bb2.keep hk23
  have bf3 := bf2.keep hk23
  have hk3 := hk2'.trans hk23
  have hr3 := hr2'.keep hk23
  have hm3 := hk2'.size
  rw [← hw3]
  clear hw3 hk23 ba2 bb2 bf2 hk2' hr2'
  by_cases he : e1 = 0
  rotate_left
  · have de : (e1 != 0) = true := by simpa using he
    have Hcd := Lib.hid (show cd = ({ c with broken := e1 }, e1) by rw [Hd.out, if_pos he])
    have x0 : w3.cell? ⟨w.heap.size, 0, none⟩ = some (.slice A1 c.s.T.length c1) := ba3.cell 0
    have x1 : w3.cell? ⟨w.heap.size, 1, none⟩ = some (.slice A2 c.s.P.length c2) := ba3.cell 1
    have x2 : w3.cell? ⟨w.heap.size, 2, none⟩ = some (.slice A3 c.s.P.length c3) := ba3.cell 2
    have x3 : w3.cell? ⟨w.heap.size, 3, none⟩ = some (.int .i64 (most : Int)) := ba3.cell 3
    have x4 : w3.cell? ⟨w.heap.size, 4, none⟩ = some (.slice Af c.fs.length cf) := ba3.cell 4
    have x5 : w3.cell? ⟨w.heap.size, 5, none⟩ = some (.slice c.res.a c.res.l.length c.res.c) := ba3.cell 5
    have x6 : w3.cell? ⟨w.heap.size, 6, none⟩ = some (.int .i64 c.broken) := ba3.cell 6
    have lx := ba3.lt
    have Hk3 := Lib.hid hk3
    have Hbb := Lib.hid bb3
    clear he hk3 ba3 bb3 bf3 bt3 hr3 ba bb hka Hd
    go_wp2_with fail
    refine (refBroken_calls A1 A2 A3 _ _ c1 c2 c3 most Af _ cf c.res _ e1).mono ?_
    rintro e w4 ⟨rfl, hk4⟩
    have bb4 := Hbb.out.keep hk4
    have y0 : w4.cell? ⟨w.heap.size + 1, 0, none⟩ = some (.slice none 0 0) := bb4.cell 0
    have y1 : w4.cell? ⟨w.heap.size + 1, 1, none⟩ = some (.slice none 0 0) := bb4.cell 1
    have y2 : w4.cell? ⟨w.heap.size + 1, 2, none⟩ = some (.slice none 0 0) := bb4.cell 2
    have y3 : w4.cell? ⟨w.heap.size + 1, 3, none⟩ = some (.int .i64 0) := bb4.cell 3
    have y4 : w4.cell? ⟨w.heap.size + 1, 4, none⟩ = some (.slice none 0 0) := bb4.cell 4
    have y5 : w4.cell? ⟨w.heap.size + 1, 5, none⟩ = some (.slice none 0 0) := bb4.cell 5
    have y6 : w4.cell? ⟨w.heap.size + 1, 6, none⟩ = some (.int .i64 0) := bb4.cell 6
    have fy := bb4.frozen
    have ly := bb4.lt
    have Hfin := Lib.hid (fun (W : World) (hE : Ext (fun q => q = w.heap.size + 1) w4 W) => show RefC w0 (Grow G w) W (.agg (rcells7 A1 A2 A3 c.s.T.length c.s.P.length c1 c2 c3 most Af c.fs.length cf c.res e1).toArray) { c with broken := e1 } ∧ Keep w W from by
      have hkW : Keep w W := Keep.of_ext2 (Hka.out.trans (Hk3.out.trans hk4)) hE (fun q hq h => by omega)
      exact ⟨⟨A1, A2, A3, c1, c2, c3, most, Af, cf, rfl, (Hra.out.keep hkW).mono (fun k _ hg => .inl hg.1), (Hfr.out.keep hkW).mono (fun k _ hg => .inl hg.1)⟩, hkW⟩)
    clear bb4 hk4 Hbb x0 x1 x2 x3 x4 x5 x6 lx
    unfold rcells7 LD.v at *
    go_wp2
    refine bodyPost_ret (v := .tuple #[.agg #[.slice A1 c.s.T.length c1, .slice A2 c.s.P.length c2, .slice A3 c.s.P.length c3, .int .i64 (most : Int), .slice Af c.fs.length cf, .slice c.res.a c.res.l.length c.res.c, .int .i64 e1], .int .i64 e1]) (by simp [results, Try.results66, go_sem, y0, y1, y2, y3, y4, y5, y6]) rfl ⟨_, by rw [Hcd.out], ?_⟩
    rw [Hcd.out]
    refine Hfin.out _ ?_
    refine Ext.setCell (Ext.setCell (Ext.setCell (Ext.setCell (Ext.setCell (Ext.setCell (Ext.setCell (Ext.refl _ _) ?_ _) ?_ _) ?_ _) ?_ _) ?_ _) ?_ _) ?_ _
    all_goals exact fun _ => rfl
  have de : (e1 != 0) = false := by simpa using he
  have x0 : w3.cell? ⟨w.heap.size, 0, none⟩ = some (.slice A1 c.s.T.length c1) := ba3.cell 0
  have x1 : w3.cell? ⟨w.heap.size, 1, none⟩ = some (.slice A2 c.s.P.length c2) := ba3.cell 1
  have x2 : w3.cell? ⟨w.heap.size, 2, none⟩ = some (.slice A3 c.s.P.length c3) := ba3.cell 2
  have x3 : w3.cell? ⟨w.heap.size, 3, none⟩ = some (.int .i64 (most : Int)) := ba3.cell 3
  have t0 : w3.cell? ⟨w2.heap.size, 0, none⟩ = some (.slice B1 s1.T.length d1) := bt3.cell 0
  have t1 : w3.cell? ⟨w2.heap.size, 1, none⟩ = some (.slice B2 s1.P.length d2) := bt3.cell 1
  have t2 : w3.cell? ⟨w2.heap.size, 2, none⟩ = some (.slice B3 s1.P.length d3) := bt3.cell 2
  have t3 : w3.cell? ⟨w2.heap.size, 3, none⟩ = some (.int .i64 (mo : Int)) := bt3.cell 3
  have fx := ba3.frozen
  have lx := ba3.lt
  have lt := bt3.lt
  go_upto_region 10 with fail
  obtain ⟨w4, hw4⟩ : ∃ w4 : World, w4 = ((((w3.setCell ⟨w.heap.size, 0, none⟩ (.slice B1 s1.T.length d1)).setCell ⟨w.heap.size, 1, none⟩ (.slice B2 s1.P.length d2)).setCell ⟨w.heap.size, 2, none⟩ (.slice B3 s1.P.length d3)).setCell ⟨w.heap.size, 3, none⟩ (.int .i64 (mo : Int))) := ⟨_, rfl⟩
  have hE4 : Ext (fun k => k = w.heap.size) w3 w4 := by
    rw [hw4]
    refine Ext.setCell (Ext.setCell (Ext.setCell (Ext.setCell (Ext.refl _ _) ?_ _) ?_ _) ?_ _) ?_ _
    all_goals exact fun _ => rfl
  have ba4 : Blk w4 w.heap.size 74 (rcells7 B1 B2 B3 s1.T.length s1.P.length d1 d2 d3 mo Af c.fs.length cf c.res c.broken) := by rw [hw4]; exact (((ba3.set_ 0 _).set_ 1 _).set_ 2 _).set_ 3 _
  have hlw := hk3.size
  have bb4 := bb3.ext hE4 (by omega)
  have bf4 := bf3.ext hE4 (by omega)
  have hsb := hm3
  have bt4 := bt3.ext hE4 (by omega)
  have hk4 : Keep w w4 := Keep.of_ext2 (Hka.out.trans hk3) hE4 (fun q hq h => by omega)
  have hr4 := hr3.ext hE4 (fun q hq h => by rcases hq with h1 | h1 <;> omega)
  have hs4 : wa.heap.size ≤ w4.heap.size := Nat.le_trans hlw hE4.size
  rw [← hw4]
  clear hw4 hE4 ba3 bb3 bf3 bt3 hk3 hr3 x0 x1 x2 x3 t0 t1 t2 t3 fx lx lt ba bb hka Hk1
  have p0 : w4.cell? ⟨w1.heap.size, 0, none⟩ = some (.int .i64 f.op) := bf4.cell 0
  have p1 : w4.cell? ⟨w1.heap.size, 1, none⟩ = some (.slice f.p.a f.p.l.length f.p.c) := bf4.cell 1
  have p2 : w4.cell? ⟨w1.heap.size, 2, none⟩ = some (.slice f.r.a f.r.l.length f.r.c) := bf4.cell 2
  have p3 : w4.cell? ⟨w1.heap.size, 3, none⟩ = some (.bool f.live) := bf4.cell 3
  have p4 : w4.cell? ⟨w1.heap.size, 4, none⟩ = some (.bool f.was) := bf4.cell 4
  have lf := bf4.lt
  have HV := Lib.hid (fun (wx : World) (hk' : Keep w4 wx) => refSameVals_calls f.p.l f.r.l f.p.a f.r.a f.p.c f.r.c wx ((Hls.out.1.seg.keep Hw0.out).keep (hk4.trans hk')) ((Hls.out.2.seg.keep Hw0.out).keep (hk4.trans hk')) (by have := Hlf.out.1; omega) (by have := Hlf.out.2; omega))
  have hs1 : s1.T.length ≤ 900000 := Hs1.out
  by_cases ho : f.op = 4
  · have do_ : (f.op == 4) = true := by simpa using ho
    go_wp2_with fail
    refine (HV.out _ (Keep.refl _)).mono ?_
    rintro e wv ⟨rfl, hkv⟩
    have bav := ba4.keep hkv
    clear p0 p1 p2 p3 p4 lf
    by_cases hpr : f.p.l = f.r.l
    rotate_left
    · rw [decide_eq_false hpr]
      have Hcd := Lib.hid (show cd = ({ c with s := s1, broken := 12 }, 12) by rw [Hd.out, if_neg (by omega), if_pos ⟨ho, hpr⟩])
      have x0 : wv.cell? ⟨w.heap.size, 0, none⟩ = some (.slice B1 s1.T.length d1) := bav.cell 0
      have x1 : wv.cell? ⟨w.heap.size, 1, none⟩ = some (.slice B2 s1.P.length d2) := bav.cell 1
      have x2 : wv.cell? ⟨w.heap.size, 2, none⟩ = some (.slice B3 s1.P.length d3) := bav.cell 2
      have x3 : wv.cell? ⟨w.heap.size, 3, none⟩ = some (.int .i64 (mo : Int)) := bav.cell 3
      have x4 : wv.cell? ⟨w.heap.size, 4, none⟩ = some (.slice Af c.fs.length cf) := bav.cell 4
      have x5 : wv.cell? ⟨w.heap.size, 5, none⟩ = some (.slice c.res.a c.res.l.length c.res.c) := bav.cell 5
      have x6 : wv.cell? ⟨w.heap.size, 6, none⟩ = some (.int .i64 c.broken) := bav.cell 6
      have lx := bav.lt
      have Hkv := Lib.hid (hk4.trans hkv)
      have Hbb := Lib.hid (bb4.keep hkv)
      have Hrv := Lib.hid (hr4.keep hkv)
      clear he hk4 ba4 bb4 bf4 bt4 hr4 Hd hkv bav HV hpr
      go_wp2_with fail
      refine (refBroken_calls B1 B2 B3 _ _ d1 d2 d3 mo Af _ cf c.res _ 12).mono ?_
      rintro e w5 ⟨rfl, hk5⟩
      have bb5 := Hbb.out.keep hk5
      have y0 : w5.cell? ⟨w.heap.size + 1, 0, none⟩ = some (.slice none 0 0) := bb5.cell 0
      have y1 : w5.cell? ⟨w.heap.size + 1, 1, none⟩ = some (.slice none 0 0) := bb5.cell 1
      have y2 : w5.cell? ⟨w.heap.size + 1, 2, none⟩ = some (.slice none 0 0) := bb5.cell 2
      have y3 : w5.cell? ⟨w.heap.size + 1, 3, none⟩ = some (.int .i64 0) := bb5.cell 3
      have y4 : w5.cell? ⟨w.heap.size + 1, 4, none⟩ = some (.slice none 0 0) := bb5.cell 4
      have y5 : w5.cell? ⟨w.heap.size + 1, 5, none⟩ = some (.slice none 0 0) := bb5.cell 5
      have y6 : w5.cell? ⟨w.heap.size + 1, 6, none⟩ = some (.int .i64 0) := bb5.cell 6
      have fy := bb5.frozen
      have ly := bb5.lt
      have Hfin := Lib.hid (fun (W : World) (hE : Ext (fun q => q = w.heap.size + 1) w5 W) => show RefC w0 (Grow G w) W (.agg (rcells7 B1 B2 B3 s1.T.length s1.P.length d1 d2 d3 mo Af c.fs.length cf c.res 12).toArray) { c with s := s1, broken := 12 } ∧ Keep w W from by
        have hkW : Keep w W := Keep.of_ext2 (Hkv.out.trans hk5) hE (fun q hq h => by omega)
        exact ⟨⟨B1, B2, B3, d1, d2, d3, mo, Af, cf, rfl, ((Hrv.out.keep hk5).ext hE (fun q hq h => by rcases hq with h1 | h1 <;> omega)).mono (fun k _ hg => hg.elim (fun h => .inl h.1) (fun h => .inr (by omega))), (Hfr.out.keep hkW).mono (fun k _ hg => .inl hg.1)⟩, hkW⟩)
      clear bb5 hk5 Hbb x0 x1 x2 x3 x4 x5 x6 lx
      unfold rcells7 LD.v at *
      go_wp2
      refine bodyPost_ret (v := .tuple #[.agg #[.slice B1 s1.T.length d1, .slice B2 s1.P.length d2, .slice B3 s1.P.length d3, .int .i64 (mo : Int), .slice Af c.fs.length cf, .slice c.res.a c.res.l.length c.res.c, .int .i64 12], .int .i64 12]) (by simp [results, Try.results66, go_sem, y0, y1, y2, y3, y4, y5, y6]) rfl ⟨_, by rw [Hcd.out], ?_⟩
      rw [Hcd.out]
      exact Hfin.out _ (ext7 _ _ _ _ _ _ _ _ _)
    rw [decide_eq_true hpr]
    have Hcd := Lib.hid (show cd = ({ c with s := s1.push f.r.l, fs := c.fs.take k }, 0) by rw [Hd.out, if_neg (by omega), if_neg (fun h => h.2 hpr)])
    have HP := Lib.hid (refPush_calls (hr4.keep hkv) f.r.l f.r.a f.r.c ((Hls.out.2.seg.keep Hw0.out).keep (hk4.trans hkv)) (by have := Hlf.out.2; have := hs1; omega))
    have t0 : wv.cell? ⟨w2.heap.size, 0, none⟩ = some (.slice B1 s1.T.length d1) := (bt4.keep hkv).cell 0
    have t1 : wv.cell? ⟨w2.heap.size, 1, none⟩ = some (.slice B2 s1.P.length d2) := (bt4.keep hkv).cell 1
    have t2 : wv.cell? ⟨w2.heap.size, 2, none⟩ = some (.slice B3 s1.P.length d3) := (bt4.keep hkv).cell 2
    have t3 : wv.cell? ⟨w2.heap.size, 3, none⟩ = some (.int .i64 (mo : Int)) := (bt4.keep hkv).cell 3
    have p0 : wv.cell? ⟨w1.heap.size, 0, none⟩ = some (.int .i64 f.op) := (bf4.keep hkv).cell 0
    have p1 : wv.cell? ⟨w1.heap.size, 1, none⟩ = some (.slice f.p.a f.p.l.length f.p.c) := (bf4.keep hkv).cell 1
    have p2 : wv.cell? ⟨w1.heap.size, 2, none⟩ = some (.slice f.r.a f.r.l.length f.r.c) := (bf4.keep hkv).cell 2
    have lt := (bt4.keep hkv).lt
    have lf := (bf4.keep hkv).lt
    have Hkv := Lib.hid (hk4.trans hkv)
    have hsv : wa.heap.size ≤ wv.heap.size := Nat.le_trans hs4 hkv.size
    have bbv := bb4.keep hkv
    clear he hk4 ba4 bb4 bf4 bt4 hr4 Hd hkv HV
    obtain ⟨s5, hs5⟩ : ∃ s5, s1.push f.r.l = s5 := ⟨_, rfl⟩
    rw [hs5] at HP Hcd
    clear hs5
    go_wp2_with fail
    refine HP.out.mono ?_
    rintro e w5 ⟨v5, rfl, hr5, hk5⟩
    have ba5 := bav.keep hk5
    have bb5 := bbv.keep hk5
    have hr5' : RefAt (fun k => (G k ∧ k < w.heap.size) ∨ wa.heap.size ≤ k) w5 v5 s5 := hr5.mono (fun k _ hg => hg.elim id (fun h => .inr (by omega)))
    have hsz5 := hk5.size
    have Hk5 := Lib.hid (Hkv.out.trans hk5)
    clear hr5 hk5 HP bav bbv t0 t1 t2 t3 p0 p1 p2 lt lf
    obtain ⟨C1, C2, C3, e1', e2', e3', mo', rfl, _⟩ := id hr5'
    have x0 : w5.cell? ⟨w.heap.size, 0, none⟩ = some (.slice B1 s1.T.length d1) := ba5.cell 0
    have x1 : w5.cell? ⟨w.heap.size, 1, none⟩ = some (.slice B2 s1.P.length d2) := ba5.cell 1
    have x2 : w5.cell? ⟨w.heap.size, 2, none⟩ = some (.slice B3 s1.P.length d3) := ba5.cell 2
    have x3 : w5.cell? ⟨w.heap.size, 3, none⟩ = some (.int .i64 (mo : Int)) := ba5.cell 3
    have fx := ba5.frozen
    have lx := ba5.lt
    go_upto_region 13 with fail
    obtain ⟨w6, hw6⟩ : ∃ w6 : World, w6 = ((((w5.setCell ⟨w.heap.size, 0, none⟩ (.slice C1 s5.T.length e1')).setCell ⟨w.heap.size, 1, none⟩ (.slice C2 s5.P.length e2')).setCell ⟨w.heap.size, 2, none⟩ (.slice C3 s5.P.length e3')).setCell ⟨w.heap.size, 3, none⟩ (.int .i64 (mo' : Int))) := ⟨_, rfl⟩
    have hE6 : Ext (fun k => k = w.heap.size) w5 w6 := by
      rw [hw6]
      refine Ext.setCell (Ext.setCell (Ext.setCell (Ext.setCell (Ext.refl _ _) ?_ _) ?_ _) ?_ _) ?_ _
      all_goals exact fun _ => rfl
    have ba6 : Blk w6 w.heap.size 74 (rcells7 C1 C2 C3 s5.T.length s5.P.length e1' e2' e3' mo' Af c.fs.length cf c.res c.broken) := by rw [hw6]; exact (((ba5.set_ 0 _).set_ 1 _).set_ 2 _).set_ 3 _
    have bb6 := bb5.ext hE6 (by omega)
    have hk6 : Keep w w6 := Keep.of_ext2 Hk5.out hE6 (fun q hq h => by omega)
    have hr6 := hr5'.ext hE6 (fun q hq h => by rcases hq with h1 | h1 <;> omega)
    have hs6 : wa.heap.size ≤ w6.heap.size := Nat.le_trans hsv (Nat.le_trans hsz5 hE6.size)
    rw [← hw6]
    clear hw6 hE6 ba5 bb5 hr5' Hk5 x0 x1 x2 x3 fx lx
    have hk' := Hk.out
    have htk : (c.fs.take k).length = k := by rw [List.length_take]; omega
    have hka' : Keep w6 (w6.alloc (.cells #[] 105)) := (Keep.refl _).alloc _
    have hsg : Seg (w6.alloc (.cells #[] 105)) Af ((c.fs.take k).flatMap frC) := by
      have h1 := ((Hfr.out.seg.keep hk6).keep hka').take (k * 5)
      rwa [flat_take frC 5 (fun _ => rfl)] at h1
    obtain ⟨v7, w7, ha7, ho7, hg7, _⟩ := append_run (ys := c.fs.take k) elFr (Own.empty frC 5 105 w6 (base := w6.heap.size) (Nat.le_refl _)) hsg cf 72 (by simp [maxLen]; omega) (by simp; omega) (by simp)
    have hk7 : Keep w6 w7 := hka'.grown hg7 (fun j hj => by cases hj; exact Nat.le_refl _)
    rw [List.nil_append] at ho7
    obtain ⟨D1, g1, rfl, hd7, _⟩ := ho7.form
    rw [htk] at ha7 hd7
    have ha7' : (Builtin.append_ #[72, 72] 72 #[.slice (some ⟨w6.heap.size, 0, none⟩) 0 0, .slice Af k cf]).run Try.prog (w6.alloc (.cells #[] 105)) = .ok (.slice D1 k g1) w7 := ha7
    have Hfin := Lib.hid (fun (W : World) (hE : Ext (fun q => q = w.heap.size ∨ q = w.heap.size + 1) w7 W) => show RefC w0 (Grow G w) W (.agg (rcells7 C1 C2 C3 s5.T.length s5.P.length e1' e2' e3' mo' D1 k g1 c.res c.broken).toArray) { c with s := s5, fs := c.fs.take k } ∧ Keep w W from by
      have hkW : Keep w W := Keep.of_ext2 (hk6.trans hk7) hE (fun q hq h => by omega)
      refine ⟨⟨C1, C2, C3, e1', e2', e3', mo', D1, g1, by simp [rcells7, LD.v, htk], ((hr6.keep hk7).ext hE (fun q hq h => by rcases hq with h1 | h1 <;> omega)).mono (fun k _ hg => hg.elim (fun h => .inl h.1) (fun h => .inr (by omega))), ?_⟩, hkW⟩
      refine ⟨(ho7.ext hE (fun q hq h => by have := (ho7.lt q hq).1; omega)).segN.2, by simp [htk]; exact hd7, fun h0 ad ha => .inr ?_, fun g hg => Hfr.out.ls g (List.mem_of_mem_take hg), Hfr.out.res⟩
      subst ha
      have := (ho7.lt ad.block rfl).1
      omega)
    have ba7 := ba6.keep hk7
    have bb7 := bb6.keep hk7
    have hm1 : (c.fs.length : Int) - 1 = (k : Int) := by omega
    have k0 : (0 : Int) ≤ (k : Int) := by omega
    have k1 : (k : Int) ≤ (cf : Int) := by have := Hfr.out.cap; omega
    have z0 : w6.cell? ⟨w.heap.size, 0, none⟩ = some (.slice C1 s5.T.length e1') := ba6.cell 0
    have z1 : w6.cell? ⟨w.heap.size, 1, none⟩ = some (.slice C2 s5.P.length e2') := ba6.cell 1
    have z2 : w6.cell? ⟨w.heap.size, 2, none⟩ = some (.slice C3 s5.P.length e3') := ba6.cell 2
    have z3 : w6.cell? ⟨w.heap.size, 3, none⟩ = some (.int .i64 (mo' : Int)) := ba6.cell 3
    have z4 : w6.cell? ⟨w.heap.size, 4, none⟩ = some (.slice Af c.fs.length cf) := ba6.cell 4
    have z5 : w6.cell? ⟨w.heap.size, 5, none⟩ = some (.slice c.res.a c.res.l.length c.res.c) := ba6.cell 5
    have z6 : w6.cell? ⟨w.heap.size, 6, none⟩ = some (.int .i64 c.broken) := ba6.cell 6
    have x0 : w7.cell? ⟨w.heap.size, 0, none⟩ = some (.slice C1 s5.T.length e1') := ba7.cell 0
    have x1 : w7.cell? ⟨w.heap.size, 1, none⟩ = some (.slice C2 s5.P.length e2') := ba7.cell 1
    have x2 : w7.cell? ⟨w.heap.size, 2, none⟩ = some (.slice C3 s5.P.length e3') := ba7.cell 2
    have x3 : w7.cell? ⟨w.heap.size, 3, none⟩ = some (.int .i64 (mo' : Int)) := ba7.cell 3
    have x4 : w7.cell? ⟨w.heap.size, 4, none⟩ = some (.slice Af c.fs.length cf) := ba7.cell 4
    have x5 : w7.cell? ⟨w.heap.size, 5, none⟩ = some (.slice c.res.a c.res.l.length c.res.c) := ba7.cell 5
    have x6 : w7.cell? ⟨w.heap.size, 6, none⟩ = some (.int .i64 c.broken) := ba7.cell 6
    have y0 : w7.cell? ⟨w.heap.size + 1, 0, none⟩ = some (.slice none 0 0) := bb7.cell 0
    have y1 : w7.cell? ⟨w.heap.size + 1, 1, none⟩ = some (.slice none 0 0) := bb7.cell 1
    have y2 : w7.cell? ⟨w.heap.size + 1, 2, none⟩ = some (.slice none 0 0) := bb7.cell 2
    have y3 : w7.cell? ⟨w.heap.size + 1, 3, none⟩ = some (.int .i64 0) := bb7.cell 3
    have y4 : w7.cell? ⟨w.heap.size + 1, 4, none⟩ = some (.slice none 0 0) := bb7.cell 4
    have y5 : w7.cell? ⟨w.heap.size + 1, 5, none⟩ = some (.slice none 0 0) := bb7.cell 5
    have y6 : w7.cell? ⟨w.heap.size + 1, 6, none⟩ = some (.int .i64 0) := bb7.cell 6
    have fx := ba7.frozen
    have lx := ba7.lt
    have fy := bb7.frozen
    have ly := bb7.lt
    have lz := ba6.lt
    clear ba6 bb6 ba7 bb7 hr6 hk6 hk7 ho7 hg7 ha7 hsg hka' htk hk' hd7
    unfold rcells7 LD.v at *
    go_wp2_with (at_builtin; (refine wpList_append_eq rfl _ _ _ rfl _ _ rfl rfl _ _ ha7' ?_; clear ha7'))
    refine bodyPost_ret (v := .tuple #[.agg #[.slice C1 s5.T.length e1', .slice C2 s5.P.length e2', .slice C3 s5.P.length e3', .int .i64 (mo' : Int), .slice D1 k g1, .slice c.res.a c.res.l.length c.res.c, .int .i64 c.broken], .int .i64 0]) (by simp [results, Try.results66, go_sem, x0, x1, x2, x3, x4, x5, x6, y0, y1, y2, y3, y4, y5, y6]) rfl ⟨_, by rw [Hcd.out], ?_⟩
    rw [Hcd.out]
    refine Hfin.out _ ?_
    refine Ext.setCell (Ext.setCell (Ext.setCell (Ext.setCell (Ext.setCell (Ext.setCell (Ext.setCell (Ext.setCell (Ext.refl _ _) ?_ _) ?_ _) ?_ _) ?_ _) ?_ _) ?_ _) ?_ _) ?_ _
    all_goals first | exact fun _ => .inl rfl | exact fun _ => .inr rfl
  · have do_ : (f.op == 4) = false := by simpa using ho
    obtain ⟨wv, hwv⟩ : ∃ wv, wv = w4 := ⟨_, rfl⟩
    have hkv : Keep w4 wv := by rw [hwv]; exact Keep.refl _
    have bav := ba4.keep hkv
    clear p0 p1 p2 p3 p4
    rw [← hwv]
    have lf := (bf4.keep hkv).lt
    clear hwv
    have Hcd := Lib.hid (show cd = ({ c with s := s1.push f.r.l, fs := c.fs.take k }, 0) by rw [Hd.out, if_neg (by omega), if_neg (fun h => ho h.1)])
    have HP := Lib.hid (refPush_calls (hr4.keep hkv) f.r.l f.r.a f.r.c ((Hls.out.2.seg.keep Hw0.out).keep (hk4.trans hkv)) (by have := Hlf.out.2; have := hs1; omega))
    have t0 : wv.cell? ⟨w2.heap.size, 0, none⟩ = some (.slice B1 s1.T.length d1) := (bt4.keep hkv).cell 0
    have t1 : wv.cell? ⟨w2.heap.size, 1, none⟩ = some (.slice B2 s1.P.length d2) := (bt4.keep hkv).cell 1
    have t2 : wv.cell? ⟨w2.heap.size, 2, none⟩ = some (.slice B3 s1.P.length d3) := (bt4.keep hkv).cell 2
    have t3 : wv.cell? ⟨w2.heap.size, 3, none⟩ = some (.int .i64 (mo : Int)) := (bt4.keep hkv).cell 3
    have p0 : wv.cell? ⟨w1.heap.size, 0, none⟩ = some (.int .i64 f.op) := (bf4.keep hkv).cell 0
    have p1 : wv.cell? ⟨w1.heap.size, 1, none⟩ = some (.slice f.p.a f.p.l.length f.p.c) := (bf4.keep hkv).cell 1
    have p2 : wv.cell? ⟨w1.heap.size, 2, none⟩ = some (.slice f.r.a f.r.l.length f.r.c) := (bf4.keep hkv).cell 2
    have lt := (bt4.keep hkv).lt
    have Hkv := Lib.hid (hk4.trans hkv)
    have hsv : wa.heap.size ≤ wv.heap.size := Nat.le_trans hs4 hkv.size
    have bbv := bb4.keep hkv
    clear he hk4 ba4 bb4 bf4 bt4 hr4 Hd hkv HV
    obtain ⟨s5, hs5⟩ : ∃ s5, s1.push f.r.l = s5 := ⟨_, rfl⟩
    rw [hs5] at HP Hcd
    clear hs5
    go_wp2_with fail
    refine HP.out.mono ?_
    rintro e w5 ⟨v5, rfl, hr5, hk5⟩
    have ba5 := bav.keep hk5
    have bb5 := bbv.keep hk5
    have hr5' : RefAt (fun k => (G k ∧ k < w.heap.size) ∨ wa.heap.size ≤ k) w5 v5 s5 := hr5.mono (fun k _ hg => hg.elim id (fun h => .inr (by omega)))
    have hsz5 := hk5.size
    have Hk5 := Lib.hid (Hkv.out.trans hk5)
    clear hr5 hk5 HP bav bbv t0 t1 t2 t3 p0 p1 p2 lt lf
    obtain ⟨C1, C2, C3, e1', e2', e3', mo', rfl, _⟩ := id hr5'
    have x0 : w5.cell? ⟨w.heap.size, 0, none⟩ = some (.slice B1 s1.T.length d1) := ba5.cell 0
    have x1 : w5.cell? ⟨w.heap.size, 1, none⟩ = some (.slice B2 s1.P.length d2) := ba5.cell 1
    have x2 : w5.cell? ⟨w.heap.size, 2, none⟩ = some (.slice B3 s1.P.length d3) := ba5.cell 2
    have x3 : w5.cell? ⟨w.heap.size, 3, none⟩ = some (.int .i64 (mo : Int)) := ba5.cell 3
    have fx := ba5.frozen
    have lx := ba5.lt
    go_upto_region 13 with fail
    obtain ⟨w6, hw6⟩ : ∃ w6 : World, w6 = ((((w5.setCell ⟨w.heap.size, 0, none⟩ (.slice C1 s5.T.length e1')).setCell ⟨w.heap.size, 1, none⟩ (.slice C2 s5.P.length e2')).setCell ⟨w.heap.size, 2, none⟩ (.slice C3 s5.P.length e3')).setCell ⟨w.heap.size, 3, none⟩ (.int .i64 (mo' : Int))) := ⟨_, rfl⟩
    have hE6 : Ext (fun k => k = w.heap.size) w5 w6 := by
      rw [hw6]
      refine Ext.setCell (Ext.setCell (Ext.setCell (Ext.setCell (Ext.refl _ _) ?_ _) ?_ _) ?_ _) ?_ _
      all_goals exact fun _ => rfl
    have ba6 : Blk w6 w.heap.size 74 (rcells7 C1 C2 C3 s5.T.length s5.P.length e1' e2' e3' mo' Af c.fs.length cf c.res c.broken) := by rw [hw6]; exact (((ba5.set_ 0 _).set_ 1 _).set_ 2 _).set_ 3 _
    have bb6 := bb5.ext hE6 (by omega)
    have hk6 : Keep w w6 := Keep.of_ext2 Hk5.out hE6 (fun q hq h => by omega)
    have hr6 := hr5'.ext hE6 (fun q hq h => by rcases hq with h1 | h1 <;> omega)
    have hs6 : wa.heap.size ≤ w6.heap.size := Nat.le_trans hsv (Nat.le_trans hsz5 hE6.size)
    rw [← hw6]
    clear hw6 hE6 ba5 bb5 hr5' Hk5 x0 x1 x2 x3 fx lx
    have hk' := Hk.out
    have htk : (c.fs.take k).length = k := by rw [List.length_take]; omega
    have hka' : Keep w6 (w6.alloc (.cells #[] 105)) := (Keep.refl _).alloc _
    have hsg : Seg (w6.alloc (.cells #[] 105)) Af ((c.fs.take k).flatMap frC) := by
      have h1 := ((Hfr.out.seg.keep hk6).keep hka').take (k * 5)
      rwa [flat_take frC 5 (fun _ => rfl)] at h1
    obtain ⟨v7, w7, ha7, ho7, hg7, _⟩ := append_run (ys := c.fs.take k) elFr (Own.empty frC 5 105 w6 (base := w6.heap.size) (Nat.le_refl _)) hsg cf 72 (by simp [maxLen]; omega) (by simp; omega) (by simp)
    have hk7 : Keep w6 w7 := hka'.grown hg7 (fun j hj => by cases hj; exact Nat.le_refl _)
    rw [List.nil_append] at ho7
    obtain ⟨D1, g1, rfl, hd7, _⟩ := ho7.form
    rw [htk] at ha7 hd7
    have ha7' : (Builtin.append_ #[72, 72] 72 #[.slice (some ⟨w6.heap.size, 0, none⟩) 0 0, .slice Af k cf]).run Try.prog (w6.alloc (.cells #[] 105)) = .ok (.slice D1 k g1) w7 := ha7
    have Hfin := Lib.hid (fun (W : World) (hE : Ext (fun q => q = w.heap.size ∨ q = w.heap.size + 1) w7 W) => show RefC w0 (Grow G w) W (.agg (rcells7 C1 C2 C3 s5.T.length s5.P.length e1' e2' e3' mo' D1 k g1 c.res c.broken).toArray) { c with s := s5, fs := c.fs.take k } ∧ Keep w W from by
      have hkW : Keep w W := Keep.of_ext2 (hk6.trans hk7) hE (fun q hq h => by omega)
      refine ⟨⟨C1, C2, C3, e1', e2', e3', mo', D1, g1, by simp [rcells7, LD.v, htk], ((hr6.keep hk7).ext hE (fun q hq h => by rcases hq with h1 | h1 <;> omega)).mono (fun k _ hg => hg.elim (fun h => .inl h.1) (fun h => .inr (by omega))), ?_⟩, hkW⟩
      refine ⟨(ho7.ext hE (fun q hq h => by have := (ho7.lt q hq).1; omega)).segN.2, by simp [htk]; exact hd7, fun h0 ad ha => .inr ?_, fun g hg => Hfr.out.ls g (List.mem_of_mem_take hg), Hfr.out.res⟩
      subst ha
      have := (ho7.lt ad.block rfl).1
      omega)
    have ba7 := ba6.keep hk7
    have bb7 := bb6.keep hk7
    have hm1 : (c.fs.length : Int) - 1 = (k : Int) := by omega
    have k0 : (0 : Int) ≤ (k : Int) := by omega
    have k1 : (k : Int) ≤ (cf : Int) := by have := Hfr.out.cap; omega
    have z0 : w6.cell? ⟨w.heap.size, 0, none⟩ = some (.slice C1 s5.T.length e1') := ba6.cell 0
    have z1 : w6.cell? ⟨w.heap.size, 1, none⟩ = some (.slice C2 s5.P.length e2') := ba6.cell 1
    have z2 : w6.cell? ⟨w.heap.size, 2, none⟩ = some (.slice C3 s5.P.length e3') := ba6.cell 2
    have z3 : w6.cell? ⟨w.heap.size, 3, none⟩ = some (.int .i64 (mo' : Int)) := ba6.cell 3
    have z4 : w6.cell? ⟨w.heap.size, 4, none⟩ = some (.slice Af c.fs.length cf) := ba6.cell 4
    have z5 : w6.cell? ⟨w.heap.size, 5, none⟩ = some (.slice c.res.a c.res.l.length c.res.c) := ba6.cell 5
    have z6 : w6.cell? ⟨w.heap.size, 6, none⟩ = some (.int .i64 c.broken) := ba6.cell 6
    have x0 : w7.cell? ⟨w.heap.size, 0, none⟩ = some (.slice C1 s5.T.length e1') := ba7.cell 0
    have x1 : w7.cell? ⟨w.heap.size, 1, none⟩ = some (.slice C2 s5.P.length e2') := ba7.cell 1
    have x2 : w7.cell? ⟨w.heap.size, 2, none⟩ = some (.slice C3 s5.P.length e3') := ba7.cell 2
    have x3 : w7.cell? ⟨w.heap.size, 3, none⟩ = some (.int .i64 (mo' : Int)) := ba7.cell 3
    have x4 : w7.cell? ⟨w.heap.size, 4, none⟩ = some (.slice Af c.fs.length cf) := ba7.cell 4
    have x5 : w7.cell? ⟨w.heap.size, 5, none⟩ = some (.slice c.res.a c.res.l.length c.res.c) := ba7.cell 5
    have x6 : w7.cell? ⟨w.heap.size, 6, none⟩ = some (.int .i64 c.broken) := ba7.cell 6
    have y0 : w7.cell? ⟨w.heap.size + 1, 0, none⟩ = some (.slice none 0 0) := bb7.cell 0
    have y1 : w7.cell? ⟨w.heap.size + 1, 1, none⟩ = some (.slice none 0 0) := bb7.cell 1
    have y2 : w7.cell? ⟨w.heap.size + 1, 2, none⟩ = some (.slice none 0 0) := bb7.cell 2
    have y3 : w7.cell? ⟨w.heap.size + 1, 3, none⟩ = some (.int .i64 0) := bb7.cell 3
    have y4 : w7.cell? ⟨w.heap.size + 1, 4, none⟩ = some (.slice none 0 0) := bb7.cell 4
    have y5 : w7.cell? ⟨w.heap.size + 1, 5, none⟩ = some (.slice none 0 0) := bb7.cell 5
    have y6 : w7.cell? ⟨w.heap.size + 1, 6, none⟩ = some (.int .i64 0) := bb7.cell 6
    have fx := ba7.frozen
    have lx := ba7.lt
    have fy := bb7.frozen
    have ly := bb7.lt
    have lz := ba6.lt
    clear ba6 bb6 ba7 bb7 hr6 hk6 hk7 ho7 hg7 ha7 hsg hka' htk hk' hd7
    unfold rcells7 LD.v at *
    go_wp2_with (at_builtin; (refine wpList_append_eq rfl _ _ _ rfl _ _ rfl rfl _ _ ha7' ?_; clear ha7'))
    refine bodyPost_ret (v := .tuple #[.agg #[.slice C1 s5.T.length e1', .slice C2 s5.P.length e2', .slice C3 s5.P.length e3', .int .i64 (mo' : Int), .slice D1 k g1, .slice c.res.a c.res.l.length c.res.c, .int .i64 c.broken], .int .i64 0]) (by simp [results, Try.results66, go_sem, x0, x1, x2, x3, x4, x5, x6, y0, y1, y2, y3, y4, y5, y6]) rfl ⟨_, by rw [Hcd.out], ?_⟩
    rw [Hcd.out]
    refine Hfin.out _ ?_
    refine Ext.setCell (Ext.setCell (Ext.setCell (Ext.setCell (Ext.setCell (Ext.setCell (Ext.setCell (Ext.setCell (Ext.refl _ _) ?_ _) ?_ _) ?_ _) ?_ _) ?_ _) ?_ _) ?_ _) ?_ _
    all_goals first | exact fun _ => .inl rfl | exact fun _ => .inr rfl
end Go.Proofs.Ytkeefajfndmpeaa
