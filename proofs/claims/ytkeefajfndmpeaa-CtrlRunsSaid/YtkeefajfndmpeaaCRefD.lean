/-
  The reference's State: what calls leave; Dead.
-/
import Derived.Test.YtkeefajfndmpeaaCRefB
import Derived.Test.YtkeefajfndmpeaaRefShut
import Derived.WalkMore
import Derived.Deep.Cut
import Derived.Deep.DeepCutAuto
namespace Go.Proofs.Ytkeefajfndmpeaa
open Go Go.RowKit

theorem frm_len (l : List FrD) : (l.flatMap frC).length = l.length * 5 := flat_length frC 5 (fun _ => rfl) l
theorem FrAt.mono {w0 : World} {G H : Nat → Prop} {w : World} {Af : Option Addr} {cf : Nat} {fs : List FrD} {res : LD} (h : FrAt w0 G w Af cf fs res) (hg : ∀ k, k < w.heap.size → G k → H k) : FrAt w0 H w Af cf fs res :=
  ⟨h.seg, h.cap, fun hn ad ha => by
    obtain ⟨b, off, e, hb, _⟩ := h.seg.addr (by rw [frm_len]; omega)
    have hG := h.inG hn ad ha
    rw [ha] at e; cases e
    exact hg _ hb hG, h.ls, h.res⟩
theorem FrAt.ext {w0 : World} {G S : Nat → Prop} {w w' : World} {Af : Option Addr} {cf : Nat} {fs : List FrD} {res : LD} (h : FrAt w0 G w Af cf fs res) (hk : Ext S w w') (hS : ∀ k, G k → ¬ S k) : FrAt w0 G w' Af cf fs res :=
  ⟨h.seg.ext' hk (fun h0 ad ha => hS _ (h.inG (by rw [frm_len] at h0; omega) ad ha)), h.cap, h.inG, h.ls, h.res⟩
theorem RefC.mono {w0 : World} {G H : Nat → Prop} {w : World} {v : Value} {c : RC} (h : RefC w0 G w v c) (hg : ∀ k, k < w.heap.size → G k → H k) : RefC w0 H w v c := by
  obtain ⟨A1, A2, A3, c1, c2, c3, most, Af, cf, e, h1, h2⟩ := h
  exact ⟨A1, A2, A3, c1, c2, c3, most, Af, cf, e, h1.mono hg, h2.mono hg⟩
theorem RefC.ext {w0 : World} {G S : Nat → Prop} {w w' : World} {v : Value} {c : RC} (h : RefC w0 G w v c) (hk : Ext S w w') (hS : ∀ k, G k → ¬ S k) : RefC w0 G w' v c := by
  obtain ⟨A1, A2, A3, c1, c2, c3, most, Af, cf, e, h1, h2⟩ := h
  exact ⟨A1, A2, A3, c1, c2, c3, most, Af, cf, e, h1.ext hk hS, h2.ext hk hS⟩

def rzero7 : List Value := [.slice none 0 0, .slice none 0 0, .slice none 0 0, .int .i64 0, .slice none 0 0, .slice none 0 0, .int .i64 0]
theorem two_boxes7 (w : World) (cs : List Value) {wa : World} (hwa : wa = (w.alloc (.cells cs.toArray 74)).alloc (.cells rzero7.toArray 74)) :
    Keep w wa ∧ Blk wa w.heap.size 74 cs ∧ Blk wa (w.heap.size + 1) 74 rzero7 ∧ w.heap.size + 1 < wa.heap.size := by
  refine ⟨by rw [hwa]; exact ((Keep.refl _).alloc _).alloc _, by rw [hwa]; exact (Blk.new w _ _).keep ((Keep.refl _).alloc _), ?_, by rw [hwa]; simp⟩
  rw [hwa]
  have := Blk.new (w.alloc (.cells cs.toArray 74)) 74 rzero7
  simpa using this
theorem Only.init (w : World) : Only w.heap.size w w := Only.refl _ _

def RC.dead (c : RC) : RC := match c.fs.getLast? with
  | none => c
  | some f => if c.broken ≠ 0 then c else { c with s := c.s.loosen, fs := c.fs.dropLast ++ [{ f with live := false }] }

set_option maxHeartbeats 4000000 in
set_option maxRecDepth 100000 in
theorem refDead_calls {w0 : World} {G : Nat → Prop} {w : World} {v : Value} {c : RC} (h : RefC w0 G w v c) (hok : c.s.Ok) (hn : c.fs.length ≤ 1000000) (hT : c.s.T.length ≤ 1000000) (hm : c.s.P.length ≤ 1000000) :
    Calls Try.prog 69 #[v] w fun e w' => ∃ v', e = .returned v' ∧ RefC w0 (Grow G w) w' v' c.dead ∧ Keep w w' := by
  have hR := h
  obtain ⟨A1, A2, A3, c1, c2, c3, most, Af, cf, rfl, hra, hfr⟩ := h
  by_cases hno : c.broken ≠ 0 ∨ c.fs = []
  · have Hd := Lib.hid (show c.dead = c by
      unfold RC.dead
      rcases hno with h1 | h1
      · cases c.fs.getLast? with
        | none => rfl
        | some f => simp only []; rw [if_pos h1]
      · rw [h1]; rfl)
    have Hfin := Lib.hid (fun (W : World) (hk : Keep w W) => show RefC w0 (Grow G w) W (.agg (rcells7 A1 A2 A3 c.s.T.length c.s.P.length c1 c2 c3 most Af c.fs.length cf c.res c.broken).toArray) c ∧ Keep w W from ⟨(hR.keep hk).mono (fun _ _ hg => .inl hg), hk⟩)
    rw [Hd.out]
    by_cases hb : c.broken = 0
    · have dz : ((c.fs.length : Int) == 0) = true := by rw [hno.resolve_left (fun h => h hb)]; rfl
      have db : (c.broken != 0) = false := by simpa using hb
      clear hb hno hra hfr hR
      unfold rcells7 LD.v at *
      go_enter Try.func69, Try.ntmps69
      go_wp2
      refine bodyPost_ret (v := .agg #[.slice A1 c.s.T.length c1, .slice A2 c.s.P.length c2, .slice A3 c.s.P.length c3, .int .i64 (most : Int), .slice Af c.fs.length cf, .slice c.res.a c.res.l.length c.res.c, .int .i64 c.broken]) (by simp [results, Try.results69, go_sem]) rfl ⟨_, rfl, Hfin.out _ ?_⟩
      repeat first | exact ((Keep.refl _).alloc _).alloc _ | refine Keep.set1 ?_ _ _
    · have db : (c.broken != 0) = true := by simpa using hb
      clear hb hno hra hfr hR
      unfold rcells7 LD.v at *
      go_enter Try.func69, Try.ntmps69
      go_wp2
      refine bodyPost_ret (v := .agg #[.slice A1 c.s.T.length c1, .slice A2 c.s.P.length c2, .slice A3 c.s.P.length c3, .int .i64 (most : Int), .slice Af c.fs.length cf, .slice c.res.a c.res.l.length c.res.c, .int .i64 c.broken]) (by simp [results, Try.results69, go_sem]) rfl ⟨_, rfl, Hfin.out _ ?_⟩
      repeat first | exact ((Keep.refl _).alloc _).alloc _ | refine Keep.set1 ?_ _ _
  have hb : c.broken = 0 := by by_cases h : c.broken = 0; exact h; exact absurd (.inl h) hno
  have hz : c.fs ≠ [] := fun h => hno (.inr h)
  clear hno
  have hp : 0 < c.fs.length := List.length_pos_iff.2 hz
  obtain ⟨k, hk⟩ : ∃ k, k + 1 = c.fs.length := ⟨c.fs.length - 1, by omega⟩
  obtain ⟨f, hf⟩ : ∃ f, c.fs[k]'(by omega) = f := ⟨_, rfl⟩
  have hfm : f ∈ c.fs := by rw [← hf]; exact List.getElem_mem _
  have hfl : c.fs.getLast? = some f := by rw [List.getLast?_eq_getElem?, show c.fs.length - 1 = k by omega, List.getElem?_eq_getElem (by omega), hf]
  have Hd := Lib.hid (show c.dead = { c with s := c.s.loosen, fs := c.fs.take k ++ [{ f with live := false }] } by
    unfold RC.dead; rw [hfl]; simp only []; rw [if_neg (by omega), List.dropLast_eq_take, show c.fs.length - 1 = k by omega])
  obtain ⟨cd, hcd⟩ : ∃ cd, c.dead = cd := ⟨_, rfl⟩
  rw [hcd] at Hd ⊢
  clear hcd
  have dz : ((c.fs.length : Int) == 0) = false := by rw [beq_eq_false_iff_ne]; omega
  have db : (c.broken != 0) = false := by simpa using hb
  obtain ⟨wa, hwa⟩ : ∃ wa : World, wa = (w.alloc (.cells (rcells7 A1 A2 A3 c.s.T.length c.s.P.length c1 c2 c3 most Af c.fs.length cf c.res c.broken).toArray 74)).alloc (.cells rzero7.toArray 74) := ⟨_, rfl⟩
  obtain ⟨hka, ba, bb, hza⟩ := two_boxes7 w _ hwa
  have hra' : RefAt (fun k => G k ∧ k < w.heap.size) w _ c.s := hra.mono (fun k hk hg => ⟨hg, hk⟩)
  have hfr' : FrAt w0 (fun k => G k ∧ k < w.heap.size) w Af cf c.fs c.res := hfr.mono (fun k hk hg => ⟨hg, hk⟩)
  have Ht := Lib.hid (fun (wx : World) (hk' : Keep w wx) => refTop_calls (hR.keep hk') hk hn hf)
  have HL := Lib.hid (fun (wx : World) (hk' : Keep wa wx) => refLoose_calls (hra'.keep (hka.trans hk')) hok hT hm)
  have Hls := Lib.hid (hfr.ls f hfm)
  have HW := Lib.hid (fun (wx : World) (B1 B2 B3 : Option Addr) (d1 d2 d3 mo : Nat) (hr : RefAt (fun k => (G k ∧ k < w.heap.size) ∨ wa.heap.size ≤ k) wx (.agg (rcells B1 B2 B3 c.s.loosen.T.length c.s.loosen.P.length d1 d2 d3 mo).toArray) c.s.loosen) (hkx : Keep w wx) =>
    refWith_calls (w0 := w0) (c := { c with s := c.s.loosen }) (f := { f with live := false }) hr ((hfr'.keep hkx).mono (fun k _ hg => .inl hg)) hk hn Hls.out)
  have Hzz := Lib.hid hza
  have Hka := Lib.hid hka
  clear hra hfr hR hfr' hk hf hfm hfl hz hp hb hn hT hm hok hza hra'
  unfold rcells7 LD.v at *
  go_enter Try.func69, Try.ntmps69
  go_wp2_with fail
  refine (Ht.out _ (((Keep.refl _).alloc _).alloc _)).mono ?_
  rintro e w1 ⟨rfl, hk1⟩
  have hk1' : Keep wa w1 := by rw [hwa]; exact hk1
  clear hk1 hwa Ht
  have ba1 := ba.keep hk1'
  have x0 : w1.cell? ⟨w.heap.size, 0, none⟩ = some (.slice A1 c.s.T.length c1) := ba1.cell 0
  have x1 : w1.cell? ⟨w.heap.size, 1, none⟩ = some (.slice A2 c.s.P.length c2) := ba1.cell 1
  have x2 : w1.cell? ⟨w.heap.size, 2, none⟩ = some (.slice A3 c.s.P.length c3) := ba1.cell 2
  have x3 : w1.cell? ⟨w.heap.size, 3, none⟩ = some (.int .i64 (most : Int)) := ba1.cell 3
  have fx := ba1.frozen
  have lx := ba1.lt
  have Hk1 := Lib.hid hk1'
  clear hk1' ba1
  go_wp2_with fail
  refine (HL.out _ (Hk1.out.alloc _)).mono ?_
  rintro e w2 ⟨v2, rfl, hr2, hk2⟩
  have ba2 := (ba.keep (Hk1.out.alloc _)).keep hk2
  have bb2 := (bb.keep (Hk1.out.alloc _)).keep hk2
  have bf2 : Blk w2 w1.heap.size 105 (frC { f with live := false }) := (Blk.new w1 105 (frC { f with live := false })).keep hk2
  have hk2' : Keep wa w2 := (Hk1.out.alloc _).trans hk2
  have hsz := Hk1.out.size
  have hzz := Hzz.out
  have hr2' : RefAt (fun k => (G k ∧ k < w.heap.size) ∨ wa.heap.size ≤ k) w2 v2 c.s.loosen := hr2.mono (fun k _ hg => hg.imp id (fun h => by simp at h; omega))
  clear hr2 hk2
  obtain ⟨B1, B2, B3, d1, d2, d3, mo, rfl, _⟩ := id hr2'
  have l2 := ba2.lt
  have f2 := ba2.frozen
  have m2 := bf2.lt
  have z0 : w2.cell? ⟨w.heap.size, 0, none⟩ = some (.slice A1 c.s.T.length c1) := ba2.cell 0
  have z1 : w2.cell? ⟨w.heap.size, 1, none⟩ = some (.slice A2 c.s.P.length c2) := ba2.cell 1
  have z2 : w2.cell? ⟨w.heap.size, 2, none⟩ = some (.slice A3 c.s.P.length c3) := ba2.cell 2
  have z3 : w2.cell? ⟨w.heap.size, 3, none⟩ = some (.int .i64 (most : Int)) := ba2.cell 3
  clear x0 x1 x2 x3 fx lx
  go_upto_region 6 with fail
  obtain ⟨w5, hw5⟩ : ∃ w5 : World, w5 = (((w2.setCell ⟨w.heap.size, 0, none⟩ (.slice B1 c.s.loosen.T.length d1)).setCell ⟨w.heap.size, 1, none⟩ (.slice B2 c.s.loosen.P.length d2)).setCell ⟨w.heap.size, 2, none⟩ (.slice B3 c.s.loosen.P.length d3)).setCell ⟨w.heap.size, 3, none⟩ (.int .i64 (mo : Int)) := ⟨_, rfl⟩
  have hE5 : Ext (fun k => k = w.heap.size) w2 w5 := by
    rw [hw5]
    exact ((((Ext.refl (fun k => k = w.heap.size) _).setCell (p := ⟨w.heap.size, 0, none⟩) (fun _ => rfl) _).setCell (p := ⟨w.heap.size, 1, none⟩) (fun _ => rfl) _).setCell (p := ⟨w.heap.size, 2, none⟩) (fun _ => rfl) _).setCell (p := ⟨w.heap.size, 3, none⟩) (fun _ => rfl) _
  have ba5 : Blk w5 w.heap.size 74 (rcells7 B1 B2 B3 c.s.loosen.T.length c.s.loosen.P.length d1 d2 d3 mo Af c.fs.length cf c.res c.broken) := by rw [hw5]; exact (((ba2.set_ 0 _).set_ 1 _).set_ 2 _).set_ 3 _
  have bb5 := bb2.ext hE5 (by omega)
  have bf5 := bf2.ext hE5 (by omega)
  have hk5 : Keep w w5 := Keep.of_ext2 (Hka.out.trans hk2') hE5 (fun q hq h => by omega)
  have hr5 := hr2'.ext hE5 (fun q hq h => by rcases hq with h1 | h1 <;> omega)
  have hs5 : wa.heap.size ≤ w5.heap.size := Nat.le_trans hk2'.size hE5.size
  rw [← hw5]
  clear hw5 hE5 z0 z1 z2 z3 f2 l2 m2 hr2' ba2 bb2 bf2 hk2'
  have p0 : w5.cell? ⟨w1.heap.size, 0, none⟩ = some (.int .i64 f.op) := bf5.cell 0
  have p1 : w5.cell? ⟨w1.heap.size, 1, none⟩ = some (.slice f.p.a f.p.l.length f.p.c) := bf5.cell 1
  have p2 : w5.cell? ⟨w1.heap.size, 2, none⟩ = some (.slice f.r.a f.r.l.length f.r.c) := bf5.cell 2
  have p3 : w5.cell? ⟨w1.heap.size, 3, none⟩ = some (.bool false) := bf5.cell 3
  have p4 : w5.cell? ⟨w1.heap.size, 4, none⟩ = some (.bool f.was) := bf5.cell 4
  have x0 : w5.cell? ⟨w.heap.size, 0, none⟩ = some (.slice B1 c.s.loosen.T.length d1) := ba5.cell 0
  have x1 : w5.cell? ⟨w.heap.size, 1, none⟩ = some (.slice B2 c.s.loosen.P.length d2) := ba5.cell 1
  have x2 : w5.cell? ⟨w.heap.size, 2, none⟩ = some (.slice B3 c.s.loosen.P.length d3) := ba5.cell 2
  have x3 : w5.cell? ⟨w.heap.size, 3, none⟩ = some (.int .i64 (mo : Int)) := ba5.cell 3
  have x4 : w5.cell? ⟨w.heap.size, 4, none⟩ = some (.slice Af c.fs.length cf) := ba5.cell 4
  have x5 : w5.cell? ⟨w.heap.size, 5, none⟩ = some (.slice c.res.a c.res.l.length c.res.c) := ba5.cell 5
  have x6 : w5.cell? ⟨w.heap.size, 6, none⟩ = some (.int .i64 c.broken) := ba5.cell 6
  have lx := ba5.lt
  have lf := bf5.lt
  have Hc := Lib.hid (HW.out w5 B1 B2 B3 d1 d2 d3 mo hr5 hk5)
  clear hr5 ba5 bf5
  go_wp2_with fail
  refine Hc.out.mono ?_
  rintro e w6 ⟨v6, rfl, hR6, hk6⟩
  have bb6 := bb5.keep hk6
  have hR6' : RefC w0 (fun k => (G k ∧ k < w.heap.size) ∨ wa.heap.size ≤ k) w6 v6 cd := by
    rw [Hd.out]
    exact hR6.mono (fun k _ hg => hg.elim id (fun h => .inr (by omega)))
  clear hR6
  have Hfin := Lib.hid (fun (W : World) (hE : Ext (fun q => q = w.heap.size + 1) w6 W) => show RefC w0 (Grow G w) W v6 cd ∧ Keep w W from
    ⟨(hR6'.ext hE (fun q hq h => by rcases hq with h1 | h1 <;> omega)).mono (fun k _ hg => hg.elim (fun h => .inl h.1) (fun h => .inr (by omega))), Keep.of_ext2 (hk5.trans hk6) hE (fun q hq h => by omega)⟩)
  obtain ⟨C1, C2, C3, e1, e2, e3, mo', Ag, cg, rfl, _, _⟩ := id hR6'
  clear hR6'
  have y0 : w6.cell? ⟨w.heap.size + 1, 0, none⟩ = some (.slice none 0 0) := bb6.cell 0
  have y1 : w6.cell? ⟨w.heap.size + 1, 1, none⟩ = some (.slice none 0 0) := bb6.cell 1
  have y2 : w6.cell? ⟨w.heap.size + 1, 2, none⟩ = some (.slice none 0 0) := bb6.cell 2
  have y3 : w6.cell? ⟨w.heap.size + 1, 3, none⟩ = some (.int .i64 0) := bb6.cell 3
  have y4 : w6.cell? ⟨w.heap.size + 1, 4, none⟩ = some (.slice none 0 0) := bb6.cell 4
  have y5 : w6.cell? ⟨w.heap.size + 1, 5, none⟩ = some (.slice none 0 0) := bb6.cell 5
  have y6 : w6.cell? ⟨w.heap.size + 1, 6, none⟩ = some (.int .i64 0) := bb6.cell 6
  have fy := bb6.frozen
  have ly := bb6.lt
  clear bb6 bb5 p0 p1 p2 p3 p4 x0 x1 x2 x3 x4 x5 x6 lx lf hk5 hk6 Hc HW HL Hk1 bb ba Hka Hzz hka hzz hsz hs5 Hd
  unfold rcells7 LD.v at *
  go_wp2
  refine bodyPost_ret (v := .agg #[.slice C1 cd.s.T.length e1, .slice C2 cd.s.P.length e2, .slice C3 cd.s.P.length e3, .int .i64 (mo' : Int), .slice Ag cd.fs.length cg, .slice cd.res.a cd.res.l.length cd.res.c, .int .i64 cd.broken]) (by simp [results, Try.results69, go_sem, y0, y1, y2, y3, y4, y5, y6]) rfl ⟨_, rfl, Hfin.out _ ?_⟩
  refine Ext.setCell (Ext.setCell (Ext.setCell (Ext.setCell (Ext.setCell (Ext.setCell (Ext.setCell (Ext.refl _ _) ?_ _) ?_ _) ?_ _) ?_ _) ?_ _) ?_ _) ?_ _
  all_goals exact fun _ => rfl
end Go.Proofs.Ytkeefajfndmpeaa
