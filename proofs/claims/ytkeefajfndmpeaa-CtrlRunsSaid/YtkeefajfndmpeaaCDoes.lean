/-
  does: one operation on the State and on the reference's.
-/
import Derived.Test.YtkeefajfndmpeaaCRunS
import Derived.Deep.DeepCutAuto
import Derived.Deep.CutBlock
namespace Go.Proofs.Ytkeefajfndmpeaa
open Go Go.RowKit

/-- Behind the operation: both errors are the same. -/
def DCut (w0 w : World) (F G : Nat → Prop) (x : AD) (b bst : Nat) (c : Ctl) (d : RC) (s8 s9 : Value) (W : World) : Prop :=
  ∃ (E : Int) (A1 A2 A3 : Option Addr) (c1 c2 c3 most : Nat) (Af : Option Addr) (cf : Nat) (F' G' : Nat → Prop), s8 = .int .i64 E ∧ s9 = .int .i64 E ∧
    DIn w0 w F G x b bst c d (rcells7 A1 A2 A3 d.s.T.length d.s.P.length c1 c2 c3 most Af d.fs.length cf d.res d.broken) F' G' W
/-- What does leaves. -/
def DLeft (w0 w : World) (F G : Nat → Prop) (b bst : Nat) (c : Ctl) (d : RC) (v : Value) (w' : World) : Prop :=
  Ext F w w' ∧ ∃ F' G', CAt F' w' b bst c ∧ RefC w0 G' w' v d ∧ (∀ k, G' k → F' k → False) ∧ (∀ k, F' k → F k ∨ w.heap.size ≤ k) ∧ (∀ k, G' k → k < w'.heap.size) ∧ ∀ k, G' k → G k ∨ w.heap.size ≤ k

theorem does_end {w0 w W W' : World} {F G F' G' : Nat → Prop} {x : AD} {b bst : Nat} {c : Ctl} {d : RC} {cs : List Value} (h : DIn w0 w F G x b bst c d cs F' G' W) (hE : Ext (fun q => q = w.heap.size + 1 + 1) W W') : DLeft w0 w F G b bst c d (.agg cs.toArray) W' := by
  have hs := hE.size
  have hz := h.size
  refine ⟨h.ext.trans hE (fun i hi e => by omega), F', G', h.at_.far hE h.res (h.nF (by omega)), h.ref.ext hE (fun k hg e => h.nG (k := k) (by omega) hg), h.apart, fun k hf => (h.fF k hf).imp id (fun h1 => by omega), fun k hg => Nat.lt_of_lt_of_le (h.glt k hg) hs, fun k hg => (h.gG k hg).imp id (fun h1 => by omega)⟩

theorem does_boxes (w : World) (cs ds : List Value) {wa : World} (hwa : wa = ((w.alloc (.cells cs.toArray 74)).alloc (.cells ds.toArray 79)).alloc (.cells rzero7.toArray 74)) :
    Keep w wa ∧ Blk wa w.heap.size 74 cs ∧ Blk wa (w.heap.size + 1) 79 ds ∧ Blk wa (w.heap.size + 1 + 1) 74 rzero7 ∧ wa.heap.size = w.heap.size + 3 := by
  refine ⟨by rw [hwa]; exact (((Keep.refl _).alloc _).alloc _).alloc _, by rw [hwa]; exact (Blk.new w _ _).keep (((Keep.refl _).alloc _).alloc _), ?_, ?_, by rw [hwa]; simp⟩
  · rw [hwa]
    have := (Blk.new (w.alloc (.cells cs.toArray 74)) 79 ds).keep ((Keep.refl _).alloc (.cells rzero7.toArray 74))
    simpa using this
  · rw [hwa]
    have := Blk.new ((w.alloc (.cells cs.toArray 74)).alloc (.cells ds.toArray 79)) 74 rzero7
    simpa using this

theorem RefC.parts {w0 : World} {G : Nat → Prop} {w : World} {A1 A2 A3 : Option Addr} {c1 c2 c3 most : Nat} {Af : Option Addr} {cf : Nat} {c : RC} (h : RefC w0 G w (.agg (rcells7 A1 A2 A3 c.s.T.length c.s.P.length c1 c2 c3 most Af c.fs.length cf c.res c.broken).toArray) c) :
    RefAt G w (.agg (rcells A1 A2 A3 c.s.T.length c.s.P.length c1 c2 c3 most).toArray) c.s ∧ FrAt w0 G w Af cf c.fs c.res := by
  obtain ⟨B1, B2, B3, d1, d2, d3, mo, Ag, cg, e, h1, h2⟩ := h
  simp [rcells7, LD.v] at e
  obtain ⟨⟨rfl, rfl⟩, ⟨rfl, rfl⟩, ⟨rfl, rfl⟩, e4, rfl, rfl⟩ := e
  obtain rfl : most = mo := by omega
  exact ⟨h1, h2⟩

set_option maxHeartbeats 8000000 in
set_option maxRecDepth 100000 in
theorem does_calls {w0 w : World} {F G : Nat → Prop} {x : AD} {b bst : Nat} {c : Ctl} {d : RC} {v : Value} {n : Nat} (hat : CAt F w b bst c) (hr : RefC w0 G w v d) (hk0 : Keep w0 w) (hfge : ∀ k, F k → w0.heap.size ≤ k) (hG : ∀ k, G k → k < w.heap.size) (hap : ∀ k, G k → F k → False)
    (hRM : RM c d) (hf : Fit n c) (hfr : FitR n d) (hrs : c.res.length ≤ 20) (hn : n ≤ 60) (hx : AOk w0 x) (hxl : x.l.l.length ≤ 20 ∧ x.p.l.length ≤ 20 ∧ x.q.l.length ≤ 20) :
    Calls Try.prog 47 #[.pointer (some ⟨b, 0, none⟩), v, .agg (adC x).toArray] w fun e w' => ∃ v', e = .returned (.tuple #[v', .bool true]) ∧ DLeft w0 w F G b bst (c.act x) (d.act x) v' w' := by
  obtain ⟨A1, A2, A3, c1, c2, c3, most, Af, cf, rfl, hra, hfa⟩ := id hr
  obtain ⟨wa, hwa⟩ : ∃ wa : World, wa = ((w.alloc (.cells (rcells7 A1 A2 A3 d.s.T.length d.s.P.length c1 c2 c3 most Af d.fs.length cf d.res d.broken).toArray 74)).alloc (.cells (adC x).toArray 79)).alloc (.cells rzero7.toArray 74) := ⟨_, rfl⟩
  obtain ⟨hka, ba, bx, bz, hza⟩ := does_boxes w _ _ hwa
  have hin : DIn w0 w F G x b bst c d (rcells7 A1 A2 A3 d.s.T.length d.s.P.length c1 c2 c3 most Af d.fs.length cf d.res d.broken) F G wa :=
    ⟨hat.lt, hG, hfge, hk0, hka.ext F, by omega, hat.keep hka, hr.keep hka, ba, bx, bz, hap, fun k h => .inl h, fun k h => .inl h, fun k h => Nat.lt_of_lt_of_le (hG k h) hka.size⟩
  have Hin := Lib.hid hin
  have q0 : wa.cell? ⟨w.heap.size + 1, 0, none⟩ = some (.int .u8 x.kind) := bx.cell 0
  have lx := bx.lt
  have lb := ba.lt
  have hkd := hx.kind
  have hkb : 0 ≤ x.kind ∧ x.kind ≤ 255 := by
    simp [Lit.wf] at hkd
    have h1 : IntKind.u8.min = 0 := by decide
    have h2 : IntKind.u8.max = 255 := by decide
    omega
  have hfT := hf.T
  have hfP := hf.P
  have hfB := hf.bs
  have hft := hf.top
  have hfF := hfr.fs
  clear hin hra hfa hka ba bx bz hat hr hap hkd
  obtain ⟨c', hc'⟩ : ∃ c', c.act x = c' := ⟨_, rfl⟩
  obtain ⟨d', hd'⟩ : ∃ d', d.act x = d' := ⟨_, rfl⟩
  have Hr := Lib.hid (show RM c' d' by rw [← hc', ← hd']; exact hRM.act x)
  have Hf' := Lib.hid (show Fit (n + 1) c' by rw [← hc']; exact hf.act (x := x) hxl.2.1 hxl.2.2 hxl.1)
  have Hfr' := Lib.hid (show FitR (n + 1) d' by rw [← hd']; exact hfr.act (x := x) hxl.2.1 hxl.2.2)
  rw [hc', hd']
  have HC := Lib.hid hc'
  have HD := Lib.hid hd'
  clear hc' hd'
  replace hwa : wa = ((w.alloc (.cells #[.slice A1 d.s.T.length c1, .slice A2 d.s.P.length c2, .slice A3 d.s.P.length c3, .int .i64 (most : Int), .slice Af d.fs.length cf, .slice d.res.a d.res.l.length d.res.c, .int .i64 d.broken] 74)).alloc (.cells #[.int .u8 x.kind, .int .i64 x.op, .slice x.p.a x.p.l.length x.p.c, .slice x.q.a x.q.l.length x.q.c, .int .i64 x.n, .slice x.l.a x.l.l.length x.l.c] 79)).alloc (.cells #[.slice none 0 0, .slice none 0 0, .slice none 0 0, .int .i64 0, .slice none 0 0, .slice none 0 0, .int .i64 0] 74) := hwa
  unfold rcells7 adC LD.v at *


  go_enter Try.func47, Try.ntmps47
  go_upto_block 0 with fail
  rw [← hwa]
  clear hwa
  go_cut [8, 9] from 10 to 103 (fun s8 s9 W => DCut w0 w F G x b bst c' d' s8 s9 W)
  case first =>
    have hk8 : x.kind % 8 = 0 ∨ x.kind % 8 = 1 ∨ x.kind % 8 = 2 ∨ x.kind % 8 = 3 ∨ x.kind % 8 = 4 ∨ x.kind % 8 = 5 ∨ x.kind % 8 = 6 ∨ x.kind % 8 = 7 := by omega
    obtain ⟨kd, hkd8⟩ : ∃ kd, x.kind % 8 = kd := ⟨_, rfl⟩
    rw [hkd8]
    rw [hkd8] at hk8
    have Hkd := Lib.hid hkd8
    clear hkd8 hkb q0
    rcases hk8 with rfl | rfl | rfl | rfl | rfl | rfl | rfl | rfl
    · have Hc := Lib.hid (show c' = (c.enter x.op x.p.l x.q.l).1 by rw [← HC.out]; unfold Ctl.act; simp [Hkd.out])
      obtain ⟨dd, hdd⟩ : ∃ dd, (d.enter x.op x.p x.q).1 = dd := ⟨_, rfl⟩
      have Hd := Lib.hid (show d' = dd by rw [← HD.out, ← hdd]; unfold RC.act; simp [Hkd.out])
      have He := Lib.hid (hRM.enter x.op x.p x.q).1
      have q1 : wa.cell? ⟨w.heap.size + 1, 1, none⟩ = some (.int .i64 x.op) := Hin.out.arg.cell 1
      have q2 : wa.cell? ⟨w.heap.size + 1, 2, none⟩ = some (.slice x.p.a x.p.l.length x.p.c) := Hin.out.arg.cell 2
      have q3 : wa.cell? ⟨w.heap.size + 1, 3, none⟩ = some (.slice x.q.a x.q.l.length x.q.c) := Hin.out.arg.cell 3
      go_wp2_with fail
      refine (enter_calls Hin.out.at_ hf.ok x.op x.p x.q (LD.Ok.old hx.p.seg Hin.out.keep0 hfge) (LD.Ok.old hx.q.seg Hin.out.keep0 hfge) (by omega) (by omega) (by omega) (by omega) (by omega)).mono ?_
      rintro e w1 ⟨rfl, hl⟩
      obtain ⟨F1, h1⟩ := Hin.out.call hl
      have bn1 := h1.var
      have ln1 := bn1.lt
      have x0 : w1.cell? ⟨w.heap.size, 0, none⟩ = some (.slice A1 d.s.T.length c1) := bn1.cell 0
      have x1 : w1.cell? ⟨w.heap.size, 1, none⟩ = some (.slice A2 d.s.P.length c2) := bn1.cell 1
      have x2 : w1.cell? ⟨w.heap.size, 2, none⟩ = some (.slice A3 d.s.P.length c3) := bn1.cell 2
      have x3 : w1.cell? ⟨w.heap.size, 3, none⟩ = some (.int .i64 (most : Int)) := bn1.cell 3
      have x4 : w1.cell? ⟨w.heap.size, 4, none⟩ = some (.slice Af d.fs.length cf) := bn1.cell 4
      have x5 : w1.cell? ⟨w.heap.size, 5, none⟩ = some (.slice d.res.a d.res.l.length d.res.c) := bn1.cell 5
      have x6 : w1.cell? ⟨w.heap.size, 6, none⟩ = some (.int .i64 d.broken) := bn1.cell 6
      have la1 := h1.arg.lt
      have r1 : w1.cell? ⟨w.heap.size + 1, 1, none⟩ = some (.int .i64 x.op) := h1.arg.cell 1
      have r2 : w1.cell? ⟨w.heap.size + 1, 2, none⟩ = some (.slice x.p.a x.p.l.length x.p.c) := h1.arg.cell 2
      have r3 : w1.cell? ⟨w.heap.size + 1, 3, none⟩ = some (.slice x.q.a x.q.l.length x.q.c) := h1.arg.cell 3
      have H1 := Lib.hid h1
      clear h1 bn1 hl
      go_wp2_with fail
      refine (refEnter_calls H1.out.ref H1.out.keep0 (by rw [hRM.s]; exact hf.ok) x.op x.p x.q hx.p hx.q (by omega) (by rw [hRM.s]; omega) (by rw [hRM.s]; omega) (by omega)).mono ?_
      rintro e w2 ⟨v2, rfl, hr2, hk2⟩
      rw [hdd] at hr2
      have h1 := H1.out
      clear x0 x1 x2 x3 x4 x5 x6 ln1 H1 r1 r2 r3 la1 q1 q2 q3
      obtain ⟨B1, B2, B3, d1, d2, d3, most', Ag, cg, rfl, _, _⟩ := id hr2
      have bn2 := h1.var.keep hk2
      have z0 : w2.cell? ⟨w.heap.size, 0, none⟩ = some (.slice A1 d.s.T.length c1) := bn2.cell 0
      have z1 : w2.cell? ⟨w.heap.size, 1, none⟩ = some (.slice A2 d.s.P.length c2) := bn2.cell 1
      have z2 : w2.cell? ⟨w.heap.size, 2, none⟩ = some (.slice A3 d.s.P.length c3) := bn2.cell 2
      have z3 : w2.cell? ⟨w.heap.size, 3, none⟩ = some (.int .i64 (most : Int)) := bn2.cell 3
      have z4 : w2.cell? ⟨w.heap.size, 4, none⟩ = some (.slice Af d.fs.length cf) := bn2.cell 4
      have z5 : w2.cell? ⟨w.heap.size, 5, none⟩ = some (.slice d.res.a d.res.l.length d.res.c) := bn2.cell 5
      have z6 : w2.cell? ⟨w.heap.size, 6, none⟩ = some (.int .i64 d.broken) := bn2.cell 6
      have fz := bn2.frozen
      have lz := bn2.lt
      have Hfin := Lib.hid (fun (W : World) (hE : Ext (fun q => q = w.heap.size) w2 W) (hv : Blk W w.heap.size 74 (rcells7 B1 B2 B3 dd.s.T.length dd.s.P.length d1 d2 d3 most' Ag dd.fs.length cg dd.res dd.broken)) => DIn.refcall h1 hk2 hr2 hE hv)
      have Hbn := Lib.hid bn2
      clear h1 hr2 hk2 bn2
      unfold rcells7 LD.v at *
      go_wp2_with fail
      go_meet
      obtain ⟨G1, hd⟩ := Hfin.out _ (ext7 _ _ _ _ _ _ _ _ _) (((((((Hbn.out.set_ 0 _).set_ 1 _).set_ 2 _).set_ 3 _).set_ 4 _).set_ 5 _).set_ 6 _)
      rw [Hc.out, Hd.out]
      exact ⟨_, B1, B2, B3, d1, d2, d3, most', Ag, cg, F1, G1, rfl, by rw [He.out], hd⟩
    · have Hc := Lib.hid (show c' = (c.enter x.op x.p.l x.q.l).1 by rw [← HC.out]; unfold Ctl.act; simp [Hkd.out])
      obtain ⟨dd, hdd⟩ : ∃ dd, (d.enter x.op x.p x.q).1 = dd := ⟨_, rfl⟩
      have Hd := Lib.hid (show d' = dd by rw [← HD.out, ← hdd]; unfold RC.act; simp [Hkd.out])
      have He := Lib.hid (hRM.enter x.op x.p x.q).1
      have q1 : wa.cell? ⟨w.heap.size + 1, 1, none⟩ = some (.int .i64 x.op) := Hin.out.arg.cell 1
      have q2 : wa.cell? ⟨w.heap.size + 1, 2, none⟩ = some (.slice x.p.a x.p.l.length x.p.c) := Hin.out.arg.cell 2
      have q3 : wa.cell? ⟨w.heap.size + 1, 3, none⟩ = some (.slice x.q.a x.q.l.length x.q.c) := Hin.out.arg.cell 3
      go_wp2_with fail
      refine (enter_calls Hin.out.at_ hf.ok x.op x.p x.q (LD.Ok.old hx.p.seg Hin.out.keep0 hfge) (LD.Ok.old hx.q.seg Hin.out.keep0 hfge) (by omega) (by omega) (by omega) (by omega) (by omega)).mono ?_
      rintro e w1 ⟨rfl, hl⟩
      obtain ⟨F1, h1⟩ := Hin.out.call hl
      have bn1 := h1.var
      have ln1 := bn1.lt
      have x0 : w1.cell? ⟨w.heap.size, 0, none⟩ = some (.slice A1 d.s.T.length c1) := bn1.cell 0
      have x1 : w1.cell? ⟨w.heap.size, 1, none⟩ = some (.slice A2 d.s.P.length c2) := bn1.cell 1
      have x2 : w1.cell? ⟨w.heap.size, 2, none⟩ = some (.slice A3 d.s.P.length c3) := bn1.cell 2
      have x3 : w1.cell? ⟨w.heap.size, 3, none⟩ = some (.int .i64 (most : Int)) := bn1.cell 3
      have x4 : w1.cell? ⟨w.heap.size, 4, none⟩ = some (.slice Af d.fs.length cf) := bn1.cell 4
      have x5 : w1.cell? ⟨w.heap.size, 5, none⟩ = some (.slice d.res.a d.res.l.length d.res.c) := bn1.cell 5
      have x6 : w1.cell? ⟨w.heap.size, 6, none⟩ = some (.int .i64 d.broken) := bn1.cell 6
      have la1 := h1.arg.lt
      have r1 : w1.cell? ⟨w.heap.size + 1, 1, none⟩ = some (.int .i64 x.op) := h1.arg.cell 1
      have r2 : w1.cell? ⟨w.heap.size + 1, 2, none⟩ = some (.slice x.p.a x.p.l.length x.p.c) := h1.arg.cell 2
      have r3 : w1.cell? ⟨w.heap.size + 1, 3, none⟩ = some (.slice x.q.a x.q.l.length x.q.c) := h1.arg.cell 3
      have H1 := Lib.hid h1
      clear h1 bn1 hl
      go_wp2_with fail
      refine (refEnter_calls H1.out.ref H1.out.keep0 (by rw [hRM.s]; exact hf.ok) x.op x.p x.q hx.p hx.q (by omega) (by rw [hRM.s]; omega) (by rw [hRM.s]; omega) (by omega)).mono ?_
      rintro e w2 ⟨v2, rfl, hr2, hk2⟩
      rw [hdd] at hr2
      have h1 := H1.out
      clear x0 x1 x2 x3 x4 x5 x6 ln1 H1 r1 r2 r3 la1 q1 q2 q3
      obtain ⟨B1, B2, B3, d1, d2, d3, most', Ag, cg, rfl, _, _⟩ := id hr2
      have bn2 := h1.var.keep hk2
      have z0 : w2.cell? ⟨w.heap.size, 0, none⟩ = some (.slice A1 d.s.T.length c1) := bn2.cell 0
      have z1 : w2.cell? ⟨w.heap.size, 1, none⟩ = some (.slice A2 d.s.P.length c2) := bn2.cell 1
      have z2 : w2.cell? ⟨w.heap.size, 2, none⟩ = some (.slice A3 d.s.P.length c3) := bn2.cell 2
      have z3 : w2.cell? ⟨w.heap.size, 3, none⟩ = some (.int .i64 (most : Int)) := bn2.cell 3
      have z4 : w2.cell? ⟨w.heap.size, 4, none⟩ = some (.slice Af d.fs.length cf) := bn2.cell 4
      have z5 : w2.cell? ⟨w.heap.size, 5, none⟩ = some (.slice d.res.a d.res.l.length d.res.c) := bn2.cell 5
      have z6 : w2.cell? ⟨w.heap.size, 6, none⟩ = some (.int .i64 d.broken) := bn2.cell 6
      have fz := bn2.frozen
      have lz := bn2.lt
      have Hfin := Lib.hid (fun (W : World) (hE : Ext (fun q => q = w.heap.size) w2 W) (hv : Blk W w.heap.size 74 (rcells7 B1 B2 B3 dd.s.T.length dd.s.P.length d1 d2 d3 most' Ag dd.fs.length cg dd.res dd.broken)) => DIn.refcall h1 hk2 hr2 hE hv)
      have Hbn := Lib.hid bn2
      clear h1 hr2 hk2 bn2
      unfold rcells7 LD.v at *
      go_wp2_with fail
      go_meet
      obtain ⟨G1, hd⟩ := Hfin.out _ (ext7 _ _ _ _ _ _ _ _ _) (((((((Hbn.out.set_ 0 _).set_ 1 _).set_ 2 _).set_ 3 _).set_ 4 _).set_ 5 _).set_ 6 _)
      rw [Hc.out, Hd.out]
      exact ⟨_, B1, B2, B3, d1, d2, d3, most', Ag, cg, F1, G1, rfl, by rw [He.out], hd⟩
    · have Hc := Lib.hid (show c' = (c.els).1 by rw [← HC.out]; unfold Ctl.act; simp [Hkd.out])
      obtain ⟨dd, hdd⟩ : ∃ dd, (d.els).1 = dd := ⟨_, rfl⟩
      have Hd := Lib.hid (show d' = dd by rw [← HD.out, ← hdd]; unfold RC.act; simp [Hkd.out])
      have He := Lib.hid (hRM.els).1
      go_wp2_with fail
      refine (else_calls Hin.out.at_ hf.ok (by omega) (by omega) (by omega) (by omega) (by omega)).mono ?_
      rintro e w1 ⟨rfl, hl⟩
      obtain ⟨F1, h1⟩ := Hin.out.call hl
      have bn1 := h1.var
      have ln1 := bn1.lt
      have x0 : w1.cell? ⟨w.heap.size, 0, none⟩ = some (.slice A1 d.s.T.length c1) := bn1.cell 0
      have x1 : w1.cell? ⟨w.heap.size, 1, none⟩ = some (.slice A2 d.s.P.length c2) := bn1.cell 1
      have x2 : w1.cell? ⟨w.heap.size, 2, none⟩ = some (.slice A3 d.s.P.length c3) := bn1.cell 2
      have x3 : w1.cell? ⟨w.heap.size, 3, none⟩ = some (.int .i64 (most : Int)) := bn1.cell 3
      have x4 : w1.cell? ⟨w.heap.size, 4, none⟩ = some (.slice Af d.fs.length cf) := bn1.cell 4
      have x5 : w1.cell? ⟨w.heap.size, 5, none⟩ = some (.slice d.res.a d.res.l.length d.res.c) := bn1.cell 5
      have x6 : w1.cell? ⟨w.heap.size, 6, none⟩ = some (.int .i64 d.broken) := bn1.cell 6
      have H1 := Lib.hid h1
      clear h1 bn1 hl
      go_wp2_with fail
      refine (refElse_calls H1.out.ref H1.out.keep0 (by rw [hRM.s]; exact hf.ok) (by omega) (by rw [hRM.s]; omega) (by rw [hRM.s]; omega) (fun f h => by have := hfr.ls f h; omega)).mono ?_
      rintro e w2 ⟨v2, rfl, hr2, hk2⟩
      rw [hdd] at hr2
      have h1 := H1.out
      clear x0 x1 x2 x3 x4 x5 x6 ln1 H1
      obtain ⟨B1, B2, B3, d1, d2, d3, most', Ag, cg, rfl, _, _⟩ := id hr2
      have bn2 := h1.var.keep hk2
      have z0 : w2.cell? ⟨w.heap.size, 0, none⟩ = some (.slice A1 d.s.T.length c1) := bn2.cell 0
      have z1 : w2.cell? ⟨w.heap.size, 1, none⟩ = some (.slice A2 d.s.P.length c2) := bn2.cell 1
      have z2 : w2.cell? ⟨w.heap.size, 2, none⟩ = some (.slice A3 d.s.P.length c3) := bn2.cell 2
      have z3 : w2.cell? ⟨w.heap.size, 3, none⟩ = some (.int .i64 (most : Int)) := bn2.cell 3
      have z4 : w2.cell? ⟨w.heap.size, 4, none⟩ = some (.slice Af d.fs.length cf) := bn2.cell 4
      have z5 : w2.cell? ⟨w.heap.size, 5, none⟩ = some (.slice d.res.a d.res.l.length d.res.c) := bn2.cell 5
      have z6 : w2.cell? ⟨w.heap.size, 6, none⟩ = some (.int .i64 d.broken) := bn2.cell 6
      have fz := bn2.frozen
      have lz := bn2.lt
      have Hfin := Lib.hid (fun (W : World) (hE : Ext (fun q => q = w.heap.size) w2 W) (hv : Blk W w.heap.size 74 (rcells7 B1 B2 B3 dd.s.T.length dd.s.P.length d1 d2 d3 most' Ag dd.fs.length cg dd.res dd.broken)) => DIn.refcall h1 hk2 hr2 hE hv)
      have Hbn := Lib.hid bn2
      clear h1 hr2 hk2 bn2
      unfold rcells7 LD.v at *
      go_wp2_with fail
      go_meet
      obtain ⟨G1, hd⟩ := Hfin.out _ (ext7 _ _ _ _ _ _ _ _ _) (((((((Hbn.out.set_ 0 _).set_ 1 _).set_ 2 _).set_ 3 _).set_ 4 _).set_ 5 _).set_ 6 _)
      rw [Hc.out, Hd.out]
      exact ⟨_, B1, B2, B3, d1, d2, d3, most', Ag, cg, F1, G1, rfl, by rw [He.out], hd⟩
    · have Hc := Lib.hid (show c' = (c.leave).1 by rw [← HC.out]; unfold Ctl.act; simp [Hkd.out])
      obtain ⟨dd, hdd⟩ : ∃ dd, (d.leave).1 = dd := ⟨_, rfl⟩
      have Hd := Lib.hid (show d' = dd by rw [← HD.out, ← hdd]; unfold RC.act; simp [Hkd.out])
      have He := Lib.hid (hRM.leave).1
      go_wp2_with fail
      refine (leave_calls Hin.out.at_ hf.ok (by omega) (by omega) (by omega) (by omega) (by omega)).mono ?_
      rintro e w1 ⟨rfl, hl⟩
      obtain ⟨F1, h1⟩ := Hin.out.call hl
      have bn1 := h1.var
      have ln1 := bn1.lt
      have x0 : w1.cell? ⟨w.heap.size, 0, none⟩ = some (.slice A1 d.s.T.length c1) := bn1.cell 0
      have x1 : w1.cell? ⟨w.heap.size, 1, none⟩ = some (.slice A2 d.s.P.length c2) := bn1.cell 1
      have x2 : w1.cell? ⟨w.heap.size, 2, none⟩ = some (.slice A3 d.s.P.length c3) := bn1.cell 2
      have x3 : w1.cell? ⟨w.heap.size, 3, none⟩ = some (.int .i64 (most : Int)) := bn1.cell 3
      have x4 : w1.cell? ⟨w.heap.size, 4, none⟩ = some (.slice Af d.fs.length cf) := bn1.cell 4
      have x5 : w1.cell? ⟨w.heap.size, 5, none⟩ = some (.slice d.res.a d.res.l.length d.res.c) := bn1.cell 5
      have x6 : w1.cell? ⟨w.heap.size, 6, none⟩ = some (.int .i64 d.broken) := bn1.cell 6
      have H1 := Lib.hid h1
      clear h1 bn1 hl
      go_wp2_with fail
      refine (refLeave_calls H1.out.ref H1.out.keep0 (by rw [hRM.s]; exact hf.ok) (by omega) (by rw [hRM.s]; omega) (by rw [hRM.s]; omega) (fun f h => by have := hfr.ls f h; omega)).mono ?_
      rintro e w2 ⟨v2, rfl, hr2, hk2⟩
      rw [hdd] at hr2
      have h1 := H1.out
      clear x0 x1 x2 x3 x4 x5 x6 ln1 H1
      obtain ⟨B1, B2, B3, d1, d2, d3, most', Ag, cg, rfl, _, _⟩ := id hr2
      have bn2 := h1.var.keep hk2
      have z0 : w2.cell? ⟨w.heap.size, 0, none⟩ = some (.slice A1 d.s.T.length c1) := bn2.cell 0
      have z1 : w2.cell? ⟨w.heap.size, 1, none⟩ = some (.slice A2 d.s.P.length c2) := bn2.cell 1
      have z2 : w2.cell? ⟨w.heap.size, 2, none⟩ = some (.slice A3 d.s.P.length c3) := bn2.cell 2
      have z3 : w2.cell? ⟨w.heap.size, 3, none⟩ = some (.int .i64 (most : Int)) := bn2.cell 3
      have z4 : w2.cell? ⟨w.heap.size, 4, none⟩ = some (.slice Af d.fs.length cf) := bn2.cell 4
      have z5 : w2.cell? ⟨w.heap.size, 5, none⟩ = some (.slice d.res.a d.res.l.length d.res.c) := bn2.cell 5
      have z6 : w2.cell? ⟨w.heap.size, 6, none⟩ = some (.int .i64 d.broken) := bn2.cell 6
      have fz := bn2.frozen
      have lz := bn2.lt
      have Hfin := Lib.hid (fun (W : World) (hE : Ext (fun q => q = w.heap.size) w2 W) (hv : Blk W w.heap.size 74 (rcells7 B1 B2 B3 dd.s.T.length dd.s.P.length d1 d2 d3 most' Ag dd.fs.length cg dd.res dd.broken)) => DIn.refcall h1 hk2 hr2 hE hv)
      have Hbn := Lib.hid bn2
      clear h1 hr2 hk2 bn2
      unfold rcells7 LD.v at *
      go_wp2_with fail
      go_meet
      obtain ⟨G1, hd⟩ := Hfin.out _ (ext7 _ _ _ _ _ _ _ _ _) (((((((Hbn.out.set_ 0 _).set_ 1 _).set_ 2 _).set_ 3 _).set_ 4 _).set_ 5 _).set_ 6 _)
      rw [Hc.out, Hd.out]
      exact ⟨_, B1, B2, B3, d1, d2, d3, most', Ag, cg, F1, G1, rfl, by rw [He.out], hd⟩
    · have Hc := Lib.hid (show c' = (c.leave).1 by rw [← HC.out]; unfold Ctl.act; simp [Hkd.out])
      obtain ⟨dd, hdd⟩ : ∃ dd, (d.leave).1 = dd := ⟨_, rfl⟩
      have Hd := Lib.hid (show d' = dd by rw [← HD.out, ← hdd]; unfold RC.act; simp [Hkd.out])
      have He := Lib.hid (hRM.leave).1
      go_wp2_with fail
      refine (leave_calls Hin.out.at_ hf.ok (by omega) (by omega) (by omega) (by omega) (by omega)).mono ?_
      rintro e w1 ⟨rfl, hl⟩
      obtain ⟨F1, h1⟩ := Hin.out.call hl
      have bn1 := h1.var
      have ln1 := bn1.lt
      have x0 : w1.cell? ⟨w.heap.size, 0, none⟩ = some (.slice A1 d.s.T.length c1) := bn1.cell 0
      have x1 : w1.cell? ⟨w.heap.size, 1, none⟩ = some (.slice A2 d.s.P.length c2) := bn1.cell 1
      have x2 : w1.cell? ⟨w.heap.size, 2, none⟩ = some (.slice A3 d.s.P.length c3) := bn1.cell 2
      have x3 : w1.cell? ⟨w.heap.size, 3, none⟩ = some (.int .i64 (most : Int)) := bn1.cell 3
      have x4 : w1.cell? ⟨w.heap.size, 4, none⟩ = some (.slice Af d.fs.length cf) := bn1.cell 4
      have x5 : w1.cell? ⟨w.heap.size, 5, none⟩ = some (.slice d.res.a d.res.l.length d.res.c) := bn1.cell 5
      have x6 : w1.cell? ⟨w.heap.size, 6, none⟩ = some (.int .i64 d.broken) := bn1.cell 6
      have H1 := Lib.hid h1
      clear h1 bn1 hl
      go_wp2_with fail
      refine (refLeave_calls H1.out.ref H1.out.keep0 (by rw [hRM.s]; exact hf.ok) (by omega) (by rw [hRM.s]; omega) (by rw [hRM.s]; omega) (fun f h => by have := hfr.ls f h; omega)).mono ?_
      rintro e w2 ⟨v2, rfl, hr2, hk2⟩
      rw [hdd] at hr2
      have h1 := H1.out
      clear x0 x1 x2 x3 x4 x5 x6 ln1 H1
      obtain ⟨B1, B2, B3, d1, d2, d3, most', Ag, cg, rfl, _, _⟩ := id hr2
      have bn2 := h1.var.keep hk2
      have z0 : w2.cell? ⟨w.heap.size, 0, none⟩ = some (.slice A1 d.s.T.length c1) := bn2.cell 0
      have z1 : w2.cell? ⟨w.heap.size, 1, none⟩ = some (.slice A2 d.s.P.length c2) := bn2.cell 1
      have z2 : w2.cell? ⟨w.heap.size, 2, none⟩ = some (.slice A3 d.s.P.length c3) := bn2.cell 2
      have z3 : w2.cell? ⟨w.heap.size, 3, none⟩ = some (.int .i64 (most : Int)) := bn2.cell 3
      have z4 : w2.cell? ⟨w.heap.size, 4, none⟩ = some (.slice Af d.fs.length cf) := bn2.cell 4
      have z5 : w2.cell? ⟨w.heap.size, 5, none⟩ = some (.slice d.res.a d.res.l.length d.res.c) := bn2.cell 5
      have z6 : w2.cell? ⟨w.heap.size, 6, none⟩ = some (.int .i64 d.broken) := bn2.cell 6
      have fz := bn2.frozen
      have lz := bn2.lt
      have Hfin := Lib.hid (fun (W : World) (hE : Ext (fun q => q = w.heap.size) w2 W) (hv : Blk W w.heap.size 74 (rcells7 B1 B2 B3 dd.s.T.length dd.s.P.length d1 d2 d3 most' Ag dd.fs.length cg dd.res dd.broken)) => DIn.refcall h1 hk2 hr2 hE hv)
      have Hbn := Lib.hid bn2
      clear h1 hr2 hk2 bn2
      unfold rcells7 LD.v at *
      go_wp2_with fail
      go_meet
      obtain ⟨G1, hd⟩ := Hfin.out _ (ext7 _ _ _ _ _ _ _ _ _) (((((((Hbn.out.set_ 0 _).set_ 1 _).set_ 2 _).set_ 3 _).set_ 4 _).set_ 5 _).set_ 6 _)
      rw [Hc.out, Hd.out]
      exact ⟨_, B1, B2, B3, d1, d2, d3, most', Ag, cg, F1, G1, rfl, by rw [He.out], hd⟩
    · have Hc := Lib.hid (show c' = { c with s := c.s.push x.l.l } by rw [← HC.out]; unfold Ctl.act; simp [Hkd.out])
      obtain ⟨dd, hdd⟩ : ∃ dd : RC, { d with s := d.s.push x.l.l } = dd := ⟨_, rfl⟩
      have Hd := Lib.hid (show d' = dd by rw [← HD.out, ← hdd]; unfold RC.act; simp [Hkd.out])
      have nF : ¬ F (w.heap.size + 1) := Hin.out.nF (by omega)
      have q5 := fun y : KE F wa => y.cell (v := .slice x.l.a x.l.l.length x.l.c) (Hin.out.arg.cell 5) nF
      go_wp2_with fail
      refine region_begin (S := fun w' => ∃ y : KE F wa, w' = y.val) (by kernel_rfl) ?_
      refine region_take [0, 2, 3] [] 2 (by kernel_rfl) (by kernel_rfl) (KE.mk' (Ext.drew (Ext.refl _ _))) ?_
      show wpQuiet _ _ _ _ [_, _, _] _
      repeat (go_big_quiet_step (fail))
      refine wpQuiet_nil ?_
      clear q5
      have hid := Hin.out.keep (Keep.refl wa).drew
      refine region_fix (i := 1) (fuel := 1) rfl (by kernel_rfl) (fun K hK => ?_)
      go_simp
      refine (cs_stack hid.at_).mono ?_
      rintro e w4 ⟨rfl, rfl⟩
      refine hK _ _ (KE.mk' (Ext.drew (Ext.refl _ _))) ?_
      clear hK K
      refine region_fix (i := 4) (fuel := 0) rfl (by kernel_rfl) (fun K hK => ?_)
      go_simp
      refine (cs_push hid.at_ x.l.l x.l.a x.l.c (hx.l.seg.keep hid.keep0) (by omega)).mono ?_
      rintro e w1 ⟨⟨u, rfl⟩, hl⟩
      refine hK _ _ (KE.mk' ((Ext.drew (Ext.refl F wa)).trans hl.1 (fun _ _ h => h))) ?_
      clear hK K
      refine region_done (by kernel_rfl) ?_
      obtain ⟨F1, h1⟩ := hid.call hl
      clear hid hl
      have bn1 := h1.var
      have ln1 := bn1.lt
      have fn1 := bn1.frozen
      have x0 : w1.cell? ⟨w.heap.size, 0, none⟩ = some (.slice A1 d.s.T.length c1) := bn1.cell 0
      have x1 : w1.cell? ⟨w.heap.size, 1, none⟩ = some (.slice A2 d.s.P.length c2) := bn1.cell 1
      have x2 : w1.cell? ⟨w.heap.size, 2, none⟩ = some (.slice A3 d.s.P.length c3) := bn1.cell 2
      have x3 : w1.cell? ⟨w.heap.size, 3, none⟩ = some (.int .i64 (most : Int)) := bn1.cell 3
      have x4 : w1.cell? ⟨w.heap.size, 4, none⟩ = some (.slice Af d.fs.length cf) := bn1.cell 4
      have x5 : w1.cell? ⟨w.heap.size, 5, none⟩ = some (.slice d.res.a d.res.l.length d.res.c) := bn1.cell 5
      have x6 : w1.cell? ⟨w.heap.size, 6, none⟩ = some (.int .i64 d.broken) := bn1.cell 6
      have la1 := h1.arg.lt
      have r5 : w1.cell? ⟨w.heap.size + 1, 5, none⟩ = some (.slice x.l.a x.l.l.length x.l.c) := h1.arg.cell 5
      have H1 := Lib.hid h1
      clear h1 bn1
      go_wp2_with fail
      refine (refPush_calls H1.out.ref.parts.1 x.l.l x.l.a x.l.c (hx.l.seg.keep H1.out.keep0) (by rw [hRM.s]; omega)).mono ?_
      rintro e w2 ⟨v2, rfl, hp2, hk2⟩
      obtain ⟨B1, B2, B3, d1, d2, d3, most', rfl, _⟩ := id hp2
      have h1 := H1.out
      clear x0 x1 x2 x3 x4 x5 x6 r5 la1 ln1 fn1 H1
      have bn2 := h1.var.keep hk2
      have z0 : w2.cell? ⟨w.heap.size, 0, none⟩ = some (.slice A1 d.s.T.length c1) := bn2.cell 0
      have z1 : w2.cell? ⟨w.heap.size, 1, none⟩ = some (.slice A2 d.s.P.length c2) := bn2.cell 1
      have z2 : w2.cell? ⟨w.heap.size, 2, none⟩ = some (.slice A3 d.s.P.length c3) := bn2.cell 2
      have z3 : w2.cell? ⟨w.heap.size, 3, none⟩ = some (.int .i64 (most : Int)) := bn2.cell 3
      have z4 : w2.cell? ⟨w.heap.size, 4, none⟩ = some (.slice Af d.fs.length cf) := bn2.cell 4
      have z5 : w2.cell? ⟨w.heap.size, 5, none⟩ = some (.slice d.res.a d.res.l.length d.res.c) := bn2.cell 5
      have z6 : w2.cell? ⟨w.heap.size, 6, none⟩ = some (.int .i64 d.broken) := bn2.cell 6
      have fz := bn2.frozen
      have lz := bn2.lt
      have hr2 : RefC w0 (Grow G w1) w2 (.agg (rcells7 B1 B2 B3 dd.s.T.length dd.s.P.length d1 d2 d3 most' Af dd.fs.length cf dd.res dd.broken).toArray) dd := by rw [← hdd]; exact ⟨B1, B2, B3, d1, d2, d3, most', Af, cf, rfl, hp2, (h1.ref.parts.2.keep hk2).grow w1⟩
      have Hfin := Lib.hid (fun (W : World) (hE : Ext (fun q => q = w.heap.size) w2 W) (hv : Blk W w.heap.size 74 (rcells7 B1 B2 B3 dd.s.T.length dd.s.P.length d1 d2 d3 most' Af dd.fs.length cf dd.res dd.broken)) => DIn.refcall h1 hk2 hr2 hE hv)
      have Hbn := Lib.hid bn2
      have Hv := Lib.hid (fun (W : World) (hv : Blk W w.heap.size 74 (rcells7 B1 B2 B3 (d.s.push x.l.l).T.length (d.s.push x.l.l).P.length d1 d2 d3 most' Af d.fs.length cf d.res d.broken)) => show Blk W w.heap.size 74 (rcells7 B1 B2 B3 dd.s.T.length dd.s.P.length d1 d2 d3 most' Af dd.fs.length cf dd.res dd.broken) by rw [← hdd]; exact hv)
      clear h1 hr2 hk2 bn2 hp2
      unfold rcells7 LD.v at *
      go_wp2_with fail
      go_meet
      obtain ⟨G1, hd⟩ := Hfin.out _ (by refine Ext.setCell (Ext.setCell (Ext.setCell (Ext.setCell (Ext.refl _ _) ?_ _) ?_ _) ?_ _) ?_ _ <;> exact fun _ => rfl) (Hv.out _ ((((Hbn.out.set_ 0 _).set_ 1 _).set_ 2 _).set_ 3 _))
      rw [Hc.out, Hd.out]
      exact ⟨0, B1, B2, B3, d1, d2, d3, most', Af, cf, F1, G1, rfl, rfl, hd⟩
    · have Hc := Lib.hid (show c' = c by rw [← HC.out]; unfold Ctl.act; simp [Hkd.out])
      have Hd := Lib.hid (show d' = d by rw [← HD.out]; unfold RC.act; simp [Hkd.out])
      have hlab := hRM.label x.n
      have hret := hRM.ret
      have q4 : wa.cell? ⟨w.heap.size + 1, 4, none⟩ = some (.int .i64 x.n) := Hin.out.arg.cell 4
      have hlls : ∀ y ∈ c.bs, y.p.length ≤ 1000000 ∧ y.r.length ≤ 1000000 := fun y hy => by have := hf.ls y hy; omega
      have hlen6 : (c.label x.n).1.length ≤ 1000000 := by
        unfold Ctl.label
        split
        · simp
        split
        · simp
        · simp only []
          have hb : ∀ b : PB, b ∈ c.bs ∨ b = ⟨0, [], [], false, false⟩ → (if b.kind = 3 then b.p else b.r).length ≤ 1000000 := fun b hb => by
            rcases hb with hb | hb
            · have := hf.ls b hb; split <;> omega
            · rw [hb]; simp
          refine hb _ ?_
          rw [List.getD_eq_getElem?_getD]
          cases hg : c.bs[c.bs.length - 1 - x.n.toNat]? with
          | none => exact .inr rfl
          | some b => exact .inl (List.mem_of_getElem? hg)
      have hlen7 : c.ret.length ≤ 1000000 := by
        unfold Ctl.ret
        split
        · simp
        · have := hrs; omega
      have hreto : ∃ z : LD, (if d.broken ≠ 0 then .slice none 0 0 else d.res.v) = z.v ∧ z.l = c.ret ∧ LOk w0 z := by
        by_cases hb : d.broken ≠ 0
        · rw [if_pos hb] at hret ⊢; exact ⟨LD.none, rfl, hret, ⟨Seg.nil _ _, by simp [LD.none]⟩⟩
        · rw [if_neg hb] at hret ⊢; exact ⟨d.res, rfl, hret, Hin.out.ref.parts.2.res⟩
      have hlabo : LOk w0 (d.label x.n).1 := by
        unfold RC.label
        split
        · exact ⟨Seg.nil _ _, by simp [LD.none]⟩
        split
        · exact ⟨Seg.nil _ _, by simp [LD.none]⟩
        split
        · rename_i f hg
          have := Hin.out.ref.parts.2.ls f (List.mem_of_getElem? hg)
          simp only []
          split
          · exact this.1
          · exact this.2
        · exact ⟨Seg.nil _ _, by simp [LD.none]⟩
      obtain ⟨rl, hrl, hrl1, hrl2⟩ := hreto
      have Hlab := Lib.hid hlab
      have Hrl := Lib.hid hrl
      have Hrl1 := Lib.hid hrl1
      have Hrl2 := Lib.hid hrl2
      have Hlabo := Lib.hid hlabo
      have Hlls := Lib.hid hlls
      clear hlab hret hrl hrl1 hrl2 hlabo hlls
      go_wp2_with fail
      refine (label_calls Hin.out.at_ x.n (by omega) Hlls.out).mono ?_
      rintro e w1 ⟨v1, rfl, ho1, hk1⟩
      obtain ⟨A5, a5, rfl, _⟩ := ho1.form
      have h1 := Hin.out.keep hk1
      have bn1 := h1.var
      have ln1 := bn1.lt
      have la1 := h1.arg.lt
      have x0 : w1.cell? ⟨w.heap.size, 0, none⟩ = some (.slice A1 d.s.T.length c1) := bn1.cell 0
      have x1 : w1.cell? ⟨w.heap.size, 1, none⟩ = some (.slice A2 d.s.P.length c2) := bn1.cell 1
      have x2 : w1.cell? ⟨w.heap.size, 2, none⟩ = some (.slice A3 d.s.P.length c3) := bn1.cell 2
      have x3 : w1.cell? ⟨w.heap.size, 3, none⟩ = some (.int .i64 (most : Int)) := bn1.cell 3
      have x4 : w1.cell? ⟨w.heap.size, 4, none⟩ = some (.slice Af d.fs.length cf) := bn1.cell 4
      have x5 : w1.cell? ⟨w.heap.size, 5, none⟩ = some (.slice d.res.a d.res.l.length d.res.c) := bn1.cell 5
      have x6 : w1.cell? ⟨w.heap.size, 6, none⟩ = some (.int .i64 d.broken) := bn1.cell 6
      have r4 : w1.cell? ⟨w.heap.size + 1, 4, none⟩ = some (.int .i64 x.n) := h1.arg.cell 4
      have H1 := Lib.hid h1
      have Ho1 := Lib.hid ho1
      clear h1 bn1 hk1 q4 ho1
      go_wp2_with fail
      refine (refLabel_calls H1.out.ref x.n (by omega)).mono ?_
      rintro e w2 ⟨rfl, hk2⟩
      obtain ⟨lb, hlb⟩ : ∃ lb, (d.label x.n).1 = lb := ⟨_, rfl⟩
      rw [hlb, Hlab.out.2]
      rw [hlb] at Hlab Hlabo
      clear hlb
      have h2 := H1.out.keep hk2
      have s5 := (Ho1.out.segN.2).keep hk2
      have s6 := Hlabo.out.seg.keep h2.keep0
      have d56 : decide ((c.label x.n).1 = lb.l) = true := decide_eq_true Hlab.out.1.symm
      have hl6 : lb.l.length ≤ 1000000 := by rw [Hlab.out.1]; exact hlen6
      clear x0 x1 x2 x3 x4 x5 x6 ln1 la1 r4
      have y0 := fun y : KW w2 => y.cell (v := .slice A1 d.s.T.length c1) (h2.var.cell 0)
      have y1 := fun y : KW w2 => y.cell (v := .slice A2 d.s.P.length c2) (h2.var.cell 1)
      have y2 := fun y : KW w2 => y.cell (v := .slice A3 d.s.P.length c3) (h2.var.cell 2)
      have y3 := fun y : KW w2 => y.cell (v := .int .i64 (most : Int)) (h2.var.cell 3)
      have y4 := fun y : KW w2 => y.cell (v := .slice Af d.fs.length cf) (h2.var.cell 4)
      have y5 := fun y : KW w2 => y.cell (v := .slice d.res.a d.res.l.length d.res.c) (h2.var.cell 5)
      have y6 := fun y : KW w2 => y.cell (v := .int .i64 d.broken) (h2.var.cell 6)
      have Hsame1 := Lib.hid (fun (wx : World) (hk : Keep w2 wx) => refSameVals_calls (c.label x.n).1 lb.l A5 lb.a a5 lb.c wx (s5.keep hk) (s6.keep hk) hlen6 hl6)
      rw [d56] at Hsame1
      have hd2 : Keep w2 w2.drew := (Keep.refl _).drew
      have H2 := Lib.hid h2
      clear h2 hk2 H1 s5 s6 Ho1 d56
      unfold rcells7 LD.v at *
      go_wp2_with fail
      refine region_begin (S := fun w' => ∃ y : KW w2, w' = y.val) (by kernel_rfl) ?_
      refine region_take [0, 1] [] 10 (by kernel_rfl) (by kernel_rfl) (InK.mk' hd2) ?_
      show wpQuiet _ _ _ _ [_, _] _
      repeat (go_big_quiet_step (fail))
      refine wpQuiet_nil ?_
      refine region_fix (i := 2) (fuel := 9) rfl (by kernel_rfl) (fun K hK => ?_)
      go_simp
      refine (Hsame1.out _ hd2).mono ?_
      rintro e w3 ⟨rfl, hk3'⟩
      have hk3 := hd2.trans hk3'
      refine hK _ _ (InK.mk' hk3) ?_
      clear hK K hk3'
      refine region_take [3, 4, 5, 7] _ 5 (by kernel_rfl) (by kernel_rfl) (InK.mk' hk3) ?_
      show wpQuiet _ _ _ _ [_, _, _, _] _
      repeat (go_big_quiet_step (fail))
      refine wpQuiet_nil ?_
      refine region_fix (i := 6) (fuel := 4) rfl (by kernel_rfl) (fun K hK => ?_)
      go_simp
      refine (return_calls (H2.out.keep hk3).at_ (by have := hrs; omega)).mono ?_
      rintro e w4 ⟨v4, rfl, ho4, hk4'⟩
      obtain ⟨A7, a7, rfl, _⟩ := ho4.form
      have hk4 := hk3.trans hk4'
      refine hK _ _ (InK.mk' hk4) ?_
      clear hK K hk4'
      have hrr := refReturn_calls (H2.out.keep hk4).ref
      unfold LD.v at hrr
      rw [Hrl.out] at hrr
      try unfold rcells7 at hrr
      refine region_fix (i := 8) (fuel := 3) rfl (by kernel_rfl) (fun K hK => ?_)
      go_simp
      refine hrr.mono ?_
      rintro e w5 ⟨rfl, hk5'⟩
      have hk5 := hk4.trans hk5'
      refine hK _ _ (InK.mk' hk5) ?_
      clear hK K hrr
      have s7 := (ho4.segN.2).keep hk5'
      have s8 := Hrl2.out.seg.keep (H2.out.keep hk5).keep0
      have d78 : decide (c.ret = rl.l) = true := decide_eq_true Hrl1.out.symm
      have hl8 : rl.l.length ≤ 1000000 := by rw [Hrl1.out]; exact hlen7
      have hs7 := refSameVals_calls c.ret rl.l A7 rl.a a7 rl.c w5 s7 s8 hlen7 hl8
      rw [d78] at hs7
      clear s7 s8 d78 hk5' ho4
      refine region_fix (i := 9) (fuel := 2) rfl (by kernel_rfl) (fun K hK => ?_)
      go_simp
      refine hs7.mono ?_
      rintro e w6 ⟨rfl, hk6'⟩
      have hk6 := hk5.trans hk6'
      refine hK _ _ (InK.mk' hk6) ?_
      clear hK K hs7 hk6'
      refine region_take [10, 11] _ 0 (by kernel_rfl) (by kernel_rfl) (InK.mk' hk6) ?_
      show wpQuiet _ _ _ _ [_, _] _
      repeat (go_big_quiet_step (fail))
      refine wpQuiet_nil ?_
      refine region_done (by kernel_rfl) ?_
      have h6 := Lib.hid (H2.out.keep hk6)
      clear H2 hk3 hk4 hk5 hk6 y0 y1 y2 y3 y4 y5 y6
      go_wp2_with fail
      go_meet
      rw [Hc.out, Hd.out]
      exact ⟨_, A1, A2, A3, c1, c2, c3, most, Af, cf, _, _, rfl, rfl, h6.out⟩
    · have Hc := Lib.hid (show c' = c.dead by rw [← HC.out]; unfold Ctl.act; simp [Hkd.out])
      obtain ⟨dd, hdd⟩ : ∃ dd, d.dead = dd := ⟨_, rfl⟩
      have Hd := Lib.hid (show d' = dd by rw [← HD.out, ← hdd]; unfold RC.act; simp [Hkd.out])
      go_wp2_with fail
      refine (dead_calls Hin.out.at_ hf.ok (by omega) (by omega)).mono ?_
      rintro e w1 ⟨⟨u, rfl⟩, hl⟩
      obtain ⟨F1, h1⟩ := Hin.out.call hl
      have bn1 := h1.var
      have ln1 := bn1.lt
      have x0 : w1.cell? ⟨w.heap.size, 0, none⟩ = some (.slice A1 d.s.T.length c1) := bn1.cell 0
      have x1 : w1.cell? ⟨w.heap.size, 1, none⟩ = some (.slice A2 d.s.P.length c2) := bn1.cell 1
      have x2 : w1.cell? ⟨w.heap.size, 2, none⟩ = some (.slice A3 d.s.P.length c3) := bn1.cell 2
      have x3 : w1.cell? ⟨w.heap.size, 3, none⟩ = some (.int .i64 (most : Int)) := bn1.cell 3
      have x4 : w1.cell? ⟨w.heap.size, 4, none⟩ = some (.slice Af d.fs.length cf) := bn1.cell 4
      have x5 : w1.cell? ⟨w.heap.size, 5, none⟩ = some (.slice d.res.a d.res.l.length d.res.c) := bn1.cell 5
      have x6 : w1.cell? ⟨w.heap.size, 6, none⟩ = some (.int .i64 d.broken) := bn1.cell 6
      have H1 := Lib.hid h1
      clear h1 bn1 hl
      go_wp2_with fail
      refine (refDead_calls H1.out.ref (by rw [hRM.s]; exact hf.ok) (by omega) (by rw [hRM.s]; omega) (by rw [hRM.s]; omega)).mono ?_
      rintro e w2 ⟨v2, rfl, hr2, hk2⟩
      rw [hdd] at hr2
      have h1 := H1.out
      clear x0 x1 x2 x3 x4 x5 x6 ln1 H1
      obtain ⟨B1, B2, B3, d1, d2, d3, most', Ag, cg, rfl, _, _⟩ := id hr2
      have bn2 := h1.var.keep hk2
      have z0 : w2.cell? ⟨w.heap.size, 0, none⟩ = some (.slice A1 d.s.T.length c1) := bn2.cell 0
      have z1 : w2.cell? ⟨w.heap.size, 1, none⟩ = some (.slice A2 d.s.P.length c2) := bn2.cell 1
      have z2 : w2.cell? ⟨w.heap.size, 2, none⟩ = some (.slice A3 d.s.P.length c3) := bn2.cell 2
      have z3 : w2.cell? ⟨w.heap.size, 3, none⟩ = some (.int .i64 (most : Int)) := bn2.cell 3
      have z4 : w2.cell? ⟨w.heap.size, 4, none⟩ = some (.slice Af d.fs.length cf) := bn2.cell 4
      have z5 : w2.cell? ⟨w.heap.size, 5, none⟩ = some (.slice d.res.a d.res.l.length d.res.c) := bn2.cell 5
      have z6 : w2.cell? ⟨w.heap.size, 6, none⟩ = some (.int .i64 d.broken) := bn2.cell 6
      have fz := bn2.frozen
      have lz := bn2.lt
      have Hfin := Lib.hid (fun (W : World) (hE : Ext (fun q => q = w.heap.size) w2 W) (hv : Blk W w.heap.size 74 (rcells7 B1 B2 B3 dd.s.T.length dd.s.P.length d1 d2 d3 most' Ag dd.fs.length cg dd.res dd.broken)) => DIn.refcall h1 hk2 hr2 hE hv)
      have Hbn := Lib.hid bn2
      clear h1 hr2 hk2 bn2
      unfold rcells7 LD.v at *
      go_wp2_with fail
      go_meet
      obtain ⟨G1, hd⟩ := Hfin.out _ (ext7 _ _ _ _ _ _ _ _ _) (((((((Hbn.out.set_ 0 _).set_ 1 _).set_ 2 _).set_ 3 _).set_ 4 _).set_ 5 _).set_ 6 _)
      rw [Hc.out, Hd.out]
      exact ⟨_, B1, B2, B3, d1, d2, d3, most', Ag, cg, F1, G1, rfl, rfl, hd⟩
  case rest =>
    obtain ⟨E, B1, B2, B3, e1, e2, e3, mo, Ag, cg, F', G', rfl, rfl, hd⟩ := hcut
    have hf' := Hf'.out
    have hfr' := Hfr'.out
    have hRM' := Hr.out
    clear hRM hf hfr hkb q0 hfT hfP hfB hft hfF Hin HC HD Hf' Hfr'
    have hT' := hf'.T
    have hP' := hf'.P
    have hB' := hf'.bs
    have hF' := hfr'.fs
    have hs' := hRM'.s
    have hEE : (E == E) = true := by simp
    have hLL : (c'.isLive == c'.isLive) = true := by simp
    have hDD : ((c'.depth : Int) == (c'.depth : Int)) = true := by simp
    have hOO : (c'.done == c'.done) = true := by simp
    have nN : ¬ (w.heap.size = w.heap.size + 1 + 1) := by omega
    have y0 := fun y : KE (fun q => q = w.heap.size + 1 + 1) wc => y.cell (v := .slice B1 d'.s.T.length e1) (hd.var.cell 0) nN
    have y1 := fun y : KE (fun q => q = w.heap.size + 1 + 1) wc => y.cell (v := .slice B2 d'.s.P.length e2) (hd.var.cell 1) nN
    have y2 := fun y : KE (fun q => q = w.heap.size + 1 + 1) wc => y.cell (v := .slice B3 d'.s.P.length e3) (hd.var.cell 2) nN
    have y3 := fun y : KE (fun q => q = w.heap.size + 1 + 1) wc => y.cell (v := .int .i64 (mo : Int)) (hd.var.cell 3) nN
    have y4 := fun y : KE (fun q => q = w.heap.size + 1 + 1) wc => y.cell (v := .slice Ag d'.fs.length cg) (hd.var.cell 4) nN
    have y5 := fun y : KE (fun q => q = w.heap.size + 1 + 1) wc => y.cell (v := .slice d'.res.a d'.res.l.length d'.res.c) (hd.var.cell 5) nN
    have y6 := fun y : KE (fun q => q = w.heap.size + 1 + 1) wc => y.cell (v := .int .i64 d'.broken) (hd.var.cell 6) nN
    have Hd := Lib.hid hd
    have Hs := Lib.hid hs'
    clear hd hRM' hs'
    have hd0 : Keep wc wc.drew := (Keep.refl _).drew
    unfold rcells7 LD.v at *
    go_wp2_with fail
    refine region_begin (S := fun w' => ∃ y : KE (fun q => q = w.heap.size + 1 + 1) wc, w' = y.val) (by kernel_rfl) ?_
    refine region_take [0, 1, 2, 3, 4, 5, 7] [] 29 (by kernel_rfl) (by kernel_rfl) (KE.mk' (hd0.ext _)) ?_
    show wpQuiet _ _ _ _ [_, _, _, _, _, _, _] _
    repeat (go_big_quiet_step (fail))
    refine wpQuiet_nil ?_
    refine region_fix (i := 6) (fuel := 28) rfl (by kernel_rfl) (fun K hK => ?_)
    go_simp
    refine (live_calls (Hd.out.keep hd0).at_).mono ?_
    rintro e w4 ⟨rfl, rfl⟩
    refine hK _ _ (KE.mk' (hd0.ext _)) ?_
    clear hK K
    have hc8 := refLive_calls (Hd.out.keep hd0).ref (by omega)
    rw [Hr.out.live] at hc8
    try unfold rcells7 LD.v at hc8
    refine region_fix (i := 8) (fuel := 27) rfl (by kernel_rfl) (fun K hK => ?_)
    go_simp
    refine (hc8).mono ?_
    rintro e v4 ⟨rfl, hk4'⟩
    have hk4 := hd0.trans hk4'
    refine hK _ _ (KE.mk' (hk4.ext _)) ?_
    clear hK K
    refine region_take [9, 10, 11, 12, 14] _ 22 (by kernel_rfl) (by kernel_rfl) (KE.mk' (hk4.ext _)) ?_
    show wpQuiet _ _ _ _ [_, _, _, _, _] _
    repeat (go_big_quiet_step (fail))
    refine wpQuiet_nil ?_
    refine region_fix (i := 13) (fuel := 21) rfl (by kernel_rfl) (fun K hK => ?_)
    go_simp
    refine (depth_calls (Hd.out.keep hk4).at_).mono ?_
    rintro e w4 ⟨rfl, rfl⟩
    refine hK _ _ (KE.mk' (hk4.ext _)) ?_
    clear hK K
    have hc15 := refDepth_calls (Hd.out.keep hk4).ref
    rw [Hr.out.depth] at hc15
    try unfold rcells7 LD.v at hc15
    refine region_fix (i := 15) (fuel := 20) rfl (by kernel_rfl) (fun K hK => ?_)
    go_simp
    refine (hc15).mono ?_
    rintro e v5 ⟨rfl, hk5'⟩
    have hk5 := hk4.trans hk5'
    refine hK _ _ (KE.mk' (hk5.ext _)) ?_
    clear hK K
    refine region_take [16, 17, 18, 19, 21] _ 15 (by kernel_rfl) (by kernel_rfl) (KE.mk' (hk5.ext _)) ?_
    show wpQuiet _ _ _ _ [_, _, _, _, _] _
    repeat (go_big_quiet_step (fail))
    refine wpQuiet_nil ?_
    refine region_fix (i := 20) (fuel := 14) rfl (by kernel_rfl) (fun K hK => ?_)
    go_simp
    refine (done_calls (Hd.out.keep hk5).at_).mono ?_
    rintro e w4 ⟨rfl, rfl⟩
    refine hK _ _ (KE.mk' (hk5.ext _)) ?_
    clear hK K
    have hc22 := refDone_calls (Hd.out.keep hk5).ref
    rw [Hr.out.done] at hc22
    try unfold rcells7 LD.v at hc22
    refine region_fix (i := 22) (fuel := 13) rfl (by kernel_rfl) (fun K hK => ?_)
    go_simp
    refine (hc22).mono ?_
    rintro e v6 ⟨rfl, hk6'⟩
    have hk6 := hk5.trans hk6'
    refine hK _ _ (KE.mk' (hk6.ext _)) ?_
    clear hK K
    refine region_take [23, 24, 25, 26, 29, 30, 31] _ 6 (by kernel_rfl) (by kernel_rfl) (KE.mk' (hk6.ext _)) ?_
    show wpQuiet _ _ _ _ [_, _, _, _, _, _, _] _
    repeat (go_big_quiet_step (fail))
    refine wpQuiet_nil ?_
    refine region_fix (i := 27) (fuel := 5) rfl (by kernel_rfl) (fun K hK => ?_)
    go_simp
    refine (cs_stack (Hd.out.keep hk6).at_).mono ?_
    rintro e w4 ⟨rfl, rfl⟩
    refine hK _ _ (KE.mk' (hk6.ext _)) ?_
    clear hK K
    refine region_fix (i := 28) (fuel := 4) rfl (by kernel_rfl) (fun K hK => ?_)
    go_simp
    refine (cs_all (Hd.out.keep hk6).at_ (by omega)).mono ?_
    rintro e v7 ⟨va, rfl, hoa, hk7'⟩
    have hk7 := hk6.trans hk7'
    refine hK _ _ (KE.mk' (hk7.ext _)) ?_
    clear hK K
    obtain ⟨Aa, aa, rfl, _⟩ := hoa.form
    have sa := hoa.segN.2
    have hpr := (Hd.out.keep hk7).ref.parts.1.parts.1
    have sb := hpr.1
    have dab : decide (c'.s.T = d'.s.T) = true := decide_eq_true (by rw [Hs.out])
    have hT2 : d'.s.T.length ≤ 1000000 := by rw [Hs.out]; omega
    have hsv := refSameVals_calls c'.s.T d'.s.T Aa B1 aa e1 _ sa sb (by omega) hT2
    rw [dab] at hsv
    clear sa sb dab hoa hpr
    refine region_fix (i := 32) (fuel := 3) rfl (by kernel_rfl) (fun K hK => ?_)
    go_simp
    refine (hsv).mono ?_
    rintro e v8 ⟨rfl, hk8'⟩
    have hk8 := hk7.trans hk8'
    refine hK _ _ (KE.mk' (hk8.ext _)) ?_
    clear hK K
    refine region_take [33] _ 2 (by kernel_rfl) (by kernel_rfl) (KE.mk' (hk8.ext _)) ?_
    show wpQuiet _ _ _ _ [_] _
    repeat (go_big_quiet_step (fail))
    refine wpQuiet_nil ?_
    have bz := (Hd.out.keep hk8).res
    have z0 : v8.cell? ⟨w.heap.size + 1 + 1, 0, none⟩ = some (.slice none 0 0) := bz.cell 0
    have z1 : v8.cell? ⟨w.heap.size + 1 + 1, 1, none⟩ = some (.slice none 0 0) := bz.cell 1
    have z2 : v8.cell? ⟨w.heap.size + 1 + 1, 2, none⟩ = some (.slice none 0 0) := bz.cell 2
    have z3 : v8.cell? ⟨w.heap.size + 1 + 1, 3, none⟩ = some (.int .i64 0) := bz.cell 3
    have z4 : v8.cell? ⟨w.heap.size + 1 + 1, 4, none⟩ = some (.slice none 0 0) := bz.cell 4
    have z5 : v8.cell? ⟨w.heap.size + 1 + 1, 5, none⟩ = some (.slice none 0 0) := bz.cell 5
    have z6 : v8.cell? ⟨w.heap.size + 1 + 1, 6, none⟩ = some (.int .i64 0) := bz.cell 6
    have fz := bz.frozen
    have lz := bz.lt
    have Hend := Lib.hid (fun (W : World) (hE : Ext (fun q => q = w.heap.size + 1 + 1) v8 W) => show DLeft w0 w F G b bst c' d' (.agg (rcells7 B1 B2 B3 d'.s.T.length d'.s.P.length e1 e2 e3 mo Ag d'.fs.length cg d'.res d'.broken).toArray) W from does_end (Hd.out.keep hk8) hE)
    have hb6 := (Hd.out.keep hk8).size
    have Hbz := Lib.hid bz
    clear bz
    refine region_fix (i := 34) (fuel := 1) rfl (by kernel_rfl) (fun K hK => ?_)
    go_simp
    obtain ⟨W7, hW7⟩ : ∃ W7 : World, W7 = (((((((v8.setCell ⟨w.heap.size + 1 + 1, 0, none⟩ (.slice B1 d'.s.T.length e1)).setCell ⟨w.heap.size + 1 + 1, 1, none⟩ (.slice B2 d'.s.P.length e2)).setCell ⟨w.heap.size + 1 + 1, 2, none⟩ (.slice B3 d'.s.P.length e3)).setCell ⟨w.heap.size + 1 + 1, 3, none⟩ (.int .i64 (mo : Int))).setCell ⟨w.heap.size + 1 + 1, 4, none⟩ (.slice Ag d'.fs.length cg)).setCell ⟨w.heap.size + 1 + 1, 5, none⟩ (.slice d'.res.a d'.res.l.length d'.res.c)).setCell ⟨w.heap.size + 1 + 1, 6, none⟩ (.int .i64 d'.broken)) := ⟨_, rfl⟩
    have hE7 : Ext (fun q => q = w.heap.size + 1 + 1) v8 W7 := by rw [hW7]; exact ext7 _ _ _ _ _ _ _ _ _
    have b7 : Blk W7 (w.heap.size + 1 + 1) 74 (rcells7 B1 B2 B3 d'.s.T.length d'.s.P.length e1 e2 e3 mo Ag d'.fs.length cg d'.res d'.broken) := by rw [hW7]; exact ((((((Hbz.out.set_ 0 _).set_ 1 _).set_ 2 _).set_ 3 _).set_ 4 _).set_ 5 _).set_ 6 _
    rw [← hW7]
    refine hK _ _ (KE.mk' ((hk8.ext _).trans hE7 (fun _ _ h => h))) ?_
    clear hK K hW7 z0 z1 z2 z3 z4 z5 z6 fz lz
    refine region_fix (i := 35) (fuel := 0) rfl (by kernel_rfl) (fun K hK => ?_)
    go_simp
    refine hK _ _ (KE.mk' ((hk8.ext _).trans hE7 (fun _ _ h => h))) ?_
    clear hK K
    refine region_done (by kernel_rfl) ?_
    have t0 : W7.cell? ⟨w.heap.size + 1 + 1, 0, none⟩ = some (.slice B1 d'.s.T.length e1) := b7.cell 0
    have t1 : W7.cell? ⟨w.heap.size + 1 + 1, 1, none⟩ = some (.slice B2 d'.s.P.length e2) := b7.cell 1
    have t2 : W7.cell? ⟨w.heap.size + 1 + 1, 2, none⟩ = some (.slice B3 d'.s.P.length e3) := b7.cell 2
    have t3 : W7.cell? ⟨w.heap.size + 1 + 1, 3, none⟩ = some (.int .i64 (mo : Int)) := b7.cell 3
    have t4 : W7.cell? ⟨w.heap.size + 1 + 1, 4, none⟩ = some (.slice Ag d'.fs.length cg) := b7.cell 4
    have t5 : W7.cell? ⟨w.heap.size + 1 + 1, 5, none⟩ = some (.slice d'.res.a d'.res.l.length d'.res.c) := b7.cell 5
    have t6 : W7.cell? ⟨w.heap.size + 1 + 1, 6, none⟩ = some (.int .i64 d'.broken) := b7.cell 6
    have lt7 := b7.lt
    clear y0 y1 y2 y3 y4 y5 y6
    go_wp2_with fail
    refine bodyPost_ret (v := .tuple #[.agg #[.slice B1 d'.s.T.length e1, .slice B2 d'.s.P.length e2, .slice B3 d'.s.P.length e3, .int .i64 (mo : Int), .slice Ag d'.fs.length cg, .slice d'.res.a d'.res.l.length d'.res.c, .int .i64 d'.broken], .bool true]) (by simp [results, Try.results47, go_sem, t0, t1, t2, t3, t4, t5, t6]) rfl ⟨_, rfl, Hend.out _ hE7⟩
end Go.Proofs.Ytkeefajfndmpeaa
