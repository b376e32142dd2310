/-
  The law CtrlRuns returns true.
-/
import Derived.Test.YtkeefajfndmpeaaCDoes
namespace Go.Proofs.Ytkeefajfndmpeaa
open Go Go.RowKit

/-! ### Plain -/
theorem runs_ok {rd : LD} (hr : rd.l.length ≤ 20) {L : List AD} (hL : ∀ a ∈ L, a.l.l.length ≤ 20 ∧ a.p.l.length ≤ 20 ∧ a.q.l.length ≤ 20) : ∀ k, k ≤ L.length →
    RM ((L.take k).foldl Ctl.act (Ctl.fresh rd.l)) ((L.take k).foldl RC.act (RC.fresh rd)) ∧ Fit k ((L.take k).foldl Ctl.act (Ctl.fresh rd.l)) ∧ FitR k ((L.take k).foldl RC.act (RC.fresh rd)) ∧ ((L.take k).foldl Ctl.act (Ctl.fresh rd.l)).res = rd.l
  | 0, _ => ⟨RM.fresh rd, Fit.fresh hr, FitR.fresh hr, rfl⟩
  | k + 1, hk => by
    obtain ⟨h1, h2, h3, h4⟩ := runs_ok hr hL k (by omega)
    have h5 := hL L[k] (List.getElem_mem (by omega))
    rw [take_snoc L (by omega), List.foldl_append, List.foldl_append]
    refine ⟨h1.act _, h2.act h5.2.1 h5.2.2 h5.1, h3.act h5.2.1 h5.2.2, ?_⟩
    show (Ctl.act _ _).res = _
    rw [Ctl.act_res]; exact h4
where
  Ctl.act_res (c : Ctl) (x : AD) : (c.act x).res = c.res := by
    have h2 : ∀ (c : Ctl) (o : Int) (p r : List Int), (c.enter2 o p r).1.res = c.res := fun c o p r => by unfold Ctl.enter2; split <;> rfl
    unfold Ctl.act
    split
    · unfold Ctl.enter
      split
      · rfl
      split
      · rfl
      split
      · rfl
      split
      · split
        · rw [h2]
        · rfl
      · rw [h2]
    split
    · unfold Ctl.els
      split
      · rfl
      split
      · rfl
      split
      · rfl
      split <;> rfl
    split
    · unfold Ctl.leave
      split
      · rfl
      split
      · rfl
      split
      · split <;> rfl
      · rfl
    split
    · rfl
    split
    · rfl
    · unfold Ctl.dead
      split <;> rfl

/-! ### In memory -/
/-- The State at b, the reference's in the variable bx. -/
structure CSt (w0 : World) (bx b bst : Nat) (c : Ctl) (d : RC) (F G : Nat → Prop) (A1 A2 A3 : Option Addr) (c1 c2 c3 most : Nat) (Af : Option Addr) (cf : Nat) (w : World) : Prop where
  keep : Keep w0 w
  at_ : CAt F w b bst c
  ref : RefC w0 G w (.agg (rcells7 A1 A2 A3 d.s.T.length d.s.P.length c1 c2 c3 most Af d.fs.length cf d.res d.broken).toArray) d
  var : Blk w bx 74 (rcells7 A1 A2 A3 d.s.T.length d.s.P.length c1 c2 c3 most Af d.fs.length cf d.res d.broken)
  apart : ∀ k, G k → F k → False
  glt : ∀ k, G k → k < w.heap.size
  fge : ∀ k, F k → w0.heap.size ≤ k
  xf : ¬ F bx
  xg : ¬ G bx
  xge : w0.heap.size ≤ bx
theorem CSt.far {w0 w W : World} {bx b bst : Nat} {c : Ctl} {d : RC} {F G : Nat → Prop} {A1 A2 A3 : Option Addr} {c1 c2 c3 most : Nat} {Af : Option Addr} {cf : Nat} (h : CSt w0 bx b bst c d F G A1 A2 A3 c1 c2 c3 most Af cf w) (hk : Keep w W) : CSt w0 bx b bst c d F G A1 A2 A3 c1 c2 c3 most Af cf W :=
  ⟨h.keep.trans hk, h.at_.keep hk, h.ref.keep hk, h.var.keep hk, h.apart, fun k hk' => Nat.lt_of_lt_of_le (h.glt k hk') hk.size, h.fge, h.xf, h.xg, h.xge⟩
/-- What holds at the head of each round. -/
def CInv (w0 : World) (bx b bst : Nat) (c : Ctl) (d : RC) (wr : World) : Prop := ∃ F G A1 A2 A3 c1 c2 c3 most Af cf, CSt w0 bx b bst c d F G A1 A2 A3 c1 c2 c3 most Af cf wr
/-- Behind the call of does: its result lies in a variable of its own. -/
def CCut (w0 : World) (bx b bst : Nat) (c : Ctl) (d : RC) (s8 s9 : Value) (W : World) : Prop :=
  ∃ (y : Nat) (F G : Nat → Prop) (A1 A2 A3 : Option Addr) (c1 c2 c3 most : Nat) (Af : Option Addr) (cf : Nat) (cs : List Value), s8 = .pointer (some ⟨y, 0, none⟩) ∧ s9 = .bool true ∧ CSt w0 y b bst c d F G A1 A2 A3 c1 c2 c3 most Af cf W ∧ Blk W bx 74 cs ∧ bx ≠ y ∧ ¬ F bx ∧ ¬ G bx ∧ cs.length = 7 ∧ w0.heap.size ≤ bx
theorem DLeft.form {w0 w w' : World} {F G : Nat → Prop} {b bst : Nat} {c : Ctl} {d : RC} {v : Value} (h : DLeft w0 w F G b bst c d v w') : ∃ (A1 A2 A3 : Option Addr) (c1 c2 c3 most : Nat) (Af : Option Addr) (cf : Nat), v = .agg (rcells7 A1 A2 A3 d.s.T.length d.s.P.length c1 c2 c3 most Af d.fs.length cf d.res d.broken).toArray := by
  obtain ⟨_, F', G', _, ⟨A1, A2, A3, c1, c2, c3, most, Af, cf, e, _⟩, _⟩ := h
  exact ⟨A1, A2, A3, c1, c2, c3, most, Af, cf, e⟩
theorem ccut_end {w0 w wa w1 W : World} {bx b bst : Nat} {c c' : Ctl} {d d' : RC} {F G : Nat → Prop} {A1 A2 A3 B1 B2 B3 Af Ag : Option Addr} {c1 c2 c3 most d1 d2 d3 mo cf cg : Nat} (h : CSt w0 bx b bst c d F G A1 A2 A3 c1 c2 c3 most Af cf w) (hka : Keep w wa)
    (hl : DLeft w0 wa F G b bst c' d' (.agg (rcells7 B1 B2 B3 d'.s.T.length d'.s.P.length d1 d2 d3 mo Ag d'.fs.length cg d'.res d'.broken).toArray) w1) (y : Nat) (hy : w.heap.size ≤ y) (hy' : y < wa.heap.size ∨ w1.heap.size ≤ y) {us : List Value} (hyb : y < wa.heap.size → Blk w1 y 74 us)
    (hW : Ext (fun k => k = y) w1 W) (hb : Blk W y 74 (rcells7 B1 B2 B3 d'.s.T.length d'.s.P.length d1 d2 d3 mo Ag d'.fs.length cg d'.res d'.broken)) : CCut w0 bx b bst c' d' (.pointer (some ⟨y, 0, none⟩)) (.bool true) W := by
  obtain ⟨he, F', G', hat, hr, hdis, hF, hGl, hG⟩ := hl
  have hbx := h.var.lt
  have hsa := hka.size
  have hs1 := he.size
  have hFlt := h.at_.lt
  have yF : ¬ F' y := fun hf => by
    rcases hF y hf with h1 | h1
    · have := hFlt y h1; omega
    · have := hat.lt y hf; omega
  have yG : ¬ G' y := fun hg => by
    rcases hG y hg with h1 | h1
    · have := h.glt y h1; omega
    · have := hGl y hg; omega
  have xF : ¬ F' bx := fun hf => by
    rcases hF bx hf with h1 | h1
    · exact h.xf h1
    · omega
  have xG : ¬ G' bx := fun hg => by
    rcases hG bx hg with h1 | h1
    · exact h.xg h1
    · omega
  have hk1 : Keep w0 w1 := Keep.of_ext2 (h.keep.trans hka) he (fun k hk hf => by have := h.fge k hf; omega)
  have hw0 : w0.heap.size ≤ y := by have := h.keep.size; omega
  have hatW : CAt F' W b bst c' := by
    by_cases hya : y < wa.heap.size
    · exact hat.far hW (hyb hya) yF
    · have hK : Keep w1 W := ⟨hW.os, hW.tape, hW.output, hW.size, fun k hk => hW.block k hk (by omega)⟩
      exact hat.keep hK
  refine ⟨y, F', G', B1, B2, B3, d1, d2, d3, mo, Ag, cg, _, rfl, rfl, ⟨Keep.of_ext2 hk1 hW (fun k hk e => by omega), hatW, hr.ext hW (fun k hk e => yG (e ▸ hk)), hb, hdis, fun k hk => Nat.lt_of_lt_of_le (hGl k hk) hW.size, ?_, yF, yG, hw0⟩, ((h.var.keep hka).ext he h.xf).ext hW (by omega), by omega, xF, xG, rfl, h.xge⟩
  intro k hk
  rcases hF k hk with h1 | h1
  · exact h.fge k h1
  · have := h.keep.size; omega
theorem ccut_store {w0 w W : World} {bx y b bst : Nat} {c : Ctl} {d : RC} {F G : Nat → Prop} {A1 A2 A3 Af : Option Addr} {c1 c2 c3 most cf : Nat} {cs : List Value} (h : CSt w0 y b bst c d F G A1 A2 A3 c1 c2 c3 most Af cf w) (hx : Blk w bx 74 cs) (hl : cs.length = 7) (xF : ¬ F bx) (xG : ¬ G bx) (hge : w0.heap.size ≤ bx)
    (hW : W = (((((((w.setCell ⟨bx, 0, none⟩ (.slice A1 d.s.T.length c1)).setCell ⟨bx, 1, none⟩ (.slice A2 d.s.P.length c2)).setCell ⟨bx, 2, none⟩ (.slice A3 d.s.P.length c3)).setCell ⟨bx, 3, none⟩ (.int .i64 (most : Int))).setCell ⟨bx, 4, none⟩ (.slice Af d.fs.length cf)).setCell ⟨bx, 5, none⟩ (.slice d.res.a d.res.l.length d.res.c)).setCell ⟨bx, 6, none⟩ (.int .i64 d.broken))) : CSt w0 bx b bst c d F G A1 A2 A3 c1 c2 c3 most Af cf W := by
  have hE : Ext (fun k => k = bx) w W := by rw [hW]; exact ext7 _ _ _ _ _ _ _ _ _
  refine ⟨Keep.of_ext2 h.keep hE (fun k hk e => by omega), h.at_.far hE hx xF, h.ref.ext hE (fun k hk e => xG (e ▸ hk)), ?_, h.apart, fun k hk => Nat.lt_of_lt_of_le (h.glt k hk) hE.size, h.fge, xF, xG, hge⟩
  rw [hW]
  match cs, hl with
  | [u0, u1, u2, u3, u4, u5, u6], _ => exact ((((((hx.set_ 0 _).set_ 1 _).set_ 2 _).set_ 3 _).set_ 4 _).set_ 5 _).set_ 6 _
theorem cstart_of {w w1 w2 : World} {b bst : Nat} {F : Nat → Prop} {rd : LD} {A1 A2 A3 Af : Option Addr} {c1 c2 c3 most cf : Nat} (hk1 : Keep w w1) (hat : CAt F w1 b bst (Ctl.fresh rd.l)) (hF : ∀ k, F k → w.heap.size ≤ k)
    (hr : RefC w (fun k => w1.heap.size ≤ k) w2 (.agg (rcells7 A1 A2 A3 (RC.fresh rd).s.T.length (RC.fresh rd).s.P.length c1 c2 c3 most Af (RC.fresh rd).fs.length cf (RC.fresh rd).res (RC.fresh rd).broken).toArray) (RC.fresh rd)) (hk2 : Keep w1 w2) :
    CInv w w2.heap.size b bst (Ctl.fresh rd.l) (RC.fresh rd) (w2.alloc (.cells (rcells7 A1 A2 A3 (RC.fresh rd).s.T.length (RC.fresh rd).s.P.length c1 c2 c3 most Af (RC.fresh rd).fs.length cf (RC.fresh rd).res (RC.fresh rd).broken).toArray 74)) := by
  have hka : Keep w2 (w2.alloc (.cells (rcells7 A1 A2 A3 (RC.fresh rd).s.T.length (RC.fresh rd).s.P.length c1 c2 c3 most Af (RC.fresh rd).fs.length cf (RC.fresh rd).res (RC.fresh rd).broken).toArray 74)) := (Keep.refl _).alloc _
  have h1 := hk1.size
  have h2 := hk2.size
  refine ⟨F, fun k => w1.heap.size ≤ k ∧ k < w2.heap.size, A1, A2, A3, c1, c2, c3, most, Af, cf, ⟨(hk1.trans hk2).trans hka, (hat.keep hk2).keep hka, ((hr.mono (fun k h1 h2 => ⟨h2, h1⟩)).keep hka), Blk.new w2 _ _, fun k h3 h4 => by have := hat.lt k h4; omega, fun k h3 => by have := hka.size; omega, hF, fun h3 => by have := hat.lt _ h3; omega, fun h3 => by omega, by omega⟩⟩

theorem act6_at {w wr : World} {A : Option Addr} {L : List AD} (h : Seg w A (L.flatMap adC)) (hkeep : Keep w wr) {k : Nat} (hk : k < L.length) :
    ∃ b off, A = some ⟨b, off, none⟩ ∧ b < w.heap.size ∧ wr.cell? ⟨b, off + k * 6, none⟩ = some (.int .u8 L[k].kind) ∧ wr.cell? ⟨b, off + k * 6 + 1, none⟩ = some (.int .i64 L[k].op) ∧ wr.cell? ⟨b, off + k * 6 + 2, none⟩ = some (.slice L[k].p.a L[k].p.l.length L[k].p.c) ∧
      wr.cell? ⟨b, off + k * 6 + 3, none⟩ = some (.slice L[k].q.a L[k].q.l.length L[k].q.c) ∧ wr.cell? ⟨b, off + k * 6 + 4, none⟩ = some (.int .i64 L[k].n) ∧ wr.cell? ⟨b, off + k * 6 + 5, none⟩ = some (.slice L[k].l.a L[k].l.l.length L[k].l.c) := by
  obtain ⟨b, off, e, hb, hc⟩ := ad_at h hkeep hk
  simp only [← Nat.add_assoc] at hc
  exact ⟨b, off, e, hb, hc 0 _ rfl, hc 1 _ rfl, hc 2 _ rfl, hc 3 _ rfl, hc 4 _ rfl, hc 5 _ rfl⟩

set_option maxHeartbeats 4000000 in
set_option maxRecDepth 100000 in
theorem ctrlRuns_walk (rd : LD) (L : List AD) (A : Option Addr) (c : Nat) (w : World) (hrd : LOk w rd) (hs : Seg w A (L.flatMap adC)) (hL : ∀ a ∈ L, AOk w a) (hm : L.length ≤ maxLen) :
    Calls Try.prog 11 #[.slice rd.a rd.l.length rd.c, .slice A L.length c] w fun e w' => e = .returned (.bool true) ∧ Keep w w' := by
  have hfew := cfew_calls L A c w hs hL hm
  have hrl := hrd.len
  unfold maxLen at hm hrl
  cases hfb : cfewB L
  · rw [hfb] at hfew
    have Hf := Lib.hid hfew
    have Ha := Lib.hid (calive_calls w)
    clear hfew hL hs hrd  hfb
    go_enter Try.func11, Try.ntmps11
    go_wp2_with fail
    refine Hf.out.mono ?_
    rintro e w2 ⟨rfl, rfl⟩
    go_wp2_with fail
    refine Ha.out.mono ?_
    rintro e w2 ⟨rfl, hk⟩
    go_wp2
    go_ret
    exact ⟨rfl, hk⟩
  rw [hfb] at hfew
  obtain ⟨h60, h20⟩ := cfew_all hfb
  by_cases hr20 : rd.l.length ≤ 20
  rotate_left
  · have hgt : (20 : Int) < (rd.l.length : Int) := by omega
    have Hf := Lib.hid hfew
    have Ha := Lib.hid (calive_calls w)
    clear hfew hL hs hrd  hfb h60 h20 hr20
    go_enter Try.func11, Try.ntmps11
    go_wp2_with fail
    refine Hf.out.mono ?_
    rintro e w2 ⟨rfl, rfl⟩
    go_wp2_with fail
    refine Ha.out.mono ?_
    rintro e w2 ⟨rfl, hk⟩
    go_wp2
    go_ret
    exact ⟨rfl, hk⟩
  have hgt : ¬ (20 : Int) < (rd.l.length : Int) := by omega
  have Hf := Lib.hid hfew
  clear hfew hfb
  go_enter Try.func11, Try.ntmps11
  go_wp2_with fail
  refine Hf.out.mono ?_
  rintro e w2 ⟨rfl, rfl⟩
  go_wp2_with fail
  refine (cnew_calls rd.l rd.a rd.c w hrd.seg (by omega)).mono ?_
  rintro e w1 ⟨b, bst, F0, rfl, hat1, hk1, hF0⟩
  go_wp2_with fail
  refine (refCNew_calls (w0 := w) rd hrd).mono ?_
  rintro e w2 ⟨v, rfl, hr, hk2⟩
  obtain ⟨A1, A2, A3, c1, c2, c3, most, Af, cf, rfl, _, _⟩ := id hr
  have Hst := Lib.hid (cstart_of hk1 hat1 hF0 hr hk2)
  have Hcs := Lib.hid (cs_stack ((hat1.keep hk2).keep ((Keep.refl w2).alloc (.cells (rcells7 A1 A2 A3 (RC.fresh rd).s.T.length (RC.fresh rd).s.P.length c1 c2 c3 most Af (RC.fresh rd).fs.length cf (RC.fresh rd).res (RC.fresh rd).broken).toArray 74))))
  clear hr hat1
  unfold rcells7 LD.v at *
  go_wp2_with fail
  refine Hcs.out.mono ?_
  rintro e w4 ⟨rfl, rfl⟩
  clear Hcs
  go_wp2_with fail
  go_loopw [7] (fun i wr => ∃ k : Nat, k ≤ L.length ∧ i = .int .i64 k ∧ CInv w w2.heap.size b bst ((L.take k).foldl Ctl.act (Ctl.fresh rd.l)) ((L.take k).foldl RC.act (RC.fresh rd)) wr) (fun i _ => L.length - (intOf i).toNat)
  case atStart => exact ⟨0, Nat.zero_le _, rfl, Hst.out⟩
  case round =>
    obtain ⟨k, hk, rfl, F, G, A1, A2, A3, c1, c2, c3, most, Af, cf, hp⟩ := hrel
    clear Hst
    obtain ⟨hRM, hfit, hfitR, hres⟩ := runs_ok hr20 h20 k hk
    by_cases hlt : k < L.length
    · obtain ⟨ab, off, rfl, hab, q0, q1, q2, q3, q4, q5⟩ := act6_at hs (Keep.refl _) hlt
      have hkk : (k : Int) < (L.length : Int) := by omega
      have hk0 : (0 : Int) ≤ (k : Int) := by omega
      have Hnext := Lib.hid (show (L.take (k + 1)).foldl Ctl.act (Ctl.fresh rd.l) = ((L.take k).foldl Ctl.act (Ctl.fresh rd.l)).act L[k] ∧ (L.take (k + 1)).foldl RC.act (RC.fresh rd) = ((L.take k).foldl RC.act (RC.fresh rd)).act L[k] by rw [take_snoc L hlt, List.foldl_append, List.foldl_append]; exact ⟨rfl, rfl⟩)
      obtain ⟨cc, hcc⟩ : ∃ cc, (L.take k).foldl Ctl.act (Ctl.fresh rd.l) = cc := ⟨_, rfl⟩
      obtain ⟨d, hdd⟩ : ∃ d, (L.take k).foldl RC.act (RC.fresh rd) = d := ⟨_, rfl⟩
      rw [hcc, hdd] at hp hRM Hnext
      rw [hcc] at hfit hres
      rw [hdd] at hfitR
      clear hcc hdd
      have Hcall := Lib.hid (fun (wx : World) (hk' : Keep wr wx) => does_calls (hp.at_.keep hk') (hp.ref.keep hk') (hp.keep.trans hk') hp.fge (fun q hq => Nat.lt_of_lt_of_le (hp.glt q hq) hk'.size) hp.apart hRM hfit hfitR (by rw [hres]; exact hr20) (by omega) (hL L[k] (List.getElem_mem hlt)) (h20 L[k] (List.getElem_mem hlt)))
      obtain ⟨c', hc'⟩ : ∃ c', cc.act L[k] = c' := ⟨_, rfl⟩
      obtain ⟨d', hd'⟩ : ∃ d', d.act L[k] = d' := ⟨_, rfl⟩
      rw [hc', hd'] at Hnext Hcall
      clear hc' hd' hRM hfit hfitR hres
      have nF : ¬ F ab := fun hf => by have := hp.fge _ hf; omega
      have hxl := hp.var.lt
      unfold adC LD.v at Hcall
      go_upto_region 9 with fail
      go_cut [8, 9] from 36 to 45 (fun s8 s9 wx => CCut w w2.heap.size b bst c' d' s8 s9 wx)
      case first =>
        have x0 := fun y : KE F wr => y.cell (v := .slice A1 d.s.T.length c1) (hp.var.cell 0) hp.xf
        have x1 := fun y : KE F wr => y.cell (v := .slice A2 d.s.P.length c2) (hp.var.cell 1) hp.xf
        have x2 := fun y : KE F wr => y.cell (v := .slice A3 d.s.P.length c3) (hp.var.cell 2) hp.xf
        have x3 := fun y : KE F wr => y.cell (v := .int .i64 (most : Int)) (hp.var.cell 3) hp.xf
        have x4 := fun y : KE F wr => y.cell (v := .slice Af d.fs.length cf) (hp.var.cell 4) hp.xf
        have x5 := fun y : KE F wr => y.cell (v := .slice d.res.a d.res.l.length d.res.c) (hp.var.cell 5) hp.xf
        have x6 := fun y : KE F wr => y.cell (v := .int .i64 d.broken) (hp.var.cell 6) hp.xf
        have y0 := fun y : KE F wr => y.cell (hp.keep.cell q0) nF
        have y1 := fun y : KE F wr => y.cell (hp.keep.cell q1) nF
        have y2 := fun y : KE F wr => y.cell (hp.keep.cell q2) nF
        have y3 := fun y : KE F wr => y.cell (hp.keep.cell q3) nF
        have y4 := fun y : KE F wr => y.cell (hp.keep.cell q4) nF
        have y5 := fun y : KE F wr => y.cell (hp.keep.cell q5) nF
        refine region_begin (S := fun w' => ∃ x : KE F wr, w' = x.val) (by kernel_rfl) ?_
        refine region_take [0, 1, 2, 3, 4, 5] [] 7 (by kernel_rfl) (by kernel_rfl) (KE.mk' (Ext.drew (Ext.refl _ _))) ?_
        show wpQuiet _ _ _ _ [_, _, _, _, _, _] _
        repeat (go_big_quiet_step (fail))
        refine wpQuiet_nil ?_
        clear x0 x1 x2 x3 x4 x5 x6 y0 y1 y2 y3 y4 y5
        unfold rcells7 LD.v at Hcall
        refine region_any (fuel := 6) (is := [6, 10]) (by kernel_rfl) (by simp) (mem2 ?_ ?_)
        · refine ⟨_, rfl, fun K hK => ?_⟩
          go_simp
          refine (Hcall.out wr.drew ((Keep.refl _).drew)).mono ?_
          rintro e w1 ⟨v', rfl, hl⟩
          obtain ⟨B1, B2, B3, e1, e2, e3, mo, Ag, cg, rfl⟩ := hl.form
          refine hK _ _ (KE.mk' (((Keep.refl _).drew.ext F).trans hl.1 (fun _ _ h => h))) ?_
          clear hK K
          refine region_take [7, 8, 9] [0, 1, 2, 3, 4, 5, 6] 3 (by kernel_rfl) (by kernel_rfl) (KE.mk' (((Keep.refl _).drew.ext F).trans hl.1 (fun _ _ h => h))) ?_
          show wpQuiet _ _ _ _ [_, _, _] _
          repeat (go_big_quiet_step (fail))
          refine wpQuiet_nil ?_
          unfold rcells7 LD.v
          refine region_fix (i := 10) (fuel := 2) rfl (by kernel_rfl) (fun K hK => ?_)
          go_simp
          refine hK _ _ (KE.mk' ((((Keep.refl _).drew.ext F).trans hl.1 (fun _ _ h => h)).alloc _)) ?_
          clear hK K
          refine region_fix (i := 11) (fuel := 1) rfl (by kernel_rfl) (fun K hK => ?_)
          go_simp
          refine hK _ _ (KE.mk' ((((Keep.refl _).drew.ext F).trans hl.1 (fun _ _ h => h)).alloc _)) ?_
          clear hK K
          refine region_fix (i := 12) (fuel := 0) rfl (by kernel_rfl) (fun K hK => ?_)
          go_simp
          refine hK _ _ (KE.mk' ((((Keep.refl _).drew.ext F).trans hl.1 (fun _ _ h => h)).alloc _)) ?_
          clear hK K
          refine region_done (by kernel_rfl) ?_
          go_wp2_with fail
          go_meet
          have hwd : wr.heap.size ≤ w1.heap.size := Nat.le_trans (show wr.heap.size ≤ wr.drew.heap.size from Nat.le_refl _) hl.1.size
          exact ccut_end (us := []) hp ((Keep.refl _).drew) hl w1.heap.size hwd (.inr (Nat.le_refl _)) (fun h => absurd h (Nat.not_lt.2 hwd)) ((Ext.refl _ _).alloc _) (Blk.new w1 74 (rcells7 B1 B2 B3 _ _ e1 e2 e3 mo Ag _ cg _ _))
        · refine ⟨_, rfl, fun K hK => ?_⟩
          go_simp
          refine hK _ _ (KE.mk' ((Ext.drew (Ext.refl _ _)).alloc _)) ?_
          clear hK K
          refine region_fix (i := 6) (fuel := 5) rfl (by kernel_rfl) (fun K hK => ?_)
          go_simp
          refine (Hcall.out (wr.drew.alloc (.cells rzero7.toArray 74)) ((Keep.refl _).drew.alloc _)).mono ?_
          rintro e w1 ⟨v', rfl, hl⟩
          obtain ⟨B1, B2, B3, e1, e2, e3, mo, Ag, cg, rfl⟩ := hl.form
          have hE := (((Keep.refl wr).drew.alloc (.cells rzero7.toArray 74)).ext F).trans hl.1 (fun _ _ h => h)
          have bz : Blk w1 wr.heap.size 74 rzero7 := (show Blk (wr.drew.alloc (.cells rzero7.toArray 74)) wr.heap.size 74 rzero7 from Blk.new wr.drew _ rzero7).ext hl.1 (fun hf => by have := hp.at_.lt _ hf; omega)
          refine hK _ _ (KE.mk' hE) ?_
          clear hK K
          refine region_take [7, 8, 9] [0, 1, 2, 3, 4, 5, 10, 6] 2 (by kernel_rfl) (by kernel_rfl) (KE.mk' hE) ?_
          show wpQuiet _ _ _ _ [_, _, _] _
          repeat (go_big_quiet_step (fail))
          refine wpQuiet_nil ?_
          unfold rcells7 LD.v
          have z0 : w1.cell? ⟨wr.heap.size, 0, none⟩ = some (.slice none 0 0) := bz.cell 0
          have z1 : w1.cell? ⟨wr.heap.size, 1, none⟩ = some (.slice none 0 0) := bz.cell 1
          have z2 : w1.cell? ⟨wr.heap.size, 2, none⟩ = some (.slice none 0 0) := bz.cell 2
          have z3 : w1.cell? ⟨wr.heap.size, 3, none⟩ = some (.int .i64 0) := bz.cell 3
          have z4 : w1.cell? ⟨wr.heap.size, 4, none⟩ = some (.slice none 0 0) := bz.cell 4
          have z5 : w1.cell? ⟨wr.heap.size, 5, none⟩ = some (.slice none 0 0) := bz.cell 5
          have z6 : w1.cell? ⟨wr.heap.size, 6, none⟩ = some (.int .i64 0) := bz.cell 6
          have fz := bz.frozen
          have lz := bz.lt
          refine region_fix (i := 11) (fuel := 1) rfl (by kernel_rfl) (fun K hK => ?_)
          go_simp
          refine hK _ _ (KE.mk' ((((((((hE).setCell (p := ⟨wr.heap.size, 0, none⟩) (fun h => absurd h (Nat.lt_irrefl _)) _).setCell (p := ⟨wr.heap.size, 1, none⟩) (fun h => absurd h (Nat.lt_irrefl _)) _).setCell (p := ⟨wr.heap.size, 2, none⟩) (fun h => absurd h (Nat.lt_irrefl _)) _).setCell (p := ⟨wr.heap.size, 3, none⟩) (fun h => absurd h (Nat.lt_irrefl _)) _).setCell (p := ⟨wr.heap.size, 4, none⟩) (fun h => absurd h (Nat.lt_irrefl _)) _).setCell (p := ⟨wr.heap.size, 5, none⟩) (fun h => absurd h (Nat.lt_irrefl _)) _).setCell (p := ⟨wr.heap.size, 6, none⟩) (fun h => absurd h (Nat.lt_irrefl _)) _)) ?_
          clear hK K
          refine region_fix (i := 12) (fuel := 0) rfl (by kernel_rfl) (fun K hK => ?_)
          go_simp
          refine hK _ _ (KE.mk' ((((((((hE).setCell (p := ⟨wr.heap.size, 0, none⟩) (fun h => absurd h (Nat.lt_irrefl _)) _).setCell (p := ⟨wr.heap.size, 1, none⟩) (fun h => absurd h (Nat.lt_irrefl _)) _).setCell (p := ⟨wr.heap.size, 2, none⟩) (fun h => absurd h (Nat.lt_irrefl _)) _).setCell (p := ⟨wr.heap.size, 3, none⟩) (fun h => absurd h (Nat.lt_irrefl _)) _).setCell (p := ⟨wr.heap.size, 4, none⟩) (fun h => absurd h (Nat.lt_irrefl _)) _).setCell (p := ⟨wr.heap.size, 5, none⟩) (fun h => absurd h (Nat.lt_irrefl _)) _).setCell (p := ⟨wr.heap.size, 6, none⟩) (fun h => absurd h (Nat.lt_irrefl _)) _)) ?_
          clear hK K
          refine region_done (by kernel_rfl) ?_
          go_wp2_with fail
          go_meet
          refine ccut_end hp ((Keep.refl _).drew.alloc _) hl wr.heap.size (Nat.le_refl _) (.inl (by simp)) (fun _ => bz) (ext7 _ _ _ _ _ _ _ _ _) ?_
          exact ((((((bz.set_ 0 _).set_ 1 _).set_ 2 _).set_ 3 _).set_ 4 _).set_ 5 _).set_ 6 _
      case rest =>
        obtain ⟨y, F', G', B1, B2, B3, e1, e2, e3, mo, Ag, cg, cs, rfl, rfl, hp', hx, hxy, xF, xG, hcs, hge⟩ := hcut
        have z0 : wc.cell? ⟨y, 0, none⟩ = some (.slice B1 d'.s.T.length e1) := hp'.var.cell 0
        have z1 : wc.cell? ⟨y, 1, none⟩ = some (.slice B2 d'.s.P.length e2) := hp'.var.cell 1
        have z2 : wc.cell? ⟨y, 2, none⟩ = some (.slice B3 d'.s.P.length e3) := hp'.var.cell 2
        have z3 : wc.cell? ⟨y, 3, none⟩ = some (.int .i64 (mo : Int)) := hp'.var.cell 3
        have z4 : wc.cell? ⟨y, 4, none⟩ = some (.slice Ag d'.fs.length cg) := hp'.var.cell 4
        have z5 : wc.cell? ⟨y, 5, none⟩ = some (.slice d'.res.a d'.res.l.length d'.res.c) := hp'.var.cell 5
        have z6 : wc.cell? ⟨y, 6, none⟩ = some (.int .i64 d'.broken) := hp'.var.cell 6
        obtain ⟨u0, u1, u2, u3, u4, u5, u6, rfl⟩ : ∃ u0 u1 u2 u3 u4 u5 u6, cs = [u0, u1, u2, u3, u4, u5, u6] := by
          match cs, hcs with
          | [a, b, c, d, e, f, g], _ => exact ⟨a, b, c, d, e, f, g, rfl⟩
        have v0 : wc.cell? ⟨w2.heap.size, 0, none⟩ = some u0 := hx.cell 0
        have v1 : wc.cell? ⟨w2.heap.size, 1, none⟩ = some u1 := hx.cell 1
        have v2 : wc.cell? ⟨w2.heap.size, 2, none⟩ = some u2 := hx.cell 2
        have v3 : wc.cell? ⟨w2.heap.size, 3, none⟩ = some u3 := hx.cell 3
        have v4 : wc.cell? ⟨w2.heap.size, 4, none⟩ = some u4 := hx.cell 4
        have v5 : wc.cell? ⟨w2.heap.size, 5, none⟩ = some u5 := hx.cell 5
        have v6 : wc.cell? ⟨w2.heap.size, 6, none⟩ = some u6 := hx.cell 6
        have fz := hx.frozen
        have lz := hx.lt
        have ly := hp'.var.lt
        obtain ⟨W3, hW3⟩ : ∃ W3 : World, W3 = (((((((wc.setCell ⟨w2.heap.size, 0, none⟩ (.slice B1 d'.s.T.length e1)).setCell ⟨w2.heap.size, 1, none⟩ (.slice B2 d'.s.P.length e2)).setCell ⟨w2.heap.size, 2, none⟩ (.slice B3 d'.s.P.length e3)).setCell ⟨w2.heap.size, 3, none⟩ (.int .i64 (mo : Int))).setCell ⟨w2.heap.size, 4, none⟩ (.slice Ag d'.fs.length cg)).setCell ⟨w2.heap.size, 5, none⟩ (.slice d'.res.a d'.res.l.length d'.res.c)).setCell ⟨w2.heap.size, 6, none⟩ (.int .i64 d'.broken)) := ⟨_, rfl⟩
        have hp3 := ccut_store hp' hx hcs xF xG hge hW3
        have Hp3 := Lib.hid hp3
        clear hp hp' hx Hcall hp3 hcs
        go_wp2_with fail
        rw [← hW3]
        clear hW3 z0 z1 z2 z3 z4 z5 z6 v0 v1 v2 v3 v4 v5 v6 fz lz ly
        go_wp2
        go_roundw
        case rel => exact ⟨k + 1, hlt, by go_num, by rw [Hnext.out.1, Hnext.out.2]; exact ⟨F', G', B1, B2, B3, e1, e2, e3, mo, Ag, cg, Hp3.out⟩⟩
        case measure => simp [intOf]; omega
    · have Ha := Lib.hid (calive_calls wr)
      have Hk := Lib.hid hp.keep
      have hge : ¬ (k : Int) < (L.length : Int) := by omega
      clear hp hRM hfit hfitR hres
      go_wp2_with fail
      refine Ha.out.mono ?_
      rintro e w3 ⟨rfl, hk3⟩
      go_wp2
      go_ret
      exact ⟨rfl, Hk.out.trans hk3⟩
end Go.Proofs.Ytkeefajfndmpeaa
