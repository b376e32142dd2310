/-
  The reference's State: a value of seven cells; its small functions.
-/
import Derived.Test.YtkeefajfndmpeaaCFrame
import Derived.Test.YtkeefajfndmpeaaRefMore
namespace Go.Proofs.Ytkeefajfndmpeaa
open Go Go.RowKit

/-- A frame of the reference. -/
structure FrD where
  op : Int
  p : LD
  r : LD
  live : Bool
  was : Bool
def frC (b : FrD) : List Value := [.int .i64 b.op, b.p.v, b.r.v, .bool b.live, .bool b.was]
theorem elFr : ElT Try.prog 72 105 5 64 frC where
  slice := Try.underlying72
  info := info_of (z := .agg #[.int .i64 0, .slice none 0 0, .slice none 0 0, .bool false, .bool false]) (by kernel_rfl) rfl
  pos := by omega
  len := fun _ => rfl
  one := fun x u hu => by simp [frC, LD.v] at hu; rcases hu with rfl | rfl | rfl | rfl | rfl <;> rfl

/-- The reference's State as a plain thing: the operand stack, the frames, the results, the error that broke it. -/
structure RC where
  s : Stk
  fs : List FrD
  res : LD
  broken : Int
/-- Its cells. -/
def rcells7 (A1 A2 A3 : Option Addr) (n p c1 c2 c3 most : Nat) (Af : Option Addr) (m cf : Nat) (res : LD) (broken : Int) : List Value :=
  [.slice A1 n c1, .slice A2 p c2, .slice A3 p c3, .int .i64 (most : Int), .slice Af m cf, res.v, .int .i64 broken]
/-- The rows of frames; what they name was read at w0. -/
structure FrAt (w0 : World) (G : Nat → Prop) (w : World) (Af : Option Addr) (cf : Nat) (fs : List FrD) (res : LD) : Prop where
  seg : Seg w Af (fs.flatMap frC)
  cap : fs.length ≤ cf
  inG : InG G Af fs.length
  ls : ∀ f ∈ fs, LOk w0 f.p ∧ LOk w0 f.r
  res : LOk w0 res
theorem FrAt.keep {w0 : World} {G : Nat → Prop} {w w' : World} {Af : Option Addr} {cf : Nat} {fs : List FrD} {res : LD} (h : FrAt w0 G w Af cf fs res) (hk : Keep w w') : FrAt w0 G w' Af cf fs res := ⟨h.seg.keep hk, h.cap, h.inG, h.ls, h.res⟩
theorem FrAt.grow {w0 : World} {G : Nat → Prop} {w : World} {Af : Option Addr} {cf : Nat} {fs : List FrD} {res : LD} (h : FrAt w0 G w Af cf fs res) (wx : World) : FrAt w0 (Grow G wx) w Af cf fs res := ⟨h.seg, h.cap, h.inG.grow wx, h.ls, h.res⟩
/-- The reference's State as a value. -/
def RefC (w0 : World) (G : Nat → Prop) (w : World) (v : Value) (c : RC) : Prop :=
  ∃ (A1 A2 A3 : Option Addr) (c1 c2 c3 most : Nat) (Af : Option Addr) (cf : Nat), v = .agg (rcells7 A1 A2 A3 c.s.T.length c.s.P.length c1 c2 c3 most Af c.fs.length cf c.res c.broken).toArray ∧
    RefAt G w (.agg (rcells A1 A2 A3 c.s.T.length c.s.P.length c1 c2 c3 most).toArray) c.s ∧ FrAt w0 G w Af cf c.fs c.res
theorem RefC.keep {w0 : World} {G : Nat → Prop} {w w' : World} {v : Value} {c : RC} (h : RefC w0 G w v c) (hk : Keep w w') : RefC w0 G w' v c := by
  obtain ⟨A1, A2, A3, c1, c2, c3, most, Af, cf, e, h1, h2⟩ := h
  exact ⟨A1, A2, A3, c1, c2, c3, most, Af, cf, e, h1.keep hk, h2.keep hk⟩

theorem Keep.of_ext2 {S : Nat → Prop} {a b c : World} (h : Keep a b) (hE : Ext S b c) (hs : ∀ k, k < a.heap.size → ¬ S k) : Keep a c :=
  ⟨hE.os.trans h.os, hE.tape.trans h.tape, hE.output.trans h.output, Nat.le_trans h.size hE.size, fun k hk => (hE.block k (Nat.lt_of_lt_of_le hk h.size) (hs k hk)).trans (h.block k hk)⟩

theorem refDepth_calls {w0 : World} {G : Nat → Prop} {w : World} {v : Value} {c : RC} (h : RefC w0 G w v c) :
    Calls Try.prog 71 #[v] w fun e w' => e = .returned (.int .i64 (if c.broken ≠ 0 then 0 else (c.fs.length : Int))) ∧ Keep w w' := by
  obtain ⟨A1, A2, A3, c1, c2, c3, most, Af, cf, rfl, _, _⟩ := h
  unfold rcells7
  by_cases hb : c.broken = 0
  · have db : (c.broken != 0) = false := by simpa using hb
    rw [if_neg (by omega)]
    clear hb
    go_enter Try.func71, Try.ntmps71
    go_wp2
    go_ret
    exact ⟨rfl, (Keep.refl _).alloc _⟩
  · have db : (c.broken != 0) = true := by simpa using hb
    rw [if_pos hb]
    clear hb
    go_enter Try.func71, Try.ntmps71
    go_wp2
    go_ret
    exact ⟨rfl, (Keep.refl _).alloc _⟩


theorem refReturn_calls {w0 : World} {G : Nat → Prop} {w : World} {v : Value} {c : RC} (h : RefC w0 G w v c) :
    Calls Try.prog 68 #[v] w fun e w' => e = .returned (if c.broken ≠ 0 then .slice none 0 0 else c.res.v) ∧ Keep w w' := by
  obtain ⟨A1, A2, A3, c1, c2, c3, most, Af, cf, rfl, _, _⟩ := h
  unfold rcells7 LD.v
  by_cases hb : c.broken = 0
  · have db : (c.broken != 0) = false := by simpa using hb
    rw [if_neg (by omega)]
    clear hb
    go_enter Try.func68, Try.ntmps68
    go_wp2
    go_ret
    exact ⟨rfl, (Keep.refl _).alloc _⟩
  · have db : (c.broken != 0) = true := by simpa using hb
    rw [if_pos hb]
    clear hb
    go_enter Try.func68, Try.ntmps68
    go_wp2
    go_ret
    exact ⟨rfl, (Keep.refl _).alloc _⟩
theorem refDone_calls {w0 : World} {G : Nat → Prop} {w : World} {v : Value} {c : RC} (h : RefC w0 G w v c) :
    Calls Try.prog 72 #[v] w fun e w' => e = .returned (.bool (decide (c.broken = 0) && decide (c.fs = []))) ∧ Keep w w' := by
  obtain ⟨A1, A2, A3, c1, c2, c3, most, Af, cf, rfl, _, _⟩ := h
  unfold rcells7
  by_cases hb : c.broken = 0
  · have db : (c.broken == 0) = true := by simpa using hb
    have Hd := Lib.hid (show (decide (c.broken = 0) && decide (c.fs = [])) = ((c.fs.length : Int) == 0) by
      rw [decide_eq_true hb]
      cases c.fs with
      | nil => rfl
      | cons x r => simp; omega)
    clear hb
    rw [Hd.out]
    cases hz : ((c.fs.length : Int) == 0)
    all_goals
      go_enter Try.func72, Try.ntmps72
      go_wp2
      go_ret
      exact ⟨rfl, (Keep.refl _).alloc _⟩
  · have db : (c.broken == 0) = false := by simpa using hb
    rw [decide_eq_false hb]
    clear hb
    go_enter Try.func72, Try.ntmps72
    go_wp2
    go_ret
    exact ⟨rfl, (Keep.refl _).alloc _⟩

/-- The cells of the last frame. -/
theorem FrAt.last {w0 : World} {G : Nat → Prop} {w : World} {Af : Option Addr} {cf : Nat} {fs : List FrD} {res : LD} (h : FrAt w0 G w Af cf fs res) {k : Nat} (hk : k < fs.length) {wr : World} (hkeep : Keep w wr) :
    ∃ b off, Af = some ⟨b, off, none⟩ ∧ b < w.heap.size ∧ wr.cell? ⟨b, off + k * 5, none⟩ = some (.int .i64 fs[k].op) ∧ wr.cell? ⟨b, off + k * 5 + 1, none⟩ = some (.slice fs[k].p.a fs[k].p.l.length fs[k].p.c) ∧
      wr.cell? ⟨b, off + k * 5 + 2, none⟩ = some (.slice fs[k].r.a fs[k].r.l.length fs[k].r.c) ∧ wr.cell? ⟨b, off + k * 5 + 3, none⟩ = some (.bool fs[k].live) ∧ wr.cell? ⟨b, off + k * 5 + 4, none⟩ = some (.bool fs[k].was) := by
  obtain ⟨b, off, e, hb, hc⟩ := h.seg.elem 5 (fun _ => rfl) (by omega) hk
  refine ⟨b, off, e, hb, ?_, ?_, ?_, ?_, ?_⟩
  · exact hkeep.cell (hc 0 _ rfl)
  · have := hkeep.cell (hc 1 _ rfl); rwa [← Nat.add_assoc] at this
  · have := hkeep.cell (hc 2 _ rfl); rwa [← Nat.add_assoc] at this
  · have := hkeep.cell (hc 3 _ rfl); rwa [← Nat.add_assoc] at this
  · have := hkeep.cell (hc 4 _ rfl); rwa [← Nat.add_assoc] at this

set_option maxHeartbeats 1000000 in
theorem refTop_calls {w0 : World} {G : Nat → Prop} {w : World} {v : Value} {c : RC} (h : RefC w0 G w v c) {k : Nat} (hk : k + 1 = c.fs.length) (hn : c.fs.length ≤ 1000000) {f : FrD} (hf : c.fs[k]'(by omega) = f) :
    Calls Try.prog 77 #[v] w fun e w' => e = .returned (.agg #[.int .i64 f.op, .slice f.p.a f.p.l.length f.p.c, .slice f.r.a f.r.l.length f.r.c, .bool f.live, .bool f.was]) ∧ Keep w w' := by
  obtain ⟨A1, A2, A3, c1, c2, c3, most, Af, cf, rfl, _, hfr⟩ := h
  obtain ⟨b, off, rfl, hb, q0, q1, q2, q3, q4⟩ := hfr.last (k := k) (by omega) (Keep.refl _)
  rw [hf] at q0 q1 q2 q3 q4
  have hm1 : (c.fs.length : Int) - 1 = (k : Int) := by omega
  have hw : IntKind.i64.wrap ((c.fs.length : Int) - 1) = (k : Int) := by rw [hm1]; exact IntWalk.i64_in _ (by omega)
  have k0 : (0 : Int) ≤ (k : Int) := by omega
  have k1 : (k : Int) < (c.fs.length : Int) := by omega
  clear hm1 hk hf hfr
  unfold rcells7
  go_enter Try.func77, Try.ntmps77
  go_wp2
  refine bodyPost_ret (v := .agg #[.int .i64 f.op, .slice f.p.a f.p.l.length f.p.c, .slice f.r.a f.r.l.length f.r.c, .bool f.live, .bool f.was]) (by simp [results, Try.results77, go_sem]) rfl ⟨rfl, ((Keep.refl _).alloc _).alloc _⟩

theorem frame_live (o : Int) (p r : LD) (l wa : Bool) (w : World) : Sem.run Try.prog (Instr.field 105 (.agg #[.int .i64 o, .slice p.a p.l.length p.c, .slice r.a r.l.length r.c, .bool l, .bool wa]) 2) w = .ok (.bool l) w := by kernel_rfl
/-- The reference's Live. -/
def liveTop (fs : List FrD) : Bool := match fs.getLast? with | none => true | some f => f.live
def RC.isLive (c : RC) : Bool := decide (c.broken = 0) && liveTop c.fs
theorem refLive_calls {w0 : World} {G : Nat → Prop} {w : World} {v : Value} {c : RC} (h : RefC w0 G w v c) (hn : c.fs.length ≤ 1000000) :
    Calls Try.prog 70 #[v] w fun e w' => e = .returned (.bool c.isLive) ∧ Keep w w' := by
  obtain ⟨A1, A2, A3, c1, c2, c3, most, Af, cf, rfl, hra, hfr⟩ := id h
  by_cases hb : c.broken = 0
  · have db : (c.broken == 0) = true := by simpa using hb
    by_cases hz : c.fs = []
    · have Hd := Lib.hid (show c.isLive = true by unfold RC.isLive; rw [decide_eq_true hb, hz]; rfl)
      have dz : ((c.fs.length : Int) == 0) = true := by rw [hz]; rfl
      rw [Hd.out]
      clear hb hz hra hfr h
      unfold rcells7
      go_enter Try.func70, Try.ntmps70
      go_wp2
      go_ret
      exact ⟨rfl, (Keep.refl _).alloc _⟩
    · have hp : 0 < c.fs.length := List.length_pos_iff.2 hz
      obtain ⟨k, hk⟩ : ∃ k, k + 1 = c.fs.length := ⟨c.fs.length - 1, by omega⟩
      obtain ⟨f, hf⟩ : ∃ f, c.fs[k]'(by omega) = f := ⟨_, rfl⟩
      have Hd := Lib.hid (show c.isLive = f.live by
        have : c.fs.getLast? = some f := by rw [List.getLast?_eq_getElem?, show c.fs.length - 1 = k by omega, List.getElem?_eq_getElem (by omega), hf]
        unfold RC.isLive liveTop; rw [decide_eq_true hb, this]; rfl)
      have dz : ((c.fs.length : Int) == 0) = false := by rw [beq_eq_false_iff_ne]; omega
      have Ht := Lib.hid (fun (wx : World) (hk' : Keep w wx) => refTop_calls (h.keep hk') hk hn hf)
      rw [Hd.out]
      clear hb hz hra hfr h hp hf hk
      unfold rcells7 at Ht ⊢
      go_enter Try.func70, Try.ntmps70
      go_wp2_with fail
      refine (Ht.out _ ((Keep.refl _).alloc _)).mono ?_
      rintro e w1 ⟨rfl, hk1⟩
      have Hk := Lib.hid (((Keep.refl w).alloc _).trans hk1)
      clear hk1 hn Ht
      set_option maxRecDepth 100000 in
      go_wp2
      rw [frame_live]
      go_wp2
      go_ret
      exact ⟨rfl, Hk.out⟩
  · have db : (c.broken == 0) = false := by simpa using hb
    have Hd := Lib.hid (show c.isLive = false by unfold RC.isLive; rw [decide_eq_false hb]; rfl)
    rw [Hd.out]
    clear hb h hra hfr
    unfold rcells7
    go_enter Try.func70, Try.ntmps70
    go_wp2
    go_ret
    exact ⟨rfl, (Keep.refl _).alloc _⟩

theorem refBroken_calls {w : World} (A1 A2 A3 : Option Addr) (n p c1 c2 c3 most : Nat) (Af : Option Addr) (m cf : Nat) (res : LD) (b e : Int) :
    Calls Try.prog 76 #[.agg #[.slice A1 n c1, .slice A2 p c2, .slice A3 p c3, .int .i64 (most : Int), .slice Af m cf, .slice res.a res.l.length res.c, .int .i64 b], .int .i64 e] w fun en w' =>
      en = .returned (.tuple #[.agg #[.slice A1 n c1, .slice A2 p c2, .slice A3 p c3, .int .i64 (most : Int), .slice Af m cf, .slice res.a res.l.length res.c, .int .i64 e], .int .i64 e]) ∧ Keep w w' := by
  go_enter Try.func76, Try.ntmps76
  go_wp2
  refine bodyPost_ret (v := .tuple #[.agg #[.slice A1 n c1, .slice A2 p c2, .slice A3 p c3, .int .i64 (most : Int), .slice Af m cf, .slice res.a res.l.length res.c, .int .i64 e], .int .i64 e]) (by simp [results, Try.results76, go_sem]) rfl ⟨rfl, ((Keep.refl _).alloc _).alloc _⟩

set_option maxHeartbeats 2000000 in
theorem refWith_calls {w0 : World} {G : Nat → Prop} {w : World} {c : RC} {A1 A2 A3 : Option Addr} {c1 c2 c3 most : Nat} {Af : Option Addr} {cf : Nat} (hra : RefAt G w (.agg (rcells A1 A2 A3 c.s.T.length c.s.P.length c1 c2 c3 most).toArray) c.s) (hfr : FrAt w0 G w Af cf c.fs c.res)
    {k : Nat} (hk : k + 1 = c.fs.length) (hn : c.fs.length ≤ 1000000) (f : FrD) (hf : LOk w0 f.p ∧ LOk w0 f.r) :
    Calls Try.prog 78 #[.agg #[.slice A1 c.s.T.length c1, .slice A2 c.s.P.length c2, .slice A3 c.s.P.length c3, .int .i64 (most : Int), .slice Af c.fs.length cf, .slice c.res.a c.res.l.length c.res.c, .int .i64 c.broken], .agg #[.int .i64 f.op, .slice f.p.a f.p.l.length f.p.c, .slice f.r.a f.r.l.length f.r.c, .bool f.live, .bool f.was]] w fun en w' =>
      ∃ v', en = .returned v' ∧ RefC w0 (Grow G w) w' v' { c with fs := c.fs.take k ++ [f] } ∧ Keep w w' := by
  obtain ⟨W3, hW3⟩ : ∃ W3 : World, W3 = ((w.alloc (.cells (rcells7 A1 A2 A3 c.s.T.length c.s.P.length c1 c2 c3 most Af c.fs.length cf c.res c.broken).toArray 74)).alloc (.cells (frC f).toArray 105)).alloc (.cells #[.slice none 0 0, .slice none 0 0, .slice none 0 0, .int .i64 0, .slice none 0 0, .slice none 0 0, .int .i64 0] 74) := ⟨_, rfl⟩
  have hk3 : Keep w W3 := by rw [hW3]; exact (((Keep.refl _).alloc _).alloc _).alloc _
  have hz3 : W3.heap.size = w.heap.size + 1 + 1 + 1 := by rw [hW3]; simp
  have bs3 : Blk W3 w.heap.size 74 (rcells7 A1 A2 A3 c.s.T.length c.s.P.length c1 c2 c3 most Af c.fs.length cf c.res c.broken) := by rw [hW3]; exact (Blk.new w _ _).keep (((Keep.refl _).alloc _).alloc _)
  have bf3 : Blk W3 (w.heap.size + 1) 105 (frC f) := by
    rw [hW3]
    have := (Blk.new (w.alloc (.cells (rcells7 A1 A2 A3 c.s.T.length c.s.P.length c1 c2 c3 most Af c.fs.length cf c.res c.broken).toArray 74)) 105 (frC f)).keep ((Keep.refl _).alloc (.cells #[.slice none 0 0, .slice none 0 0, .slice none 0 0, .int .i64 0, .slice none 0 0, .slice none 0 0, .int .i64 0] 74))
    simpa using this
  have bz3 : Blk W3 (w.heap.size + 1 + 1) 74 [.slice none 0 0, .slice none 0 0, .slice none 0 0, .int .i64 0, .slice none 0 0, .slice none 0 0, .int .i64 0] := by
    rw [hW3]
    have := Blk.new ((w.alloc (.cells (rcells7 A1 A2 A3 c.s.T.length c.s.P.length c1 c2 c3 most Af c.fs.length cf c.res c.broken).toArray 74)).alloc (.cells (frC f).toArray 105)) 74 [.slice none 0 0, .slice none 0 0, .slice none 0 0, .int .i64 0, .slice none 0 0, .slice none 0 0, .int .i64 0]
    simpa using this
  have htk : (c.fs.take k).length = k := by rw [List.length_take]; omega
  have hoE := Own.empty frC 5 105 W3 (base := W3.heap.size) (Nat.le_refl _)
  have hk4 : Keep W3 (W3.alloc (.cells #[] 105)) := (Keep.refl _).alloc _
  have hsg : Seg (W3.alloc (.cells #[] 105)) Af ((c.fs.take k).flatMap frC) := by
    have h1 := ((hfr.seg.keep hk3).keep hk4).take (k * 5)
    rwa [flat_take frC 5 (fun _ => rfl)] at h1
  obtain ⟨v1, w1, ha1, ho1, hg1, _⟩ := append_run (ys := c.fs.take k) elFr hoE hsg cf 72 (by simp [maxLen]; omega) (by simp; omega) (by simp)
  have hk1 : Keep W3 w1 := hk4.grown hg1 (fun j hj => by cases hj; exact Nat.le_refl _)
  rw [List.nil_append] at ho1
  obtain ⟨B1, d1, rfl, _⟩ := ho1.form
  obtain ⟨A', c', e', B2, d2, w2, ha2, ho2, hE2⟩ : ∃ A' c', Value.slice B1 (c.fs.take k).length d1 = .slice A' (c.fs.take k).length c' ∧ ∃ B2 d2 w2, (Builtin.append_ #[72, 72] 72 #[.slice B1 (c.fs.take k).length d1, .slice (some ⟨w1.heap.size, 0, none⟩) 1 1]).run Try.prog (w1.alloc (.cells (frC f).toArray 105)) = .ok (.slice B2 ((c.fs.take k).length + 1) d2) w2 ∧
      Own frC 5 105 w2 W3.heap.size (.slice B2 ((c.fs.take k).length + 1) d2) (c.fs.take k ++ [f]) ∧ Keep W3 w2 := by
    have hka : Keep w1 (w1.alloc (.cells (frC f).toArray 105)) := (Keep.refl _).alloc _
    have hseg : Seg (w1.alloc (.cells (frC f).toArray 105)) (some ⟨w1.heap.size, 0, none⟩) ([f].flatMap frC) := by
      have : [f].flatMap frC = frC f := by simp
      rw [this]
      exact Seg.of_blk (Blk.new w1 105 (frC f))
    obtain ⟨v2, w2, hrun, hown, hg, _⟩ := append_run (ys := [f]) elFr (ho1.keep hka) hseg 1 72 (by simp [maxLen]; omega) (by simp; omega) (Nat.le_trans hk1.size hka.size)
    obtain ⟨B2, d2, rfl, _⟩ := hown.form
    exact ⟨B1, d1, rfl, B2, d2, w2, by simpa using hrun, by simpa using hown, (hk1.trans hka).grown hg (fun j hj => (ho1.lt j hj).1)⟩
  clear e'
  rw [htk] at ha1 ha2 ho2
  have hd2 : k + 1 ≤ d2 := by
    obtain ⟨_, _, e, h1, _⟩ := ho2.form
    injection e with _ _ e3
    subst e3
    simp [htk] at h1
    exact h1
  have bs2 := bs3.keep hE2
  have bz2 := bz3.keep hE2
  have bf1 := bf3.keep hk1
  have bs1 := bs3.keep hk1
  have bz1 := bz3.keep hk1
  have p0 : w1.cell? ⟨w.heap.size + 1, 0, none⟩ = some (.int .i64 f.op) := bf1.cell 0
  have p1 : w1.cell? ⟨w.heap.size + 1, 1, none⟩ = some (.slice f.p.a f.p.l.length f.p.c) := bf1.cell 1
  have p2 : w1.cell? ⟨w.heap.size + 1, 2, none⟩ = some (.slice f.r.a f.r.l.length f.r.c) := bf1.cell 2
  have p3 : w1.cell? ⟨w.heap.size + 1, 3, none⟩ = some (.bool f.live) := bf1.cell 3
  have p4 : w1.cell? ⟨w.heap.size + 1, 4, none⟩ = some (.bool f.was) := bf1.cell 4
  have x0 : w2.cell? ⟨w.heap.size, 0, none⟩ = some (.slice A1 c.s.T.length c1) := bs2.cell 0
  have x1 : w2.cell? ⟨w.heap.size, 1, none⟩ = some (.slice A2 c.s.P.length c2) := bs2.cell 1
  have x2 : w2.cell? ⟨w.heap.size, 2, none⟩ = some (.slice A3 c.s.P.length c3) := bs2.cell 2
  have x3 : w2.cell? ⟨w.heap.size, 3, none⟩ = some (.int .i64 (most : Int)) := bs2.cell 3
  have x4 : w2.cell? ⟨w.heap.size, 4, none⟩ = some (.slice Af c.fs.length cf) := bs2.cell 4
  have x5 : w2.cell? ⟨w.heap.size, 5, none⟩ = some (.slice c.res.a c.res.l.length c.res.c) := bs2.cell 5
  have x6 : w2.cell? ⟨w.heap.size, 6, none⟩ = some (.int .i64 c.broken) := bs2.cell 6
  have y0 : w2.cell? ⟨w.heap.size + 1 + 1, 0, none⟩ = some (.slice none 0 0) := bz2.cell 0
  have y1 : w2.cell? ⟨w.heap.size + 1 + 1, 1, none⟩ = some (.slice none 0 0) := bz2.cell 1
  have y2 : w2.cell? ⟨w.heap.size + 1 + 1, 2, none⟩ = some (.slice none 0 0) := bz2.cell 2
  have y3 : w2.cell? ⟨w.heap.size + 1 + 1, 3, none⟩ = some (.int .i64 0) := bz2.cell 3
  have y4 : w2.cell? ⟨w.heap.size + 1 + 1, 4, none⟩ = some (.slice none 0 0) := bz2.cell 4
  have y5 : w2.cell? ⟨w.heap.size + 1 + 1, 5, none⟩ = some (.slice none 0 0) := bz2.cell 5
  have y6 : w2.cell? ⟨w.heap.size + 1 + 1, 6, none⟩ = some (.int .i64 0) := bz2.cell 6
  have fx := bs2.frozen
  have fy := bz2.frozen
  have lx := bs2.lt
  have ly := bz2.lt
  have l1 := bf1.lt
  have l1' := bs1.lt
  have l1'' := bz1.lt
  have hm1 : (c.fs.length : Int) - 1 = (k : Int) := by omega
  have hw : IntKind.i64.wrap ((c.fs.length : Int) - 1) = (k : Int) := by rw [hm1]; exact IntWalk.i64_in _ (by omega)
  have k0 : (0 : Int) ≤ (k : Int) := by omega
  have k1 : (k : Int) ≤ (cf : Int) := by have := hfr.cap; omega
  have Hfin := Lib.hid (fun (W : World) (hE : Ext (fun q => q = w.heap.size ∨ q = w.heap.size + 1 + 1) w2 W) => show RefC w0 (Grow G w) W (.agg #[.slice A1 c.s.T.length c1, .slice A2 c.s.P.length c2, .slice A3 c.s.P.length c3, .int .i64 (most : Int), .slice B2 (k + 1) d2, .slice c.res.a c.res.l.length c.res.c, .int .i64 c.broken]) { c with fs := c.fs.take k ++ [f] } ∧ Keep w W from by
    have hkW : Keep w W := Keep.of_ext2 (hk3.trans hE2) hE (fun q hq h => by omega)
    refine ⟨⟨A1, A2, A3, c1, c2, c3, most, B2, d2, by simp [rcells7, LD.v, htk], ?_, ?_⟩, hkW⟩
    · exact (hra.keep hkW).mono (fun q _ h => .inl h)
    · refine ⟨(ho2.ext hE (fun q hq h => by have := (ho2.lt q hq).1; omega)).segN.2, by simp [htk]; exact hd2, fun h0 ad ha => .inr ?_, fun g hg => ?_, hfr.res⟩
      · subst ha
        have := (ho2.lt ad.block rfl).1
        omega
      · rcases List.mem_append.1 hg with h | h
        · exact hfr.ls g (List.mem_of_mem_take h)
        · rw [List.mem_singleton.1 h]; exact hf)
  have ha1' : (Builtin.append_ #[72, 72] 72 #[.slice (some ⟨w.heap.size + 1 + 1 + 1, 0, none⟩) 0 0, .slice Af k cf]).run Try.prog ((((w.alloc (.cells #[.slice A1 c.s.T.length c1, .slice A2 c.s.P.length c2, .slice A3 c.s.P.length c3, .int .i64 (most : Int), .slice Af c.fs.length cf, .slice c.res.a c.res.l.length c.res.c, .int .i64 c.broken] 74)).alloc (.cells #[.int .i64 f.op, .slice f.p.a f.p.l.length f.p.c, .slice f.r.a f.r.l.length f.r.c, .bool f.live, .bool f.was] 105)).alloc (.cells #[.slice none 0 0, .slice none 0 0, .slice none 0 0, .int .i64 0, .slice none 0 0, .slice none 0 0, .int .i64 0] 74)).alloc (.cells #[] 105)) = .ok (.slice B1 k d1) w1 := by
    rw [hz3, hW3] at ha1
    exact ha1
  clear hra hfr hm1 hk hW3 hk3 hz3 bs3 bf3 bz3 htk hoE hk4 hsg ho1 hg1 hk1 ho2 hE2 hd2 bs2 bz2 bf1 bs1 bz1 ha1 hf
  go_enter Try.func78, Try.ntmps78
  go_wp2_with (at_builtin; first | (refine wpList_append_eq rfl _ _ _ rfl _ _ rfl rfl _ _ ha1' ?_; clear ha1') | (refine wpList_append_eq rfl _ _ _ rfl _ _ rfl rfl _ _ ha2 ?_; clear ha2))
  refine bodyPost_ret (v := .agg #[.slice A1 c.s.T.length c1, .slice A2 c.s.P.length c2, .slice A3 c.s.P.length c3, .int .i64 (most : Int), .slice B2 (k + 1) d2, .slice c.res.a c.res.l.length c.res.c, .int .i64 c.broken]) (by simp [results, Try.results78, go_sem, x0, x1, x2, x3, x4, x5, x6, y0, y1, y2, y3, y4, y5, y6]) rfl ⟨_, rfl, Hfin.out _ ?_⟩
  refine Ext.setCell (Ext.setCell (Ext.setCell (Ext.setCell (Ext.setCell (Ext.setCell (Ext.setCell (Ext.setCell (Ext.refl _ _) ?_ _) ?_ _) ?_ _) ?_ _) ?_ _) ?_ _) ?_ _) ?_ _
  all_goals first | exact fun _ => .inl rfl | exact fun _ => .inr rfl
end Go.Proofs.Ytkeefajfndmpeaa
