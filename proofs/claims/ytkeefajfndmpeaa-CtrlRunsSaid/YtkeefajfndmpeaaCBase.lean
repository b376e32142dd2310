/-
  How a State lies in memory; its small methods.
-/
import Derived.Test.YtkeefajfndmpeaaCPlain
import Derived.Test.YtkeefajfndmpeaaOut
import Derived.Test.YtkeefajfndmpeaaWant
import Derived.Test.YtkeefajfndmpeaaBegin
namespace Go.Proofs.Ytkeefajfndmpeaa
open Go Go.RowKit

/-- A list of types in memory: where, what, its capacity. -/
structure LD where
  a : Option Addr
  l : List Int
  c : Nat
def LD.v (x : LD) : Value := .slice x.a x.l.length x.c
/-- It can be read, and lies in no block of F. -/
structure LD.Ok (F : Nat → Prop) (w : World) (x : LD) : Prop where
  seg : Seg w x.a (x.l.flatMap valC)
  out : Out F x.a x.l.length

theorem Seg.blk_lt {w : World} {A : Option Addr} {l : List Int} (h : Seg w A (l.flatMap valC)) (h0 : 0 < l.length) {ad : Addr} (ha : A = some ad) : ad.block < w.heap.size := by
  obtain ⟨b, off, e, hb, _⟩ := h.addr (by rw [val_len]; exact h0)
  rw [ha] at e; cases e; exact hb
theorem LD.Ok.ext {F F' : Nat → Prop} {w w' : World} {x : LD} (h : x.Ok F w) (hk : Ext F w w') (hF : ∀ k, F' k → F k ∨ w.heap.size ≤ k) : x.Ok F' w' :=
  ⟨h.seg.out hk h.out, fun h0 ad ha hf => by
    rcases hF _ hf with h1 | h1
    · exact h.out h0 ad ha h1
    · have := h.seg.blk_lt h0 ha; omega⟩
theorem LD.Ok.keep {F : Nat → Prop} {w w' : World} {x : LD} (h : x.Ok F w) (hk : Keep w w') : x.Ok F w' := ⟨h.seg.keep hk, h.out⟩
theorem LD.Ok.of_own {F : Nat → Prop} {w : World} {base n c : Nat} {A : Option Addr} {l : List Int} (h : Own valC 1 45 w base (.slice A n c) l) (hF : ∀ k, F k → k < base) : (LD.mk A l c).Ok F w :=
  ⟨h.segN.2, fun _ ad ha hf => by subst ha; have := hF _ hf; have := (h.lt ad.block rfl).1; omega⟩
/-- It lies in a block of types. -/
def LD.Ty (w : World) (x : LD) : Prop := 0 < x.l.length → ∀ ad, x.a = some ad → ∃ cs, w.heap[ad.block]? = some (.cells cs 45 (0, 0))
theorem LD.Ty.of_blk {w w' : World} {x : LD} (h : x.Ty w) (hk : 0 < x.l.length → ∀ ad, x.a = some ad → w'.heap[ad.block]? = w.heap[ad.block]?) : x.Ty w' := fun h0 ad ha => by
  obtain ⟨cs, h1⟩ := h h0 ad ha
  exact ⟨cs, (hk h0 ad ha).trans h1⟩
/-- .. and is kept by a State. -/
structure LD.Kt (F : Nat → Prop) (w : World) (x : LD) : Prop extends LD.Ok F w x where
  ty : x.Ty w
theorem LD.Kt.ext {F F' : Nat → Prop} {w w' : World} {x : LD} (h : x.Kt F w) (hk : Ext F w w') (hF : ∀ k, F' k → F k ∨ w.heap.size ≤ k) : x.Kt F' w' :=
  ⟨h.toOk.ext hk hF, h.ty.of_blk fun h0 ad ha => hk.block _ (h.seg.blk_lt h0 ha) (h.out h0 ad ha)⟩
theorem LD.Kt.keep {F : Nat → Prop} {w w' : World} {x : LD} (h : x.Kt F w) (hk : Keep w w') : x.Kt F w' := ⟨h.toOk.keep hk, h.ty.of_blk fun h0 _ ha => hk.block _ (h.seg.blk_lt h0 ha)⟩
theorem LD.Kt.of_own {F : Nat → Prop} {w : World} {base n c : Nat} {A : Option Addr} {l : List Int} (h : Own valC 1 45 w base (.slice A n c) l) (hF : ∀ k, F k → k < base) : (LD.mk A l c).Kt F w :=
  ⟨LD.Ok.of_own h hF, LD.Ty.of_own h⟩
where
  LD.Ty.of_own {w : World} {base n c : Nat} {A : Option Addr} {l : List Int} (h : Own valC 1 45 w base (.slice A n c) l) : (LD.mk A l c).Ty w := fun _ ad ha => by
    rcases h.2 with ⟨hv, _⟩ | ⟨g, cap, cur, hv, _, hh, _⟩
    · injection hv with h1; rw [show (LD.mk A l c).a = A from rfl, h1] at ha; cases ha
    · injection hv with h1
      rw [show (LD.mk A l c).a = A from rfl, h1] at ha
      cases ha
      exact ⟨_, hh⟩
theorem LD.Kt.empty {F : Nat → Prop} {w : World} {x : LD} (h : x.l = []) : x.Kt F w := ⟨⟨by rw [h]; exact Seg.nil _ _, fun h0 => by rw [h] at h0; simp at h0⟩, fun h0 => by rw [h] at h0; simp at h0⟩
def LD.none : LD := ⟨Option.none, [], 0⟩
theorem LD.Ok.none (F : Nat → Prop) (w : World) : LD.none.Ok F w := ⟨Seg.nil _ _, fun h => absurd h (by decide)⟩

/-- A control frame in memory. -/
structure BD where
  kind : Int
  p : LD
  r : LD
  other : Bool
  live : Bool
def BD.plain (b : BD) : PB := ⟨b.kind, b.p.l, b.r.l, b.other, b.live⟩
def blkC (b : BD) : List Value := [.int .i64 b.kind, b.p.v, b.r.v, .bool b.other, .bool b.live]

theorem elB : ElT Try.prog 81 100 5 64 blkC where
  slice := Try.underlying81
  info := info_of (z := .agg #[.int .i64 0, .slice none 0 0, .slice none 0 0, .bool false, .bool false]) (by kernel_rfl) rfl
  pos := by omega
  len := fun _ => rfl
  one := fun x u hu => by simp [blkC, LD.v] at hu; rcases hu with rfl | rfl | rfl | rfl | rfl <;> rfl

/-- The parts of a State at block b, its operand stack at block bst. -/
structure CP (F F1 : Nat → Prop) (w : World) (b bst : Nat) (s : Stk) (vb : Value) (bds : List BD) (rd : LD) (live : Bool) (broken : Int) : Prop where
  st : At F1 w bst s
  blk : Blk w b 83 [.pointer (some ⟨bst, 0, none⟩), vb, rd.v, .bool live, .int .i64 broken]
  own : Own blkC 5 100 w 0 vb bds
  ls : ∀ x ∈ bds, x.p.Kt F w ∧ x.r.Kt F w
  res : rd.Kt F w
  fb : F b
  nb : ¬ F1 b
  sub : ∀ k, F1 k → F k
  row : ∀ k, vb.ownBlock = some k → F k ∧ ¬ F1 k
  lt : ∀ k, F k → k < w.heap.size

/-- A State. -/
def CAt (F : Nat → Prop) (w : World) (b bst : Nat) (c : Ctl) : Prop := ∃ F1 vb bds rd, CP F F1 w b bst c.s vb bds rd c.live c.broken ∧ bds.map BD.plain = c.bs ∧ rd.l = c.res
/-- What a call leaves. -/
def CLeft (F : Nat → Prop) (w : World) (b bst : Nat) (c' : Ctl) (w' : World) : Prop := Ext F w w' ∧ ∃ F', (∀ k, F' k → F k ∨ w.heap.size ≤ k) ∧ CAt F' w' b bst c'

section
variable {F F1 : Nat → Prop} {w w' : World} {b bst : Nat} {s s' : Stk} {vb : Value} {bds : List BD} {rd : LD} {live : Bool} {broken : Int}
theorem CP.keep (h : CP F F1 w b bst s vb bds rd live broken) (hk : Keep w w') : CP F F1 w' b bst s vb bds rd live broken :=
  ⟨h.st.keep hk, h.blk.keep hk, h.own.keep hk, fun x hx => ⟨(h.ls x hx).1.keep hk, (h.ls x hx).2.keep hk⟩, h.res.keep hk, h.fb, h.nb, h.sub, h.row, fun k hf => Nat.lt_of_lt_of_le (h.lt k hf) hk.size⟩
/-- A call on the operand stack alone. -/
theorem CP.stack (h : CP F F1 w b bst s vb bds rd live broken) (hl : Left F1 w bst s' w') : ∃ F' F1', CP F' F1' w' b bst s' vb bds rd live broken ∧ Ext F w w' ∧ ∀ k, F' k → F k ∨ w.heap.size ≤ k := by
  obtain ⟨he, F1', ha, hF⟩ := hl
  have hE : Ext F w w' := he.mono fun k _ hk => h.sub k hk
  have hF' : ∀ k, (F k ∨ F1' k) → F k ∨ w.heap.size ≤ k := fun k hk => hk.elim .inl (fun h1 => (hF k h1).imp (h.sub k) id)
  refine ⟨fun k => F k ∨ F1' k, F1', ⟨ha, h.blk.ext he h.nb, h.own.ext he (fun k hk => (h.row k hk).2), fun x hx => ⟨(h.ls x hx).1.ext hE hF', (h.ls x hx).2.ext hE hF'⟩, h.res.ext hE hF', .inl h.fb, ?_, fun k hk => .inr hk, fun k hk => ⟨.inl (h.row k hk).1, ?_⟩, ?_⟩, hE, hF'⟩
  · intro h1
    rcases hF _ h1 with h2 | h2
    · exact h.nb h2
    · have := h.blk.lt; omega
  · intro h1
    rcases hF _ h1 with h2 | h2
    · exact (h.row k hk).2 h2
    · have := (h.own.lt k hk).2; omega
  · rintro k (hk | hk)
    · exact Nat.lt_of_lt_of_le (h.lt k hk) he.size
    · exact ha.lt k hk
theorem CP.ext_set (h : CP F F1 w b bst s vb bds rd live broken) (i : Nat) (u : Value) : Ext F w (w.setCell ⟨b, i, none⟩ u) := (Ext.refl F w).setCell (p := ⟨b, i, none⟩) (fun _ => h.fb) u
theorem CP.set_any (h : CP F F1 w b bst s vb bds rd live broken) (i : Nat) (u : Value) {live' : Bool} {broken' : Int}
    (hb : ([.pointer (some ⟨bst, 0, none⟩), vb, rd.v, .bool live, .int .i64 broken] : List Value).set i u = [.pointer (some ⟨bst, 0, none⟩), vb, rd.v, .bool live', .int .i64 broken']) :
    CP F F1 (w.setCell ⟨b, i, none⟩ u) b bst s vb bds rd live' broken' := by
  have hE := h.ext_set i u
  have hE1 : Ext (fun k => k = b) w (w.setCell ⟨b, i, none⟩ u) := (Ext.refl (fun k => k = b) w).setCell (p := ⟨b, i, none⟩) (fun _ => rfl) u
  have hb' := h.blk.set_ i u
  rw [hb] at hb'
  exact ⟨h.st.of_keep (fun k hk => hE1.block k (h.st.lt k hk) (fun e => h.nb (e ▸ hk))) hE1.size, hb', h.own.ext hE1 (fun k hk => h.own.blk_ne h.blk (by decide) hk), fun x hx => ⟨(h.ls x hx).1.ext hE (fun k hk => .inl hk), (h.ls x hx).2.ext hE (fun k hk => .inl hk)⟩, h.res.ext hE (fun k hk => .inl hk), h.fb, h.nb, h.sub, h.row, fun k hk => Nat.lt_of_lt_of_le (h.lt k hk) hE.size⟩
theorem CP.setLive (h : CP F F1 w b bst s vb bds rd live broken) (l : Bool) : CP F F1 (w.setCell ⟨b, 3, none⟩ (.bool l)) b bst s vb bds rd l broken := h.set_any 3 _ rfl
theorem CP.setBroken (h : CP F F1 w b bst s vb bds rd live broken) (e : Int) : CP F F1 (w.setCell ⟨b, 4, none⟩ (.int .i64 e)) b bst s vb bds rd live e := h.set_any 4 _ rfl
/-- A new row of frames. -/
theorem CP.setRow (h : CP F F1 w b bst s vb bds rd live broken) {vb' : Value} {bds' : List BD} (hE : Ext (fun k => vb.ownBlock = some k) w w') (ho : Own blkC 5 100 w' 0 vb' bds') (hv : vb'.ownBlock = vb.ownBlock ∨ ∀ k, vb'.ownBlock = some k → w.heap.size ≤ k)
    (hl : ∀ x ∈ bds', x.p.Kt F w ∧ x.r.Kt F w) : ∃ F', CP F' F1 (w'.setCell ⟨b, 1, none⟩ vb') b bst s vb' bds' rd live broken ∧ Ext F w (w'.setCell ⟨b, 1, none⟩ vb') ∧ ∀ k, F' k → F k ∨ w.heap.size ≤ k := by
  have hE1 : Ext F w w' := hE.mono fun k _ hk => (h.row k hk).1
  have hE2 : Ext F w (w'.setCell ⟨b, 1, none⟩ vb') := hE1.setCell (p := ⟨b, 1, none⟩) (fun _ => h.fb) vb'
  have hF' : ∀ k, (F k ∨ vb'.ownBlock = some k) → F k ∨ w.heap.size ≤ k := fun k hk => hk.elim .inl (fun h1 => by
    rcases hv with e | e
    · rw [e] at h1; exact .inl (h.row k h1).1
    · exact .inr (e k h1))
  have hb' : Blk w' b 83 [.pointer (some ⟨bst, 0, none⟩), vb, rd.v, .bool live, .int .i64 broken] := h.blk.ext hE (fun e => h.own.blk_ne h.blk (by decide) e rfl)
  refine ⟨fun k => F k ∨ vb'.ownBlock = some k, ⟨?_, hb'.set_ 1 vb', ho.set_far (p := ⟨b, 1, none⟩) (fun k hk => ho.blk_ne hb' (by decide) hk) _, fun x hx => ⟨(hl x hx).1.ext hE2 hF', (hl x hx).2.ext hE2 hF'⟩, h.res.ext hE2 hF', .inl h.fb, h.nb, fun k hk => .inl (h.sub k hk), fun k hk => ⟨.inr hk, ?_⟩, ?_⟩, hE2, hF'⟩
  · have hE3 : Ext (fun k => vb.ownBlock = some k ∨ k = b) w (w'.setCell ⟨b, 1, none⟩ vb') := (hE.mono fun k _ hk => .inl hk).setCell (p := ⟨b, 1, none⟩) (fun _ => .inr rfl) vb'
    exact h.st.of_keep (fun k hk => hE3.block k (h.st.lt k hk) (fun e => e.elim (fun e1 => (h.row k e1).2 hk) (fun e1 => h.nb (e1 ▸ hk)))) hE3.size
  · intro h1
    rcases hv with e | e
    · rw [e] at hk; exact (h.row k hk).2 h1
    · have := e k hk; have := h.st.lt k h1; omega
  · rintro k (hk | hk)
    · exact Nat.lt_of_lt_of_le (h.lt k hk) hE2.size
    · have := (ho.lt k hk).2; simpa [World.setCell] using this

theorem CLeft.mk {c : Ctl} {F' : Nat → Prop} (hE : Ext F w w') (hF : ∀ k, F' k → F k ∨ w.heap.size ≤ k) (h : CP F' F1 w' b bst c.s vb bds rd c.live c.broken) (hb : bds.map BD.plain = c.bs) (hr : rd.l = c.res) : CLeft F w b bst c w' := ⟨hE, F', hF, F1, vb, bds, rd, h, hb, hr⟩
theorem CLeft.of_keep {c : Ctl} (h : CAt F w b bst c) (hk : Keep w w') : CLeft F w b bst c w' := by
  obtain ⟨F1, vb, bds, rd, h, hb, hr⟩ := h
  exact ⟨hk.ext F, F, fun k hk => .inl hk, F1, vb, bds, rd, h.keep hk, hb, hr⟩
theorem CAt.keep {c : Ctl} (h : CAt F w b bst c) (hk : Keep w w') : CAt F w' b bst c := by
  obtain ⟨F1, vb, bds, rd, h, hb, hr⟩ := h
  exact ⟨F1, vb, bds, rd, h.keep hk, hb, hr⟩

theorem CP.form (h : CP F F1 w b bst s vb bds rd live broken) : ∃ A c, vb = .slice A bds.length c ∧ bds.length ≤ c ∧ c ≤ maxLen := h.own.form

/-! ### The small methods -/

theorem cmade_calls (h : CP F F1 w b bst s vb bds rd live broken) : Calls Try.prog 58 #[.pointer (some ⟨b, 0, none⟩)] w fun e w' => e = .returned (.bool true) ∧ w = w' := by
  have c0 : w.cell? ⟨b, 0, none⟩ = some (.pointer (some ⟨bst, 0, none⟩)) := h.blk.cell 0
  have hlt := h.blk.lt
  clear h
  go_enter Try.func58, Try.ntmps58
  go_wp2
  go_ret
  exact ⟨rfl, rfl⟩
theorem wrong_calls (h : CP F F1 w b bst s vb bds rd live broken) : Calls Try.prog 59 #[.pointer (some ⟨b, 0, none⟩)] w fun e w' => e = .returned (.int .i64 broken) ∧ w = w' := by
  have Hm := Lib.hid (cmade_calls h)
  have c4 : w.cell? ⟨b, 4, none⟩ = some (.int .i64 broken) := h.blk.cell 4
  have hlt := h.blk.lt
  clear h
  go_enter Try.func59, Try.ntmps59
  go_wp2_with fail
  refine Hm.out.mono ?_
  rintro e w1 ⟨rfl, rfl⟩
  go_wp2
  go_ret
  exact ⟨rfl, rfl⟩
theorem stackOf_calls (h : CP F F1 w b bst s vb bds rd live broken) : Calls Try.prog 34 #[.pointer (some ⟨b, 0, none⟩)] w fun e w' => e = .returned (.pointer (some ⟨bst, 0, none⟩)) ∧ w = w' := by
  have Hm := Lib.hid (cmade_calls h)
  have c0 : w.cell? ⟨b, 0, none⟩ = some (.pointer (some ⟨bst, 0, none⟩)) := h.blk.cell 0
  have hlt := h.blk.lt
  clear h
  go_enter Try.func34, Try.ntmps34
  go_wp2_with fail
  refine Hm.out.mono ?_
  rintro e w1 ⟨rfl, rfl⟩
  go_wp2
  go_ret
  exact ⟨rfl, rfl⟩
theorem broke_calls (h : CP F F1 w b bst s vb bds rd live broken) (er : Int) : Calls Try.prog 60 #[.pointer (some ⟨b, 0, none⟩), .int .i64 er] w fun e w' => e = .returned (.int .i64 er) ∧ CP F F1 w' b bst s vb bds rd live er ∧ Ext F w w' := by
  have c4 : w.cell? ⟨b, 4, none⟩ = some (.int .i64 broken) := h.blk.cell 4
  have f4 := h.blk.frozen 4
  have hlt := h.blk.lt
  have Hb := Lib.hid (h.setBroken er)
  have He := Lib.hid (h.ext_set 4 (.int .i64 er))
  clear h
  go_enter Try.func60, Try.ntmps60
  go_wp2
  go_ret
  exact ⟨rfl, Hb.out, He.out⟩
end

section
variable {F : Nat → Prop} {w : World} {b bst : Nat} {c : Ctl}
theorem depth_calls (h : CAt F w b bst c) : Calls Try.prog 44 #[.pointer (some ⟨b, 0, none⟩)] w fun e w' => e = .returned (.int .i64 (c.depth : Int)) ∧ w = w' := by
  obtain ⟨F1, vb, bds, rd, h, hb, hr⟩ := h
  obtain ⟨A, cc, rfl, _⟩ := h.form
  have Hm := Lib.hid (wrong_calls h)
  have c1 : w.cell? ⟨b, 1, none⟩ = some (.slice A bds.length cc) := h.blk.cell 1
  have hlt := h.blk.lt
  have hl : bds.length = c.bs.length := by rw [← hb]; simp
  have Hl := Lib.hid hl
  clear h hb hr hl
  by_cases h0 : c.broken = 0
  · have hd : Hid (c.depth = c.bs.length) := Lib.hid (by unfold Ctl.depth; simp [h0])
    rw [h0] at Hm
    clear h0
    go_enter Try.func44, Try.ntmps44
    go_wp2_with fail
    refine Hm.out.mono ?_
    rintro e w1 ⟨rfl, rfl⟩
    go_wp2
    go_ret
    exact ⟨by rw [hd.out, Hl.out]; rfl, rfl⟩
  · have hd : Hid (c.depth = 0) := Lib.hid (by unfold Ctl.depth; simp [h0])
    have hne : (c.broken != 0) = true := by simpa using h0
    clear h0
    go_enter Try.func44, Try.ntmps44
    go_wp2_with fail
    refine Hm.out.mono ?_
    rintro e w1 ⟨rfl, rfl⟩
    go_wp2
    go_ret
    exact ⟨by rw [hd.out]; rfl, rfl⟩

theorem live_calls (h : CAt F w b bst c) : Calls Try.prog 36 #[.pointer (some ⟨b, 0, none⟩)] w fun e w' => e = .returned (.bool c.isLive) ∧ w = w' := by
  obtain ⟨F1, vb, bds, rd, h, hb, hr⟩ := h
  have Hm := Lib.hid (wrong_calls h)
  have c3 : w.cell? ⟨b, 3, none⟩ = some (.bool c.live) := h.blk.cell 3
  have hlt := h.blk.lt
  clear h hb hr
  by_cases h0 : c.broken = 0
  · have hd : Hid (c.isLive = c.live) := Lib.hid (by unfold Ctl.isLive; simp [h0])
    rw [h0] at Hm
    clear h0
    go_enter Try.func36, Try.ntmps36
    go_wp2_with fail
    refine Hm.out.mono ?_
    rintro e w1 ⟨rfl, rfl⟩
    go_wp2
    go_ret
    exact ⟨by rw [hd.out]; rfl, rfl⟩
  · have hd : Hid (c.isLive = false) := Lib.hid (by unfold Ctl.isLive; simp [h0])
    have hne : (c.broken == 0) = false := by simpa using h0
    clear h0
    go_enter Try.func36, Try.ntmps36
    go_wp2_with fail
    refine Hm.out.mono ?_
    rintro e w1 ⟨rfl, rfl⟩
    go_wp2
    go_ret
    exact ⟨by rw [hd.out]; rfl, rfl⟩

theorem done_calls (h : CAt F w b bst c) : Calls Try.prog 40 #[.pointer (some ⟨b, 0, none⟩)] w fun e w' => e = .returned (.bool c.done) ∧ w = w' := by
  obtain ⟨F1, vb, bds, rd, h, hb, hr⟩ := h
  obtain ⟨A, cc, rfl, _⟩ := h.form
  have Hm := Lib.hid (wrong_calls h)
  have c1 : w.cell? ⟨b, 1, none⟩ = some (.slice A bds.length cc) := h.blk.cell 1
  have hlt := h.blk.lt
  have hl : decide (c.bs = []) = ((bds.length : Int) == 0) := by
    rw [← hb]
    cases bds with
    | nil => rfl
    | cons x r => simp; omega
  have Hl := Lib.hid hl
  clear h hb hr hl
  by_cases h0 : c.broken = 0
  · have hd : Hid (c.done = ((bds.length : Int) == 0)) := Lib.hid (by unfold Ctl.done; rw [Hl.out]; simp [h0])
    rw [h0] at Hm
    clear h0
    cases hz : ((bds.length : Int) == 0)
    all_goals
      rw [hz] at hd
      go_enter Try.func40, Try.ntmps40
      go_wp2_with fail
      refine Hm.out.mono ?_
      rintro e w1 ⟨rfl, rfl⟩
      go_wp2
      go_ret
      exact ⟨by rw [hd.out]; rfl, rfl⟩
  · have hd : Hid (c.done = false) := Lib.hid (by unfold Ctl.done; simp [h0])
    have hne : (c.broken == 0) = false := by simpa using h0
    clear h0
    go_enter Try.func40, Try.ntmps40
    go_wp2_with fail
    refine Hm.out.mono ?_
    rintro e w1 ⟨rfl, rfl⟩
    go_wp2
    go_ret
    exact ⟨by rw [hd.out]; rfl, rfl⟩

theorem return_calls (h : CAt F w b bst c) (hn : c.res.length ≤ 1000000) : Calls Try.prog 43 #[.pointer (some ⟨b, 0, none⟩)] w fun e w' => ∃ v, e = .returned v ∧ Own valC 1 45 w' w.heap.size v c.ret ∧ Keep w w' := by
  obtain ⟨F1, vb, bds, rd, h, hb, hr⟩ := h
  have Hm := Lib.hid (wrong_calls h)
  have c2 : w.cell? ⟨b, 2, none⟩ = some (.slice rd.a rd.l.length rd.c) := h.blk.cell 2
  have hlt := h.blk.lt
  by_cases h0 : c.broken = 0
  · have hd : Hid (c.ret = rd.l) := Lib.hid (by unfold Ctl.ret; simp [h0, hr])
    have Hc := Lib.hid (clone_calls rd.l rd.a rd.c w h.res.seg (by rw [hr]; exact hn))
    rw [h0] at Hm
    clear h0 h hb hr
    go_enter Try.func43, Try.ntmps43
    go_wp2_with fail
    refine Hm.out.mono ?_
    rintro e w1 ⟨rfl, rfl⟩
    go_wp2_with fail
    refine Hc.out.mono ?_
    rintro e w1 ⟨v, rfl, ho, hk⟩
    have Ho := Lib.hid ho
    clear ho
    go_wp2
    go_ret
    exact ⟨v, rfl, by rw [hd.out]; exact Ho.out, hk⟩
  · have hd : Hid (c.ret = []) := Lib.hid (by unfold Ctl.ret; simp [h0])
    have hne : (c.broken != 0) = true := by simpa using h0
    clear h0 h hb hr
    go_enter Try.func43, Try.ntmps43
    go_wp2_with fail
    refine Hm.out.mono ?_
    rintro e w1 ⟨rfl, rfl⟩
    go_wp2
    go_ret
    exact ⟨_, rfl, by rw [hd.out]; exact Own.nil _ _ _ _ _, Keep.refl _⟩

theorem dead_calls (h : CAt F w b bst c) (hok : c.s.Ok) (hn : c.s.T.length ≤ 1000000) (hp : c.s.P.length ≤ 1000000) : Calls Try.prog 37 #[.pointer (some ⟨b, 0, none⟩)] w fun e w' => (∃ v, e = .returned v) ∧ CLeft F w b bst c.dead w' := by
  have Hh := Lib.hid h
  obtain ⟨F1, vb, bds, rd, h, hb, hr⟩ := h
  obtain ⟨A, cc, rfl, _⟩ := h.form
  have Hm := Lib.hid (wrong_calls h)
  have c0 : w.cell? ⟨b, 0, none⟩ = some (.pointer (some ⟨bst, 0, none⟩)) := h.blk.cell 0
  have c1 : w.cell? ⟨b, 1, none⟩ = some (.slice A bds.length cc) := h.blk.cell 1
  have hlt := h.blk.lt
  by_cases h0 : c.broken = 0
  · rw [h0] at Hm
    by_cases hz : bds = []
    · have hd : Hid (c.dead = c) := Lib.hid (by unfold Ctl.dead; rw [if_pos (.inr (by rw [← hb, hz]; rfl))])
      subst hz
      clear h hb hr h0
      go_enter Try.func37, Try.ntmps37
      go_wp2_with fail
      refine Hm.out.mono ?_
      rintro e w1 ⟨rfl, rfl⟩
      go_wp2
      refine bodyPost_ret (results_none rfl _ _ _) rfl ⟨⟨_, rfl⟩, ?_⟩
      rw [hd.out]; exact CLeft.of_keep Hh.out (Keep.refl _)
    · have hd : Hid (c.dead = { c with s := c.s.loosen, live := false }) := Lib.hid (by unfold Ctl.dead; rw [if_neg (fun h1 => h1.elim (fun h2 => h2 h0) (fun h2 => hz (by rw [← hb] at h2; simpa using h2)))])
      have hne : ((bds.length : Int) == 0) = false := by
        cases bds with
        | nil => exact absurd rfl hz
        | cons x r => simp; omega
      have Hl := Lib.hid (loose_calls h.st hok hn hp)
      have Hfin := Lib.hid (show ∀ w1, Left F1 w bst c.s.loosen w1 → CLeft F w b bst c.dead (w1.setCell ⟨b, 3, none⟩ (.bool false)) from fun w1 hl => by
        obtain ⟨F', F1', h', hE, hF⟩ := h.stack hl
        rw [hd.out]
        exact CLeft.mk (hE.trans (h'.ext_set 3 _) (fun k hk hf => (hF k hf).elim id (fun h1 => by omega))) hF (h'.setLive false) hb hr)
      have Hst := Lib.hid (show ∀ w1, Left F1 w bst c.s.loosen w1 → Blk w1 b 83 [.pointer (some ⟨bst, 0, none⟩), .slice A bds.length cc, rd.v, .bool c.live, .int .i64 c.broken] from fun w1 hl => by
        obtain ⟨F', F1', h', _, _⟩ := h.stack hl
        exact h'.blk)
      clear h hb hr h0 hz
      go_enter Try.func37, Try.ntmps37
      go_wp2_with fail
      refine Hm.out.mono ?_
      rintro e w1 ⟨rfl, rfl⟩
      go_wp2_with fail
      refine Hl.out.mono ?_
      rintro e w1 ⟨⟨u, rfl⟩, hl⟩
      have d3 : w1.cell? ⟨b, 3, none⟩ = some (.bool c.live) := (Hst.out w1 hl).cell 3
      have f3 := (Hst.out w1 hl).frozen 3
      have hlt1 := (Hst.out w1 hl).lt
      have Hf := Lib.hid (Hfin.out w1 hl)
      clear hl
      go_wp2
      go_end0
      exact ⟨⟨_, rfl⟩, Hf.out⟩
  · have hd : Hid (c.dead = c) := Lib.hid (by unfold Ctl.dead; rw [if_pos (.inl h0)])
    have hne : (c.broken != 0) = true := by simpa using h0
    clear h0 h hb hr
    go_enter Try.func37, Try.ntmps37
    go_wp2_with fail
    refine Hm.out.mono ?_
    rintro e w1 ⟨rfl, rfl⟩
    go_wp2
    refine bodyPost_ret (results_none rfl _ _ _) rfl ⟨⟨_, rfl⟩, ?_⟩
    rw [hd.out]; exact CLeft.of_keep Hh.out (Keep.refl _)
end
end Go.Proofs.Ytkeefajfndmpeaa
