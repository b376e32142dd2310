/-
  CtrlRuns, plain: the State and the reference's go the same way.
-/
import Derived.Test.YtkeefajfndmpeaaCRefI
import Derived.Test.YtkeefajfndmpeaaCFew
namespace Go.Proofs.Ytkeefajfndmpeaa
open Go

/-- The reference's opcode of a frame. -/
def opOf (b : PB) : Int := if b.kind = 0 then 11 else if b.kind = 4 ∧ b.other = true then 5 else b.kind
/-- A frame of the program and one of the reference; l: whether its beginning is reachable. -/
structure FrM (l : Bool) (b : PB) (f : FrD) : Prop where
  live : b.live = l
  was : f.was = l
  op : f.op = opOf b
  kind : b.kind = 0 ∨ b.kind = 2 ∨ b.kind = 3 ∨ b.kind = 4
  p : f.p.l = b.p
  r : f.r.l = b.r
/-- The frames; l: whether the first begins reachable, now: whether the position is. -/
def FM : Bool → List PB → List FrD → Bool → Prop
  | l, [], [], now => l = now
  | l, b :: bs, f :: fs, now => FrM l b f ∧ FM f.live bs fs now
  | _, [], _ :: _, _ => False
  | _, _ :: _, [], _ => False

theorem FM.len : ∀ {l : Bool} {bs : List PB} {fs : List FrD} {now : Bool}, FM l bs fs now → fs.length = bs.length
  | _, [], [], _, _ => rfl
  | _, b :: bs, f :: fs, _, h => by have := FM.len h.2; simp [this]
  | _, [], _ :: _, _, h => h.elim
  | _, _ :: _, [], _, h => h.elim
theorem FM.snoc : ∀ {l m : Bool} {bs : List PB} {fs : List FrD} {b : PB} {f : FrD}, FM l bs fs m → FrM m b f → FM l (bs ++ [b]) (fs ++ [f]) f.live
  | _, _, [], [], _, _, h, hf => by
    have e : _ = _ := h
    subst e
    exact ⟨hf, rfl⟩
  | _, _, _ :: _, _ :: _, _, _, h, hf => ⟨h.1, FM.snoc h.2 hf⟩
  | _, _, [], _ :: _, _, _, h, _ => h.elim
  | _, _, _ :: _, [], _, _, h, _ => h.elim
theorem FM.last : ∀ {l now : Bool} {bs : List PB} {fs : List FrD} {b : PB} {f : FrD}, FM l (bs ++ [b]) (fs ++ [f]) now → ∃ m, FM l bs fs m ∧ FrM m b f ∧ f.live = now
  | l, _, [], [], _, _, h => ⟨l, rfl, h.1, h.2⟩
  | _, _, _ :: _, _ :: _, _, _, h => by
    obtain ⟨m, h1, h2⟩ := FM.last h.2
    exact ⟨m, ⟨h.1, h1⟩, h2⟩
  | _, _, [], g :: fs, _, _, h => by
    have h2 := FM.len h.2
    simp at h2
  | _, _, c :: bs, [], _, _, h => by
    have h2 := FM.len h.2
    simp at h2
theorem FM.end_ {now : Bool} {bs : List PB} {fs : List FrD} (h : FM true bs fs now) : liveTop fs = now := by
  rcases List.eq_nil_or_concat fs with e | ⟨fs', f, e⟩
  · subst e
    have hl := h.len
    obtain rfl : bs = [] := List.eq_nil_of_length_eq_zero (by simpa using hl.symm)
    exact h
  · have e : fs = fs' ++ [f] := by simpa using e
    subst e
    have hl := h.len
    rcases List.eq_nil_or_concat bs with e | ⟨bs', b, e⟩
    · subst e; simp at hl
    · have e : bs = bs' ++ [b] := by simpa using e
      subst e
      obtain ⟨m, _, _, h3⟩ := FM.last h
      unfold liveTop
      simpa using h3
theorem FM.at_ : ∀ {l now : Bool} {bs : List PB} {fs : List FrD}, FM l bs fs now → ∀ k (hk : k < bs.length) (hk' : k < fs.length), ∃ m, FrM m bs[k] fs[k]
  | _, _, [], _, _, k, hk, _ => by simp at hk
  | _, _, _ :: _, [], _, k, _, hk => by simp at hk
  | l, _, _ :: _, _ :: _, h, 0, _, _ => ⟨l, h.1⟩
  | _, _, _ :: _, _ :: _, h, k + 1, hk, hk' => by
    obtain ⟨m, h1⟩ := FM.at_ h.2 k (by simpa using hk) (by simpa using hk')
    exact ⟨m, by simpa using h1⟩

/-- The State and the reference's agree. -/
structure RM (c : Ctl) (d : RC) : Prop where
  s : d.s = c.s
  broken : d.broken = c.broken
  fm : c.broken = 0 → FM true c.bs d.fs c.live
  res : d.res.l = c.res
theorem RM.fresh (res : LD) : RM (Ctl.fresh res.l) (RC.fresh res) := ⟨rfl, rfl, fun _ => ⟨⟨rfl, rfl, rfl, .inl rfl, rfl, rfl⟩, rfl⟩, rfl⟩

section
variable {c : Ctl} {d : RC} (h : RM c d)
include h
theorem RM.live : d.isLive = c.isLive := by
  unfold RC.isLive Ctl.isLive
  rw [h.broken]
  by_cases hb : c.broken = 0
  · rw [(h.fm hb).end_]
  · rw [decide_eq_false hb]; rfl
theorem RM.depth : (if d.broken ≠ 0 then 0 else (d.fs.length : Int)) = (c.depth : Int) := by
  unfold Ctl.depth
  rw [h.broken]
  by_cases hb : c.broken = 0
  · rw [if_neg (show ¬ c.broken ≠ 0 from fun e => e hb), if_neg (show ¬ c.broken ≠ 0 from fun e => e hb), (h.fm hb).len]
  · rw [if_pos hb, if_pos hb]; rfl
theorem RM.done : (decide (d.broken = 0) && decide (d.fs = [])) = c.done := by
  unfold Ctl.done
  rw [h.broken]
  by_cases hb : c.broken = 0
  · have hl := (h.fm hb).len
    rw [decide_eq_true hb]
    simp only [Bool.true_and]
    rw [decide_eq_decide, ← List.length_eq_zero_iff, hl, List.length_eq_zero_iff]
  · rw [decide_eq_false hb]; rfl
theorem RM.ret : (if d.broken ≠ 0 then LD.none else d.res).l = c.ret := by
  unfold Ctl.ret
  rw [h.broken]
  by_cases hb : c.broken = 0
  · rw [if_neg (show ¬ c.broken ≠ 0 from fun e => e hb), if_neg (show ¬ c.broken ≠ 0 from fun e => e hb), h.res]
  · rw [if_pos hb, if_pos hb]; rfl
theorem RM.label (n : Int) : (d.label n).1.l = (c.label n).1 ∧ (d.label n).2 = (c.label n).2 := by
  unfold RC.label Ctl.label
  rw [h.broken]
  by_cases hb : c.broken = 0
  rotate_left
  · rw [if_pos hb, if_pos hb]; exact ⟨rfl, rfl⟩
  rw [if_neg (show ¬ c.broken ≠ 0 from fun e => e hb), if_neg (show ¬ c.broken ≠ 0 from fun e => e hb)]
  have hf := h.fm hb
  have hl := hf.len
  by_cases hn : n < 0 ∨ (c.bs.length : Int) ≤ n
  · rw [if_pos (by rw [hl]; exact hn), if_pos hn]; exact ⟨rfl, rfl⟩
  rw [if_neg (by rw [hl]; exact hn), if_neg hn, hl]
  have hk : c.bs.length - 1 - n.toNat < c.bs.length := by omega
  obtain ⟨m, hm⟩ := hf.at_ _ hk (by omega)
  rw [List.getElem?_eq_getElem (by omega)]
  simp only [List.getD_eq_getElem?_getD, List.getElem?_eq_getElem hk, Option.getD_some]
  refine ⟨?_, trivial⟩
  rw [hm.op]
  rcases hm.kind with e | e | e | e
  · rw [if_neg (by unfold opOf; rw [if_pos e]; omega), if_neg (by omega), hm.r]
  · rw [if_neg (by unfold opOf; rw [if_neg (by omega), if_neg (by omega)]; omega), if_neg (by omega), hm.r]
  · rw [if_pos (by unfold opOf; rw [if_neg (by omega), if_neg (by omega)]; exact e), if_pos e, hm.p]
  · rw [if_neg (by unfold opOf; rw [if_neg (by omega)]; split <;> omega), if_neg (by omega), hm.r]

theorem RM.enter2 (hb : c.broken = 0) (op : Int) (hop : op = 2 ∨ op = 3 ∨ op = 4) (p r : LD) : (d.enter2 op p r).2 = (c.enter2 op p.l r.l).2 ∧ RM (c.enter2 op p.l r.l).1 (d.enter2 op p r).1 := by
  unfold RC.enter2 Ctl.enter2
  rw [h.s]
  by_cases h0 : (c.s.want p.l).2 = 0
  rotate_left
  · rw [if_pos h0, if_neg h0]
    exact ⟨rfl, ⟨rfl, rfl, fun hx => absurd hx h0, h.res⟩⟩
  · rw [if_neg (fun e => e h0), if_pos h0]
    refine ⟨rfl, ⟨rfl, h.broken, fun _ => ?_, h.res⟩⟩
    have hf := h.fm hb
    rw [hf.end_]
    exact FM.snoc (f := ⟨op, p, r, c.live, c.live⟩) hf ⟨rfl, rfl, by unfold opOf; rw [if_neg (by show ¬ op = 0; omega), if_neg (by simp)], .inr hop, rfl, rfl⟩
theorem RM.enter (op : Int) (p r : LD) : (d.enter op p r).2 = (c.enter op p.l r.l).2 ∧ RM (c.enter op p.l r.l).1 (d.enter op p r).1 := by
  unfold RC.enter Ctl.enter
  rw [h.broken]
  by_cases hb : c.broken = 0
  rotate_left
  · rw [if_pos hb, if_pos hb]; exact ⟨rfl, h⟩
  rw [if_neg (show ¬ c.broken ≠ 0 from fun e => e hb), if_neg (show ¬ c.broken ≠ 0 from fun e => e hb)]
  by_cases hop : op ≠ 2 ∧ op ≠ 3 ∧ op ≠ 4
  · rw [if_pos hop, if_pos hop]; exact ⟨rfl, h⟩
  rw [if_neg hop, if_neg hop]
  have hf := h.fm hb
  have hl := hf.len
  by_cases hz : c.bs = []
  · rw [if_pos (List.eq_nil_of_length_eq_zero (by rw [hl, hz]; rfl)), if_pos hz]; exact ⟨rfl, h⟩
  rw [if_neg (fun e => hz (List.eq_nil_of_length_eq_zero (by rw [← hl, e]; rfl))), if_neg hz]
  by_cases h4 : op = 4
  rotate_left
  · rw [if_neg h4, if_neg h4]
    exact h.enter2 hb op (by omega) p r
  · rw [if_pos h4, if_pos h4, h.s]
    by_cases h0 : (c.s.want [1]).2 = 0
    rotate_left
    · rw [if_pos h0, if_neg h0]
      exact ⟨rfl, ⟨rfl, rfl, fun hx => absurd hx h0, h.res⟩⟩
    · rw [if_neg (fun e => e h0), if_pos h0]
      exact RM.enter2 (c := { c with s := (c.s.want [1]).1 }) (d := { d with s := (c.s.want [1]).1, broken := c.broken }) ⟨rfl, rfl, h.fm, h.res⟩ hb op (by omega) p r

/-- The last frames. -/
theorem RM.tops (hb : c.broken = 0) (hz : c.bs ≠ []) : ∃ bs b fs f m, c.bs = bs ++ [b] ∧ d.fs = fs ++ [f] ∧ FM true bs fs m ∧ FrM m b f ∧ f.live = c.live ∧ c.top = b ∧ d.fs.getLast? = some f := by
  have hf := h.fm hb
  have hl := hf.len
  rcases List.eq_nil_or_concat c.bs with e | ⟨bs, b, e⟩
  · exact absurd e hz
  have e : c.bs = bs ++ [b] := by simpa using e
  rcases List.eq_nil_or_concat d.fs with e' | ⟨fs, f, e'⟩
  · rw [e, e'] at hl; simp at hl
  have e' : d.fs = fs ++ [f] := by simpa using e'
  rw [e, e'] at hf
  obtain ⟨m, h1, h2, h3⟩ := hf.last
  exact ⟨bs, b, fs, f, m, e, e', h1, h2, h3, by unfold Ctl.top; rw [e]; simp, by rw [e']; simp⟩
theorem RM.none_ (hb : c.broken = 0) (hz : c.bs = []) : d.fs = [] := List.eq_nil_of_length_eq_zero (by rw [(h.fm hb).len, hz]; rfl)

theorem RM.dead : RM c.dead d.dead := by
  unfold Ctl.dead RC.dead
  by_cases hb : c.broken = 0
  rotate_left
  · rw [if_pos (.inl hb)]
    split
    · exact h
    · rw [if_pos (by rw [h.broken]; exact hb)]; exact h
  by_cases hz : c.bs = []
  · rw [if_pos (.inr hz), h.none_ hb hz]; exact h
  obtain ⟨bs, b, fs, f, m, e1, e2, h1, h2, h3, h4, h5⟩ := h.tops hb hz
  rw [if_neg (by simp [hb, hz]), h5]
  simp only []
  rw [if_neg (fun e => e (h.broken.trans hb))]
  refine ⟨by rw [h.s], h.broken, fun _ => ?_, h.res⟩
  show FM true c.bs _ false
  rw [e1, e2, List.dropLast_concat]
  exact FM.snoc (f := { f with live := false }) h1 ⟨h2.live, h2.was, h2.op, h2.kind, h2.p, h2.r⟩

theorem RM.leave : d.leave.2 = c.leave.2 ∧ RM c.leave.1 d.leave.1 := by
  unfold RC.leave Ctl.leave
  rw [h.broken]
  by_cases hb : c.broken = 0
  rotate_left
  · rw [if_pos hb, if_pos hb]; exact ⟨rfl, h⟩
  rw [if_neg (show ¬ c.broken ≠ 0 from fun e => e hb), if_neg (show ¬ c.broken ≠ 0 from fun e => e hb)]
  by_cases hz : c.bs = []
  · rw [if_pos hz, h.none_ hb hz]; exact ⟨rfl, h⟩
  rw [if_neg hz]
  obtain ⟨bs, b, fs, f, m, e1, e2, h1, h2, h3, h4, h5⟩ := h.tops hb hz
  rw [h5, h4]
  simp only []
  rw [h.s, h2.r, h2.p]
  by_cases h0 : (c.s.shut b.r).2 = 0
  rotate_left
  · rw [if_pos h0, if_neg h0]
    exact ⟨rfl, ⟨rfl, rfl, fun hx => absurd hx h0, h.res⟩⟩
  rw [if_neg (fun e => e h0), if_pos h0]
  have hiff : (f.op = 4 ∧ b.p ≠ b.r) ↔ (b.kind = 4 ∧ b.other = false ∧ b.p ≠ b.r) := by
    rw [h2.op]
    unfold opOf
    constructor
    · rintro ⟨ha, hc⟩
      split at ha
      · omega
      · rename_i hk0
        split at ha
        · omega
        · rename_i hk
          refine ⟨ha, ?_, hc⟩
          cases ho : b.other with
          | false => rfl
          | true => exact absurd ⟨ha, ho⟩ hk
    · rintro ⟨ha, ho, hc⟩
      refine ⟨?_, hc⟩
      rw [if_neg (by omega), if_neg (by simp [ho])]; exact ha
  by_cases hx : b.kind = 4 ∧ b.other = false ∧ b.p ≠ b.r
  · rw [if_pos (hiff.2 hx), if_pos hx]
    exact ⟨rfl, ⟨rfl, rfl, fun (h12 : (12 : Int) = 0) => absurd h12 (by decide), h.res⟩⟩
  · rw [if_neg (fun hy => hx (hiff.1 hy)), if_neg hx]
    refine ⟨rfl, ⟨rfl, rfl, fun _ => ?_, h.res⟩⟩
    show FM true c.bs.dropLast d.fs.dropLast b.live
    rw [e1, e2, List.dropLast_concat, List.dropLast_concat, h2.live]
    exact h1

theorem RM.els : d.els.2 = c.els.2 ∧ RM c.els.1 d.els.1 := by
  unfold RC.els Ctl.els
  rw [h.broken]
  by_cases hb : c.broken = 0
  rotate_left
  · rw [if_pos hb, if_pos hb]; exact ⟨rfl, h⟩
  rw [if_neg (show ¬ c.broken ≠ 0 from fun e => e hb), if_neg (show ¬ c.broken ≠ 0 from fun e => e hb)]
  by_cases hz : c.bs = []
  · rw [if_pos hz, h.none_ hb hz]; exact ⟨rfl, h⟩
  rw [if_neg hz]
  obtain ⟨bs, b, fs, f, m, e1, e2, h1, h2, h3, h4, h5⟩ := h.tops hb hz
  rw [h5, h4]
  simp only []
  rw [h.s, h2.r]
  have hiff : f.op ≠ 4 ↔ (b.kind ≠ 4 ∨ b.other = true) := by
    rw [h2.op]
    unfold opOf
    constructor
    · intro ha
      by_cases hk : b.kind = 4
      · right
        cases ho : b.other with
        | true => rfl
        | false => exact absurd (by rw [if_neg (by omega), if_neg (by simp [ho])]; exact hk) ha
      · exact .inl hk
    · rintro (ha | ha)
      · split
        · omega
        · split
          · omega
          · exact ha
      · split
        · omega
        · split
          · omega
          · rename_i hk; intro hk4; exact hk ⟨hk4, ha⟩
  by_cases hx : b.kind ≠ 4 ∨ b.other = true
  · rw [if_pos (hiff.2 hx), if_pos hx]; exact ⟨rfl, h⟩
  rw [if_neg (fun hy => hx (hiff.1 hy)), if_neg hx]
  by_cases h0 : (c.s.shut b.r).2 = 0
  rotate_left
  · rw [if_pos h0, if_neg h0]
    exact ⟨rfl, ⟨rfl, rfl, fun hy => absurd hy h0, h.res⟩⟩
  rw [if_neg (fun e => e h0), if_pos h0]
  have hk4 : b.kind = 4 := by
    by_cases hk : b.kind = 4
    · exact hk
    · exact absurd (.inl hk) hx
  refine ⟨rfl, ⟨by show _ = (c.s.shut b.r).1.opened.push b.p; rw [h2.p], rfl, fun _ => ?_, h.res⟩⟩
  show FM true (c.bs.dropLast ++ [{ b with other := true }]) (d.fs.dropLast ++ [{ f with op := 5, live := f.was }]) b.live
  rw [e1, e2, List.dropLast_concat, List.dropLast_concat]
  have := FM.snoc (f := { f with op := 5, live := f.was }) (b := { b with other := true }) h1 ⟨h2.live, h2.was, by unfold opOf; rw [if_neg (by show ¬ b.kind = 0; omega), if_pos ⟨hk4, rfl⟩], .inr (.inr (.inr hk4)), h2.p, h2.r⟩
  have e : b.live = f.was := h2.live.trans h2.was.symm
  exact (congrArg (FM true _ _) e).mpr this
theorem RM.push (l : List Int) : RM { c with s := c.s.push l } { d with s := d.s.push l } := ⟨by rw [h.s], h.broken, h.fm, h.res⟩
end

/-- One operation. -/
def Ctl.act (c : Ctl) (x : AD) : Ctl :=
  if x.kind % 8 = 0 ∨ x.kind % 8 = 1 then (c.enter x.op x.p.l x.q.l).1 else if x.kind % 8 = 2 then c.els.1 else if x.kind % 8 = 3 ∨ x.kind % 8 = 4 then c.leave.1
  else if x.kind % 8 = 5 then { c with s := c.s.push x.l.l } else if x.kind % 8 = 6 then c else c.dead
def RC.act (c : RC) (x : AD) : RC :=
  if x.kind % 8 = 0 ∨ x.kind % 8 = 1 then (c.enter x.op x.p x.q).1 else if x.kind % 8 = 2 then c.els.1 else if x.kind % 8 = 3 ∨ x.kind % 8 = 4 then c.leave.1
  else if x.kind % 8 = 5 then { c with s := c.s.push x.l.l } else if x.kind % 8 = 6 then c else c.dead
theorem RM.act {c : Ctl} {d : RC} (h : RM c d) (x : AD) : RM (c.act x) (d.act x) := by
  unfold Ctl.act RC.act
  split
  · exact (h.enter x.op x.p x.q).2
  split
  · exact h.els.2
  split
  · exact h.leave.2
  split
  · exact h.push _
  split
  · exact h
  · exact h.dead

/-- How big they can be behind n operations. -/
structure Fit (n : Nat) (c : Ctl) : Prop where
  T : c.s.T.length ≤ 20 * n
  P : c.s.P.length ≤ n + 2
  bs : c.bs.length ≤ n + 1
  ls : ∀ b ∈ c.bs, b.p.length ≤ 20 ∧ b.r.length ≤ 20
  ok : c.s.Ok
structure FitR (n : Nat) (d : RC) : Prop where
  fs : d.fs.length ≤ n + 1
  ls : ∀ f ∈ d.fs, f.p.l.length ≤ 20 ∧ f.r.l.length ≤ 20

theorem Fit.fresh {r : List Int} (hr : r.length ≤ 20) : Fit 0 (Ctl.fresh r) :=
  ⟨Nat.le_refl _, Nat.le_refl _, Nat.le_refl _, fun b hb => by obtain rfl := List.mem_singleton.1 hb; exact ⟨by simp, hr⟩, Stk.Ok.fresh.opened⟩
theorem FitR.fresh {r : LD} (hr : r.l.length ≤ 20) : FitR 0 (RC.fresh r) :=
  ⟨Nat.le_refl _, fun b hb => by obtain rfl := List.mem_singleton.1 hb; exact ⟨by simp [LD.none], hr⟩⟩
theorem Ctl.top_mem {c : Ctl} (hz : c.bs ≠ []) : c.top ∈ c.bs := by
  unfold Ctl.top
  rcases List.eq_nil_or_concat c.bs with e | ⟨bs, b, e⟩
  · exact absurd e hz
  · rw [e]; simp
theorem Fit.top {n : Nat} {c : Ctl} (h : Fit n c) : c.top.p.length ≤ 20 ∧ c.top.r.length ≤ 20 := by
  by_cases hz : c.bs = []
  · unfold Ctl.top; rw [hz]; simp
  · exact h.ls _ (Ctl.top_mem hz)
section
variable {n : Nat} {c : Ctl} (h : Fit n c)
include h
theorem Fit.mono : Fit (n + 1) c := ⟨by have := h.T; omega, by have := h.P; omega, by have := h.bs; omega, h.ls, h.ok⟩
theorem Fit.broke (e : Int) : Fit (n + 1) { c with broken := e } := ⟨h.mono.T, h.mono.P, h.mono.bs, h.ls, h.ok⟩
theorem Fit.begin_ {s : Stk} {b : PB} {bs : List PB} (hT : s.T.length ≤ c.s.T.length) (hP : s.P.length ≤ c.s.P.length) (hbs : bs.length ≤ c.bs.length) (hls : ∀ x ∈ bs, x ∈ c.bs) (hok : s.Ok) (hb : b.p.length ≤ 20 ∧ b.r.length ≤ 20) :
    Fit (n + 1) (({ c with s := s, bs := bs } : Ctl).begin_ b) := by
  refine ⟨?_, ?_, ?_, fun x hx => ?_, hok.opened.push _⟩
  · show (s.opened.push b.p).T.length ≤ _
    rw [Stk.push_len, (Stk.opened_len s).1]; have := h.T; omega
  · show s.opened.P.length ≤ _
    rw [(Stk.opened_len s).2]; have := h.P; omega
  · show (bs ++ [b]).length ≤ _
    have := h.bs; simp; omega
  · rcases List.mem_append.1 hx with hx | hx
    · exact h.ls x (hls x hx)
    · obtain rfl := List.mem_singleton.1 hx; exact hb
theorem Fit.enter (op : Int) {p r : List Int} (hp : p.length ≤ 20) (hr : r.length ≤ 20) : Fit (n + 1) (c.enter op p r).1 := by
  have h2 : ∀ c' : Ctl, c'.s.T.length ≤ c.s.T.length → c'.s.P.length ≤ c.s.P.length → c'.bs = c.bs → c'.s.Ok → Fit (n + 1) (c'.enter2 op p r).1 := fun c' hT hP hb hok => by
    unfold Ctl.enter2
    have hw := Stk.want_le c'.s p
    have hf : Fit n c' := ⟨Nat.le_trans hT h.T, Nat.le_trans hP h.P, by rw [hb]; exact h.bs, by rw [hb]; exact h.ls, hok⟩
    split
    · exact hf.begin_ (c := c') (bs := c'.bs) hw.1 (by rw [hw.2]; exact Nat.le_refl _) (Nat.le_refl _) (fun _ hx => hx) (hok.want p) ⟨hp, hr⟩
    · exact hf.broke _
  unfold Ctl.enter
  split
  · exact h.mono
  split
  · exact h.mono
  split
  · exact h.mono
  split
  · split
    · have hw := Stk.want_le c.s [1]
      exact h2 _ hw.1 (by show (c.s.want [1]).1.P.length ≤ _; rw [hw.2]; exact Nat.le_refl _) rfl (h.ok.want _)
    · exact h.broke _
  · exact h2 c (Nat.le_refl _) (Nat.le_refl _) rfl h.ok
theorem Fit.els : Fit (n + 1) c.els.1 := by
  unfold Ctl.els
  split
  · exact h.mono
  split
  · exact h.mono
  split
  · exact h.mono
  split
  · have hs := Stk.shut_le c.s c.top.r
    exact h.begin_ hs.1 hs.2 (by simp) (fun x hx => List.dropLast_subset _ hx) (h.ok.shut _) h.top
  · exact h.broke _
theorem Fit.leave : Fit (n + 1) c.leave.1 := by
  unfold Ctl.leave
  have hs := Stk.shut_le c.s c.top.r
  have hT := h.T
  have hP := h.P
  have hB := h.bs
  have ht := h.top
  split
  · exact h.mono
  split
  · exact h.mono
  split
  · split
    · exact ⟨by show (c.s.shut c.top.r).1.T.length ≤ _; omega, by show (c.s.shut c.top.r).1.P.length ≤ _; omega, by show c.bs.dropLast.length ≤ _; simp; omega, fun x hx => h.ls x (List.dropLast_subset _ hx), h.ok.shut _⟩
    · exact ⟨by show ((c.s.shut c.top.r).1.push c.top.r).T.length ≤ _; rw [Stk.push_len]; omega, by show (c.s.shut c.top.r).1.P.length ≤ _; omega, by show c.bs.dropLast.length ≤ _; simp; omega, fun x hx => h.ls x (List.dropLast_subset _ hx), (h.ok.shut _).push _⟩
  · exact h.broke _
theorem Fit.push {l : List Int} (hl : l.length ≤ 20) : Fit (n + 1) { c with s := c.s.push l } :=
  ⟨by show (c.s.push l).T.length ≤ _; rw [Stk.push_len]; have := h.T; omega, by show c.s.P.length ≤ _; have := h.P; omega, h.mono.bs, h.ls, h.ok.push _⟩
theorem Fit.dead : Fit (n + 1) c.dead := by
  unfold Ctl.dead
  split
  · exact h.mono
  · have hs := Stk.loosen_le c.s
    exact ⟨by show c.s.loosen.T.length ≤ _; have := h.T; omega, by show c.s.loosen.P.length ≤ _; have := h.P; omega, h.mono.bs, h.ls, h.ok.loosen⟩
theorem Fit.act {x : AD} (hp : x.p.l.length ≤ 20) (hq : x.q.l.length ≤ 20) (hl : x.l.l.length ≤ 20) : Fit (n + 1) (c.act x) := by
  unfold Ctl.act
  split
  · exact h.enter _ hp hq
  split
  · exact h.els
  split
  · exact h.leave
  split
  · exact h.push hl
  split
  · exact h.mono
  · exact h.dead
end
section
variable {n : Nat} {d : RC} (h : FitR n d)
include h
theorem FitR.mono : FitR (n + 1) d := ⟨by have := h.fs; omega, h.ls⟩
theorem FitR.drop {fs : List FrD} (hfs : fs.length ≤ d.fs.length) (hls : ∀ f ∈ fs, f ∈ d.fs) (s : Stk) (res : LD) (b : Int) : FitR (n + 1) ⟨s, fs, res, b⟩ := ⟨by show fs.length ≤ _; have := h.fs; omega, fun f hf => h.ls f (hls f hf)⟩
theorem FitR.snoc {fs : List FrD} (hfs : fs.length ≤ d.fs.length) (hls : ∀ f ∈ fs, f ∈ d.fs) {f : FrD} (hf : f.p.l.length ≤ 20 ∧ f.r.l.length ≤ 20) (s : Stk) (res : LD) (b : Int) : FitR (n + 1) ⟨s, fs ++ [f], res, b⟩ := by
  refine ⟨by show (fs ++ [f]).length ≤ _; have := h.fs; simp; omega, fun g hg => ?_⟩
  rcases List.mem_append.1 hg with hg | hg
  · exact h.ls g (hls g hg)
  · obtain rfl := List.mem_singleton.1 hg; exact hf
theorem FitR.last {f : FrD} (hf : d.fs.getLast? = some f) : f.p.l.length ≤ 20 ∧ f.r.l.length ≤ 20 := h.ls f (List.mem_of_getLast? hf)
theorem FitR.act {x : AD} (hp : x.p.l.length ≤ 20) (hq : x.q.l.length ≤ 20) : FitR (n + 1) (d.act x) := by
  have hd : ∀ f ∈ d.fs.dropLast, f ∈ d.fs := fun f hf => List.dropLast_subset _ hf
  have hdl : d.fs.dropLast.length ≤ d.fs.length := by simp
  have h2 : ∀ d' : RC, d'.fs = d.fs → FitR (n + 1) (d'.enter2 x.op x.p x.q).1 := fun d' e => by
    unfold RC.enter2
    split
    · rw [e]; exact h.drop (Nat.le_refl _) (fun _ hf => hf) _ _ _
    · rw [e]; exact h.snoc (Nat.le_refl _) (fun _ hf => hf) ⟨hp, hq⟩ _ _ _
  unfold RC.act
  split
  · unfold RC.enter
    split
    · exact h.mono
    split
    · exact h.mono
    split
    · exact h.mono
    split
    · split
      · exact h.drop (Nat.le_refl _) (fun _ hf => hf) _ _ _
      · exact h2 _ rfl
    · exact h2 _ rfl
  split
  · unfold RC.els
    split
    · exact h.mono
    split
    · exact h.mono
    · rename_i f hf
      split
      · exact h.mono
      split
      · exact h.drop (Nat.le_refl _) (fun _ hf => hf) _ _ _
      · exact h.snoc hdl hd (f := { f with op := 5, live := f.was }) (show f.p.l.length ≤ 20 ∧ f.r.l.length ≤ 20 from h.last hf) _ _ _
  split
  · unfold RC.leave
    split
    · exact h.mono
    split
    · exact h.mono
    · split
      · exact h.drop (Nat.le_refl _) (fun _ hf => hf) _ _ _
      split
      · exact h.drop (Nat.le_refl _) (fun _ hf => hf) _ _ _
      · exact h.drop hdl hd _ _ _
  split
  · exact h.drop (Nat.le_refl _) (fun _ hf => hf) _ _ _
  split
  · exact h.mono
  · unfold RC.dead
    split
    · exact h.mono
    · rename_i f hf
      split
      · exact h.mono
      · exact h.snoc hdl hd (f := { f with live := false }) (show f.p.l.length ≤ 20 ∧ f.r.l.length ≤ 20 from h.last hf) _ _ _
end
end Go.Proofs.Ytkeefajfndmpeaa
