/-
  The operand stack of types, as plain data. No program in sight.
-/
namespace Go.Proofs.Ytkeefajfndmpeaa

abbrev Part := Nat × Bool

/-- The types; the outer parts (outermost first); where the innermost part begins, whether it is polymorphic; whether there ever were too many types. -/
structure Stk where
  T : List Int
  B : List Part
  at_ : Nat
  loose : Bool
  over : Bool

namespace Stk

def P (s : Stk) : List Part := s.B ++ [(s.at_, s.loose)]
def fresh : Stk := ⟨[], [], 0, false, false⟩

structure Ok (s : Stk) : Prop where
  le : s.at_ ≤ s.T.length
  below : ∀ p ∈ s.B, p.1 ≤ s.at_
  chain : s.B.Pairwise fun p q => p.1 ≤ q.1
  first : (s.P.headD (0, false)).1 = 0

def push (s : Stk) (l : List Int) : Stk := { s with T := s.T ++ l, over := s.over || decide (256 < s.T.length + l.length) }
def cut (s : Stk) (n : Nat) : Stk := { s with T := s.T.take n }
def pop (s : Stk) : Stk × Int × Int :=
  if s.at_ < s.T.length then (s.cut (s.T.length - 1), s.T.getD (s.T.length - 1) 0, 0)
  else if s.loose then (s, 0, 0) else (s, 0, 13)

/-- One wanted type taken off; what is left, or the error. -/
def step (s : Stk) (x : Int) (n : Nat) : Except Int Nat :=
  if n = s.at_ then (if s.loose then .ok n else .error 13)
  else if s.T.getD (n - 1) 0 ≠ x ∧ s.T.getD (n - 1) 0 ≠ 0 ∧ x ≠ 0 then .error 12 else .ok (n - 1)
def steps (s : Stk) : List Int → Nat → Except Int Nat
  | [], n => .ok n
  | x :: r, n => match s.step x n with
    | .ok m => steps s r m
    | .error e => .error e
def left (s : Stk) (l : List Int) : Nat × Int := match s.steps l.reverse s.T.length with
  | .ok n => (n, 0)
  | .error e => (0, e)
def want (s : Stk) (l : List Int) : Stk × Int := if (s.left l).2 = 0 then (s.cut (s.left l).1, 0) else (s, (s.left l).2)
def opened (s : Stk) : Stk := { s with B := s.P, at_ := s.T.length, loose := false }
def outer (s : Stk) : Stk := match s.B.getLast? with
  | none => { s with at_ := 0, loose := false }
  | some p => { s with B := s.B.dropLast, at_ := p.1, loose := p.2 }
def shut (s : Stk) (l : List Int) : Stk × Int :=
  if (s.left l).2 = 0 then (if s.at_ < (s.left l).1 then (s, 14) else ((s.cut (s.left l).1).outer, 0)) else (s, (s.left l).2)
def loosen (s : Stk) : Stk := { s.cut s.at_ with loose := true }

theorem steps_snoc (s : Stk) (x : Int) : ∀ (r : List Int) (n : Nat), s.steps (r ++ [x]) n = match s.steps r n with
    | .ok m => s.step x m
    | .error e => .error e
  | [], n => by
    simp only [List.nil_append, steps]
    cases s.step x n <;> rfl
  | y :: r, n => by
    simp only [List.cons_append, steps]
    cases s.step y n with
    | ok m => exact steps_snoc s x r m
    | error e => rfl

theorem steps_pre {s : Stk} : ∀ {r t : List Int} {n : Nat} {e : Int}, s.steps r n = .error e → s.steps (r ++ t) n = .error e
  | [], t, n, e, h => by cases h
  | x :: r, t, n, e, h => by
    simp only [List.cons_append, steps] at h ⊢
    cases h1 : s.step x n with
    | ok m => rw [h1] at h; exact steps_pre h
    | error e' => rw [h1] at h; exact h
theorem step_le {s : Stk} {x : Int} {n m : Nat} (h : s.step x n = .ok m) (hn : s.at_ ≤ n) : s.at_ ≤ m ∧ m ≤ n := by
  unfold step at h
  split at h
  · split at h
    · cases h; exact ⟨hn, Nat.le_refl _⟩
    · cases h
  · split at h
    · cases h
    · cases h; omega
theorem steps_le {s : Stk} : ∀ {r : List Int} {n m : Nat}, s.steps r n = .ok m → s.at_ ≤ n → s.at_ ≤ m ∧ m ≤ n
  | [], n, m, h, hn => by cases h; exact ⟨hn, Nat.le_refl _⟩
  | x :: r, n, m, h, hn => by
    simp only [steps] at h
    cases h1 : s.step x n with
    | ok k =>
      rw [h1] at h
      have a := step_le h1 hn
      have b := steps_le h a.1
      exact ⟨b.1, Nat.le_trans b.2 a.2⟩
    | error e => rw [h1] at h; cases h
theorem step_err {s : Stk} {x e : Int} {n : Nat} (h : s.step x n = .error e) : e = 12 ∨ e = 13 := by
  unfold step at h
  split at h
  · split at h
    · cases h
    · cases h; exact .inr rfl
  · split at h
    · cases h; exact .inl rfl
    · cases h
theorem steps_err {s : Stk} : ∀ {r : List Int} {n : Nat} {e : Int}, s.steps r n = .error e → e = 12 ∨ e = 13
  | [], n, e, h => by cases h
  | x :: r, n, e, h => by
    simp only [steps] at h
    cases h1 : s.step x n with
    | ok k => rw [h1] at h; exact steps_err h
    | error e' => rw [h1] at h; cases h; exact step_err h1
theorem left_cases (s : Stk) (l : List Int) (h : s.Ok) : (∃ n, s.left l = (n, 0) ∧ s.at_ ≤ n ∧ n ≤ s.T.length ∧ s.steps l.reverse s.T.length = .ok n) ∨ (∃ e, s.left l = (0, e) ∧ (e = 12 ∨ e = 13) ∧ s.steps l.reverse s.T.length = .error e) := by
  unfold left
  cases h1 : s.steps l.reverse s.T.length with
  | ok n => have := steps_le h1 h.le; exact .inl ⟨n, rfl, this.1, this.2, rfl⟩
  | error e => exact .inr ⟨e, rfl, steps_err h1, rfl⟩

theorem P_len (s : Stk) : s.P.length = s.B.length + 1 := by simp [P]
theorem P_last (s : Stk) (h : s.B.length < s.P.length) : s.P[s.B.length] = (s.at_, s.loose) := by simp [P]
theorem cut_P (s : Stk) (n : Nat) : (s.cut n).P = s.P := rfl
theorem push_P (s : Stk) (l : List Int) : (s.push l).P = s.P := rfl

theorem Ok.fresh : Stk.fresh.Ok := ⟨Nat.le_refl _, by simp [Stk.fresh], by simp [Stk.fresh], rfl⟩
theorem Ok.push {s : Stk} (h : s.Ok) (l : List Int) : (s.push l).Ok := ⟨by have := h.le; simp [Stk.push]; omega, h.below, h.chain, h.first⟩
theorem Ok.cut {s : Stk} (h : s.Ok) {n : Nat} (hn : s.at_ ≤ n) : (s.cut n).Ok := ⟨by have := h.le; simp [Stk.cut]; omega, h.below, h.chain, h.first⟩
theorem Ok.opened {s : Stk} (h : s.Ok) : s.opened.Ok := by
  refine ⟨Nat.le_refl _, fun p hp => ?_, ?_, ?_⟩
  · show p.1 ≤ s.T.length
    rcases List.mem_append.1 hp with hp | hp
    · exact Nat.le_trans (h.below p hp) h.le
    · rw [List.mem_singleton.1 hp]; exact h.le
  · show List.Pairwise _ (s.B ++ [(s.at_, s.loose)])
    rw [List.pairwise_append]
    exact ⟨h.chain, by simp, fun a ha b hb => by rw [List.mem_singleton.1 hb]; exact h.below a ha⟩
  · show ((s.P ++ [_]).headD (0, false)).1 = 0
    have := h.first
    unfold P at this ⊢
    cases hB : s.B with
    | nil => rw [hB] at this; simpa using this
    | cons b r => rw [hB] at this; simpa using this
theorem Ok.loosen {s : Stk} (h : s.Ok) : s.loosen.Ok := by
  refine ⟨by have := h.le; simp [Stk.loosen, Stk.cut]; omega, h.below, h.chain, ?_⟩
  have := h.first
  unfold P at this ⊢
  show ((s.B ++ [(s.at_, true)]).headD (0, false)).1 = 0
  cases hB : s.B with
  | nil => rw [hB] at this; simpa using this
  | cons b r => rw [hB] at this; simpa using this

theorem outer_none {s : Stk} (h : s.B = []) : s.outer = { s with at_ := 0, loose := false } := by unfold outer; rw [h]; rfl
theorem outer_some {s : Stk} {r : List Part} {p : Part} (h : s.B = r ++ [p]) : s.outer = { s with B := r, at_ := p.1, loose := p.2 } := by unfold outer; rw [h]; simp
theorem outer_P {s : Stk} {r : List Part} {p : Part} (h : s.B = r ++ [p]) : s.outer.P = s.B := by rw [outer_some h, h]; rfl
theorem Ok.outer {s : Stk} (h : s.Ok) : s.outer.Ok := by
  rcases List.eq_nil_or_concat s.B with hB | ⟨r, p, hB⟩
  · rw [outer_none hB]
    exact ⟨Nat.zero_le _, by simp [hB], by simp [hB], by simp [P, hB]⟩
  · have hB : s.B = r ++ [p] := by simpa using hB
    rw [outer_some hB]
    have hc := h.chain
    rw [hB, List.pairwise_append] at hc
    refine ⟨?_, fun q hq => hc.2.2 q hq p (by simp), hc.1, ?_⟩
    · exact Nat.le_trans (h.below p (by rw [hB]; simp)) h.le
    · have := h.first
      unfold P at this ⊢
      show ((r ++ [p]).headD (0, false)).1 = 0
      rw [← hB]
      cases hB' : s.B with
      | nil => rw [hB'] at hB; simp at hB
      | cons b r => rw [hB'] at this; simpa using this

theorem Ok.pop {s : Stk} (h : s.Ok) : s.pop.1.Ok := by
  unfold Stk.pop
  split
  · exact h.cut (by omega)
  · split <;> exact h
theorem Ok.want {s : Stk} (h : s.Ok) (l : List Int) : (s.want l).1.Ok := by
  unfold Stk.want
  split
  · rename_i h0
    rcases left_cases s l h with ⟨n, h1, h2, _⟩ | ⟨e, h1, h2, _⟩
    · rw [h1]; exact h.cut h2
    · rw [h1] at h0; simp at h0; omega
  · exact h
theorem Ok.shut {s : Stk} (h : s.Ok) (l : List Int) : (s.shut l).1.Ok := by
  unfold Stk.shut
  split
  · rename_i h0
    split
    · exact h
    · rcases left_cases s l h with ⟨n, h1, h2, _⟩ | ⟨e, h1, h2, _⟩
      · rw [h1]; exact (h.cut h2).outer
      · rw [h1] at h0; simp at h0; omega
  · exact h

end Stk
end Go.Proofs.Ytkeefajfndmpeaa
