/-
  Linear scan, plain: what a scan keeps; no two that meet share a place; when something is spilled.
-/
import Derived.Test.YtigidchignlpmaaRPlain
namespace Go.Proofs.Ytigidchignlpmaa.Rg

theorem getD_set {α : Type} (l : List α) (i j : Nat) (v d : α) : (l.set i v).getD j d = if i = j ∧ i < l.length then v else l.getD j d := by
  rw [List.getD_eq_getElem?_getD, List.getD_eq_getElem?_getD, List.getElem?_set]
  by_cases h : i = j
  · subst h
    by_cases hl : i < l.length
    · simp [hl]
    · simp [hl]
  · simp [h]

/-- The place of y. -/
abbrev Sc.at_ (s : Sc) (y : Nat) : Bool × Nat := s.pl.getD y (false, 0)

theorem lastL_spec (E : Nat → Int) (x : Nat) (held : List (Option Nat)) : ((lastL E x held).2 = none ∧ (lastL E x held).1 = x) ∨ ∃ r, (lastL E x held).2 = some r ∧ held[r]? = some (some (lastL E x held).1) := by
  unfold lastL
  have key : ∀ (l : List (Option Nat × Nat)) (a : Nat × Option Nat), (∀ p ∈ l, held[p.2]? = some p.1) → ((a.2 = none ∧ a.1 = x) ∨ ∃ r, a.2 = some r ∧ held[r]? = some (some a.1)) →
      let b := l.foldl (fun a p => match p.1 with
        | none => a
        | some y => if later E a.1 y then (y, some p.2) else a) a
      (b.2 = none ∧ b.1 = x) ∨ ∃ r, b.2 = some r ∧ held[r]? = some (some b.1) := by
    intro l
    induction l with
    | nil => intro a _ h; exact h
    | cons p l ih =>
      intro a hl h
      simp only [List.foldl_cons]
      refine ih _ (fun q hq => hl q (by simp [hq])) ?_
      have hp := hl p (by simp)
      cases h1 : p.1 with
      | none => exact h
      | some y =>
        simp only []
        split
        · exact .inr ⟨p.2, rfl, by rw [hp, h1]⟩
        · exact h
  refine key _ _ (fun p hp => ?_) (.inl ⟨rfl, rfl⟩)
  have := List.mem_zipIdx_iff_getElem?.1 hp
  simpa using this

/-- What a scan keeps, but for what the registers say. -/
structure Inv0 (B E : Nat → Int) (s0 k n : Nat) (done : List Nat) (s : Sc) : Prop where
  hl : s.held.length = k
  pln : s.pl.length = n
  lt : ∀ y ∈ done, y < n
  hin : ∀ r y : Nat, s.held[r]? = some (some y) → y ∈ done ∧ s.at_ y = (false, r)
  reg : ∀ y ∈ done, (s.at_ y).1 = false → (s.at_ y).2 < k
  out : ∀ y, y ∈ s.out ↔ y ∈ done ∧ (s.at_ y).1 = true
  nd : s.out.Nodup
  rapart : ∀ y ∈ done, ∀ z ∈ done, y ≠ z → (s.at_ y).1 = false → (s.at_ z).1 = false → (s.at_ y).2 = (s.at_ z).2 → E y ≤ B z ∨ E z ≤ B y
  sapart : ∀ y ∈ s.out, ∀ z ∈ s.out, y ≠ z → (s.at_ y).2 = (s.at_ z).2 → laps B E y z = false
  srng : ∀ y ∈ s.out, s0 ≤ (s.at_ y).2 ∧ (s.at_ y).2 < s.slots
  sle : s0 ≤ s.slots ∧ s.slots ≤ s0 + s.out.length
  sat : s.slots = s0 ∨ ∃ y ∈ s.out, (s.at_ y).2 + 1 = s.slots
  undone : ∀ y, y ∉ done → s.at_ y = (false, 0)
/-- What a scan keeps. -/
structure Inv (B E : Nat → Int) (s0 k n : Nat) (done : List Nat) (s : Sc) : Prop where
  base : Inv0 B E s0 k n done s
  live : ∀ y ∈ done, (s.at_ y).1 = false → s.held[(s.at_ y).2]? = some (some y) ∨ ∃ x ∈ done, E y ≤ B x
/-- Behind back: x is next. -/
structure Mid (B E : Nat → Int) (s0 k n : Nat) (done : List Nat) (x : Nat) (s : Sc) : Prop where
  base : Inv0 B E s0 k n done s
  xn : x < n
  new : x ∉ done
  le : ∀ y ∈ done, B y ≤ B x
  pos : B x < E x
  now : ∀ y ∈ done, (s.at_ y).1 = false → s.held[(s.at_ y).2]? = some (some y) ∨ E y ≤ B x
  gt : ∀ r y : Nat, s.held[r]? = some (some y) → B x < E y

theorem laps_symm (B E : Nat → Int) (x y : Nat) : laps B E x y = laps B E y x := by unfold laps lapsB; rw [Bool.and_comm]

section
variable {B E : Nat → Int} {s0 k n x : Nat} {done : List Nat} {s : Sc}

theorem Inv.init : Inv B E s0 k n [] (Sc.init s0 k n) where
  base :=
    { hl := by simp [Sc.init]
      pln := by simp [Sc.init]
      lt := by simp
      hin := fun r y h => by
        simp only [Sc.init, List.getElem?_replicate] at h
        split at h <;> simp at h
      reg := by simp
      out := by simp [Sc.init]
      nd := by simp [Sc.init]
      rapart := by simp
      sapart := by simp [Sc.init]
      srng := by simp [Sc.init]
      sle := ⟨Nat.le_refl _, by simp [Sc.init]⟩
      sat := .inl rfl
      undone := fun y _ => by
        simp only [Sc.at_, Sc.init, List.getD_eq_getElem?_getD, List.getElem?_replicate]
        split <;> rfl }
  live := by simp

theorem back_get (r : Nat) : (s.back B E x).held[r]? = (s.held[r]?).map (back1 B E x) := by unfold Sc.back; simp
theorem back_some {r y : Nat} (h : (s.back B E x).held[r]? = some (some y)) : s.held[r]? = some (some y) ∧ B x < E y := by
  rw [back_get] at h
  cases h1 : s.held[r]? with
  | none => rw [h1] at h; simp at h
  | some o =>
    rw [h1] at h
    cases o with
    | none => simp [back1] at h
    | some z =>
      simp only [Option.map_some, back1] at h
      split at h
      · simp at h
      · simp only [Option.some.injEq] at h
        subst h
        exact ⟨rfl, by omega⟩

theorem Inv.back (h : Inv B E s0 k n done s) (hx : x < n) (hn : x ∉ done) (hle : ∀ y ∈ done, B y ≤ B x) (hp : B x < E x) : Mid B E s0 k n done x (s.back B E x) where
  base :=
    { hl := by unfold Sc.back; simp [h.base.hl]
      pln := h.base.pln
      lt := h.base.lt
      hin := fun r y hr => h.base.hin r y (back_some hr).1
      reg := h.base.reg
      out := h.base.out
      nd := h.base.nd
      rapart := h.base.rapart
      sapart := h.base.sapart
      srng := h.base.srng
      sle := h.base.sle
      sat := h.base.sat
      undone := h.base.undone }
  xn := hx
  new := hn
  le := hle
  pos := hp
  now := fun y hy h0 => by
    rcases h.live y hy h0 with h1 | ⟨x', hx', h1⟩
    · by_cases hE : E y ≤ B x
      · exact .inr hE
      · left
        rw [back_get]
        show (s.held[(s.at_ y).2]?).map (back1 B E x) = _
        rw [h1]
        simp [back1, hE]
    · exact .inr (by have := hle x' hx'; omega)
  gt := fun r y hr => (back_some hr).2

theorem have_at (r y : Nat) (hx : x < s.pl.length) : (s.have_ r x).at_ y = if x = y then (false, r) else s.at_ y := by
  unfold Sc.at_ Sc.have_
  rw [getD_set]
  by_cases h : x = y
  · rw [if_pos ⟨h, hx⟩, if_pos h]
  · rw [if_neg (fun a => h a.1), if_neg h]
theorem have_held (r q : Nat) (hr : r < s.held.length) : (s.have_ r x).held[q]? = if r = q then some (some x) else s.held[q]? := by
  unfold Sc.have_
  simp only [List.getElem?_set]
  by_cases h : r = q
  · subst h; simp [hr]
  · simp [h]

/-- x gets register r, in which there is none that overlaps it. -/
theorem Mid.take (h : Mid B E s0 k n done x s) {r : Nat} (hr : r < k) (hfree : ∀ y ∈ done, s.at_ y = (false, r) → E y ≤ B x) : Inv B E s0 k n (done ++ [x]) (s.have_ r x) := by
  have b := h.base
  have ha : ∀ y, (s.have_ r x).at_ y = if x = y then (false, r) else s.at_ y := fun y => have_at r y (by rw [b.pln]; exact h.xn)
  have hh : ∀ q, (s.have_ r x).held[q]? = if r = q then some (some x) else s.held[q]? := fun q => have_held r q (by rw [b.hl]; exact hr)
  have hne : ∀ y ∈ done, x ≠ y := fun y hy e => h.new (e ▸ hy)
  have had : ∀ y ∈ done, (s.have_ r x).at_ y = s.at_ y := fun y hy => by rw [ha, if_neg (hne y hy)]
  have hax : (s.have_ r x).at_ x = (false, r) := by rw [ha, if_pos rfl]
  have hout : (s.have_ r x).out = s.out := rfl
  have hsl : (s.have_ r x).slots = s.slots := rfl
  have hod : ∀ y ∈ s.out, y ∈ done := fun y hy => ((b.out y).1 hy).1
  refine ⟨⟨?_, ?_, ?_, ?_, ?_, ?_, b.nd, ?_, ?_, ?_, b.sle, ?_, ?_⟩, ?_⟩
  · show (s.held.set r (some x)).length = k; simp [b.hl]
  · show (s.pl.set x (false, r)).length = n; simp [b.pln]
  · intro y hy
    rcases List.mem_append.1 hy with hy | hy
    · exact b.lt y hy
    · obtain rfl := List.mem_singleton.1 hy; exact h.xn
  · intro q y hq
    rw [hh] at hq
    split at hq
    · rename_i e
      simp only [Option.some.injEq] at hq
      subst hq; subst e
      exact ⟨by simp, hax⟩
    · obtain ⟨h1, h2⟩ := b.hin q y hq
      exact ⟨by simp [h1], by rw [had y h1]; exact h2⟩
  · intro y hy h0
    rcases List.mem_append.1 hy with hy | hy
    · rw [had y hy] at h0 ⊢; exact b.reg y hy h0
    · obtain rfl := List.mem_singleton.1 hy; rw [hax]; exact hr
  · intro y
    rw [hout, b.out]
    constructor
    · rintro ⟨h1, h2⟩; exact ⟨by simp [h1], by rw [had y h1]; exact h2⟩
    · rintro ⟨h1, h2⟩
      rcases List.mem_append.1 h1 with h1 | h1
      · rw [had y h1] at h2; exact ⟨h1, h2⟩
      · obtain rfl := List.mem_singleton.1 h1; rw [hax] at h2; simp at h2
  · intro y hy z hz hyz hy0 hz0 he
    rcases List.mem_append.1 hy with hy1 | hy1 <;> rcases List.mem_append.1 hz with hz1 | hz1
    · rw [had y hy1] at hy0 he; rw [had z hz1] at hz0 he
      exact b.rapart y hy1 z hz1 hyz hy0 hz0 he
    · have e := List.mem_singleton.1 hz1
      rw [e] at he ⊢
      rw [had y hy1] at hy0 he; rw [hax] at he
      exact .inl (hfree y hy1 (Prod.ext hy0 he))
    · have e := List.mem_singleton.1 hy1
      rw [e] at he ⊢
      rw [had z hz1] at hz0 he; rw [hax] at he
      exact .inr (hfree z hz1 (Prod.ext hz0 he.symm))
    · exact absurd ((List.mem_singleton.1 hy1).trans (List.mem_singleton.1 hz1).symm) hyz
  · intro y hy z hz hyz he
    rw [had y (hod y hy), had z (hod z hz)] at he
    exact b.sapart y hy z hz hyz he
  · intro y hy
    rw [had y (hod y hy)]; exact b.srng y hy
  · rcases b.sat with e | ⟨y, hy, e⟩
    · exact .inl e
    · exact .inr ⟨y, hy, by rw [had y (hod y hy)]; exact e⟩
  · intro y hy
    have h1 : y ∉ done := fun hd => hy (by simp [hd])
    have h2 : x ≠ y := fun e => hy (by simp [e])
    rw [ha, if_neg h2]; exact b.undone y h1
  · intro y hy h0
    rcases List.mem_append.1 hy with hy | hy
    · rw [had y hy] at h0 ⊢
      rcases h.now y hy h0 with h1 | h1
      · left
        rw [hh]
        split
        · rename_i e
          exfalso
          have h2 := hfree y hy (Prod.ext h0 e.symm)
          have h3 := h.gt _ y h1
          omega
        · exact h1
      · exact .inr ⟨x, by simp, h1⟩
    · obtain rfl := List.mem_singleton.1 hy
      left
      rw [hax, hh, if_pos rfl]

theorem spill_at (y : Nat) (hx : x < s.pl.length) : (s.spill B E s0 x).at_ y = if x = y then (true, s.slot B E s0 x) else s.at_ y := by
  unfold Sc.at_ Sc.spill
  rw [getD_set]
  by_cases h : x = y
  · rw [if_pos ⟨h, hx⟩, if_pos h]
  · rw [if_neg (fun a => h a.1), if_neg h]

/-- z, which has no slot, gets one: what holds of the places then. 'done' or with x. -/
theorem spill_parts (b : Inv0 B E s0 k n done s) {z : Nat} (hz : z < n) (hzo : z ∉ s.out) :
    (s.spill B E s0 z).out.Nodup ∧ (∀ y ∈ (s.spill B E s0 z).out, ∀ u ∈ (s.spill B E s0 z).out, y ≠ u → ((s.spill B E s0 z).at_ y).2 = ((s.spill B E s0 z).at_ u).2 → laps B E y u = false) ∧
    (∀ y ∈ (s.spill B E s0 z).out, s0 ≤ ((s.spill B E s0 z).at_ y).2 ∧ ((s.spill B E s0 z).at_ y).2 < (s.spill B E s0 z).slots) ∧
    (s0 ≤ (s.spill B E s0 z).slots ∧ (s.spill B E s0 z).slots ≤ s0 + (s.spill B E s0 z).out.length) ∧
    ((s.spill B E s0 z).slots = s0 ∨ ∃ y ∈ (s.spill B E s0 z).out, ((s.spill B E s0 z).at_ y).2 + 1 = (s.spill B E s0 z).slots) := by
  obtain ⟨p1, p2, p3, _⟩ := s.slot_spec B E s0 z
  have ha : ∀ y, (s.spill B E s0 z).at_ y = if z = y then (true, s.slot B E s0 z) else s.at_ y := fun y => spill_at (x := z) y (by rw [b.pln]; exact hz)
  have hao : ∀ y ∈ s.out, (s.spill B E s0 z).at_ y = s.at_ y := fun y hy => by rw [ha, if_neg (by rintro rfl; exact hzo hy)]
  have haz : (s.spill B E s0 z).at_ z = (true, s.slot B E s0 z) := by rw [ha, if_pos rfl]
  have hout : (s.spill B E s0 z).out = s.out ++ [z] := rfl
  have hsl : (s.spill B E s0 z).slots = max s.slots (s.slot B E s0 z + 1) := rfl
  have hnl : ∀ y ∈ s.out, (s.at_ y).2 = s.slot B E s0 z → laps B E z y = false := fun y hy e => by
    unfold Sc.taken at p3
    rw [List.any_eq_false] at p3
    have := p3 y hy
    unfold Sc.takes at this
    rw [Bool.not_eq_true, decide_eq_true e, Bool.true_and] at this
    exact this
  refine ⟨?_, ?_, ?_, ?_, ?_⟩
  · rw [hout, List.nodup_append]
    exact ⟨b.nd, by simp, fun a ha' c hc => by obtain rfl := List.mem_singleton.1 hc; rintro rfl; exact hzo ha'⟩
  · rw [hout]
    intro y hy u hu hyu he
    rcases List.mem_append.1 hy with hy1 | hy1 <;> rcases List.mem_append.1 hu with hu1 | hu1
    · rw [hao y hy1, hao u hu1] at he; exact b.sapart y hy1 u hu1 hyu he
    · have e := List.mem_singleton.1 hu1
      rw [e] at he ⊢
      rw [hao y hy1, haz] at he
      rw [laps_symm]; exact hnl y hy1 he
    · have e := List.mem_singleton.1 hy1
      rw [e] at he ⊢
      rw [hao u hu1, haz] at he
      exact hnl u hu1 he.symm
    · exact absurd ((List.mem_singleton.1 hy1).trans (List.mem_singleton.1 hu1).symm) hyu
  · rw [hout, hsl]
    intro y hy
    rcases List.mem_append.1 hy with hy | hy
    · rw [hao y hy]; have := b.srng y hy; omega
    · obtain rfl := List.mem_singleton.1 hy
      rw [haz]; simp only []; omega
  · rw [hout, hsl]
    have := b.sle
    simp only [List.length_append, List.length_singleton]; omega
  · rw [hout, hsl]
    by_cases hm : s.slot B E s0 z + 1 ≤ s.slots
    · rw [Nat.max_eq_left hm]
      rcases b.sat with e | ⟨y, hy, e⟩
      · exact .inl e
      · exact .inr ⟨y, by simp [hy], by rw [hao y hy]; exact e⟩
    · rw [Nat.max_eq_right (by omega)]
      exact .inr ⟨z, by simp, by rw [haz]⟩

/-- One of the registers is spilled, ahead of x. -/
theorem Mid.spillHeld (h : Mid B E s0 k n done x s) {r z : Nat} (hz : s.held[r]? = some (some z)) :
    Mid B E s0 k n done x { s.spill B E s0 z with held := s.held.set r none } ∧ r < k ∧ ∀ y ∈ done, ({ s.spill B E s0 z with held := s.held.set r none } : Sc).at_ y = (false, r) → E y ≤ B x := by
  have b := h.base
  obtain ⟨hzd, hza⟩ := b.hin r z hz
  have hzo : z ∉ s.out := fun ho => by have := ((b.out z).1 ho).2; rw [hza] at this; simp at this
  have hzn := b.lt z hzd
  have hr : r < k := by
    rw [← b.hl]
    exact (List.getElem?_eq_some_iff.1 hz).1
  obtain ⟨s1, s2, s3, s4, s5⟩ := spill_parts b hzn hzo
  obtain ⟨t, ht⟩ : ∃ t : Sc, t = { s.spill B E s0 z with held := s.held.set r none } := ⟨_, rfl⟩
  have ha : ∀ y, t.at_ y = if z = y then (true, s.slot B E s0 z) else s.at_ y := fun y => by rw [ht]; exact spill_at (x := z) y (by rw [b.pln]; exact hzn)
  have hh : ∀ q, t.held[q]? = if r = q then some none else s.held[q]? := fun q => by
    rw [ht]
    simp only [List.getElem?_set]
    by_cases e : r = q
    · subst e; simp [b.hl, hr]
    · simp [e]
  rw [← ht]
  have hat : ∀ y, (s.spill B E s0 z).at_ y = t.at_ y := fun y => by rw [ht]
  have hot : (s.spill B E s0 z).out = t.out := by rw [ht]
  have hst : (s.spill B E s0 z).slots = t.slots := by rw [ht]
  have hto : t.out = s.out ++ [z] := by rw [← hot]; rfl
  rw [hot, hst] at s4
  rw [hot] at s1
  rw [hot] at s2
  rw [hot, hst] at s3
  rw [hst, hot] at s5
  simp only [hat] at s2 s3 s5
  have hne : ∀ y, (t.at_ y).1 = false → z ≠ y ∧ t.at_ y = s.at_ y := fun y h0 => by
    by_cases e : z = y
    · rw [ha, if_pos e] at h0; simp at h0
    · exact ⟨e, by rw [ha, if_neg e]⟩
  refine ⟨⟨⟨?_, ?_, b.lt, ?_, ?_, ?_, s1, ?_, s2, s3, s4, s5, ?_⟩, h.xn, h.new, h.le, h.pos, ?_, ?_⟩, hr, ?_⟩
  · rw [ht]; simp [b.hl]
  · rw [ht]; simp [Sc.spill, b.pln]
  · intro q y hq
    rw [hh] at hq
    split at hq
    · simp at hq
    · rename_i e
      obtain ⟨h1, h2⟩ := b.hin q y hq
      refine ⟨h1, ?_⟩
      rw [ha, if_neg]
      · exact h2
      · rintro rfl
        rw [hza] at h2
        injection h2 with _ h2
        exact e h2
  · intro y hy h0
    obtain ⟨_, e⟩ := hne y h0
    rw [e] at h0 ⊢; exact b.reg y hy h0
  · intro y
    rw [hto]
    constructor
    · intro hy
      rcases List.mem_append.1 hy with hy | hy
      · obtain ⟨h1, h2⟩ := (b.out y).1 hy
        refine ⟨h1, ?_⟩
        rw [ha]; split
        · rfl
        · exact h2
      · obtain rfl := List.mem_singleton.1 hy
        exact ⟨hzd, by rw [ha, if_pos rfl]⟩
    · rintro ⟨h1, h2⟩
      by_cases e : z = y
      · subst e; simp
      · rw [ha, if_neg e] at h2
        exact List.mem_append.2 (.inl ((b.out y).2 ⟨h1, h2⟩))
  · intro y hy u hu hyu hy0 hu0 he
    obtain ⟨_, e1⟩ := hne y hy0
    obtain ⟨_, e2⟩ := hne u hu0
    rw [e1] at hy0 he; rw [e2] at hu0 he
    exact b.rapart y hy u hu hyu hy0 hu0 he
  · intro y hy
    rw [ha, if_neg (by rintro rfl; exact hy hzd)]; exact b.undone y hy
  · intro y hy h0
    obtain ⟨e0, e⟩ := hne y h0
    rw [e] at h0 ⊢
    rcases h.now y hy h0 with h1 | h1
    · left
      rw [hh, if_neg]
      · exact h1
      · intro er
        rw [← er, hz] at h1
        simp only [Option.some.injEq] at h1
        exact e0 h1
    · exact .inr h1
  · intro q y hq
    rw [hh] at hq
    split at hq
    · simp at hq
    · exact h.gt q y hq
  · intro y hy hya
    obtain ⟨e0, e⟩ := hne y (by rw [hya])
    rw [e] at hya
    rcases h.now y hy (by rw [hya]) with h1 | h1
    · rw [hya] at h1
      simp only [] at h1
      rw [hz] at h1
      simp only [Option.some.injEq] at h1
      exact absurd h1 e0
    · exact h1

/-- x itself is spilled. -/
theorem Mid.spillSelf (h : Mid B E s0 k n done x s) : Inv B E s0 k n (done ++ [x]) (s.spill B E s0 x) := by
  have b := h.base
  have hxo : x ∉ s.out := fun ho => h.new ((b.out x).1 ho).1
  obtain ⟨s1, s2, s3, s4, s5⟩ := spill_parts b h.xn hxo
  obtain ⟨t, ht⟩ : ∃ t : Sc, t = s.spill B E s0 x := ⟨_, rfl⟩
  have ha : ∀ y, t.at_ y = if x = y then (true, s.slot B E s0 x) else s.at_ y := fun y => by rw [ht]; exact spill_at y (by rw [b.pln]; exact h.xn)
  have hth : t.held = s.held := by rw [ht]; rfl
  have hto : t.out = s.out ++ [x] := by rw [ht]; rfl
  rw [← ht] at s1 s2 s3 s4 s5 ⊢
  have had : ∀ y ∈ done, t.at_ y = s.at_ y := fun y hy => by rw [ha, if_neg (by rintro rfl; exact h.new hy)]
  have hax : t.at_ x = (true, s.slot B E s0 x) := by rw [ha, if_pos rfl]
  refine ⟨⟨by rw [hth]; exact b.hl, by rw [ht]; simp [Sc.spill, b.pln], ?_, ?_, ?_, ?_, s1, ?_, s2, s3, s4, s5, ?_⟩, ?_⟩
  · intro y hy
    rcases List.mem_append.1 hy with hy | hy
    · exact b.lt y hy
    · obtain rfl := List.mem_singleton.1 hy; exact h.xn
  · intro q y hq
    rw [hth] at hq
    obtain ⟨h1, h2⟩ := b.hin q y hq
    exact ⟨by simp [h1], by rw [had y h1]; exact h2⟩
  · intro y hy h0
    rcases List.mem_append.1 hy with hy | hy
    · rw [had y hy] at h0 ⊢; exact b.reg y hy h0
    · obtain rfl := List.mem_singleton.1 hy; rw [hax] at h0; simp at h0
  · intro y
    rw [hto]
    constructor
    · intro hy
      rcases List.mem_append.1 hy with hy | hy
      · obtain ⟨h1, h2⟩ := (b.out y).1 hy
        exact ⟨by simp [h1], by rw [had y h1]; exact h2⟩
      · obtain rfl := List.mem_singleton.1 hy
        exact ⟨by simp, by rw [hax]⟩
    · rintro ⟨h1, h2⟩
      rcases List.mem_append.1 h1 with h1 | h1
      · rw [had y h1] at h2
        exact List.mem_append.2 (.inl ((b.out y).2 ⟨h1, h2⟩))
      · exact List.mem_append.2 (.inr h1)
  · intro y hy z hz hyz hy0 hz0 he
    rcases List.mem_append.1 hy with hy | hy
    · rcases List.mem_append.1 hz with hz | hz
      · rw [had y hy] at hy0 he; rw [had z hz] at hz0 he
        exact b.rapart y hy z hz hyz hy0 hz0 he
      · obtain rfl := List.mem_singleton.1 hz; rw [hax] at hz0; simp at hz0
    · obtain rfl := List.mem_singleton.1 hy; rw [hax] at hy0; simp at hy0
  · intro y hy
    have h1 : y ∉ done := fun hd => hy (by simp [hd])
    have h2 : x ≠ y := fun e => hy (by simp [e])
    rw [ha, if_neg h2]; exact b.undone y h1
  · intro y hy h0
    rcases List.mem_append.1 hy with hy | hy
    · rw [had y hy] at h0 ⊢
      rw [hth]
      rcases h.now y hy h0 with h1 | h1
      · exact .inl h1
      · exact .inr ⟨x, by simp, h1⟩
    · obtain rfl := List.mem_singleton.1 hy; rw [hax] at h0; simp at h0

theorem idxOf_none {held : List (Option Nat)} (h : none ∈ held) : held[held.idxOf none]? = some none ∧ held.idxOf none < held.length := by
  have hl := List.idxOf_lt_length_of_mem h
  refine ⟨?_, hl⟩
  rw [List.getElem?_eq_getElem hl, List.getElem_idxOf]

theorem Mid.place (h : Mid B E s0 k n done x s) : Inv B E s0 k n (done ++ [x]) (s.place B E s0 x) := by
  unfold Sc.place
  split
  · rename_i hm
    obtain ⟨h1, h2⟩ := idxOf_none hm
    refine h.take (by rw [← h.base.hl]; exact h2) (fun y hy hya => ?_)
    rcases h.now y hy (by rw [hya]) with h3 | h3
    · rw [hya] at h3
      simp only [] at h3
      rw [h1] at h3
      simp at h3
    · exact h3
  · rcases lastL_spec E x s.held with ⟨h1, h2⟩ | ⟨r, h1, h2⟩
    · rw [h1]; exact h.spillSelf
    · rw [h1]
      obtain ⟨h3, h4, h5⟩ := h.spillHeld h2
      have := h3.take h4 h5
      simpa [Sc.have_, Sc.spill] using this
theorem Inv.step (h : Inv B E s0 k n done s) (hx : x < n) (hn : x ∉ done) (hle : ∀ y ∈ done, B y ≤ B x) (hp : B x < E x) : Inv B E s0 k n (done ++ [x]) (s.step B E s0 x) :=
  (h.back hx hn hle hp).place
end

theorem Inv.scan {B E : Nat → Int} {s0 k n : Nat} (hv : ∀ i, i < n → B i < E i) : ∀ (l done : List Nat) (s : Sc), Inv B E s0 k n done s → (done ++ l).Pairwise (Lt B) → (∀ y ∈ l, y < n) → Inv B E s0 k n (done ++ l) (l.foldl (Sc.step B E s0) s)
  | [], done, s, h, _, _ => by simpa using h
  | x :: l, done, s, h, hs, hl => by
    have hp := List.pairwise_append.1 hs
    have h1 : ∀ y ∈ done, Lt B y x := fun y hy => hp.2.2 y hy x (by simp)
    have := Inv.scan hv l (done ++ [x]) _ (h.step (hl x (by simp)) (fun hx => (h1 x hx).irrefl) (fun y hy => by have := h1 y hy; unfold Lt at this; omega) (hv x (hl x (by simp)))) (by simpa using hs) (fun y hy => hl y (by simp [hy]))
    simpa using this
theorem Inv.whole {B E : Nat → Int} {s0 k n : Nat} (hv : ∀ i, i < n → B i < E i) : Inv B E s0 k n (ord B n) (Rg.scan B E s0 k n (ord B n)) := by
  have h := ord_ok B n
  have := Inv.scan (s0 := s0) (k := k) hv (ord B n) [] _ Inv.init (by simpa using h.2) (fun y hy => by simpa using h.1.subset hy)
  simpa [Rg.scan] using this
end Go.Proofs.Ytigidchignlpmaa.Rg
