import Derived.Test.YtjpmiejgcnfiiaaGreatQ6
import Derived.Test.YtjpmiejgcnfiiaaGreatQ4
import Derived.Test.YtjpmiejgcnfiiaaGreatQ30
import Derived.Test.YtjpmiejgcnfiiaaGreatQ14
import Derived.Test.YtjpmiejgcnfiiaaGreatQ11
set_option linter.unusedVariables false
set_option linter.unusedSimpArgs false
namespace Go.Proofs.YtjpmiejgcnfiiaaGreat.Lv

def inR (p : Int) (r : Int × Int) : Prop := r.1 ≤ p ∧ p < r.2
/-- A row of ranges that ends at a. -/
structure RowsOk (acc : List (Int × Int)) (a : Int) : Prop where
 pos : ∀ r ∈ acc, r.1 < r.2 ∧ r.2 ≤ a
 apart : acc.Pairwise fun x y => x.2 < y.1
theorem RowsOk.nil (a : Int) : RowsOk [] a := ⟨by simp, .nil⟩
theorem RowsOk.later {acc : List (Int × Int)} {a a' : Int} (h : RowsOk acc a) (ha : a ≤ a') : RowsOk acc a' := ⟨fun r hr => by have := h.pos r hr; omega, h.apart⟩
theorem RowsOk.join {acc : List (Int × Int)} {a a' : Int} {x : Int × Int} (h : RowsOk acc a) (h1 : a ≤ x.1) (h2 : x.1 < x.2) (h3 : x.2 ≤ a') :
  RowsOk (joinR acc x) a' ∧ ∀ p, (∃ r ∈ joinR acc x, inR p r) ↔ (∃ r ∈ acc, inR p r) ∨ inR p x := by
 rcases List.eq_nil_or_concat acc with rfl | ⟨k, q, rfl⟩
 ·rw [joinR_nil]
  exact ⟨⟨fun r hr => by rw [List.mem_singleton.1 hr]; omega, by simp⟩, fun p => by simp⟩
 ·rw [List.concat_eq_append] at h ⊢
  have hq := h.pos q (by simp)
  have hap := h.apart
  rw [List.pairwise_append] at hap
  by_cases hj : x.1 ≤ q.2
  ·rw [joinR_in hj]
   have hxq : x.1 = q.2 := by omega
   have hmx : max q.2 x.2 = x.2 := by omega
   rw [hmx]
   refine ⟨⟨fun r hr => ?_, ?_⟩, fun p => ?_⟩
   ·rcases List.mem_append.1 hr with h4 | h4
    ·have := h.pos r (by simp [h4]); omega
    ·rw [List.mem_singleton.1 h4]; show q.1 < x.2 ∧ x.2 ≤ a'; omega
   ·rw [List.pairwise_append]
    exact ⟨hap.1, by simp, fun c hc d hd => by rw [List.mem_singleton.1 hd]; exact hap.2.2 c hc q (by simp)⟩
   ·constructor
    ·rintro ⟨r, hr, hp⟩
     rcases List.mem_append.1 hr with h4 | h4
     ·exact .inl ⟨r, by simp [h4], hp⟩
     ·rw [List.mem_singleton.1 h4] at hp
      unfold inR at hp ⊢
      simp only at hp
      by_cases h5 : p < q.2
      ·exact .inl ⟨q, by simp, hp.1, h5⟩
      ·exact .inr ⟨by omega, hp.2⟩
    ·rintro (⟨r, hr, hp⟩ | hp)
     ·rcases List.mem_append.1 hr with h4 | h4
      ·exact ⟨r, by simp [h4], hp⟩
      ·rw [List.mem_singleton.1 h4] at hp
       unfold inR at hp
       exact ⟨(q.1, x.2), by simp, hp.1, by show p < x.2; omega⟩
     ·unfold inR at hp
      exact ⟨(q.1, x.2), by simp, by show q.1 ≤ p; omega, hp.2⟩
  ·rw [joinR_out hj]
   refine ⟨⟨fun r hr => ?_, ?_⟩, fun p => ?_⟩
   ·rcases List.mem_append.1 hr with h4 | h4
    ·have := h.pos r h4; omega
    ·rw [List.mem_singleton.1 h4]; omega
   ·rw [List.pairwise_append]
    refine ⟨h.apart, by simp, fun c hc d hd => ?_⟩
    rw [List.mem_singleton.1 hd]
    rcases List.mem_append.1 hc with h4 | h4
    ·have := hap.2.2 c h4 q (by simp); omega
    ·rw [List.mem_singleton.1 h4]; omega
   ·constructor
    ·rintro ⟨r, hr, hp⟩
     rcases List.mem_append.1 hr with h4 | h4
     ·exact .inl ⟨r, h4, hp⟩
     ·rw [List.mem_singleton.1 h4] at hp; exact .inr hp
    ·rintro (⟨r, hr, hp⟩ | hp)
     ·exact ⟨r, List.mem_append_left _ hr, hp⟩
     ·exact ⟨x, by simp, hp⟩
/-- What each block gives lies within it. -/
def Within (F : List PBlk) (g : Nat → Int → Option (Int × Int)) (l : List Nat) : Prop := ∀ b ∈ l, ∀ a x, 0 ≤ a → g b a = some x → a ≤ x.1 ∧ x.1 < x.2 ∧ x.2 ≤ stepAt F a b
/-- The row of a value, block after block. -/
theorem rows_ok {F : List PBlk} {g : Nat → Int → Option (Int × Int)} : ∀ (l : List Nat) (a : Int) (acc : List (Int × Int)), 0 ≤ a → Within F g l → RowsOk acc a →
  RowsOk (rowsFrom F g l a acc) (l.foldl (stepAt F) a) ∧
  ∀ p, (∃ r ∈ rowsFrom F g l a acc, inR p r) ↔ (∃ r ∈ acc, inR p r) ∨ ∃ l1 b l2 x, l = l1 ++ b :: l2 ∧ g b (l1.foldl (stepAt F) a) = some x ∧ inR p x
 | [], a, acc, _, _, h => ⟨h, fun p => by
  constructor
  ·intro h1; exact .inl h1
  ·rintro (h1 | ⟨l1, b, l2, x, e, _⟩)
   ·exact h1
   ·cases l1 <;> cases e⟩
 | b :: l, a, acc, h0, hw, h => by
  have hs : a ≤ stepAt F a b := by unfold stepAt; omega
  have hw' : Within F g l := fun c hc => hw c (by simp [hc])
  have hcons : ∀ p, (∃ l1 c l2 x, b :: l = l1 ++ c :: l2 ∧ g c (l1.foldl (stepAt F) a) = some x ∧ inR p x) ↔ (∃ x, g b a = some x ∧ inR p x) ∨ ∃ l1 c l2 x, l = l1 ++ c :: l2 ∧ g c (l1.foldl (stepAt F) (stepAt F a b)) = some x ∧ inR p x := fun p => by
   constructor
   ·rintro ⟨l1, c, l2, x, e, hg, hp⟩
    cases l1 with
    | nil => cases e; exact .inl ⟨x, hg, hp⟩
    | cons d l1 => cases e; exact .inr ⟨l1, c, l2, x, rfl, hg, hp⟩
   ·rintro (⟨x, hg, hp⟩ | ⟨l1, c, l2, x, e, hg, hp⟩)
    ·exact ⟨[], b, l, x, rfl, hg, hp⟩
    ·exact ⟨b :: l1, c, l2, x, by rw [e]; rfl, hg, hp⟩
  unfold rowsFrom
  cases hg : g b a with
  | none =>
   obtain ⟨i1, i2⟩ := rows_ok l (stepAt F a b) acc (by omega) hw' (h.later hs)
   refine ⟨i1, fun p => ?_⟩
   rw [i2, hcons]
   simp [hg]
  | some x =>
   have hx := hw b (by simp) a x h0 hg
   obtain ⟨j1, j2⟩ := h.join hx.1 hx.2.1 hx.2.2
   obtain ⟨i1, i2⟩ := rows_ok l (stepAt F a b) (joinR acc x) (by omega) hw' j1
   refine ⟨i1, fun p => ?_⟩
   rw [i2, hcons, j2]
   simp [hg, or_assoc]
end Go.Proofs.YtjpmiejgcnfiiaaGreat.Lv
namespace Go.Proofs.YtjpmiejgcnfiiaaGreat.Lv

theorem lastU_ge {v : Nat} : ∀ (l : List PIns) (n k : Nat) (u0 : Option Nat), (∃ x, l[k]? = some x ∧ v ∈ x.args) → ∃ u, lastU v (l.zipIdx n) u0 = some u ∧ n + k ≤ u ∧ u < n + l.length
 | [], _, _, _, h => by obtain ⟨x, h, _⟩ := h; simp at h
 | p :: l, n, k, u0, h => by
  rw [List.zipIdx_cons]
  have e : lastU v ((p, n) :: l.zipIdx (n + 1)) u0 = lastU v (l.zipIdx (n + 1)) (if v ∈ p.args then some n else u0) := rfl
  rw [e]
  cases k with
  | succ k =>
   obtain ⟨u, h1, h2, h3⟩ := lastU_ge l (n + 1) k (if v ∈ p.args then some n else u0) (by simpa using h)
   exact ⟨u, h1, by omega, by simp only [List.length_cons]; omega⟩
  | zero =>
   obtain ⟨x, hx, hv⟩ := h
   have e2 : p = x := by simpa using hx
   subst e2
   rw [if_pos hv]
   rcases lastU_spec (v := v) (l.zipIdx (n + 1)) (some n) with ⟨h1, _⟩ | ⟨q, hq, h1, _⟩
   ·exact ⟨n, h1, by omega, by simp only [List.length_cons]; omega⟩
   ·obtain ⟨a, i⟩ := q
    have := List.mem_zipIdx hq
    exact ⟨i, h1, by omega, by simp only [List.length_cons]; omega⟩
theorem used_lt {b : PBlk} {v u : Nat} (h : usedI b v = some u) : u ≤ b.ins.length := by
 unfold usedI at h
 split at h
 ·cases h; exact Nat.le_refl _
 ·rcases lastU_spec (v := v) b.ins.zipIdx none with ⟨h1, _⟩ | ⟨q, hq, h1, _⟩
  ·rw [h1] at h; cases h
  ·rw [h1] at h
   cases h
   have := (List.getElem?_eq_some_iff.1 (zip_get hq)).1
   omega
theorem used_ge {b : PBlk} {v k : Nat} {x : PIns} (hx : b.ins[k]? = some x) (hv : v ∈ x.args) : ∃ u, usedI b v = some u ∧ k ≤ u := by
 unfold usedI
 have hl := (List.getElem?_eq_some_iff.1 hx).1
 split
 ·exact ⟨_, rfl, by omega⟩
 ·obtain ⟨u, h1, h2, _⟩ := lastU_ge (v := v) b.ins 0 k none ⟨x, hx, hv⟩
  exact ⟨u, h1, by omega⟩
theorem once_ {b : PBlk} {v : Nat} (h : b.Fit v) {i j : Nat} {x y : PIns} (hi : b.ins[i]? = some x) (hj : b.ins[j]? = some y) (h1 : v ∈ x.outs) (h2 : v ∈ y.outs) : i = j := by
 have hp := List.pairwise_iff_getElem.1 h.once
 obtain ⟨li, ei⟩ := List.getElem?_eq_some_iff.1 hi
 obtain ⟨lj, ej⟩ := List.getElem?_eq_some_iff.1 hj
 rcases Nat.lt_trichotomy i j with hlt | e | hlt
 ·exact absurd (by rw [ej]; exact h2) (hp i j li lj hlt (by rw [ei]; exact h1))
 ·exact e
 ·exact absurd (by rw [ei]; exact h1) (hp j i lj li hlt (by rw [ej]; exact h2))
theorem before_ {b : PBlk} {v : Nat} (h : b.Fit v) {i j : Nat} {x y : PIns} (hi : b.ins[i]? = some x) (hj : b.ins[j]? = some y) (h1 : v ∈ x.args) (h2 : v ∈ y.outs) : j < i := by
 have hp := List.pairwise_iff_getElem.1 h.late
 obtain ⟨li, ei⟩ := List.getElem?_eq_some_iff.1 hi
 obtain ⟨lj, ej⟩ := List.getElem?_eq_some_iff.1 hj
 rcases Nat.lt_trichotomy i j with hlt | e | hlt
 ·exact absurd (by rw [ei]; exact h1) (hp i j li lj hlt (by rw [ej]; exact h2))
 ·subst e
  rw [hi] at hj; cases hj
  exact absurd h1 (h.own x (List.mem_of_getElem? hi) h2)
 ·exact hlt
/-- Where a value is made. -/
theorem made_cases (b : PBlk) (v : Nat) : (madeI b v = none ∧ ¬ b.makes v) ∨ (madeI b v = some 0 ∧ v ∈ b.params) ∨ ∃ (i : Nat) (x : PIns), madeI b v = some (i + 1) ∧ v ∉ b.params ∧ b.ins[i]? = some x ∧ v ∈ x.outs := by
 unfold madeI PBlk.makes
 by_cases hp : v ∈ b.params
 ·rw [if_pos hp]; exact .inr (.inl ⟨rfl, hp⟩)
 ·rw [if_neg hp]
  cases hm : findM v b.ins.zipIdx none with
  | none =>
   refine .inl ⟨rfl, ?_⟩
   rintro (h | ⟨x, hx, hv⟩)
   ·exact hp h
   ·obtain ⟨i, hi⟩ := zip_mem hx
    exact findM_none hm _ hi hv
  | some k =>
   obtain ⟨p, hq, rfl, hv⟩ := findM_some hm
   exact .inr (.inr ⟨p.2, p.1, rfl, hp, zip_get hq, hv⟩)
section
variable {b : PBlk} {v : Nat} {at_ : Int} {bg bh : Bool}
/-- The range: from where the value is made, or from the beginning, on. -/
theorem rangeR_none (h : rangeR b v at_ bg bh = none) : ¬ b.makes v ∧ bg = false := by
 unfold rangeR at h
 rcases made_cases b v with ⟨e, hm⟩ | ⟨e, _⟩ | ⟨i, x, e, _⟩
 ·rw [e] at h
  cases bg
  ·exact ⟨hm, rfl⟩
  ·cases h
 ·rw [e] at h; cases h
 ·rw [e] at h; cases h
theorem rangeR_to {f t : Int} (h : rangeR b v at_ bg bh = some (f, t)) : t = if bh then closeV b at_ else match usedI b v with
   | some u => max (f + 1) (at_ + 2 * ((u : Int) + 1) + 1)
   | none => f + 1 := by
 unfold rangeR at h
 split at h
 ·cases h
 ·injection h with h
  injection h with h1 h2
  rw [← h2, ← h1]
  split <;> rfl
theorem rangeR_from {f t : Int} (h : rangeR b v at_ bg bh = some (f, t)) : (f = at_ ∧ (v ∈ b.params ∨ ¬ b.makes v)) ∨ ∃ (i : Nat) (x : PIns), f = at_ + 2 * ((i : Int) + 1) + 1 ∧ v ∉ b.params ∧ b.ins[i]? = some x ∧ v ∈ x.outs := by
 unfold rangeR at h
 rcases made_cases b v with ⟨e, hm⟩ | ⟨e, hp⟩ | ⟨i, x, e, h2⟩
 ·rw [e] at h
  cases bg
  ·cases h
  ·injection h with h
   injection h with h1 h2
   exact .inl ⟨h1.symm, .inr hm⟩
 ·rw [e] at h
  injection h with h
  injection h with h1 h2
  exact .inl ⟨h1.symm, .inl hp⟩
 ·rw [e] at h
  injection h with h
  injection h with h1 h3
  exact .inr ⟨i, x, h1.symm, h2⟩
theorem rangeR_in {f t : Int} (h : rangeR b v at_ bg bh = some (f, t)) : at_ ≤ f ∧ f < t ∧ t ≤ closeV b at_ ∧ f ≤ at_ + 2 * (b.ins.length : Int) + 1 := by
 have ht := rangeR_to h
 have hf : at_ ≤ f ∧ f ≤ at_ + 2 * (b.ins.length : Int) + 1 := by
  rcases rangeR_from h with ⟨e, _⟩ | ⟨i, x, e, _, hi, _⟩
  ·omega
  ·have := (List.getElem?_eq_some_iff.1 hi).1
   omega
 cases hu : usedI b v with
 | none =>
  rw [hu] at ht
  unfold closeV at *
  split at ht <;> (try dsimp only at ht) <;> omega
 | some u =>
  have := used_lt hu
  rw [hu] at ht
  unfold closeV at *
  split at ht <;> (try dsimp only at ht) <;> omega
/-- Something is held. -/
theorem rangeR_ex (h : b.makes v ∨ bg = true) : ∃ f t, rangeR b v at_ bg bh = some (f, t) := by
 cases hr : rangeR b v at_ bg bh with
 | none =>
  obtain ⟨h1, h2⟩ := rangeR_none hr
  rcases h with h | h
  ·exact absurd h h1
  ·rw [h2] at h; cases h
 | some x => exact ⟨x.1, x.2, rfl⟩
theorem holds_begin (hn : v ∈ b.params ∨ bg = true ∧ ¬ b.makes v) : ∃ x, rangeR b v at_ bg bh = some x ∧ inR at_ x := by
 obtain ⟨f, t, e⟩ := rangeR_ex (b := b) (v := v) (at_ := at_) (bg := bg) (bh := bh) (by
  rcases hn with h | h
  ·exact .inl (.inl h)
  ·exact .inr h.1)
 have h1 := rangeR_in e
 refine ⟨_, e, ?_⟩
 rcases rangeR_from e with ⟨h2, _⟩ | ⟨i, x, _, h3, h4, h5⟩
 ·exact ⟨by show f ≤ at_; omega, by show at_ < t; omega⟩
 ·rcases hn with h | h
  ·exact absurd h h3
  ·exact absurd (.inr ⟨x, List.mem_of_getElem? h4, h5⟩) h.2
theorem holds_out (hf : b.Fit v) {k : Nat} {x : PIns} (hx : b.ins[k]? = some x) (hv : v ∈ x.outs) (hp : v ∉ b.params) : ∃ r, rangeR b v at_ bg bh = some r ∧ inR (at_ + 2 * ((k : Int) + 1) + 1) r := by
 obtain ⟨f, t, e⟩ := rangeR_ex (b := b) (v := v) (at_ := at_) (bg := bg) (bh := bh) (.inl (.inr ⟨x, List.mem_of_getElem? hx, hv⟩))
 have h1 := rangeR_in e
 refine ⟨_, e, ?_⟩
 rcases rangeR_from e with ⟨_, h2 | h2⟩ | ⟨i, y, h2, _, h4, h5⟩
 ·exact absurd h2 hp
 ·exact absurd (.inr ⟨x, List.mem_of_getElem? hx, hv⟩) h2
 ·have := once_ hf hx h4 hv h5
  subst this
  exact ⟨by show f ≤ _; omega, by show _ < t; omega⟩
theorem holds_arg (hf : b.Fit v) {k : Nat} {x : PIns} (hx : b.ins[k]? = some x) (hv : v ∈ x.args) (hm : b.makes v ∨ bg = true) : ∃ r, rangeR b v at_ bg bh = some r ∧ inR (at_ + 2 * ((k : Int) + 1)) r := by
 obtain ⟨f, t, e⟩ := rangeR_ex (b := b) (v := v) (at_ := at_) (bg := bg) (bh := bh) hm
 have h1 := rangeR_in e
 have h2 := rangeR_to e
 obtain ⟨u, hu, hku⟩ := used_ge hx hv
 have hul := used_lt hu
 have hkl := (List.getElem?_eq_some_iff.1 hx).1
 rw [hu] at h2
 dsimp only at h2
 have h3 : at_ + 2 * ((k : Int) + 1) < t := by
  unfold closeV at h2
  split at h2 <;> omega
 refine ⟨_, e, ?_, h3⟩
 show f ≤ _
 rcases rangeR_from e with ⟨h4, _⟩ | ⟨i, y, h4, _, h5, h6⟩
 ·omega
 ·have := before_ hf hx h5 hv h6
  omega
theorem holds_end (hv : v ∈ b.ends) (hm : b.makes v ∨ bg = true) : ∃ r, rangeR b v at_ bg bh = some r ∧ inR (at_ + 2 * ((b.ins.length : Int) + 1)) r := by
 obtain ⟨f, t, e⟩ := rangeR_ex (b := b) (v := v) (at_ := at_) (bg := bg) (bh := bh) hm
 have h1 := rangeR_in e
 have h2 := rangeR_to e
 have hu : usedI b v = some b.ins.length := by unfold usedI; rw [if_pos hv]
 rw [hu] at h2
 dsimp only at h2
 refine ⟨_, e, by show f ≤ _; omega, ?_⟩
 show _ < t
 unfold closeV at h2
 split at h2 <;> omega
theorem holds_close (hm : b.makes v ∨ bg = true) : ∃ r, rangeR b v at_ bg true = some r ∧ inR (at_ + 2 * ((b.ins.length : Int) + 1) + 1) r := by
 obtain ⟨f, t, e⟩ := rangeR_ex (b := b) (v := v) (at_ := at_) (bg := bg) (bh := true) hm
 have h1 := rangeR_in e
 have h2 := rangeR_to e
 rw [if_pos rfl] at h2
 unfold closeV at h2
 exact ⟨_, e, by show f ≤ _; omega, by show _ < t; omega⟩
end
/-- The nodes that are left: what they lead to is left, too. -/
theorem IsPost.closed {N : List (List Nat)} {d : List Nat} (h : IsPost N d) (hN : ∀ l ∈ N, ∀ t ∈ l, t < N.length) {a b : Nat} (ha : a ∈ d) (hb : b ∈ N.getD a []) : b ∈ d := by
 have hlt : b < N.length := by
  rcases Nat.lt_or_ge a N.length with hal | hal
  ·refine hN _ ?_ b hb
   rw [List.getD_eq_getElem?_getD, List.getElem?_eq_getElem hal]
   exact List.getElem_mem hal
  ·rw [List.getD_eq_getElem?_getD, List.getElem?_eq_none (by omega)] at hb
   simp at hb
 obtain ⟨m', d1, h1, rfl⟩ := h
 obtain ⟨e, he, _, s1, k1⟩ := h1.marks
 have he' : d1 = e := by simpa using he
 subst he'
 obtain ⟨c1, c2⟩ := h1.closed
 have hb' : m'.getD b true = true := by
  rcases List.mem_append.1 ha with h2 | h2
  ·obtain ⟨h3, h4⟩ := (s1 a).1 h2
   exact c2 a h3 h4 b hb
  ·have : a = 0 := by simpa using h2
   subst this
   exact c1 b hb
 by_cases h0 : b = 0
 ·subst h0; simp
 ·refine List.mem_append_left _ ((s1 b).2 ⟨?_, hb'⟩)
  rw [List.getD_eq_getElem?_getD, List.getElem?_set_ne (fun e => h0 e.symm), List.getElem?_replicate, if_pos hlt]
  rfl
end Go.Proofs.YtjpmiejgcnfiiaaGreat.Lv
namespace Go.Proofs.YtjpmiejgcnfiiaaGreat.Dom

section
variable {E : Nat → Nat → Prop}
theorem Dm.self {x : Nat} (h : R E x) : Dm E x x := ⟨h, fun k => k.ne rfl⟩
theorem Dm.zero {x : Nat} (h : R E x) : Dm E 0 x := ⟨h, fun k => by
 induction k with
 | root h0 => exact h0 rfl
 | step k _ _ ih => exact ih k.reach⟩
theorem RA.pass {d e x : Nat} (h : RA E d x) : RA E e x ∨ RA E d e := by
 induction h with
 | root h0 =>
  by_cases e0 : 0 = e
  ·subst e0; exact .inr (.root h0)
  ·exact .inl (.root e0)
 | @step a b k he hn ih =>
  by_cases e0 : b = e
  ·subst e0; exact .inr (.step k he hn)
  ·rcases ih with ih | ih
   ·exact .inl (.step ih he e0)
   ·exact .inr ih
theorem Dm.trans {d e x : Nat} (h : Dm E d e) (k : Dm E e x) : Dm E d x := ⟨k.1, fun hr => by
 rcases hr.pass (e := e) with h1 | h1
 ·exact k.2 h1
 ·exact h.2 h1⟩
theorem R.or_ra {e y : Nat} (h : R E y) : RA E e y ∨ R E e := by
 induction h with
 | root =>
  by_cases e0 : 0 = e
  ·subst e0; exact .inr .root
  ·exact .inl (.root e0)
 | @step a b k he ih =>
  by_cases e0 : b = e
  ·subst e0; exact .inr (.step k he)
  ·rcases ih with ih | ih
   ·exact .inl (.step ih he e0)
   ·exact .inr ih
theorem Dm.reach {d x : Nat} (h : Dm E d x) : R E d := (h.1.or_ra (e := d)).resolve_left h.2
theorem Dm.antisymm {d x : Nat} (h : Dm E d x) (k : Dm E x d) : d = x := by
 apply Classical.byContradiction
 intro hne
 have key : ∀ y, R E y → (RA E d y ∧ RA E x y) ∨ RA E x d ∨ RA E d x := by
  intro y hy
  induction hy with
  | root =>
   by_cases e0 : 0 = d
   ·subst e0; exact .inr (.inl (.root hne))
   ·by_cases e1 : 0 = x
    ·subst e1; exact .inr (.inr (.root e0))
    ·exact .inl ⟨.root e0, .root e1⟩
  | @step a b _ he ih =>
   rcases ih with ⟨i1, i2⟩ | ih
   ·by_cases e0 : b = d
    ·subst e0; exact .inr (.inl (.step i2 he hne))
    ·by_cases e1 : b = x
     ·subst e1; exact .inr (.inr (.step i1 he e0))
     ·exact .inl ⟨.step i1 he e0, .step i2 he e1⟩
   ·exact .inr ih
 rcases key x h.1 with ⟨_, h1⟩ | h1 | h1
 ·exact h1.ne rfl
 ·exact k.2 h1
 ·exact h.2 h1
theorem Dm.total {d e x : Nat} (h : Dm E d x) (k : Dm E e x) : Dm E d e ∨ Dm E e d := by
 apply Classical.byContradiction
 intro hn
 have h1 : RA E d e := Classical.byContradiction fun h1 => hn (.inl ⟨k.reach, h1⟩)
 have h2 : RA E e d := Classical.byContradiction fun h2 => hn (.inr ⟨h.reach, h2⟩)
 have key : ∀ y, R E y → RA E e y ∨ RA E d y := by
  intro y hy
  induction hy with
  | root =>
   by_cases e0 : 0 = d
   ·by_cases e1 : 0 = e
    ·exact absurd (e1.symm.trans e0) h1.ne
    ·exact .inl (.root e1)
   ·exact .inr (.root e0)
  | @step a b _ he ih =>
   rcases ih with ih | ih
   ·by_cases e1 : b = e
    ·subst e1; exact .inr h1
    ·exact .inl (.step ih he e1)
   ·by_cases e0 : b = d
    ·subst e0; exact .inl h2
    ·exact .inr (.step ih he e0)
 rcases key x h.1 with h3 | h3
 ·exact k.2 h3
 ·exact h.2 h3

open Classical in
/-- How many nodes below n dominate x. -/
noncomputable def cnt (E : Nat → Nat → Prop) (n x : Nat) : Nat := ((List.range n).filter fun d => decide (Dm E d x)).length
theorem filter_lt {p q : Nat → Bool} {y : Nat} : ∀ {l : List Nat}, (∀ d ∈ l, p d = true → q d = true) → y ∈ l → q y = true → p y = false → (l.filter p).length < (l.filter q).length
 | [], _, h, _, _ => by simp at h
 | a :: l, h, hy, h1, h2 => by
  have hle : (l.filter p).length ≤ (l.filter q).length := by
   have h' : ∀ d ∈ l, p d = true → q d = true := fun d hd => h d (by simp [hd])
   clear h hy h1 h2
   induction l with
   | nil => simp
   | cons b l ih =>
    have ih' := ih (fun d hd => h' d (by simp [hd]))
    by_cases hb : p b = true
    ·rw [List.filter_cons_of_pos hb, List.filter_cons_of_pos (h' b (by simp) hb)]
     simp only [List.length_cons]; omega
    ·rw [List.filter_cons_of_neg hb]
     by_cases hq : q b = true
     ·rw [List.filter_cons_of_pos hq]; simp only [List.length_cons]; omega
     ·rw [List.filter_cons_of_neg hq]; exact ih'
  rcases List.mem_cons.1 hy with e | hy
  ·subst e
   rw [List.filter_cons_of_neg (by rw [h2]; exact Bool.false_ne_true), List.filter_cons_of_pos h1]
   simp only [List.length_cons]; omega
  ·have ih := filter_lt (l := l) (fun d hd => h d (by simp [hd])) hy h1 h2
   by_cases hb : p a = true
   ·rw [List.filter_cons_of_pos hb, List.filter_cons_of_pos (h a (by simp) hb)]
    simp only [List.length_cons]; omega
   ·rw [List.filter_cons_of_neg hb]
    by_cases hq : q a = true
    ·rw [List.filter_cons_of_pos hq]; simp only [List.length_cons]; omega
    ·rw [List.filter_cons_of_neg hq]; exact ih
theorem cnt_lt {n d x : Nat} (hx : x < n) (h : Dm E d x) (hne : d ≠ x) : cnt E n d < cnt E n x := by
 unfold cnt
 refine filter_lt (y := x) (fun e _ he => ?_) (by simpa using hx) (by simpa using Dm.self h.1) ?_
 ·simp only [decide_eq_true_eq] at he ⊢
  exact he.trans h
 ·simp only [decide_eq_false_iff_not]
  exact fun k => hne (h.antisymm k)
theorem cnt_le (n x : Nat) : cnt E n x ≤ n := by
 unfold cnt
 exact Nat.le_trans (List.length_filter_le _ _) (by simp)
theorem cnt_pos {n x : Nat} (hx : x < n) (h : R E x) : 0 < cnt E n x := by
 unfold cnt
 refine List.length_pos_iff.2 fun e => ?_
 have := List.filter_eq_nil_iff.1 e x (by simpa using hx)
 exact this (by simpa using Dm.self h)
theorem greatest {P : Nat → Prop} {B : Nat} (hB : ∀ k, P k → k ≤ B) : ∀ (f k : Nat), P k → B ≤ k + f → ∃ m, P m ∧ ∀ j, P j → j ≤ m
 | 0, k, hk, hf => ⟨k, hk, fun j hj => by have := hB j hj; omega⟩
 | f + 1, k, hk, hf => by
  by_cases h : ∃ j, P j ∧ k < j
  ·obtain ⟨j, hj, hlt⟩ := h
   exact greatest hB f j hj (by omega)
  ·exact ⟨k, hk, fun j hj => Classical.byContradiction fun hn => h ⟨j, hj, by omega⟩⟩
/-- The nearest of the others that dominate. -/
theorem near {n x : Nat} (hlt : ∀ y, R E y → y < n) (hx : R E x) (h0 : x ≠ 0) : ∃ f, Dm E f x ∧ f ≠ x ∧ ∀ d, Dm E d x → d ≠ x → Dm E d f := by
 obtain ⟨m, ⟨f, h1, h2, rfl⟩, h3⟩ := greatest (P := fun k => ∃ d, Dm E d x ∧ d ≠ x ∧ cnt E n d = k) (B := n) (fun k ⟨d, _, _, e⟩ => by rw [← e]; exact cnt_le n d) n _ ⟨0, Dm.zero hx, fun e => h0 e.symm, rfl⟩ (by omega)
 refine ⟨f, h1, h2, fun d hd hne => ?_⟩
 rcases hd.total h1 with h4 | h4
 ·exact h4
 ·by_cases e : f = d
  ·subst e; exact h4
  ·have k1 := cnt_lt (hlt d hd.reach) h4 e
   have k2 := h3 _ ⟨d, hd, hne, rfl⟩
   omega
end
open Classical in
theorem Idom.ex (N : Gr) : ∃ I, Idom N I := by
 by_cases hN : N = []
 ·subst hN; exact ⟨[], Idom.nil⟩
 have hlt : ∀ y, R (Ed N) y → y < N.length := fun y hy => hy.lt hN
 have hnear : ∀ x, ∃ f, R (Ed N) x → x ≠ 0 → Dm (Ed N) f x ∧ f ≠ x ∧ ∀ d, Dm (Ed N) d x → d ≠ x → Dm (Ed N) d f := fun x => by
  by_cases h : R (Ed N) x ∧ x ≠ 0
  ·obtain ⟨f, hf⟩ := near hlt h.1 h.2
   exact ⟨f, fun _ _ => hf⟩
  ·exact ⟨0, fun h1 h2 => absurd ⟨h1, h2⟩ h⟩
 obtain ⟨f, hf⟩ := Classical.axiomOfChoice hnear
 have hget : ∀ (x : Nat) (z : Int), x < N.length → ((List.range N.length).map fun x => if R (Ed N) x ∧ x ≠ 0 then (f x : Int) else -1).getD x z = if R (Ed N) x ∧ x ≠ 0 then (f x : Int) else -1 := fun x z hx => by
  rw [List.getD_eq_getElem?_getD, List.getElem?_map, List.getElem?_range hx]; rfl
 refine ⟨(List.range N.length).map fun x => if R (Ed N) x ∧ x ≠ 0 then (f x : Int) else -1, ⟨by simp, fun _ => ?_, fun x hx hr => ?_, fun _ => ⟨f, fun x => N.length - cnt (Ed N) N.length x, fun x hx h0 => ?_, fun x hx => ⟨hlt x hx, ?_⟩, fun x hx d => ⟨fun ha => ?_, ?_⟩⟩⟩⟩
 ·rw [hget 0 _ (hlt 0 .root), if_neg (fun h => h.2 rfl)]
 ·rw [hget x _ hx, if_neg (fun h => hr h.1)]
 ·obtain ⟨k1, k2, _⟩ := hf x hx h0
  have k3 := cnt_lt (hlt x hx) k1 k2
  have k4 := cnt_le (E := Ed N) N.length x
  refine ⟨by rw [hget x _ (hlt x hx), if_pos ⟨hx, h0⟩], k1.reach, ?_⟩
  show N.length - cnt (Ed N) N.length x < N.length - cnt (Ed N) N.length (f x)
  omega
 ·have := cnt_pos (hlt x hx) hx
  have := hlt x hx
  show N.length - cnt (Ed N) N.length x < N.length
  omega
 ·induction ha with
  | refl x => exact Dm.self hx
  | @up x d h0 _ ih =>
   obtain ⟨k1, _, _⟩ := hf x hx h0
   exact (ih k1.reach).trans k1
 ·have key : ∀ (k x : Nat), cnt (Ed N) N.length x ≤ k → R (Ed N) x → ∀ d, Dm (Ed N) d x → Anc f x d := by
   intro k
   induction k with
   | zero => intro x h1 h2; have := cnt_pos (hlt x h2) h2; omega
   | succ k ih =>
    intro x h1 h2 d hd
    by_cases e : d = x
    ·subst e; exact .refl _
    ·by_cases h0 : x = 0
     ·subst h0
      exact absurd (RA.root (fun e' => e e'.symm)) hd.2
     ·obtain ⟨k1, k2, k3⟩ := hf x h2 h0
      have k4 := cnt_lt (hlt x h2) k1 k2
      exact .up h0 (ih (f x) (by omega) k1.reach d (k3 d hd e))
  exact key _ x (Nat.le_refl _) hx d
end Go.Proofs.YtjpmiejgcnfiiaaGreat.Dom
namespace Go.Proofs.YtjpmiejgcnfiiaaGreat
open Go

/-- The graph of the blocks. -/
def SsD.G (x : SsD) : Dom.Gr := x.blocks.l.map (·.nextI x.blocks.l.length)
theorem SsD.G_len (x : SsD) : x.G.length = x.blocks.l.length := by simp [SsD.G]
theorem SsD.G_get {x : SsD} {b : Nat} {y : BkD} (hy : x.blocks.l[b]? = some y) : x.G.getD b [] = y.nextI x.blocks.l.length := by
 unfold SsD.G
 rw [List.getD_eq_getElem?_getD, List.getElem?_map, hy]
 rfl
structure ValidD (x : SsD) (K : VK) (I : List Int) : Prop where
 v : Valid x K
 idom : Dom.Idom x.G I
 over : K.over = Dom.overF I
theorem SsD.ed_iff (x : SsD) (a b : Nat) : Dom.Ed x.G a b ↔ b ∈ x.N.getD a [] := by
 unfold Dom.Ed
 rw [SsD.G_len]
 constructor
 ·rintro ⟨ha, hb, h⟩
  obtain ⟨y, hy⟩ := get_some ha
  rw [SsD.G_get hy] at h
  rw [SsD.N_get hy]
  exact (nat_mem (fun u hu => (SsD.nextI_mem hu).1)).2 h
 ·intro h
  have ha : a < x.blocks.l.length := by
   rcases Nat.lt_or_ge a x.N.length with h1 | h1
   ·rw [SsD.N_len] at h1; exact h1
   ·rw [List.getD_eq_getElem?_getD, List.getElem?_eq_none (by omega)] at h
    simp at h
  obtain ⟨y, hy⟩ := get_some ha
  rw [SsD.N_get hy] at h
  have h2 := (nat_mem (fun u hu => (SsD.nextI_mem hu).1)).1 h
  refine ⟨ha, ?_, by rw [SsD.G_get hy]; exact h2⟩
  have := SsD.nextI_mem h2
  omega
theorem BkD.makes_iff {y : BkD} {nv : Nat} (hin : y.In nv) (n v : Nat) : (y.p n).makes v ↔ (v : Int) ∈ y.outsI := by
 unfold Lv.PBlk.makes BkD.outsI BkD.p
 rw [List.mem_append, List.mem_flatMap]
 constructor
 ·rintro (h | ⟨p, hp, h⟩)
  ·exact .inl ((nat_mem (fun u hu => (hin.params u hu).1)).1 h)
  ·obtain ⟨i, hi, rfl⟩ := List.mem_map.1 hp
   exact .inr ⟨i, hi, (nat_mem (fun u hu => (hin.outs i hi u hu).1)).1 h⟩
 ·rintro (h | ⟨i, hi, h⟩)
  ·exact .inl ((nat_mem (fun u hu => (hin.params u hu).1)).2 h)
  ·exact .inr ⟨i.p, List.mem_map_of_mem hi, (nat_mem (fun u hu => (hin.outs i hi u hu).1)).2 h⟩
theorem BkD.uses_iff {y : BkD} {nv : Nat} (hin : y.In nv) (n v : Nat) : (y.p n).uses v ↔ (v : Int) ∈ y.endsI ∨ ∃ i ∈ y.ins.l, (v : Int) ∈ i.args.l := by
 unfold Lv.PBlk.uses BkD.p
 constructor
 ·rintro (h | ⟨p, hp, h⟩)
  ·exact .inl ((nat_mem (fun u hu => (hin.ends u hu).1)).1 h)
  ·obtain ⟨i, hi, rfl⟩ := List.mem_map.1 hp
   exact .inr ⟨i, hi, (nat_mem (fun u hu => (hin.args i hi u hu).1)).1 h⟩
 ·rintro (h | ⟨i, hi, h⟩)
  ·exact .inl ((nat_mem (fun u hu => (hin.ends u hu).1)).2 h)
  ·exact .inr ⟨i.p, List.mem_map_of_mem hi, (nat_mem (fun u hu => (hin.args i hi u hu).1)).2 h⟩

section
variable {x : SsD} {K : VK} {I : List Int}
theorem Valid.post (h : Valid x K) : Lv.IsPost x.N x.ord.reverse := by
 have h0 := x.ordOk
 unfold OrdOk at h0
 rw [if_neg h.ne] at h0
 exact h0
theorem Valid.closed (h : Valid x K) {a b : Nat} (ha : a ∈ x.ord) (hb : b ∈ x.N.getD a []) : b ∈ x.ord := by
 have := h.post.closed (x.N_lt) (a := a) (b := b) (by simpa using ha) hb
 simpa using this
theorem Valid.pos (h : Valid x K) : 0 < x.N.length := by rw [SsD.N_len]; exact List.length_pos_iff.2 h.ne
theorem Valid.zero (h : Valid x K) : 0 ∈ x.ord := by have := (h.post.nodup h.pos).2.1; simpa using this
theorem Valid.ord_iff (h : Valid x K) (b : Nat) : b ∈ x.ord ↔ Dom.R (Dom.Ed x.G) b := by
 constructor
 ·intro hb
  obtain ⟨vs, hp, _⟩ := h.post.paths (x := b) (by simpa using hb)
  have key : ∀ a vs b, Lv.Pth x.N a vs b → Dom.R (Dom.Ed x.G) a → Dom.R (Dom.Ed x.G) b := by
   intro a vs b hp
   induction hp with
   | refl => exact id
   | step hc _ ih => exact fun ha => ih (.step ha ((x.ed_iff _ _).2 hc))
  exact key 0 vs b hp .root
 ·intro hr
  induction hr with
  | root => exact h.zero
  | step _ he ih => exact h.closed ih ((x.ed_iff _ _).1 he)
/-- What dominates a block comes ahead of it. -/
theorem Valid.dm_pos (h : Valid x K) {d b : Nat} (hb : b ∈ x.ord) (hd : Dom.Dm (Dom.Ed x.G) d b) (hne : d ≠ b) : ∃ l1 l2, x.ord = l1 ++ b :: l2 ∧ d ∈ l1 := by
 obtain ⟨vs, hp, ha⟩ := h.post.paths (x := b) (by simpa using hb)
 have key : ∀ a vs b, Lv.Pth x.N a vs b → d ∉ vs → b ≠ d → (Dom.RA (Dom.Ed x.G) d a ∨ a = 0) → Dom.RA (Dom.Ed x.G) d b := by
  intro a vs b hp
  induction hp with
  | refl =>
   intro _ h2 h3
   rcases h3 with h3 | h3
   ·exact h3
   ·subst h3; exact .root h2
  | @step c c' vs z hc hp' ih =>
   intro h1 h2 h3
   have hca : Dom.RA (Dom.Ed x.G) d c := by
    rcases h3 with h3 | h3
    ·exact h3
    ·subst h3; exact .root (fun e => h1 (by rw [← e]; simp))
   refine ih (fun hm => h1 (List.mem_cons_of_mem _ hm)) h2 (.inl ?_)
   by_cases e : c' = d
   ·exfalso
    cases hp' with
    | refl => exact h2 e
    | step _ _ => exact h1 (by rw [← e]; simp)
   ·exact .step hca ((x.ed_iff _ _).2 hc) e
 have hdv : d ∈ vs := by
  apply Classical.byContradiction
  intro hn
  exact hd.2 (key 0 vs b hp hn (fun e => hne e.symm) (.inr rfl))
 obtain ⟨e1, e2, e, hm⟩ := ha d hdv
 refine ⟨e2.reverse, e1.reverse, ?_, by simpa using hm⟩
 have := congrArg List.reverse e
 simpa using this
theorem G_ne (h : Valid x K) : x.G ≠ [] := by
 intro e
 have := x.G_len
 rw [e] at this
 have h2 := h.ne
 cases hl : x.blocks.l with
 | nil => exact h2 hl
 | cons _ _ => rw [hl] at this; simp at this
theorem thereB_of (h : Valid x K) {b : Nat} {y : BkD} (hb : b ∈ x.ord) (hy : x.blocks.l[b]? = some y) {v : Nat} (hv : (v : Int) ∈ y.outsI) : thereB x v = true :=
 thereB_iff.2 ⟨b, hb, by rw [SsD.F_get hy]; exact (BkD.makes_iff (h.blk b y hy).inn _ _).2 hv⟩
/-- A value that is used somewhere is made somewhere in the order. -/
theorem ValidD.used_there (h : ValidD x K I) {b : Nat} (hb : b ∈ x.ord) {here : List Int} {v : Int} (hs : K.standsB b here v = true) : ∃ u : Nat, v = (u : Int) ∧ u < x.vals.l.length ∧ thereB x u = true := by
 obtain ⟨u, d, z, e, hu, h1, hz, h2, h3⟩ := h.v.stands hb hs
 refine ⟨u, e, hu, ?_⟩
 rw [e] at h2
 rcases h3 with ⟨rfl, _⟩ | ⟨_, h4⟩
 ·exact thereB_of h.v hb hz h2
 ·rw [h.over, Dom.over_dm h.idom (G_ne h.v) ((h.v.ord_iff b).1 hb)] at h4
  obtain ⟨dn, e2, hdm⟩ := h4
  have e3 : d = dn := by omega
  subst e3
  exact thereB_of h.v ((h.v.ord_iff d).2 (Dom.Dm.reach hdm)) hz h2
theorem ValidD.need_there (h : ValidD x K I) {v b : Nat} (hn : Lv.Need x.F x.ord v b) : v < x.vals.l.length ∧ thereB x v = true := by
 induction hn with
 | @use b hb hm hu =>
  obtain ⟨y, hy⟩ := get_some (x.ord_spec.2 b hb)
  have hV := h.v.blk b y hy
  rw [SsD.F_get hy] at hu
  rcases (BkD.uses_iff hV.inn _ _).1 hu with h1 | ⟨i, hi, h1⟩
  ·obtain ⟨u, e, h2, h3⟩ := h.used_there hb (hV.ends _ h1)
   have : v = u := by omega
   subst this; exact ⟨h2, h3⟩
  ·obtain ⟨k, hk⟩ := List.mem_iff_getElem?.1 hi
   obtain ⟨u, e, h2, h3⟩ := h.used_there hb (hV.ins k i hk _ h1)
   have : v = u := by omega
   subst this; exact ⟨h2, h3⟩
 | flow _ _ _ _ ih => exact ih
end

/-- A value is live at a position, as a list of ranges says. -/
def livesP (L : List (Int × List Lv.Rng)) (v p : Int) : Bool := L.any fun e => decide (e.1 = v) && Lv.cov e.2 p
theorem cov_iff {l : List Lv.Rng} {p : Int} : Lv.cov l p = true ↔ ∃ r ∈ l, Lv.inR p r := by
 unfold Lv.cov Lv.hit Lv.inR
 simp
theorem livesP_row {x : SsD} {v : Nat} {p : Int} (hv : v < x.vals.l.length) (ht : thereB x v = true) (h : ∃ r ∈ rowR x v x.ord.length, Lv.inR p r) : livesP (liveR x x.vals.l.length) v p = true := by
 unfold livesP liveR
 rw [List.any_eq_true]
 refine ⟨((v : Int), rowR x v x.ord.length), List.mem_filterMap.2 ⟨v, by simpa using hv, by rw [if_pos ht]⟩, ?_⟩
 simp only [decide_true, Bool.true_and]
 exact cov_iff.2 h
section
variable {x : SsD} {K : VK} {I : List Int}
theorem rangeR_within (x : SsD) (v : Nat) : Lv.Within x.F (fun b a => Lv.rangeR (x.F.getD b default) v a (needB x v b) (outB x v b)) x.ord := by
 intro b _ a r _ hr
 obtain ⟨f, t⟩ := r
 obtain ⟨h1, h2, h3, _⟩ := Lv.rangeR_in hr
 exact ⟨h1, h2, h3⟩
theorem row_ok (x : SsD) (v : Nat) : Lv.RowsOk (rowR x v x.ord.length) (x.atk x.ord.length) := by
 unfold rowR SsD.atk
 rw [List.take_length]
 exact (Lv.rows_ok x.ord 0 [] (Int.le_refl _) (rangeR_within x v) (.nil 0)).1
theorem row_holds {v i b : Nat} (hb : x.ord[i]? = some b) {p : Int} (h : ∃ r, Lv.rangeR (x.F.getD b default) v (x.atk i) (needB x v b) (outB x v b) = some r ∧ Lv.inR p r) : ∃ r ∈ rowR x v x.ord.length, Lv.inR p r := by
 obtain ⟨r, h1, h2⟩ := h
 have hw := (Lv.rows_ok x.ord 0 [] (Int.le_refl _) (rangeR_within x v) (.nil 0)).2 p
 unfold rowR
 rw [List.take_length]
 refine hw.2 (.inr ⟨x.ord.take i, b, x.ord.drop (i + 1), r, ?_, h1, h2⟩)
 obtain ⟨hl, e⟩ := List.getElem?_eq_some_iff.1 hb
 conv => lhs; rw [← List.take_append_drop i x.ord, List.drop_eq_getElem_cons hl, e]
theorem row_live {v i b : Nat} (hb : x.ord[i]? = some b) {p : Int} (hv : v < x.vals.l.length) (ht : thereB x v = true) (h : ∃ r, Lv.rangeR (x.F.getD b default) v (x.atk i) (needB x v b) (outB x v b) = some r ∧ Lv.inR p r) : livesP (liveR x x.vals.l.length) v p = true :=
 livesP_row hv ht (row_holds hb h)
theorem made_or_need {v b : Nat} (hb : b ∈ x.ord) (hu : (x.F.getD b default).uses v) : (x.F.getD b default).makes v ∨ needB x v b = true := by
 by_cases hm : (x.F.getD b default).makes v
 ·exact .inl hm
 ·exact .inr (needB_iff.2 (.use hb hm hu))
/-- A block's parameters are live where it begins. -/
theorem ValidD.params (h : ValidD x K I) {i b : Nat} {y : BkD} (hb : x.ord[i]? = some b) (hy : x.blocks.l[b]? = some y) {v : Int} (hv : v ∈ y.params.l) : livesP (liveR x x.vals.l.length) v (x.atk i) = true := by
 have hin := (h.v.blk b y hy).inn
 obtain ⟨h1, h2⟩ := hin.params v hv
 obtain ⟨u, rfl⟩ : ∃ u : Nat, v = (u : Int) := ⟨v.toNat, by omega⟩
 refine row_live hb (by omega) (thereB_of h.v (List.mem_of_getElem? hb) hy (List.mem_append_left _ hv)) (Lv.holds_begin (.inl ?_))
 rw [SsD.F_get hy]
 exact (nat_mem (fun u hu => (hin.params u hu).1)).2 hv
theorem ins_p {y : BkD} {n k : Nat} {i : InD} (hi : y.ins.l[k]? = some i) : (y.p n).ins[k]? = some i.p := by
 show (y.ins.l.map InD.p)[k]? = _
 rw [List.getElem?_map, hi]; rfl
/-- What an instruction uses is live there. -/
theorem ValidD.args (h : ValidD x K I) {i b k : Nat} {y : BkD} {q : InD} (hb : x.ord[i]? = some b) (hy : x.blocks.l[b]? = some y) (hq : y.ins.l[k]? = some q) {v : Int} (hv : v ∈ q.args.l) : livesP (liveR x x.vals.l.length) v (x.atk i + 2 * ((k : Int) + 1)) = true := by
 have hbo := List.mem_of_getElem? hb
 have hV := h.v.blk b y hy
 have hf := h.v.fits.fit b hbo
 obtain ⟨u, rfl, h2, h3⟩ := h.used_there hbo (hV.ins k q hq v hv)
 have hu : u ∈ q.p.args := (nat_mem (fun u hu => (hV.inn.args q (List.mem_of_getElem? hq) u hu).1)).2 hv
 have hp := ins_p (n := x.blocks.l.length) hq
 rw [← SsD.F_get hy] at hp
 exact row_live hb h2 h3 (Lv.holds_arg (hf u) hp hu (made_or_need hbo (.inr ⟨_, List.mem_of_getElem? hp, hu⟩)))
/-- What an instruction makes is live directly behind it. -/
theorem ValidD.outs (h : ValidD x K I) {i b k : Nat} {y : BkD} {q : InD} (hb : x.ord[i]? = some b) (hy : x.blocks.l[b]? = some y) (hq : y.ins.l[k]? = some q) {v : Int} (hv : v ∈ q.outs.l) : livesP (liveR x x.vals.l.length) v (x.atk i + 2 * ((k : Int) + 1) + 1) = true := by
 have hbo := List.mem_of_getElem? hb
 have hV := h.v.blk b y hy
 obtain ⟨h1, h2⟩ := hV.inn.outs q (List.mem_of_getElem? hq) v hv
 obtain ⟨u, rfl⟩ : ∃ u : Nat, v = (u : Int) := ⟨v.toNat, by omega⟩
 have hu : u ∈ q.p.outs := (nat_mem (fun u hu => (hV.inn.outs q (List.mem_of_getElem? hq) u hu).1)).2 hv
 have hp := ins_p (n := x.blocks.l.length) hq
 rw [← SsD.F_get hy] at hp
 refine row_live hb (by omega) (thereB_of h.v hbo hy (List.mem_append_right _ (List.mem_flatMap.2 ⟨q, List.mem_of_getElem? hq, hv⟩))) (Lv.holds_out (h.v.fits.fit b hbo u) hp hu (fun hpar => ?_))
 exact h.v.fits.par b hbo u hpar _ (List.mem_of_getElem? hp) hu
/-- What the end uses is live there. -/
theorem ValidD.ends (h : ValidD x K I) {i b : Nat} {y : BkD} (hb : x.ord[i]? = some b) (hy : x.blocks.l[b]? = some y) {v : Int} (hv : v ∈ y.endsI) : livesP (liveR x x.vals.l.length) v (x.atk i + 2 * ((y.ins.l.length : Int) + 1)) = true := by
 have hbo := List.mem_of_getElem? hb
 have hV := h.v.blk b y hy
 obtain ⟨u, rfl, h2, h3⟩ := h.used_there hbo (hV.ends v hv)
 have hu : u ∈ (x.F.getD b default).ends := by rw [SsD.F_get hy]; exact (nat_mem (fun u hu => (hV.inn.ends u hu).1)).2 hv
 have := row_live hb h2 h3 (Lv.holds_end hu (made_or_need hbo (.inl hu)))
 rwa [SsD.F_get hy, BkD.p_ins] at this
/-- What is needed at the beginning of a block is live there. -/
theorem ValidD.begin_ (h : ValidD x K I) {i b v : Nat} (hb : x.ord[i]? = some b) (hv : needB x v b = true) : livesP (liveR x x.vals.l.length) v (x.atk i) = true := by
 have hn := needB_iff.1 hv
 obtain ⟨h2, h3⟩ := h.need_there hn
 exact row_live hb h2 h3 (Lv.holds_begin (.inr ⟨hv, ((Lv.Need.iff (List.mem_of_getElem? hb)).1 hn).1⟩))
/-- What a block that follows needs is live at the end. -/
theorem ValidD.close (h : ValidD x K I) {i b t v : Nat} {y : BkD} (hb : x.ord[i]? = some b) (hy : x.blocks.l[b]? = some y) (ht : t ∈ x.N.getD b []) (hv : needB x v t = true) : livesP (liveR x x.vals.l.length) v (x.atk i + 2 * ((y.ins.l.length : Int) + 1) + 1) = true := by
 have hbo := List.mem_of_getElem? hb
 have hn := needB_iff.1 hv
 obtain ⟨h2, h3⟩ := h.need_there hn
 have hnx : t ∈ (x.F.getD b default).next := by rw [SsD.F_next hy]; exact ht
 have ho : outB x v b = true := outB_iff.2 ⟨t, hnx, hn⟩
 have hm : (x.F.getD b default).makes v ∨ needB x v b = true := by
  by_cases hm : (x.F.getD b default).makes v
  ·exact .inl hm
  ·exact .inr (needB_iff.2 (.flow hbo hm hnx hn))
 have := Lv.holds_close (at_ := x.atk i) hm
 rw [← ho] at this
 have := row_live hb h2 h3 this
 rwa [SsD.F_get hy, BkD.p_ins] at this
theorem atk_mono (x : SsD) {i j : Nat} (hij : i < j) (hj : j ≤ x.ord.length) : x.atk i < x.atk j := by
 induction j with
 | zero => omega
 | succ j ih =>
  obtain ⟨b, hb⟩ := get_some (l := x.ord) (k := j) (by omega)
  obtain ⟨y, hy⟩ := SsD.ord_get hb
  rw [SsD.atk_succ hb hy]
  rcases Nat.lt_or_ge i j with h | h
  ·have := ih h (by omega); omega
  ·have : i = j := by omega
   subst this; omega
/-- A block comes behind the one that dominates it. -/
theorem ValidD.idom_pos (h : ValidD x K I) {j b : Nat} (hb : x.ord[j]? = some b) (hi : 0 ≤ I.getD b 0) : ∃ (i d : Nat), I.getD b 0 = (d : Int) ∧ x.ord[i]? = some d ∧ i < j := by
 have hbo := List.mem_of_getElem? hb
 have hR := (h.v.ord_iff b).1 hbo
 obtain ⟨f, rank, h1, h2, h3⟩ := h.idom.tree (G_ne h.v)
 have hne : b ≠ 0 := by
  rintro rfl
  rw [h.idom.root (G_ne h.v)] at hi
  omega
 obtain ⟨e, hRf, hrk⟩ := h1 b hR hne
 have hd : Dom.Dm (Dom.Ed x.G) (f b) b := (h3 b hR (f b)).1 (.up hne (.refl _))
 obtain ⟨l1, l2, e1, hm⟩ := h.v.dm_pos hbo hd (fun e2 => by rw [e2] at hrk; omega)
 obtain ⟨i, hi2, e2⟩ := List.getElem_of_mem hm
 have hj : j = l1.length := by
  have hnd := x.ord_spec.1
  rw [e1] at hnd hb
  have hjl := (List.getElem?_eq_some_iff.1 hb).1
  have hx : (l1 ++ b :: l2)[l1.length]? = some b := by simp
  have hp := List.pairwise_iff_getElem.1 hnd
  obtain ⟨lj, ej⟩ := List.getElem?_eq_some_iff.1 hb
  obtain ⟨ll, el⟩ := List.getElem?_eq_some_iff.1 hx
  rcases Nat.lt_trichotomy j l1.length with hlt | e3 | hlt
  ·exact absurd (ej.trans el.symm) (hp j l1.length lj ll hlt)
  ·exact e3
  ·exact absurd (el.trans ej.symm) (hp l1.length j ll lj hlt)
 refine ⟨i, f b, e, ?_, by omega⟩
 rw [e1, List.getElem?_append_left hi2, List.getElem?_eq_getElem hi2, e2]
end
/-- The values climb. -/
theorem liveR_climb (x : SsD) (n : Nat) : (liveR x n).Pairwise fun a b => a.1 < b.1 := by
 unfold liveR
 rw [List.pairwise_filterMap]
 refine List.Pairwise.imp ?_ (List.pairwise_lt_range (n := n))
 intro a b hab p hp q hq
 split at hp
 ·split at hq
  ·cases hp; cases hq
   show (a : Int) < b
   omega
  ·cases hq
 ·cases hp
theorem liveR_row {x : SsD} {n : Nat} {e : Int × List Lv.Rng} (h : e ∈ liveR x n) : ∃ v : Nat, e = ((v : Int), rowR x v x.ord.length) := by
 unfold liveR at h
 obtain ⟨v, _, hv⟩ := List.mem_filterMap.1 h
 split at hv
 ·exact ⟨v, (Option.some.inj hv).symm⟩
 ·cases hv
end Go.Proofs.YtjpmiejgcnfiiaaGreat
