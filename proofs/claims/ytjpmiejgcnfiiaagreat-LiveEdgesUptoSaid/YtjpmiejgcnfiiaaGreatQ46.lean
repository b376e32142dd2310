import Derived.Test.YtjpmiejgcnfiiaaGreatQ32
import Derived.Test.YtjpmiejgcnfiiaaGreatQ44
set_option linter.unusedVariables false
set_option linter.unusedSimpArgs false
namespace Go.Proofs.YtjpmiejgcnfiiaaGreat
open Go

/-- Where each block begins, and one more; 0 where the order has not come to it. -/
noncomputable def plcL (x : SsD) : Nat → List Int
 | 0 => List.replicate x.blocks.l.length 0
 | k + 1 => match x.ord[k]? with
  | some b => (plcL x k).set b (x.atk k + 1)
  | none => plcL x k
theorem plcL_succ {x : SsD} {k b : Nat} (hb : x.ord[k]? = some b) : plcL x (k + 1) = (plcL x k).set b (x.atk k + 1) := by
 rw [plcL]; simp only [hb]
theorem plcL_len (x : SsD) : ∀ k, (plcL x k).length = x.blocks.l.length
 | 0 => by simp [plcL]
 | k + 1 => by
  rw [plcL]
  split
  ·rw [List.length_set, plcL_len x k]
  ·exact plcL_len x k
theorem plcL_get {x : SsD} {i b : Nat} (hb : x.ord[i]? = some b) : ∀ k, i < k → k ≤ x.ord.length → (plcL x k)[b]? = some (x.atk i + 1)
 | 0, h, _ => absurd h (by omega)
 | k + 1, h, hk => by
  obtain ⟨c, hc⟩ := get_some (l := x.ord) (k := k) (by omega)
  rw [plcL_succ hc]
  have hbl := x.ord_spec.2 b (List.mem_of_getElem? hb)
  by_cases e : i = k
  ·subst e
   rw [hb] at hc; cases hc
   rw [List.getElem?_set_self (by rw [plcL_len]; exact hbl)]
  ·have hcb : c ≠ b := by
    rintro rfl
    obtain ⟨li, ei⟩ := List.getElem?_eq_some_iff.1 hb
    obtain ⟨lk, ek⟩ := List.getElem?_eq_some_iff.1 hc
    have hp := List.pairwise_iff_getElem.1 x.ord_spec.1
    rcases Nat.lt_trichotomy i k with h' | h' | h'
    ·exact hp i k li lk h' (by rw [ei, ek])
    ·exact e h'
    ·exact hp k i lk li h' (by rw [ei, ek])
   rw [List.getElem?_set_ne hcb]
   exact plcL_get hb k (by omega) (by omega)
theorem plcL_at {x : SsD} {i b : Nat} (hb : x.ord[i]? = some b) : (plcL x x.ord.length)[b]? = some (x.atk i + 1) :=
 plcL_get hb _ (List.getElem?_eq_some_iff.1 hb).1 (Nat.le_refl _)
theorem atk_nonneg (x : SsD) : ∀ k, k ≤ x.ord.length → 0 ≤ x.atk k
 | 0, _ => by unfold SsD.atk; simp [Lv.endAt]
 | k + 1, hk => by
  obtain ⟨b, hb⟩ := get_some (l := x.ord) (k := k) (by omega)
  obtain ⟨y, hy⟩ := SsD.ord_get hb
  rw [SsD.atk_succ hb hy]
  have := atk_nonneg x k (by omega)
  omega
section
variable {x : SsD} {K : VK} {I : List Int}
/-- The row of what is needed at the beginning of a block. -/
noncomputable def inRow (x : SsD) (b : Nat) : List Int := ints (needL x b x.vals.l.length)
theorem inRow_get {b : Nat} (hb : b < x.blocks.l.length) : (LI x x.vals.l.length 0)[b]? = some (inRow x b) := by
 have := LI_get (x := x) (k := x.vals.l.length) (i := 0) hb
 rw [if_neg (by omega)] at this
 exact this
theorem inRow_mem {b : Nat} {v : Int} (h : v ∈ inRow x b) : ∃ u : Nat, v = (u : Int) ∧ needB x u b = true := by
 unfold inRow ints at h
 obtain ⟨u, hu, rfl⟩ := List.mem_map.1 h
 exact ⟨u, rfl, (List.mem_filter.1 hu).2⟩
theorem inRow_len (b : Nat) : (inRow x b).length ≤ x.vals.l.length := by
 unfold inRow
 rw [ints_len]
 exact needL_le x b _
theorem ValidD.inAt (h : ValidD x K I) {i b : Nat} (hb : x.ord[i]? = some b) : ∀ v ∈ inRow x b, livesP (liveR x x.vals.l.length) v (x.atk i) = true := fun v hv => by
 obtain ⟨u, rfl, hn⟩ := inRow_mem hv
 exact h.begin_ hb hn
theorem ValidD.inEnd (h : ValidD x K I) {i b t : Nat} {y : BkD} (hb : x.ord[i]? = some b) (hy : x.blocks.l[b]? = some y) (ht : t ∈ x.N.getD b []) : ∀ v ∈ inRow x t, livesP (liveR x x.vals.l.length) v (x.atk i + 2 * ((y.ins.l.length : Int) + 1) + 1) = true := fun v hv => by
 obtain ⟨u, rfl, hn⟩ := inRow_mem hv
 exact h.close hb hy ht hn
/-- Where an edge leads, the order comes. -/
theorem ValidD.edge (h : ValidD x K I) {i b : Nat} {y : BkD} (hb : x.ord[i]? = some b) (hy : x.blocks.l[b]? = some y) {v : Int} (hv : v ∈ y.nextI x.blocks.l.length) : ∃ (t j : Nat), v = (t : Int) ∧ t < x.blocks.l.length ∧ x.ord[j]? = some t ∧ t ∈ x.N.getD b [] ∧ j ≤ x.ord.length := by
 have h1 := SsD.nextI_mem hv
 obtain ⟨t, rfl⟩ : ∃ t : Nat, v = (t : Int) := ⟨v.toNat, by omega⟩
 have h2 : t ∈ x.N.getD b [] := by rw [SsD.N_get hy]; exact (nat_mem (fun u hu => (SsD.nextI_mem hu).1)).2 hv
 have h3 := h.v.closed (List.mem_of_getElem? hb) h2
 obtain ⟨j, hj⟩ := List.mem_iff_getElem?.1 h3
 exact ⟨t, j, rfl, by omega, hj, h2, Nat.le_of_lt (List.getElem?_eq_some_iff.1 hj).1⟩
end
end Go.Proofs.YtjpmiejgcnfiiaaGreat
