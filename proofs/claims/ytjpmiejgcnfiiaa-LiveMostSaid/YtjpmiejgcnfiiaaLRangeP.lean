/-
  The range of one value in one block, plain: the program's way and the reference's.
-/
import Derived.Test.YtjpmiejgcnfiiaaLNeedP
set_option linter.unusedVariables false
set_option linter.unusedSimpArgs false
namespace Go.Proofs.Ytjpmiejgcnfiiaa.Lv

/-- The program's arrays from and to, at one value. -/
def insV (v : Nat) (at_ : Int) (s : Int × Int) (p : PIns × Nat) : Int × Int :=
  let place := at_ + 2 * ((p.2 : Int) + 1)
  let s1 := if v ∈ p.1.args then (s.1, place + 1) else s
  if v ∈ p.1.outs then (place + 1, place + 2) else s1
def startV (b : PBlk) (v : Nat) (at_ : Int) (bg : Bool) : Int × Int := if v ∈ b.params then (at_, at_ + 1) else (if bg then at_ else -1, 0)
def closeV (b : PBlk) (at_ : Int) : Int := at_ + 2 * ((b.ins.length : Int) + 2)
def blkV (b : PBlk) (v : Nat) (at_ : Int) (bg bh : Bool) : Int × Int :=
  let s := b.ins.zipIdx.foldl (insV v at_) (startV b v at_ bg)
  let s := if v ∈ b.ends then (s.1, closeV b at_ - 1) else s
  if bh then (s.1, closeV b at_) else s
def rangeP (b : PBlk) (v : Nat) (at_ : Int) (bg bh : Bool) : Option (Int × Int) :=
  let s := blkV b v at_ bg bh
  if 0 ≤ s.1 ∧ s.1 < s.2 then some s else none

/-- Where v is made: by a parameter (0), by instruction i (i + 1), or not here. -/
def findM (v : Nat) (l : List (PIns × Nat)) (m : Option Nat) : Option Nat := match m with
  | some i => some i
  | none => match l.find? (fun p => decide (v ∈ p.1.outs)) with
    | some p => some (p.2 + 1)
    | none => none
def madeI (b : PBlk) (v : Nat) : Option Nat := findM v b.ins.zipIdx (if v ∈ b.params then some 0 else none)
/-- Where it is last used: by instruction u, or by the end (the number of instructions). -/
def lastU (v : Nat) (l : List (PIns × Nat)) (u : Option Nat) : Option Nat := l.foldl (fun u p => if v ∈ p.1.args then some p.2 else u) u
def usedI (b : PBlk) (v : Nat) : Option Nat := if v ∈ b.ends then some b.ins.length else lastU v b.ins.zipIdx none
def rangeR (b : PBlk) (v : Nat) (at_ : Int) (bg bh : Bool) : Option (Int × Int) :=
  match madeI b v, bg with
  | none, false => none
  | m, _ =>
    let from_ := match m with
      | some (i + 1) => at_ + 2 * ((i : Int) + 1) + 1
      | _ => at_
    let to := match usedI b v with
      | some u => max (from_ + 1) (at_ + 2 * ((u : Int) + 1) + 1)
      | none => from_ + 1
    some (from_, if bh then closeV b at_ else to)

/-- Where the fold stands: made at m (or not), last used at u. -/
def stV (at_ : Int) (bg : Bool) (m u : Option Nat) : Int × Int :=
  let f := match m with
    | some (i + 1) => at_ + 2 * ((i : Int) + 1) + 1
    | some 0 => at_
    | none => if bg then at_ else -1
  (f, match u with
    | some u => at_ + 2 * ((u : Int) + 1) + 1
    | none => match m with
      | some _ => f + 1
      | none => 0)
/-- No use ahead of its making, from here on. -/
structure Tail (v : Nat) (l : List PIns) (m : Option Nat) : Prop where
  once : l.Pairwise fun x y => v ∈ x.outs → v ∉ y.outs
  late : l.Pairwise fun x y => v ∈ y.outs → v ∉ x.args
  own : ∀ x ∈ l, v ∈ x.outs → v ∉ x.args
  made : m ≠ none → ∀ x ∈ l, v ∉ x.outs
theorem fold_eq {v : Nat} {at_ : Int} {bg : Bool} : ∀ (l : List (PIns × Nat)) (m u : Option Nat), Tail v (l.map (·.1)) m → (m = none → u ≠ none → ∀ x ∈ l.map (·.1), v ∉ x.outs) →
    l.foldl (insV v at_) (stV at_ bg m u) = stV at_ bg (findM v l m) (lastU v l u)
  | [], m, u, _, _ => by
    cases m <;> rfl
  | p :: l, m, u, h, hu => by
    have h1 := h.once
    have h2 := h.late
    rw [List.map_cons, List.pairwise_cons] at h1 h2
    have ht : ∀ m', (m' ≠ none → ∀ x ∈ l.map (·.1), v ∉ x.outs) → Tail v (l.map (·.1)) m' := fun m' hm => ⟨h1.2, h2.2, fun x hx => h.own x (by simp at hx ⊢; exact .inr hx), hm⟩
    rw [List.foldl_cons]
    by_cases ho : v ∈ p.1.outs
    · have hm : m = none := by
        cases m with
        | none => rfl
        | some i => exact absurd ho (h.made (by simp) p.1 (by simp))
      subst hm
      have hun : u = none := by
        cases u with
        | none => rfl
        | some i => exact absurd ho (hu rfl (by simp) p.1 (by simp))
      subst hun
      have ha := h.own p.1 (by simp) ho
      have hno : ∀ x ∈ l.map (·.1), v ∉ x.outs := fun x hx => h1.1 x hx ho
      have e1 : insV v at_ (stV at_ bg none none) p = stV at_ bg (some (p.2 + 1)) none := by
        unfold insV
        simp only [if_neg ha, if_pos ho]
        unfold stV
        simp only
        congr 1 <;> omega
      rw [e1, fold_eq l (some (p.2 + 1)) none (ht _ (fun _ => hno)) (fun e => by cases e)]
      unfold findM lastU
      rw [List.find?_cons_of_pos (by simpa using ho), List.foldl_cons, if_neg ha]
    · by_cases ha : v ∈ p.1.args
      · have hno : m = none → ∀ x ∈ l.map (·.1), v ∉ x.outs := fun _ x hx hxo => h2.1 x hx hxo ha
        have e1 : insV v at_ (stV at_ bg m u) p = stV at_ bg m (some p.2) := by
          unfold insV
          simp only [if_pos ha, if_neg ho]
          rfl
        rw [e1, fold_eq l m (some p.2) (ht m (fun hm x hx => h.made hm x (by simp at hx ⊢; exact .inr hx))) (fun e _ => hno e)]
        unfold lastU
        rw [List.foldl_cons, if_pos ha]
        congr 1
        unfold findM
        cases m with
        | some i => rfl
        | none => rw [List.find?_cons_of_neg (by simpa using ho)]
      · have e1 : insV v at_ (stV at_ bg m u) p = stV at_ bg m u := by
          unfold insV
          simp only [if_neg ha, if_neg ho]
        rw [e1, fold_eq l m u (ht m (fun hm x hx => h.made hm x (by simp at hx ⊢; exact .inr hx))) (fun e hu' x hx => hu e hu' x (by simp at hx ⊢; exact .inr hx))]
        unfold lastU
        rw [List.foldl_cons, if_neg ha]
        congr 1
        unfold findM
        cases m with
        | some i => rfl
        | none => rw [List.find?_cons_of_neg (by simpa using ho)]

theorem findM_none {v : Nat} {l : List (PIns × Nat)} (h : findM v l none = none) : ∀ p ∈ l, v ∉ p.1.outs := by
  unfold findM at h
  cases hf : l.find? (fun p => decide (v ∈ p.1.outs)) with
  | none =>
    intro p hp ho
    have := List.find?_eq_none.1 hf p hp
    simp [ho] at this
  | some p => rw [hf] at h; cases h
theorem findM_some {v : Nat} {l : List (PIns × Nat)} {k : Nat} (h : findM v l none = some k) : ∃ p ∈ l, k = p.2 + 1 ∧ v ∈ p.1.outs := by
  unfold findM at h
  cases hf : l.find? (fun p => decide (v ∈ p.1.outs)) with
  | none => rw [hf] at h; cases h
  | some p =>
    rw [hf] at h
    refine ⟨p, List.mem_of_find?_eq_some hf, (Option.some.inj h).symm, ?_⟩
    have := List.find?_some hf
    simpa using this
theorem lastU_spec {v : Nat} : ∀ (l : List (PIns × Nat)) (u0 : Option Nat), (lastU v l u0 = u0 ∧ ∀ p ∈ l, v ∉ p.1.args) ∨ ∃ p ∈ l, lastU v l u0 = some p.2 ∧ v ∈ p.1.args
  | [], u0 => .inl ⟨rfl, by simp⟩
  | p :: l, u0 => by
    have e : lastU v (p :: l) u0 = lastU v l (if v ∈ p.1.args then some p.2 else u0) := rfl
    rw [e]
    by_cases ha : v ∈ p.1.args
    · rw [if_pos ha]
      rcases lastU_spec l (some p.2) with ⟨h1, _⟩ | ⟨q, hq, h1, h2⟩
      · exact .inr ⟨p, by simp, h1, ha⟩
      · exact .inr ⟨q, by simp [hq], h1, h2⟩
    · rw [if_neg ha]
      rcases lastU_spec l u0 with ⟨h1, h2⟩ | ⟨q, hq, h1, h2⟩
      · refine .inl ⟨h1, fun q hq => ?_⟩
        rcases List.mem_cons.1 hq with rfl | hq
        · exact ha
        · exact h2 q hq
      · exact .inr ⟨q, by simp [hq], h1, h2⟩
theorem zip_get {b : PBlk} {p : PIns × Nat} (h : p ∈ b.ins.zipIdx) : b.ins[p.2]? = some p.1 := by
  have := List.mem_zipIdx_iff_getElem?.1 h
  simpa using this
theorem zip_mem {b : PBlk} {x : PIns} (h : x ∈ b.ins) : ∃ i, (x, i) ∈ b.ins.zipIdx := by
  obtain ⟨i, hi, e⟩ := List.getElem_of_mem h
  exact ⟨i, List.mem_zipIdx_iff_getElem?.2 (by simp [← e, List.getElem?_eq_getElem hi])⟩
theorem blkV_eq {b : PBlk} {v : Nat} (h : b.Fit v) (hp : v ∈ b.params → ∀ x ∈ b.ins, v ∉ x.outs) (at_ : Int) (bg bh : Bool) :
    blkV b v at_ bg bh = ((stV at_ bg (madeI b v) (usedI b v)).1, if bh then closeV b at_ else (stV at_ bg (madeI b v) (usedI b v)).2) := by
  have hz : b.ins.zipIdx.map (·.1) = b.ins := by simp
  have hs : startV b v at_ bg = stV at_ bg (if v ∈ b.params then some 0 else none) none := by
    unfold startV stV
    by_cases hv : v ∈ b.params
    · simp [hv]
    · simp [hv]
  have hf := fold_eq (v := v) (at_ := at_) (bg := bg) b.ins.zipIdx (if v ∈ b.params then some 0 else none) none (by
    rw [hz]
    refine ⟨h.once, h.late, h.own, fun hm => ?_⟩
    by_cases hv : v ∈ b.params
    · exact hp hv
    · rw [if_neg hv] at hm; exact absurd rfl hm) (fun _ hu => absurd rfl hu)
  unfold blkV
  rw [hs, hf]
  show (if bh then _ else _) = _
  have he : (if v ∈ b.ends then ((stV at_ bg (madeI b v) (lastU v b.ins.zipIdx none)).1, closeV b at_ - 1) else stV at_ bg (madeI b v) (lastU v b.ins.zipIdx none)) = stV at_ bg (madeI b v) (usedI b v) := by
    unfold usedI
    by_cases hv : v ∈ b.ends
    · rw [if_pos hv, if_pos hv]
      unfold stV closeV
      simp only
      congr 1
      omega
    · rw [if_neg hv, if_neg hv]
  show (if bh = true then ((if v ∈ b.ends then ((stV at_ bg (madeI b v) (lastU v b.ins.zipIdx none)).1, closeV b at_ - 1) else stV at_ bg (madeI b v) (lastU v b.ins.zipIdx none)).1, closeV b at_) else (if v ∈ b.ends then ((stV at_ bg (madeI b v) (lastU v b.ins.zipIdx none)).1, closeV b at_ - 1) else stV at_ bg (madeI b v) (lastU v b.ins.zipIdx none))) = _
  rw [he]
  cases bh <;> rfl
theorem used_iff {b : PBlk} {v : Nat} : usedI b v = none ↔ ¬ b.uses v := by
  unfold usedI PBlk.uses
  by_cases hv : v ∈ b.ends
  · simp [hv]
  · rw [if_neg hv]
    rcases lastU_spec (v := v) b.ins.zipIdx none with ⟨h1, h2⟩ | ⟨p, hp, h1, h2⟩
    · rw [h1]
      simp only [true_iff, not_or]
      refine ⟨hv, ?_⟩
      rintro ⟨x, hx, hxa⟩
      obtain ⟨i, hi⟩ := zip_mem hx
      exact h2 _ hi hxa
    · rw [h1]
      constructor
      · intro h; cases h
      · intro h; exact absurd (.inr ⟨p.1, List.mem_of_getElem? (zip_get hp), h2⟩) h
/-- The two ways are one. -/
theorem range_eq {b : PBlk} {v : Nat} (h : b.Fit v) (hp : v ∈ b.params → ∀ x ∈ b.ins, v ∉ x.outs) {at_ : Int} (hat : 0 ≤ at_) {bg bh : Bool} (hbg : bg = true ↔ ¬ b.makes v ∧ (b.uses v ∨ bh = true)) : rangeP b v at_ bg bh = rangeR b v at_ bg bh := by
  unfold rangeP
  rw [blkV_eq h hp]
  unfold rangeR
  cases hm : madeI b v with
  | none =>
    cases bg with
    | false => simp [stV]
    | true =>
      have hlive := (hbg.1 rfl).2
      cases hu : usedI b v with
      | none =>
        have hbh : bh = true := hlive.resolve_left (used_iff.1 hu)
        subst hbh
        simp [stV, closeV]
        omega
      | some u =>
        cases bh
        · simp [stV]; omega
        · simp [stV, closeV]; omega
  | some k =>
    have hk : k ≤ b.ins.length ∧ ∀ i, k = i + 1 → ∃ x, b.ins[i]? = some x ∧ v ∈ x.outs := by
      unfold madeI at hm
      by_cases hv : v ∈ b.params
      · rw [if_pos hv] at hm
        have : k = 0 := (Option.some.inj hm).symm
        subst this
        exact ⟨Nat.zero_le _, fun i hi => by omega⟩
      · rw [if_neg hv] at hm
        obtain ⟨p, hpm, rfl, ho⟩ := findM_some hm
        have hg := zip_get hpm
        have := (List.getElem?_eq_some_iff.1 hg).1
        exact ⟨by omega, fun i hi => ⟨p.1, by rw [show i = p.2 by omega]; exact hg, ho⟩⟩
    have hu : ∀ u, usedI b v = some u → k ≤ u := fun u hu => by
      cases k with
      | zero => exact Nat.zero_le _
      | succ i =>
        obtain ⟨x, hx, ho⟩ := hk.2 i rfl
        unfold usedI at hu
        by_cases hv : v ∈ b.ends
        · rw [if_pos hv] at hu
          have := Option.some.inj hu
          omega
        · rw [if_neg hv] at hu
          rcases lastU_spec (v := v) b.ins.zipIdx none with ⟨h1, _⟩ | ⟨p, hpm, h1, h2⟩
          · rw [h1] at hu; cases hu
          · rw [h1] at hu
            have hpu : p.2 = u := Option.some.inj hu
            have hg := zip_get hpm
            obtain ⟨l1, e1⟩ := List.getElem?_eq_some_iff.1 hx
            obtain ⟨l2, e2⟩ := List.getElem?_eq_some_iff.1 hg
            rcases Nat.lt_trichotomy p.2 i with hlt | heq | hgt
            · exfalso
              have := List.pairwise_iff_getElem.1 h.late p.2 i l2 l1 hlt
              rw [e1, e2] at this
              exact this ho h2
            · exfalso
              subst heq
              rw [e1] at e2
              exact h.own x (List.mem_of_getElem? hx) ho (by rw [e2]; exact h2)
            · omega
    have hk1 := hk.1
    cases k with
    | zero =>
      cases hus : usedI b v with
      | none => cases bg <;> cases bh <;> simp [stV, closeV] <;> omega
      | some u => cases bg <;> cases bh <;> simp [stV, closeV] <;> omega
    | succ i =>
      cases hus : usedI b v with
      | none => cases bg <;> cases bh <;> simp [stV, closeV] <;> omega
      | some u =>
        have := hu u hus
        cases bg <;> cases bh <;> simp [stV, closeV] <;> omega
end Go.Proofs.Ytjpmiejgcnfiiaa.Lv
