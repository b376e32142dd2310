/-
  The search for what is needed: it climbs, and it ends at what is needed.
-/
import Derived.Test.YtjpmiejgcnfiiaaLNeedP
set_option linter.unusedVariables false
set_option linter.unusedSimpArgs false
namespace Go.Proofs.Ytjpmiejgcnfiiaa.Lv

theorem stepV_mono {v : Nat} {x : PIns} {s t : Bool} (h : s = true → t = true) : stepV v x s = true → stepV v x t = true := by
  unfold stepV
  split
  · exact id
  · split
    · exact id
    · exact h
theorem beginV_mono {b : PBlk} {v : Nat} {s t : Bool} (h : s = true → t = true) : beginV b v s = true → beginV b v t = true := by
  unfold beginV
  split
  · exact id
  · have key : ∀ (l : List PIns) (y z : Bool), (y = true → z = true) → l.foldr (stepV v) y = true → l.foldr (stepV v) z = true := by
      intro l
      induction l with
      | nil => intro y z h1; exact h1
      | cons x l ih => intro y z h1; exact stepV_mono (ih y z h1)
    refine key _ _ _ ?_
    split
    · exact id
    · exact h

/-- What is new at a block. -/
def newAt (F : List PBlk) (nv : Nat) (n : List (List Bool)) (b : Nat) : List Bool := beginP (F.getD b default) (behindP n nv (F.getD b default).next)
/-- What holds of the form. -/
structure FOk (F : List PBlk) (order : List Nat) (nv : Nat) : Prop where
  lt : ∀ b ∈ order, b < F.length
  inn : ∀ b ∈ order, (F.getD b default).In nv
  next : ∀ b ∈ order, ∀ t ∈ (F.getD b default).next, t < F.length
/-- What holds of the search. -/
structure FSt (F : List PBlk) (order : List Nat) (nv : Nat) (n : List (List Bool)) : Prop where
  len : n.length = F.length
  lens : ∀ i, i < F.length → (n.getD i []).length = nv
  out : ∀ i, i ∉ order → ∀ v, (n.getD i []).getD v false = false
  asc : ∀ b ∈ order, ∀ v, (n.getD b []).getD v false = true → (newAt F nv n b).getD v false = true
variable {F : List PBlk} {order : List Nat} {nv : Nat} {n : List (List Bool)}
theorem newAt_getD (hF : FOk F order nv) (h : FSt F order nv n) {b : Nat} (hb : b ∈ order) (v : Nat) :
    (newAt F nv n b).length = nv ∧ ((newAt F nv n b).getD v false = beginV (F.getD b default) v ((behindP n nv (F.getD b default).next).getD v false)) := by
  obtain ⟨h1, _⟩ := behind_getD (n := n) (nv := nv) (next := (F.getD b default).next) (fun t ht => h.lens t (hF.next b hb t ht)) v
  obtain ⟨h3, h4⟩ := begin_getD (b := F.getD b default) (s := behindP n nv (F.getD b default).next) (by rw [h1]; exact hF.inn b hb) v
  exact ⟨by unfold newAt; rw [h3, h1], h4⟩
theorem getD_setL (n : List (List Bool)) (b i : Nat) (l : List Bool) (hb : b < n.length) : (n.set b l).getD i [] = if i = b then l else n.getD i [] := by
  rw [List.getD_eq_getElem?_getD, List.getD_eq_getElem?_getD, List.getElem?_set]
  by_cases e : b = i
  · subst e; simp [hb]
  · rw [if_neg e, if_neg (fun h => e h.symm)]
theorem FSt.zero (F : List PBlk) (order : List Nat) (nv : Nat) : FSt F order nv (List.replicate F.length (List.replicate nv false)) := by
  have hz : ∀ i v, ((List.replicate F.length (List.replicate nv false)).getD i []).getD v false = false := fun i v => by
    have e : (List.replicate F.length (List.replicate nv false)).getD i [] = if i < F.length then List.replicate nv false else [] := by
      rw [List.getD_eq_getElem?_getD, List.getElem?_replicate]; split <;> rfl
    rw [e]
    split
    · rw [List.getD_eq_getElem?_getD, List.getElem?_replicate]; split <;> rfl
    · rfl
  refine ⟨by simp, fun i hi => ?_, fun i _ v => hz i v, fun b _ v h => by rw [hz] at h; cases h⟩
  rw [List.getD_eq_getElem?_getD, List.getElem?_replicate, if_pos hi]; simp
/-- One block more. -/
theorem FSt.step (hF : FOk F order nv) (h : FSt F order nv n) {b : Nat} (hb : b ∈ order) : FSt F order nv (n.set b (newAt F nv n b)) := by
  have hbl : b < n.length := by rw [h.len]; exact hF.lt b hb
  have hup : ∀ i v, (n.getD i []).getD v false = true → ((n.set b (newAt F nv n b)).getD i []).getD v false = true := fun i v hv => by
    rw [getD_setL n b i _ hbl]
    split
    · rename_i e; rw [e] at hv; exact h.asc b hb v hv
    · exact hv
  have h1 : (n.set b (newAt F nv n b)).length = F.length := by rw [List.length_set]; exact h.len
  have h2 : ∀ i, i < F.length → ((n.set b (newAt F nv n b)).getD i []).length = nv := fun i hi => by
    rw [getD_setL n b i _ hbl]
    split
    · exact (newAt_getD hF h hb 0).1
    · exact h.lens i hi
  have hmono : ∀ c ∈ order, ∀ v, (newAt F nv n c).getD v false = true → (newAt F nv (n.set b (newAt F nv n b)) c).getD v false = true := fun c hc v hv => by
    obtain ⟨a1, a2⟩ := behind_getD (n := n) (nv := nv) (next := (F.getD c default).next) (fun t ht => h.lens t (hF.next c hc t ht)) v
    obtain ⟨b1, b2⟩ := behind_getD (n := n.set b (newAt F nv n b)) (nv := nv) (next := (F.getD c default).next) (fun t ht => h2 t (hF.next c hc t ht)) v
    rw [(newAt_getD hF h hc v).2] at hv
    have h3 := (begin_getD (b := F.getD c default) (s := behindP (n.set b (newAt F nv n b)) nv (F.getD c default).next) (by rw [b1]; exact hF.inn c hc) v).2
    show (beginP (F.getD c default) (behindP (n.set b (newAt F nv n b)) nv (F.getD c default).next)).getD v false = true
    rw [h3]
    refine beginV_mono (fun h4 => ?_) hv
    rw [b2]
    obtain ⟨t, ht, h5⟩ := a2.1 h4
    exact ⟨t, ht, hup t v h5⟩
  refine ⟨h1, h2, fun i hi v => ?_, fun c hc v hv => ?_⟩
  · rw [getD_setL n b i _ hbl, if_neg (fun e => hi (by rw [e]; exact hb))]
    exact h.out i hi v
  · rw [getD_setL n b c _ hbl] at hv
    split at hv
    · rename_i e
      rw [e]
      exact hmono b hb v hv
    · exact hmono c hc v (h.asc c hc v hv)
/-- How many are needed so far. -/
def total (n : List (List Bool)) : Nat := (n.map (·.count true)).sum
theorem count_le_of {a b : List Bool} (hl : a.length = b.length) (h : ∀ v, a.getD v false = true → b.getD v false = true) : a.count true ≤ b.count true ∧ (a.count true = b.count true → a = b) := by
  induction a generalizing b with
  | nil => cases b with
    | nil => simp
    | cons _ _ => cases hl
  | cons x a ih =>
    cases b with
    | nil => cases hl
    | cons y b =>
      obtain ⟨i1, i2⟩ := ih (b := b) (by simpa using hl) (fun v hv => h (v + 1) hv)
      have h0 : x = true → y = true := h 0
      cases x with
      | false =>
        cases y with
        | false => simp; exact ⟨i1, i2⟩
        | true => simp; exact ⟨by omega, by omega⟩
      | true =>
        have := h0 rfl
        subst this
        simp; exact ⟨i1, i2⟩
theorem total_set {b : Nat} {l : List Bool} (hb : b < n.length) : total (n.set b l) + (n.getD b []).count true = total n + l.count true := by
  unfold total
  induction n generalizing b with
  | nil => simp at hb
  | cons a n ih =>
    cases b with
    | zero => simp; omega
    | succ b =>
      have := ih (b := b) (by simpa using hb)
      simp only [List.set_cons_succ, List.map_cons, List.sum_cons, List.getD_cons_succ]
      omega
theorem total_le {nv : Nat} (h : ∀ l ∈ n, l.length = nv) : total n ≤ n.length * nv := by
  unfold total
  induction n with
  | nil => simp
  | cons a n ih =>
    have h1 := h a (by simp)
    have h2 : a.count true ≤ a.length := List.count_le_length
    have h3 := ih (fun l hl => h l (by simp [hl]))
    rw [List.map_cons, List.sum_cons, List.length_cons, Nat.succ_mul]
    omega
/-- A change climbs. -/
theorem FSt.climb (hF : FOk F order nv) (h : FSt F order nv n) {b : Nat} (hb : b ∈ order) (hne : newAt F nv n b ≠ n.getD b []) : total n < total (n.set b (newAt F nv n b)) := by
  have hbl : b < n.length := by rw [h.len]; exact hF.lt b hb
  have h1 := total_set (n := n) (l := newAt F nv n b) hbl
  obtain ⟨h2, h3⟩ := count_le_of (a := n.getD b []) (b := newAt F nv n b) (by rw [h.lens b (hF.lt b hb), (newAt_getD hF h hb 0).1]) (h.asc b hb)
  have h4 : (n.getD b []).count true ≠ (newAt F nv n b).count true := fun e => hne (h3 e).symm
  omega
theorem FSt.bound (h : FSt F order nv n) : total n ≤ F.length * nv := by
  rw [← h.len]
  refine total_le fun l hl => ?_
  obtain ⟨i, hi, e⟩ := List.getElem_of_mem hl
  have := h.lens i (by rw [← h.len]; exact hi)
  rw [List.getD_eq_getElem?_getD, List.getElem?_eq_getElem hi] at this
  rw [← e]; exact this
/-- Nothing but what is needed. -/
def Sound (F : List PBlk) (order : List Nat) (n : List (List Bool)) : Prop := ∀ b v, (n.getD b []).getD v false = true → Need F order v b
theorem Sound.zero (F : List PBlk) (order : List Nat) (nv : Nat) : Sound F order (List.replicate F.length (List.replicate nv false)) := fun b v h => by
  have := (FSt.zero F [] nv).out b (by simp) v
  rw [this] at h; cases h
theorem Sound.step (hF : FOk F order nv) (hfit : ∀ b ∈ order, ∀ v, (F.getD b default).Fit v) (h : FSt F order nv n) (hs : Sound F order n) {b : Nat} (hb : b ∈ order) : Sound F order (n.set b (newAt F nv n b)) := fun c v hv => by
  rw [getD_setL n b c _ (by rw [h.len]; exact hF.lt b hb)] at hv
  split at hv
  · rename_i e
    rw [e]
    rw [(newAt_getD hF h hb v).2, beginV_iff (hfit b hb v)] at hv
    refine .step hb hv.1 ?_
    rcases hv.2 with h1 | h1
    · exact .inl h1
    · obtain ⟨t, ht, h2⟩ := (behind_getD (n := n) (nv := nv) (next := (F.getD b default).next) (fun t ht => h.lens t (hF.next b hb t ht)) v).2.1 h1
      exact .inr ⟨t, ht, hs t v h2⟩
  · exact hs c v hv
/-- Where nothing changes any more there is all that is needed. -/
theorem FSt.found (hF : FOk F order nv) (hfit : ∀ b ∈ order, ∀ v, (F.getD b default).Fit v) (h : FSt F order nv n) (hs : Sound F order n) (hend : ∀ b ∈ order, newAt F nv n b = n.getD b []) (b v : Nat) : (n.getD b []).getD v false = true ↔ Need F order v b := by
  constructor
  · exact hs b v
  · intro hn
    refine Need.least (S := fun b => (n.getD b []).getD v false = true) (fun c hc h1 h2 => ?_) hn
    rw [← hend c hc, (newAt_getD hF h hc v).2, beginV_iff (hfit c hc v)]
    refine ⟨h1, ?_⟩
    rcases h2 with h2 | ⟨t, ht, h2⟩
    · exact .inl h2
    · exact .inr ((behind_getD (n := n) (nv := nv) (next := (F.getD c default).next) (fun t ht => h.lens t (hF.next c hc t ht)) v).2.2 ⟨t, ht, h2⟩)
end Go.Proofs.Ytjpmiejgcnfiiaa.Lv
