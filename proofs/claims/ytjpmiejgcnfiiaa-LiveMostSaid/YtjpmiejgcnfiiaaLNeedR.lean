/-
  The reference's search for where a value is needed, plain; what both say of a form.
-/
import Derived.Test.YtjpmiejgcnfiiaaLFoundP
import Derived.Test.YtjpmiejgcnfiiaaLRangeP
set_option linter.unusedVariables false
set_option linter.unusedSimpArgs false
namespace Go.Proofs.Ytjpmiejgcnfiiaa.Lv

/-- The reference's search, for one value. -/
structure RN (F : List PBlk) (order : List Nat) (v : Nat) (s : List Bool) : Prop where
  len : s.length = F.length
  sound : ∀ b, s.getD b false = true → Need F order v b
variable {F : List PBlk} {order : List Nat} {v : Nat} {s : List Bool}
theorem RN.zero (F : List PBlk) (order : List Nat) (v : Nat) : RN F order v (List.replicate F.length false) :=
  ⟨by simp, fun b h => by rw [List.getD_eq_getElem?_getD, List.getElem?_replicate] at h; split at h <;> cases h⟩
theorem RN.step (h : RN F order v s) {b : Nat} (hb : b ∈ order) (hlt : b < F.length) (hm : ¬ (F.getD b default).makes v) (hu : (F.getD b default).uses v ∨ ∃ t ∈ (F.getD b default).next, s.getD t false = true) : RN F order v (s.set b true) :=
  ⟨by rw [List.length_set]; exact h.len, fun c hc => by
    rw [getD_set_bool s b c true (by rw [h.len]; exact hlt)] at hc
    split at hc
    · rename_i e
      rw [e]
      refine .step hb hm ?_
      rcases hu with hu | ⟨t, ht, hu⟩
      · exact .inl hu
      · exact .inr ⟨t, ht, h.sound t hu⟩
    · exact h.sound c hc⟩
theorem RN.end_ (h : RN F order v s) (hc : ∀ b ∈ order, ¬ (F.getD b default).makes v → ((F.getD b default).uses v ∨ ∃ t ∈ (F.getD b default).next, s.getD t false = true) → s.getD b false = true) (b : Nat) : s.getD b false = true ↔ Need F order v b :=
  ⟨h.sound b, fun hn => Need.least (S := fun b => s.getD b false = true) hc hn⟩
theorem count_false_set {s : List Bool} {b : Nat} (hb : b < s.length) (h : s.getD b false = false) : (s.set b true).count false + 1 = s.count false := by
  induction s generalizing b with
  | nil => simp at hb
  | cons x s ih =>
    cases b with
    | zero =>
      have : x = false := h
      subst this
      simp
    | succ b =>
      have := ih (b := b) (by simpa using hb) h
      cases x <;> simp <;> omega

/-! ### Rows of ranges -/

def joinR (l : List (Int × Int)) (x : Int × Int) : List (Int × Int) := match l.getLast? with
  | none => [x]
  | some q => if x.1 ≤ q.2 then l.dropLast ++ [(q.1, max q.2 x.2)] else l ++ [x]
theorem joinR_nil (x : Int × Int) : joinR [] x = [x] := rfl
theorem joinR_in {l : List (Int × Int)} {q x : Int × Int} (h : x.1 ≤ q.2) : joinR (l ++ [q]) x = l ++ [(q.1, max q.2 x.2)] := by
  unfold joinR
  rw [List.getLast?_concat]
  simp only [if_pos h, List.dropLast_concat]
theorem joinR_out {l : List (Int × Int)} {q x : Int × Int} (h : ¬ x.1 ≤ q.2) : joinR (l ++ [q]) x = l ++ [q] ++ [x] := by
  unfold joinR
  rw [List.getLast?_concat]
  simp only [if_neg h]
/-- Where each block of the row begins: the position behind it. -/
def stepAt (F : List PBlk) (at_ : Int) (b : Nat) : Int := at_ + 2 * (((F.getD b default).ins.length : Int) + 2)
def endAt (F : List PBlk) (l : List Nat) : Int := l.foldl (stepAt F) 0
theorem endAt_snoc (F : List PBlk) (l : List Nat) (b : Nat) : endAt F (l ++ [b]) = endAt F l + 2 * (((F.getD b default).ins.length : Int) + 2) := by unfold endAt; rw [List.foldl_append]; rfl
theorem endAt_nonneg (F : List PBlk) : ∀ l, 0 ≤ endAt F l := fun l => by
  unfold endAt
  have key : ∀ (l : List Nat) (a : Int), 0 ≤ a → 0 ≤ l.foldl (stepAt F) a := by
    intro l
    induction l with
    | nil => intro a h; exact h
    | cons b l ih => intro a h; exact ih _ (by unfold stepAt; omega)
  exact key l 0 (Int.le_refl _)
/-- The ranges of a value in the blocks l, the first of which begins at at_. -/
def rowsFrom (F : List PBlk) (g : Nat → Int → Option (Int × Int)) : List Nat → Int → List (Int × Int) → List (Int × Int)
  | [], _, acc => acc
  | b :: l, at_, acc => rowsFrom F g l (stepAt F at_ b) (match g b at_ with | some x => joinR acc x | none => acc)
theorem rowsFrom_congr (F : List PBlk) {g g' : Nat → Int → Option (Int × Int)} : ∀ (l : List Nat) (at_ : Int) (acc : List (Int × Int)), 0 ≤ at_ → (∀ b ∈ l, ∀ a, 0 ≤ a → g b a = g' b a) → rowsFrom F g l at_ acc = rowsFrom F g' l at_ acc
  | [], _, _, _, _ => rfl
  | b :: l, at_, acc, h0, h => by
    unfold rowsFrom
    rw [h b (by simp) at_ h0]
    exact rowsFrom_congr F l _ _ (by unfold stepAt; omega) (fun c hc => h c (by simp [hc]))
theorem rowsFrom_snoc (F : List PBlk) (g : Nat → Int → Option (Int × Int)) : ∀ (l : List Nat) (at_ : Int) (acc : List (Int × Int)) (b : Nat),
    rowsFrom F g (l ++ [b]) at_ acc = (match g b (l.foldl (stepAt F) at_) with | some x => joinR (rowsFrom F g l at_ acc) x | none => rowsFrom F g l at_ acc)
  | [], _, _, _ => rfl
  | c :: l, at_, acc, b => by
    show rowsFrom F g (l ++ [b]) _ _ = _
    rw [rowsFrom_snoc F g l]
    rfl
/-- The program's ranges of a value, and the reference's. -/
theorem rows_eq {F : List PBlk} {order : List Nat} {v : Nat} {bg bh : Nat → Bool} (hfit : ∀ b ∈ order, (F.getD b default).Fit v) (hp : ∀ b ∈ order, v ∈ (F.getD b default).params → ∀ x ∈ (F.getD b default).ins, v ∉ x.outs)
    (hbg : ∀ b ∈ order, bg b = true ↔ ¬ (F.getD b default).makes v ∧ ((F.getD b default).uses v ∨ bh b = true)) :
    rowsFrom F (fun b a => rangeP (F.getD b default) v a (bg b) (bh b)) order 0 [] = rowsFrom F (fun b a => rangeR (F.getD b default) v a (bg b) (bh b)) order 0 [] :=
  rowsFrom_congr F order 0 [] (Int.le_refl _) fun b hb _ ha => range_eq (hfit b hb) (hp b hb) ha (hbg b hb)
end Go.Proofs.Ytjpmiejgcnfiiaa.Lv
