/-
  Depth first, plain: a search with a stack and one that calls itself leave the nodes in the same order.
-/
set_option linter.unusedVariables false
set_option linter.unusedSimpArgs false
namespace Go.Proofs.Ytjpmiejgcnfiiaa.Lv

/-- From m and d on, the nodes of l that are not in m are visited in turn: this ends with m' and d'. -/
inductive Vis (N : List (List Nat)) : List Nat → List Bool → List Nat → List Bool → List Nat → Prop
  | nil (m d) : Vis N [] m d m d
  | skip {c l m d m' d'} : m.getD c true = true → Vis N l m d m' d' → Vis N (c :: l) m d m' d'
  | go {c l m d m1 d1 m' d'} : m.getD c true = false → Vis N (N.getD c []) (m.set c true) d m1 d1 → Vis N l m1 (d1 ++ [c]) m' d' → Vis N (c :: l) m d m' d'

variable {N : List (List Nat)}

theorem Vis.det {l : List Nat} {m : List Bool} {d : List Nat} {m1 m2 : List Bool} {d1 d2 : List Nat} (h : Vis N l m d m1 d1) (k : Vis N l m d m2 d2) : m1 = m2 ∧ d1 = d2 := by
  induction h generalizing m2 d2 with
  | nil => cases k; exact ⟨rfl, rfl⟩
  | skip hs _ ih =>
    cases k with
    | skip _ k' => exact ih k'
    | go hs' _ _ => rw [hs] at hs'; cases hs'
  | go hs _ _ ih1 ih2 =>
    cases k with
    | skip hs' _ => rw [hs] at hs'; cases hs'
    | go _ k1 k2 =>
      obtain ⟨rfl, rfl⟩ := ih1 k1
      exact ih2 k2

theorem getD_false_lt {m : List Bool} {c : Nat} (h : m.getD c true = false) : c < m.length := by
  rcases Nat.lt_or_ge c m.length with hc | hc
  · exact hc
  · rw [List.getD_eq_getElem?_getD, List.getElem?_eq_none hc] at h; cases h
theorem count_set {m : List Bool} {c : Nat} (h : m.getD c true = false) : (m.set c true).count false + 1 = m.count false := by
  induction m generalizing c with
  | nil => cases h
  | cons b m ih =>
    cases c with
    | zero =>
      have : b = false := h
      subst this
      simp
    | succ c =>
      have h' : m.getD c true = false := h
      have := ih h'
      cases b <;> simp <;> omega
theorem Vis.len {l : List Nat} {m : List Bool} {d : List Nat} {m' : List Bool} {d' : List Nat} (h : Vis N l m d m' d') : m'.length = m.length := by
  induction h with
  | nil => rfl
  | skip _ _ ih => exact ih
  | go _ _ _ ih1 ih2 => rw [ih2, ih1, List.length_set]
theorem Vis.count {l : List Nat} {m : List Bool} {d : List Nat} {m' : List Bool} {d' : List Nat} (h : Vis N l m d m' d') : m'.count false ≤ m.count false := by
  induction h with
  | nil => exact Nat.le_refl _
  | skip _ _ ih => exact ih
  | go hs _ _ ih1 ih2 => have := count_set hs; omega
/-- Every search ends. -/
theorem Vis.ex : ∀ (f : Nat) (m : List Bool), m.count false ≤ f → ∀ (l d : List Nat), ∃ m' d', Vis N l m d m' d'
  | f, m, hf, [], d => ⟨m, d, .nil m d⟩
  | f, m, hf, c :: l, d => by
    cases hc : m.getD c true with
    | true =>
      obtain ⟨m', d', h⟩ := Vis.ex f m hf l d
      exact ⟨m', d', .skip hc h⟩
    | false =>
      have h1 := count_set hc
      cases f with
      | zero => omega
      | succ f =>
        obtain ⟨m1, d1, h2⟩ := Vis.ex f (m.set c true) (by omega) (N.getD c []) d
        have h3 := h2.count
        obtain ⟨m', d', h4⟩ := Vis.ex f m1 (by omega) l (d1 ++ [c])
        exact ⟨m', d', .go hc h2 h4⟩
  termination_by f _ _ l => (f, l.length)

/-- What is left of a search with a stack. -/
inductive VisS (N : List (List Nat)) : List (Nat × List Nat) → List Bool → List Nat → List Nat → Prop
  | nil (m d) : VisS N [] m d d
  | cons {x l st m d m1 d1 d'} : Vis N l m d m1 d1 → VisS N st m1 (d1 ++ [x]) d' → VisS N ((x, l) :: st) m d d'
theorem VisS.done {m : List Bool} {d d' : List Nat} (h : VisS N [] m d d') : d' = d := by cases h; rfl
theorem VisS.pop {x : Nat} {st : List (Nat × List Nat)} {m : List Bool} {d d' : List Nat} (h : VisS N ((x, []) :: st) m d d') : VisS N st m (d ++ [x]) d' := by
  cases h with
  | cons h1 h2 => cases h1; exact h2
theorem VisS.skip {x c : Nat} {l : List Nat} {st : List (Nat × List Nat)} {m : List Bool} {d d' : List Nat} (h : VisS N ((x, c :: l) :: st) m d d') (hc : m.getD c true = true) : VisS N ((x, l) :: st) m d d' := by
  cases h with
  | cons h1 h2 =>
    cases h1 with
    | skip _ h1 => exact .cons h1 h2
    | go hs _ _ => rw [hc] at hs; cases hs
theorem VisS.push {x c : Nat} {l : List Nat} {st : List (Nat × List Nat)} {m : List Bool} {d d' : List Nat} (h : VisS N ((x, c :: l) :: st) m d d') (hc : m.getD c true = false) : VisS N ((c, N.getD c []) :: (x, l) :: st) (m.set c true) d d' := by
  cases h with
  | cons h1 h2 =>
    cases h1 with
    | skip hs _ => rw [hc] at hs; cases hs
    | go _ h3 h4 => exact .cons h3 (.cons h4 h2)

/-- The nodes in the order in which the search leaves them. -/
def IsPost (N : List (List Nat)) (d : List Nat) : Prop := ∃ m' d1, Vis N (N.getD 0 []) ((List.replicate N.length false).set 0 true) [] m' d1 ∧ d = d1 ++ [0]
theorem IsPost.ex (N : List (List Nat)) : ∃ d, IsPost N d := by
  obtain ⟨m', d1, h⟩ := Vis.ex (N := N) _ ((List.replicate N.length false).set 0 true) (Nat.le_refl _) (N.getD 0 []) []
  exact ⟨d1 ++ [0], m', d1, h, rfl⟩
theorem IsPost.unique {d d' : List Nat} (h : IsPost N d) (k : IsPost N d') : d = d' := by
  obtain ⟨_, d1, h1, rfl⟩ := h
  obtain ⟨_, d2, h2, rfl⟩ := k
  rw [(h1.det h2).2]
theorem IsPost.stack {d : List Nat} (h : IsPost N d) : VisS N [(0, N.getD 0 [])] ((List.replicate N.length false).set 0 true) [] d := by
  obtain ⟨m', d1, h1, rfl⟩ := h
  exact .cons h1 (.nil _ _)

/-- What a search does: it leaves each node once, marks what it leaves, and only what was not marked. -/
theorem Vis.marks {l : List Nat} {m : List Bool} {d : List Nat} {m' : List Bool} {d' : List Nat} (h : Vis N l m d m' d') :
    ∃ e, d' = d ++ e ∧ e.Nodup ∧ (∀ x, x ∈ e ↔ m.getD x true = false ∧ m'.getD x true = true) ∧ ∀ x, m.getD x true = true → m'.getD x true = true := by
  induction h with
  | nil m d => exact ⟨[], by simp, List.nodup_nil, fun x => by constructor <;> simp_all, fun x hx => hx⟩
  | skip _ _ ih => exact ih
  | @go c l m d m1 d1 m' d' hs h1 h2 ih1 ih2 =>
    obtain ⟨e1, rfl, n1, s1, k1⟩ := ih1
    obtain ⟨e2, rfl, n2, s2, k2⟩ := ih2
    have hcl := getD_false_lt hs
    have hset : ∀ x, (m.set c true).getD x true = if x = c then true else m.getD x true := fun x => by
      rw [List.getD_eq_getElem?_getD, List.getD_eq_getElem?_getD, List.getElem?_set]
      by_cases e : c = x
      · subst e; simp [hcl]
      · rw [if_neg e, if_neg (fun h => e h.symm)]
    have hc1 : m1.getD c true = true := k1 c (by rw [hset, if_pos rfl])
    refine ⟨e1 ++ [c] ++ e2, by simp [List.append_assoc], ?_, fun x => ?_, fun x hx => k2 x (k1 x (by rw [hset]; split <;> simp_all))⟩
    · rw [List.nodup_append, List.nodup_append]
      refine ⟨⟨n1, by simp, fun a ha b hb e => ?_⟩, n2, fun a ha b hb e => ?_⟩
      · have hb' : b = c := by simpa using hb
        have := (s1 a).1 ha
        rw [e, hb', hset, if_pos rfl] at this
        cases this.1
      · have h3 := (s2 b).1 hb
        rw [← e] at h3
        rcases List.mem_append.1 ha with h4 | h4
        · have h5 := (s1 a).1 h4
          rw [h5.2] at h3; cases h3.1
        · have h5 : a = c := by simpa using h4
          rw [h5, hc1] at h3; cases h3.1
    · rw [List.mem_append, List.mem_append, s1, s2, hset]
      constructor
      · rintro ((⟨h3, h4⟩ | h3) | ⟨h3, h4⟩)
        · by_cases e : x = c
          · rw [if_pos e] at h3; cases h3
          · rw [if_neg e] at h3; exact ⟨h3, k2 x h4⟩
        · have e : x = c := by simpa using h3
          rw [e]; exact ⟨hs, k2 c hc1⟩
        · refine ⟨?_, h4⟩
          cases h5 : m.getD x true with
          | false => rfl
          | true => rw [k1 x (by rw [hset]; split <;> simp_all)] at h3; cases h3
      · rintro ⟨h3, h4⟩
        by_cases e : x = c
        · exact .inl (.inr (by simp [e]))
        · cases h5 : m1.getD x true with
          | true => exact .inl (.inl ⟨by rw [if_neg e]; exact h3, rfl⟩)
          | false => exact .inr ⟨rfl, h4⟩
end Go.Proofs.Ytjpmiejgcnfiiaa.Lv
