/-
  Which values a block needs, plain.
-/
set_option linter.unusedVariables false
set_option linter.unusedSimpArgs false
namespace Go.Proofs.Ytjpmiejgcnfiiaa.Lv

/-- A block as the search for what is live sees it. -/
structure PIns where
  args : List Nat
  outs : List Nat
structure PBlk where
  params : List Nat
  ins : List PIns
  ends : List Nat
  next : List Nat
instance : Inhabited PBlk := ⟨⟨[], [], [], []⟩⟩

def setAll (l : List Nat) (b : Bool) (s : List Bool) : List Bool := l.foldl (fun s v => s.set v b) s
theorem setAll_len (l : List Nat) (b : Bool) (s : List Bool) : (setAll l b s).length = s.length := by
  unfold setAll
  induction l generalizing s with
  | nil => rfl
  | cons v l ih => rw [List.foldl_cons, ih, List.length_set]
theorem getD_set_bool (s : List Bool) (v i : Nat) (b : Bool) (hv : v < s.length) : (s.set v b).getD i false = if i = v then b else s.getD i false := by
  rw [List.getD_eq_getElem?_getD, List.getD_eq_getElem?_getD, List.getElem?_set]
  by_cases e : v = i
  · subst e; simp [hv]
  · rw [if_neg e, if_neg (fun h => e h.symm)]
theorem setAll_getD {l : List Nat} {b : Bool} {s : List Bool} (hl : ∀ v ∈ l, v < s.length) (i : Nat) : (setAll l b s).getD i false = if i ∈ l then b else s.getD i false := by
  unfold setAll
  induction l generalizing s with
  | nil => simp
  | cons v l ih =>
    rw [List.foldl_cons, ih (s := s.set v b) (fun w hw => by rw [List.length_set]; exact hl w (by simp [hw])), getD_set_bool s v i b (hl v (by simp))]
    by_cases h1 : i ∈ l
    · simp [h1]
    · by_cases h2 : i = v
      · simp [h2]
      · simp [h1, h2]

/-- One step backwards, for one value. -/
def stepV (v : Nat) (x : PIns) (s : Bool) : Bool := if v ∈ x.args then true else if v ∈ x.outs then false else s
/-- At the beginning of a block, for one value: s at its end. -/
def beginV (b : PBlk) (v : Nat) (s : Bool) : Bool := if v ∈ b.params then false else b.ins.foldr (stepV v) (if v ∈ b.ends then true else s)
def beginP (b : PBlk) (s : List Bool) : List Bool := setAll b.params false (b.ins.foldr (fun x s => setAll x.args true (setAll x.outs false s)) (setAll b.ends true s))
/-- All numbers of the block are below n. -/
structure PBlk.In (b : PBlk) (n : Nat) : Prop where
  params : ∀ v ∈ b.params, v < n
  args : ∀ x ∈ b.ins, ∀ v ∈ x.args, v < n
  outs : ∀ x ∈ b.ins, ∀ v ∈ x.outs, v < n
  ends : ∀ v ∈ b.ends, v < n
theorem begin_getD {b : PBlk} {s : List Bool} (h : b.In s.length) (v : Nat) : (beginP b s).length = s.length ∧ (beginP b s).getD v false = beginV b v (s.getD v false) := by
  unfold beginP beginV
  have h0 : (setAll b.ends true s).length = s.length := setAll_len _ _ _
  have h1 : (setAll b.ends true s).getD v false = if v ∈ b.ends then true else s.getD v false := setAll_getD h.ends v
  have key : ∀ (l : List PIns) (z : List Bool) (y : Bool), (∀ x ∈ l, (∀ v ∈ x.args, v < z.length) ∧ ∀ v ∈ x.outs, v < z.length) → z.getD v false = y →
      (l.foldr (fun x s => setAll x.args true (setAll x.outs false s)) z).length = z.length ∧ (l.foldr (fun x s => setAll x.args true (setAll x.outs false s)) z).getD v false = l.foldr (stepV v) y := by
    intro l
    induction l with
    | nil => intro z y _ hz; exact ⟨rfl, hz⟩
    | cons x l ih =>
      intro z y hb hz
      obtain ⟨i1, i2⟩ := ih z y (fun q hq => hb q (by simp [hq])) hz
      have hx := hb x (by simp)
      rw [List.foldr_cons, List.foldr_cons]
      refine ⟨by rw [setAll_len, setAll_len, i1], ?_⟩
      rw [setAll_getD (by rw [setAll_len, i1]; exact hx.1), setAll_getD (by rw [i1]; exact hx.2), i2]
      rfl
  obtain ⟨k1, k2⟩ := key b.ins (setAll b.ends true s) _ (fun x hx => ⟨by rw [h0]; exact h.args x hx, by rw [h0]; exact h.outs x hx⟩) h1
  refine ⟨by rw [setAll_len, k1, h0], ?_⟩
  rw [setAll_getD (by rw [k1, h0]; exact h.params), k2]
/-- A block that uses no value ahead of its own making of it. -/
structure PBlk.Fit (b : PBlk) (v : Nat) : Prop where
  once : b.ins.Pairwise fun x y => v ∈ x.outs → v ∉ y.outs
  late : b.ins.Pairwise fun x y => v ∈ y.outs → v ∉ x.args
  own : ∀ x ∈ b.ins, v ∈ x.outs → v ∉ x.args
def PBlk.makes (b : PBlk) (v : Nat) : Prop := v ∈ b.params ∨ ∃ x ∈ b.ins, v ∈ x.outs
def PBlk.uses (b : PBlk) (v : Nat) : Prop := v ∈ b.ends ∨ ∃ x ∈ b.ins, v ∈ x.args
theorem beginV_iff {b : PBlk} {v : Nat} (h : b.Fit v) (s : Bool) : beginV b v s = true ↔ ¬ b.makes v ∧ (b.uses v ∨ s = true) := by
  unfold beginV PBlk.makes PBlk.uses
  by_cases hp : v ∈ b.params
  · simp [hp]
  · rw [if_neg hp]
    have key : ∀ (l : List PIns) (y : Bool), (l.Pairwise fun x y => v ∈ y.outs → v ∉ x.args) → (∀ x ∈ l, v ∈ x.outs → v ∉ x.args) →
        (l.foldr (stepV v) y = true ↔ (¬ ∃ x ∈ l, v ∈ x.outs) ∧ ((∃ x ∈ l, v ∈ x.args) ∨ y = true)) := by
      intro l
      induction l with
      | nil => intro y _ _; simp
      | cons x l ih =>
        intro y h1 h2
        rw [List.pairwise_cons] at h1
        have ih' := ih y h1.2 (fun q hq => h2 q (by simp [hq]))
        have hst : (x :: l).foldr (stepV v) y = if v ∈ x.args then true else if v ∈ x.outs then false else l.foldr (stepV v) y := rfl
        rw [hst]
        by_cases ha : v ∈ x.args
        · rw [if_pos ha]
          constructor
          · intro _
            refine ⟨?_, .inl ⟨x, by simp, ha⟩⟩
            rintro ⟨q, hq, hqo⟩
            rcases List.mem_cons.1 hq with rfl | hq
            · exact h2 _ (by simp) hqo ha
            · exact h1.1 q hq hqo ha
          · intro _; rfl
        · rw [if_neg ha]
          by_cases ho : v ∈ x.outs
          · rw [if_pos ho]
            constructor
            · intro h; cases h
            · rintro ⟨hn, _⟩; exact absurd ⟨x, by simp, ho⟩ hn
          · rw [if_neg ho, ih']
            simp [ha, ho]
    rw [key b.ins _ h.late h.own]
    constructor
    · rintro ⟨h1, h2⟩
      refine ⟨fun h3 => h3.elim hp h1, ?_⟩
      rcases h2 with h2 | h2
      · exact .inl (.inr h2)
      · by_cases he : v ∈ b.ends
        · exact .inl (.inl he)
        · rw [if_neg he] at h2; exact .inr h2
    · rintro ⟨h1, h2⟩
      refine ⟨fun h3 => h1 (.inr h3), ?_⟩
      rcases h2 with (h2 | h2) | h2
      · exact .inr (by rw [if_pos h2])
      · exact .inl h2
      · exact .inr (by
          split
          · rfl
          · exact h2)

/-- The blocks at whose beginning a value that others make is needed. -/
inductive Need (F : List PBlk) (order : List Nat) (v : Nat) : Nat → Prop
  | use {b} : b ∈ order → ¬ (F.getD b default).makes v → (F.getD b default).uses v → Need F order v b
  | flow {b t} : b ∈ order → ¬ (F.getD b default).makes v → t ∈ (F.getD b default).next → Need F order v t → Need F order v b
/-- A set that is closed holds them all. -/
theorem Need.least {F : List PBlk} {order : List Nat} {v : Nat} {S : Nat → Prop} (h : ∀ b ∈ order, ¬ (F.getD b default).makes v → ((F.getD b default).uses v ∨ ∃ t ∈ (F.getD b default).next, S t) → S b) {b : Nat} (hb : Need F order v b) : S b := by
  induction hb with
  | use h1 h2 h3 => exact h _ h1 h2 (.inl h3)
  | flow h1 h2 h3 _ ih => exact h _ h1 h2 (.inr ⟨_, h3, ih⟩)
theorem Need.step {F : List PBlk} {order : List Nat} {v b : Nat} (h1 : b ∈ order) (h2 : ¬ (F.getD b default).makes v) (h3 : (F.getD b default).uses v ∨ ∃ t ∈ (F.getD b default).next, Need F order v t) : Need F order v b := by
  rcases h3 with h3 | ⟨t, h3, h4⟩
  · exact .use h1 h2 h3
  · exact .flow h1 h2 h3 h4

/-! ### The program's search -/

def orL (a b : List Bool) : List Bool := List.zipWith (· || ·) a b
def behindP (n : List (List Bool)) (nv : Nat) (next : List Nat) : List Bool := next.foldl (fun out t => orL out (n.getD t [])) (List.replicate nv false)
theorem orL_len {a b : List Bool} (h : b.length = a.length) : (orL a b).length = a.length := by unfold orL; simp [h]
theorem orL_getD {a b : List Bool} (h : b.length = a.length) (v : Nat) : (orL a b).getD v false = (a.getD v false || b.getD v false) := by
  unfold orL
  rw [List.getD_eq_getElem?_getD, List.getD_eq_getElem?_getD, List.getD_eq_getElem?_getD, List.getElem?_zipWith]
  by_cases hv : v < a.length
  · rw [List.getElem?_eq_getElem hv, List.getElem?_eq_getElem (by omega)]; rfl
  · rw [List.getElem?_eq_none (by omega), List.getElem?_eq_none (by omega)]; rfl
theorem behind_getD {n : List (List Bool)} {nv : Nat} {next : List Nat} (hn : ∀ t ∈ next, (n.getD t []).length = nv) (v : Nat) :
    (behindP n nv next).length = nv ∧ ((behindP n nv next).getD v false = true ↔ ∃ t ∈ next, (n.getD t []).getD v false = true) := by
  unfold behindP
  have key : ∀ (l : List Nat) (s : List Bool), s.length = nv → (∀ t ∈ l, (n.getD t []).length = nv) → (l.foldl (fun out t => orL out (n.getD t [])) s).length = nv ∧
      ((l.foldl (fun out t => orL out (n.getD t [])) s).getD v false = true ↔ s.getD v false = true ∨ ∃ t ∈ l, (n.getD t []).getD v false = true) := by
    intro l
    induction l with
    | nil => intro s hs _; exact ⟨hs, by simp⟩
    | cons t l ih =>
      intro s hs hl
      have ht := hl t (by simp)
      obtain ⟨i1, i2⟩ := ih (orL s (n.getD t [])) (by rw [orL_len (by omega)]; exact hs) (fun q hq => hl q (by simp [hq]))
      rw [List.foldl_cons]
      refine ⟨i1, ?_⟩
      rw [i2, orL_getD (by omega), Bool.or_eq_true, or_assoc]
      simp
  obtain ⟨k1, k2⟩ := key next (List.replicate nv false) (by simp) hn
  refine ⟨k1, ?_⟩
  rw [k2]
  constructor
  · rintro (h | h)
    · rw [List.getD_eq_getElem?_getD, List.getElem?_replicate] at h
      split at h <;> cases h
    · exact h
  · exact .inr
end Go.Proofs.Ytjpmiejgcnfiiaa.Lv
