/-
  Dominators by iteration to a fixed point, in the plain: chains in a tree that is still being mended, paths that avoid a node. No program in sight.
-/
namespace Go.Proofs.Ythjlfbeabobgmaa.Dom

/-! ### Paths -/
section
variable (E : Nat → Nat → Prop) (rank : Nat → Nat)

/-- Reached from node 0. -/
inductive R : Nat → Prop
  | root : R 0
  | step {a b : Nat} : R a → E a b → R b
/-- Reached on a path that avoids d. -/
inductive RA (d : Nat) : Nat → Prop
  | root : 0 ≠ d → RA d 0
  | step {a b : Nat} : RA d a → E a b → b ≠ d → RA d b
/-- Reached on a path that avoids d and goes up in rank at most k times. -/
inductive RK (d : Nat) : Nat → Nat → Prop
  | root (k : Nat) : 0 ≠ d → RK d k 0
  | adv {k a b : Nat} : RK d k a → E a b → rank b < rank a → b ≠ d → RK d k b
  | ret {k a b : Nat} : RK d k a → E a b → b ≠ d → RK d (k + 1) b
/-- d dominates x. -/
def Dm (d x : Nat) : Prop := R E x ∧ ¬ RA E d x
/-- A path from a to x all of whose nodes but a are of lower rank than a. -/
inductive Pb (a : Nat) : Nat → Prop
  | one {b : Nat} : E a b → rank b < rank a → Pb a b
  | step {b c : Nat} : Pb a b → E b c → rank c < rank a → Pb a c
end

section
variable {E : Nat → Nat → Prop} {rank : Nat → Nat}

theorem RA.reach {d x : Nat} (h : RA E d x) : R E x := by
  induction h with
  | root _ => exact .root
  | step _ he _ ih => exact .step ih he
theorem RA.ne {d x : Nat} (h : RA E d x) : x ≠ d := by
  cases h with
  | root h => exact h
  | step _ _ h => exact h
theorem RK.ne {d k x : Nat} (h : RK E rank d k x) : x ≠ d := by
  cases h with
  | root _ h => exact h
  | adv _ _ _ h => exact h
  | ret _ _ h => exact h
theorem RK.ra {d k x : Nat} (h : RK E rank d k x) : RA E d x := by
  induction h with
  | root _ h => exact .root h
  | adv _ he _ hn ih => exact .step ih he hn
  | ret _ he hn ih => exact .step ih he hn
theorem RK.mono {d k x : Nat} (h : RK E rank d k x) : RK E rank d (k + 1) x := by
  induction h with
  | root _ h => exact .root _ h
  | adv _ he hr hn ih => exact .adv ih he hr hn
  | ret _ he hn ih => exact .ret ih he hn
theorem RK.mono_le {d k l x : Nat} (h : RK E rank d k x) (hl : k ≤ l) : RK E rank d l x := by
  induction hl with
  | refl => exact h
  | step _ ih => exact ih.mono
/-- A path to m avoids n, or its part up to n is a path to n. -/
theorem RK.pass {d k m : Nat} (n : Nat) (h : RK E rank d k m) : RK E rank n k m ∨ RK E rank d k n := by
  induction h with
  | root k h =>
    by_cases h0 : 0 = n
    · subst h0; exact .inr (.root _ h)
    · exact .inl (.root _ h0)
  | @adv k a b ha he hr hn ih =>
    rcases ih with h1 | h1
    · by_cases hb : b = n
      · subst hb; exact .inr (.adv ha he hr hn)
      · exact .inl (.adv h1 he hr hb)
    · exact .inr h1
  | @ret k a b ha he hn ih =>
    rcases ih with h1 | h1
    · by_cases hb : b = n
      · subst hb; exact .inr (.ret ha he hn)
      · exact .inl (.ret h1 he hb)
    · exact .inr h1.mono
theorem Pb.lt {a x : Nat} (h : Pb E rank a x) : rank x < rank a := by
  cases h with
  | one _ h => exact h
  | step _ _ h => exact h
theorem Pb.ra {a x d : Nat} (h : Pb E rank a x) (ha : RA E d a) (hd : rank a < rank d) : RA E d x := by
  induction h with
  | one he hr => exact .step ha he (fun e => by subst e; omega)
  | step _ he hr ih => exact .step ih he (fun e => by subst e; omega)
theorem Pb.trans {a b c : Nat} (h : Pb E rank b c) (k : Pb E rank a b) : Pb E rank a c := by
  have hb := k.lt
  induction h with
  | one he hr => exact .step k he (by omega)
  | step _ he hr ih => exact .step ih he (by omega)
end

/-! ### Chains -/
section
/-- d is on the chain of x. -/
inductive Anc (f : Nat → Nat) : Nat → Nat → Prop
  | refl (x : Nat) : Anc f x x
  | up {x d : Nat} : x ≠ 0 → Anc f (f x) d → Anc f x d
variable {f : Nat → Nat}
theorem Anc.zero {d : Nat} (h : Anc f 0 d) : d = 0 := by
  cases h with
  | refl => rfl
  | up h _ => exact absurd rfl h
theorem Anc.trans {x y z : Nat} (h : Anc f x y) (k : Anc f y z) : Anc f x z := by
  induction h with
  | refl => exact k
  | up h0 _ ih => exact .up h0 (ih k)
theorem Anc.cases' {x d : Nat} (h : Anc f x d) : d = x ∨ (x ≠ 0 ∧ Anc f (f x) d) := by
  cases h with
  | refl => exact .inl rfl
  | up h0 h => exact .inr ⟨h0, h⟩
/-- Two on one chain. -/
theorem Anc.total {x y z : Nat} (h : Anc f x y) (k : Anc f x z) : Anc f y z ∨ Anc f z y := by
  induction h with
  | refl => exact .inl k
  | @up x d h0 h ih =>
    rcases k.cases' with rfl | ⟨_, k'⟩
    · exact .inr (.up h0 h)
    · exact ih k'
end

/-! ### The state of the iteration -/
section
variable (E : Nat → Nat → Prop) (rank : Nat → Nat)

/-- The tree on the nodes of S: each but 0 has a parent of S of higher rank, from which a path leads to it through lower nodes; a node's dominators are on its chain. -/
structure Tree (S : Nat → Prop) (f : Nat → Nat) : Prop where
  zero : S 0
  reach : ∀ x, S x → R E x
  up : ∀ x, S x → x ≠ 0 → S (f x) ∧ rank x < rank (f x) ∧ Pb E rank (f x) x
  dom : ∀ x, S x → ∀ d, Dm E d x → Anc f x d
variable {E rank} {S : Nat → Prop} {f : Nat → Nat}

theorem Tree.anc (h : Tree E rank S f) {x d : Nat} (hx : S x) (ha : Anc f x d) : S d ∧ (d = x ∨ (rank x < rank d ∧ Pb E rank d x)) := by
  induction ha with
  | refl => exact ⟨hx, .inl rfl⟩
  | @up x d h0 _ ih =>
    obtain ⟨h1, h2, h3⟩ := h.up x hx h0
    obtain ⟨h4, h5⟩ := ih h1
    refine ⟨h4, .inr ?_⟩
    rcases h5 with rfl | ⟨h5, h6⟩
    · exact ⟨h2, h3⟩
    · exact ⟨by omega, h3.trans h6⟩
theorem Tree.anc_le (h : Tree E rank S f) {x d : Nat} (hx : S x) (ha : Anc f x d) : rank x ≤ rank d := by
  rcases (h.anc hx ha).2 with rfl | ⟨h1, _⟩ <;> omega
theorem Tree.antisymm (h : Tree E rank S f) {x y : Nat} (hx : S x) (ha : Anc f x y) (hb : Anc f y x) : x = y := by
  have hy := (h.anc hx ha).1
  rcases (h.anc hx ha).2 with e | ⟨h1, _⟩
  · exact e.symm
  · have := h.anc_le hy hb; omega
/-- A node above n on m's chain that dominates m dominates n. -/
theorem Tree.dom_above (h : Tree E rank S f) {m n d : Nat} (hm : S m) (hn : Anc f m n) (hd : Anc f n d) (hne : d ≠ n) (hdm : Dm E d m) : Dm E d n := by
  have hS := (h.anc hm hn).1
  refine ⟨h.reach n hS, fun hra => hdm.2 ?_⟩
  have hr : rank n < rank d := by
    rcases (h.anc hS hd).2 with e | ⟨h1, _⟩
    · exact absurd e hne
    · exact h1
  rcases (h.anc hm hn).2 with e | ⟨_, hp⟩
  · exact e ▸ hra
  · exact hp.ra hra hr

/-- What the processed predecessors of n say: best. -/
structure Best (E : Nat → Nat → Prop) (rank : Nat → Nat) (S : Nat → Prop) (f : Nat → Nat) (n best : Nat) : Prop where
  some : ∃ p, S p ∧ E p n ∧ rank n < rank p
  mem : S best
  all : ∀ d, Anc f best d ↔ ∀ p, S p → E p n → Anc f p d

theorem Best.rk (h : Tree E rank S f) {n best : Nat} (hb : Best E rank S f n best) : rank n < rank best := by
  obtain ⟨p, h1, h2, h3⟩ := hb.some
  have := h.anc_le h1 ((hb.all best).1 (.refl _) p h1 h2)
  omega
theorem Best.path (h : Tree E rank S f) {n best : Nat} (hb : Best E rank S f n best) : Pb E rank best n := by
  obtain ⟨p, h1, h2, h3⟩ := hb.some
  have hr := hb.rk h
  rcases (h.anc h1 ((hb.all best).1 (.refl _) p h1 h2)).2 with e | ⟨_, hp⟩
  · subst e; exact .one h2 hr
  · exact .step hp h2 hr

def set (f : Nat → Nat) (n v : Nat) : Nat → Nat := fun x => if x = n then v else f x
theorem set_ne {f : Nat → Nat} {n v x : Nat} (h : x ≠ n) : set f n v x = f x := by simp [set, h]
theorem set_eq {f : Nat → Nat} {n v : Nat} : set f n v n = v := by simp [set]

/-- A chain that does not pass n is as it was. -/
theorem anc_set_far {n v x d : Nat} (hn : ¬ Anc f x n) : Anc (set f n v) x d ↔ Anc f x d := by
  constructor
  · intro h
    induction h with
    | refl => exact .refl _
    | @up x d h0 h ih =>
      have hx : x ≠ n := fun e => hn (e ▸ .refl _)
      rw [set_ne hx] at ih
      exact .up h0 (ih (fun h1 => hn (.up h0 h1)))
  · intro h
    induction h with
    | refl => exact .refl _
    | @up x d h0 h ih =>
      have hx : x ≠ n := fun e => hn (e ▸ .refl _)
      exact .up h0 (by rw [set_ne hx]; exact ih (fun h1 => hn (.up h0 h1)))
theorem anc_set_here {n v d : Nat} (h0 : n ≠ 0) (hv : ¬ Anc f v n) : Anc (set f n v) n d ↔ d = n ∨ Anc f v d := by
  constructor
  · intro h
    rcases h.cases' with e | ⟨_, h1⟩
    · exact .inl e
    · rw [set_eq] at h1; exact .inr ((anc_set_far hv).1 h1)
  · rintro (rfl | h)
    · exact .refl _
    · exact .up h0 (by rw [set_eq]; exact (anc_set_far hv).2 h)
theorem anc_set_through {n v x : Nat} (h : Anc f x n) : Anc (set f n v) x n := by
  induction h with
  | refl => exact .refl _
  | @up x d h0 h ih =>
    by_cases hx : x = d
    · subst hx; exact .refl _
    · exact .up h0 (by rw [set_ne hx]; exact ih)
/-- On a chain that passes n: what is below n stays, above n comes n's new chain. -/
theorem anc_set_cases {n v x d : Nat} (h : Anc f x n) (hd : Anc (set f n v) x d) : Anc f x d ∨ Anc (set f n v) n d := by
  induction h with
  | refl => exact .inr hd
  | @up x m h0 h ih =>
    by_cases hx : x = m
    · subst hx; exact .inr hd
    · rcases hd.cases' with e | ⟨_, h1⟩
      · subst e; exact .inl (.refl _)
      · rw [set_ne hx] at h1
        exact (ih h1).imp (.up h0) id
theorem anc_set_low {n v x d : Nat} (hanti : ∀ d, Anc f n d → Anc f d n → d = n) (h : Anc f x d) (hd : Anc f d n) : Anc (set f n v) x d := by
  induction h with
  | refl => exact .refl _
  | @up x m h0 h ih =>
    by_cases hx : x = n
    · subst hx
      rw [hanti m (.up h0 h) hd]
      exact .refl _
    · exact .up h0 (by rw [set_ne hx]; exact ih hd)

theorem Best.far (h : Tree E rank S f) {n best : Nat} (hb : Best E rank S f n best) : ¬ Anc f best n := fun ha => by
  have h1 := h.anc_le hb.mem ha
  have h2 := hb.rk h
  omega
theorem Best.dom (h : Tree E rank S f) {n best : Nat} (h0 : n ≠ 0) (hb : Best E rank S f n best) {d : Nat} (hd : Dm E d n) : Anc (set f n best) n d := by
  rw [anc_set_here h0 (hb.far h)]
  by_cases hne : d = n
  · exact .inl hne
  · refine .inr ((hb.all d).2 fun p hp he => h.dom p hp d ⟨h.reach p hp, fun hra => hd.2 (.step hra he (fun e => hne e.symm))⟩)
/-- A node gets a new parent. -/
theorem Tree.update (h : Tree E rank S f) {n best : Nat} (h0 : n ≠ 0) (hR : R E n) (hb : Best E rank S f n best) : Tree E rank (fun x => S x ∨ x = n) (set f n best) where
  zero := .inl h.zero
  reach := fun x hx => hx.elim (h.reach x) (fun e => e ▸ hR)
  up := fun x hx hx0 => by
    by_cases e : x = n
    · subst e; rw [set_eq]; exact ⟨.inl hb.mem, hb.rk h, hb.path h⟩
    · rw [set_ne e]
      have hS : S x := hx.elim id (fun h1 => absurd h1 e)
      obtain ⟨h1, h2, h3⟩ := h.up x hS hx0
      exact ⟨.inl h1, h2, h3⟩
  dom := fun x hx d hd => by
    by_cases e : x = n
    · subst e; exact hb.dom h h0 hd
    · have hS : S x := hx.elim id (fun h1 => absurd h1 e)
      have ha := h.dom x hS d hd
      by_cases hn : Anc f x n
      · have hSn := (h.anc hS hn).1
        rcases ha.total hn with h1 | h1
        · exact anc_set_low (fun y h2 h3 => (h.antisymm hSn h2 h3).symm) ha h1
        · by_cases hne : d = n
          · subst hne; exact anc_set_through hn
          · exact (anc_set_through hn).trans (hb.dom h h0 (h.dom_above hS hn h1 hne hd))
      · exact (anc_set_far hn).2 ha

/-- Every node on the chain of x is on all paths to x that go up at most k times. -/
def J (E : Nat → Nat → Prop) (rank : Nat → Nat) (f : Nat → Nat) (k x : Nat) : Prop := ∀ d, Anc f x d → ¬ RK E rank d k x
theorem J.less {k x : Nat} (h : J E rank f (k + 1) x) : J E rank f k x := fun d ha hk => h d ha hk.mono
theorem J.here (h : Tree E rank S f) {n best k : Nat} (h0 : n ≠ 0) (hb : Best E rank S f n best)
    (hadv : ∀ a, R E a → E a n → rank n < rank a → S a ∧ J E rank f k a) (hret : ∀ j, k = j + 1 → ∀ a, R E a → S a ∧ J E rank f j a) : J E rank (set f n best) k n := by
  intro d ha hk
  rw [anc_set_here h0 (hb.far h)] at ha
  rcases ha with rfl | ha
  · exact hk.ne rfl
  · have hall := (hb.all d).1 ha
    cases hk with
    | root => exact h0 rfl
    | @adv _ a _ h1 he hr _ =>
      obtain ⟨h2, h3⟩ := hadv a h1.ra.reach he hr
      exact h3 d (hall a h2 he) h1
    | @ret k a _ h1 he _ =>
      obtain ⟨h2, h3⟩ := hret _ rfl a h1.ra.reach
      exact h3 d (hall a h2 he) h1
theorem J.other {n best k m : Nat} (hJn : J E rank (set f n best) k n) (hJm : J E rank f k m) : J E rank (set f n best) k m := by
  intro d ha hk
  by_cases hn : Anc f m n
  · rcases anc_set_cases hn ha with h1 | h1
    · exact hJm d h1 hk
    · rcases hk.pass n with h2 | h2
      · exact hJm n hn h2
      · exact hJn d h1 h2
  · exact hJm d ((anc_set_far hn).1 ha) hk
/-- Where n keeps its parent. -/
theorem J.same (h : Tree E rank S f) {n k : Nat} (h0 : n ≠ 0) (hb : Best E rank S f n (f n))
    (hadv : ∀ a, R E a → E a n → rank n < rank a → S a ∧ J E rank f k a) (hret : ∀ j, k = j + 1 → ∀ a, R E a → S a ∧ J E rank f j a) : J E rank f k n := by
  have h1 := J.here h h0 hb hadv hret
  have e : set f n (f n) = f := by funext x; unfold set; split <;> simp_all
  rwa [e] at h1

/-! ### The end -/
/-- All reachable nodes are in the tree, and each parent is what the predecessors say. -/
theorem fix_dom (h : Tree E rank S f) (hall : ∀ x, R E x → S x) (hfix : ∀ x, R E x → x ≠ 0 → Best E rank S f x (f x)) : ∀ x, R E x → ∀ d, Anc f x d ↔ Dm E d x := by
  intro x hx d
  refine ⟨fun ha => ⟨hx, fun hra => ?_⟩, h.dom x (hall x hx) d⟩
  clear hx
  induction hra with
  | root h0 => exact h0 ha.zero.symm
  | @step a b hra he hne ih =>
    have hRa := hra.reach
    rcases ha.cases' with e | ⟨h0, h1⟩
    · exact hne e.symm
    · exact ih ((((hfix b (.step hRa he) h0).all d).1 h1) a (hall a hRa) he)
/-- A number of retreats that serves all. -/
theorem bound_exists (E : Nat → Nat → Prop) (rank : Nat → Nat) (n : Nat) : ∃ K, ∀ d x, d < n → x < n → RA E d x → RK E rank d K x := by
  have one : ∀ d x, RA E d x → ∃ k, RK E rank d k x := fun d x h => by
    induction h with
    | root h => exact ⟨0, .root _ h⟩
    | step _ he hn ih => obtain ⟨k, hk⟩ := ih; exact ⟨k + 1, .ret hk he hn⟩
  have row : ∀ d m, ∃ K, ∀ x, x < m → RA E d x → RK E rank d K x := fun d m => by
    induction m with
    | zero => exact ⟨0, fun x hx => absurd hx (Nat.not_lt_zero _)⟩
    | succ m ih =>
      obtain ⟨K, hK⟩ := ih
      by_cases hr : RA E d m
      · obtain ⟨k, hk⟩ := one d m hr
        refine ⟨max K k, fun x hx h => ?_⟩
        rcases Nat.lt_or_ge x m with h1 | h1
        · exact (hK x h1 h).mono_le (Nat.le_max_left _ _)
        · obtain rfl : x = m := by omega
          exact hk.mono_le (Nat.le_max_right _ _)
      · refine ⟨K, fun x hx h => ?_⟩
        rcases Nat.lt_or_ge x m with h1 | h1
        · exact hK x h1 h
        · obtain rfl : x = m := by omega
          exact absurd h hr
  have all : ∀ m, ∃ K, ∀ d x, d < m → x < n → RA E d x → RK E rank d K x := fun m => by
    induction m with
    | zero => exact ⟨0, fun d x hd => absurd hd (Nat.not_lt_zero _)⟩
    | succ m ih =>
      obtain ⟨K, hK⟩ := ih
      obtain ⟨k, hk⟩ := row m n
      refine ⟨max K k, fun d x hd hx h => ?_⟩
      rcases Nat.lt_or_ge d m with h1 | h1
      · exact (hK d x h1 hx h).mono_le (Nat.le_max_left _ _)
      · obtain rfl : d = m := by omega
        exact (hk x hx h).mono_le (Nat.le_max_right _ _)
  exact all n
/-- Where the chains are the dominators, a node keeps its parent. -/
theorem best_same (h : Tree E rank S f) (hall : ∀ x, R E x → S x) (hdom : ∀ x, R E x → ∀ d, Anc f x d → Dm E d x) {n best : Nat} (h0 : n ≠ 0) (hR : R E n) (hb : Best E rank S f n best) : best = f n := by
  obtain ⟨hS, hr, _⟩ := h.up n (hall n hR) h0
  have h1 : Anc f best (f n) := (hb.all _).2 fun p hp he => by
    have hd := hdom n hR (f n) (.up h0 (.refl _))
    refine h.dom p hp _ ⟨h.reach p hp, fun hra => hd.2 (.step hra he (fun e => ?_))⟩
    rw [← e] at hr; omega
  have hbR : Dm E best n := ⟨hR, fun hra => by
    cases hra with
    | root => exact h0 rfl
    | @step a _ ha he _ =>
      have hRa := ha.reach
      exact (hdom a hRa best ((hb.all best).1 (.refl _) a (hall a hRa) he)).2 ha⟩
  have h2 : Anc f (f n) best := by
    rcases (h.dom n (hall n hR) best hbR).cases' with e | ⟨_, h3⟩
    · have := hb.rk h; rw [e] at this; omega
    · exact h3
  exact h.antisymm hb.mem h1 h2
end
end Go.Proofs.Ythjlfbeabobgmaa.Dom
