/-
  The most that are live at once, plain: what a sweep finds, and what the reference counts.
-/
set_option linter.unusedVariables false
set_option linter.unusedSimpArgs false
namespace Go.Proofs.Ytjpmiejgcnfiiaa.Lv

abbrev Rng := Int × Int
def hit (p : Int) (r : Rng) : Bool := decide (r.1 ≤ p) && decide (p < r.2)
theorem hit_iff {p : Int} {r : Rng} : hit p r = true ↔ r.1 ≤ p ∧ p < r.2 := by
  unfold hit; rw [Bool.and_eq_true, decide_eq_true_eq, decide_eq_true_eq]
def cov (l : List Rng) (p : Int) : Bool := l.any (hit p)
theorem cov_append (l k : List Rng) (p : Int) : cov (l ++ k) p = (cov l p || cov k p) := List.any_append

/-! ### Merged -/

def mstep (out : List Rng) (r : Rng) : List Rng :=
  if r.2 ≤ r.1 then out else match out.getLast? with
    | none => [r]
    | some q => if r.1 ≤ q.2 then out.dropLast ++ [(q.1, max q.2 r.2)] else out ++ [r]
/-- What a merge keeps. -/
structure Mg (pre out : List Rng) : Prop where
  pos : ∀ r ∈ out, r.1 < r.2
  apart : out.Pairwise fun a b => a.2 < b.1
  cov : ∀ p, cov out p = cov pre p
  from_ : ∀ r ∈ out, ∃ s ∈ pre, s.1 = r.1 ∧ s.1 < s.2
theorem Mg.nil : Mg [] [] := ⟨by simp, .nil, fun _ => rfl, by simp⟩
theorem Mg.step {pre out : List Rng} {r : Rng} (h : Mg pre out) (hr : ∀ s ∈ pre, s.1 ≤ r.1) : Mg (pre ++ [r]) (mstep out r) := by
  unfold mstep
  by_cases h0 : r.2 ≤ r.1
  · rw [if_pos h0]
    refine ⟨h.pos, h.apart, fun p => ?_, fun q hq => ?_⟩
    · rw [cov_append, ← h.cov]
      have : Lv.cov [r] p = false := by
        unfold Lv.cov
        rw [List.any_cons, List.any_nil, Bool.or_false, ← Bool.not_eq_true, hit_iff]; omega
      rw [this, Bool.or_false]
    · obtain ⟨s, hs, e⟩ := h.from_ q hq
      exact ⟨s, by simp [hs], e⟩
  · rw [if_neg h0]
    cases hl : out.getLast? with
    | none =>
      rw [List.getLast?_eq_none_iff] at hl
      subst hl
      refine ⟨fun q hq => ?_, by simp, fun p => ?_, fun q hq => ?_⟩
      · rw [List.mem_singleton.1 hq]; omega
      · rw [cov_append, ← h.cov]; rfl
      · rw [List.mem_singleton.1 hq]; exact ⟨r, by simp, rfl, by omega⟩
    | some q =>
      obtain ⟨k, rfl⟩ : ∃ k, out = k ++ [q] := by
        rw [List.getLast?_eq_some_iff] at hl; exact hl
      have hap := h.apart
      rw [List.pairwise_append] at hap
      have hq := h.pos q (by simp)
      obtain ⟨s, hs, hs1, hs2⟩ := h.from_ q (by simp)
      have hqr : q.1 ≤ r.1 := by rw [← hs1]; exact hr s hs
      simp only [List.dropLast_concat]
      by_cases h1 : r.1 ≤ q.2
      · rw [if_pos h1]
        refine ⟨fun z hz => ?_, ?_, fun p => ?_, fun z hz => ?_⟩
        · rcases List.mem_append.1 hz with h2 | h2
          · exact h.pos z (by simp [h2])
          · rw [List.mem_singleton.1 h2]; show q.1 < max q.2 r.2; omega
        · rw [List.pairwise_append]
          exact ⟨hap.1, by simp, fun a ha b hb => by rw [List.mem_singleton.1 hb]; exact hap.2.2 a ha q (by simp)⟩
        · rw [cov_append, cov_append, ← h.cov, cov_append, Bool.or_assoc]
          congr 1
          unfold Lv.cov
          simp only [List.any_cons, List.any_nil, Bool.or_false]
          rw [Bool.eq_iff_iff, Bool.or_eq_true, hit_iff, hit_iff, hit_iff]
          show (q.1 ≤ p ∧ p < max q.2 r.2) ↔ _
          omega
        · rcases List.mem_append.1 hz with h2 | h2
          · obtain ⟨s', hs', e⟩ := h.from_ z (by simp [h2])
            exact ⟨s', by simp [hs'], e⟩
          · rw [List.mem_singleton.1 h2]; exact ⟨s, by simp [hs], hs1, hs2⟩
      · rw [if_neg h1]
        refine ⟨fun z hz => ?_, ?_, fun p => ?_, fun z hz => ?_⟩
        · rcases List.mem_append.1 hz with h2 | h2
          · exact h.pos z h2
          · rw [List.mem_singleton.1 h2]; omega
        · rw [List.pairwise_append]
          refine ⟨h.apart, by simp, fun a ha b hb => ?_⟩
          rw [List.mem_singleton.1 hb]
          rcases List.mem_append.1 ha with h2 | h2
          · have := hap.2.2 a h2 q (by simp); omega
          · rw [List.mem_singleton.1 h2]; omega
        · rw [cov_append, h.cov, cov_append]
        · rcases List.mem_append.1 hz with h2 | h2
          · obtain ⟨s', hs', e⟩ := h.from_ z h2
            exact ⟨s', by simp [hs'], e⟩
          · rw [List.mem_singleton.1 h2]; exact ⟨r, by simp, rfl, by omega⟩
/-- No two of a merged list hold one position. -/
theorem Mg.once {pre out : List Rng} (h : Mg pre out) (p : Int) : (out.filter (hit p)).length = if Lv.cov pre p then 1 else 0 := by
  rw [← h.cov p]
  have key : ∀ l : List Rng, (∀ r ∈ l, r.1 < r.2) → (l.Pairwise fun a b => a.2 < b.1) → (l.filter (hit p)).length = if Lv.cov l p then 1 else 0 := by
    intro l
    induction l with
    | nil => intro _ _; rfl
    | cons a l ih =>
      intro h1 h2
      rw [List.pairwise_cons] at h2
      have ih' := ih (fun r hr => h1 r (by simp [hr])) h2.2
      unfold Lv.cov
      rw [List.any_cons]
      cases ha : hit p a with
      | true =>
        have hn : l.filter (hit p) = [] := by
          rw [List.filter_eq_nil_iff]
          intro b hb hb1
          have h3 := h2.1 b hb
          rw [hit_iff] at ha hb1
          omega
        rw [List.filter_cons_of_pos ha, hn]; simp
      | false =>
        rw [List.filter_cons_of_neg (by simp [ha]), ih', Bool.false_or]; rfl
  exact key out h.pos h.apart

/-! ### The sweep -/

abbrev Turn := Int × Int
def TLe (a b : Turn) : Prop := a.1 < b.1 ∨ (a.1 = b.1 ∧ a.2 ≤ b.2)
def turnsOf (M : List Rng) : List Turn := M.flatMap fun r => [(r.1, 1), (r.2, -1)]
def sumT (l : List Turn) : Int := (l.map (·.2)).sum
def cntM (M : List Rng) (p : Int) : Int := ((M.filter (hit p)).length : Int)
theorem sumT_append (l k : List Turn) : sumT (l ++ k) = sumT l + sumT k := by unfold sumT; rw [List.map_append, List.sum_append]
theorem sumT_perm {l k : List Turn} (h : l.Perm k) : sumT l = sumT k := by
  unfold sumT
  induction h with
  | nil => rfl
  | cons x _ ih => simp only [List.map_cons, List.sum_cons, ih]
  | swap x y l => simp only [List.map_cons, List.sum_cons]; omega
  | trans _ _ ih1 ih2 => rw [ih1, ih2]
def upTo (p : Int) (t : Turn) : Bool := decide (t.1 < p) || (decide (t.1 = p) && decide (t.2 ≤ 1))
theorem upTo_iff {p : Int} {t : Turn} : upTo p t = true ↔ TLe t (p, 1) := by
  unfold upTo TLe
  rw [Bool.or_eq_true, Bool.and_eq_true, decide_eq_true_eq, decide_eq_true_eq, decide_eq_true_eq]
theorem sum_upTo : ∀ {M : List Rng}, (∀ r ∈ M, r.1 < r.2) → ∀ p, sumT ((turnsOf M).filter (upTo p)) = cntM M p
  | [], _, _ => rfl
  | r :: M, h, p => by
    have ih := sum_upTo (M := M) (fun q hq => h q (by simp [hq])) p
    have hr := h r (by simp)
    unfold turnsOf at ih ⊢
    unfold cntM at ih ⊢
    rw [List.flatMap_cons, List.filter_append, sumT_append, ih, List.filter_cons]
    have e1 : upTo p (r.1, 1) = decide (r.1 ≤ p) := by
      rw [Bool.eq_iff_iff, upTo_iff, decide_eq_true_eq]; unfold TLe; simp only; omega
    have e2 : upTo p (r.2, -1) = decide (r.2 ≤ p) := by
      rw [Bool.eq_iff_iff, upTo_iff, decide_eq_true_eq]; unfold TLe; simp only; omega
    simp only [List.filter_cons, e1, e2, List.filter_nil]
    unfold hit
    by_cases g1 : r.1 ≤ p
    · by_cases g2 : r.2 ≤ p
      · have g3 : ¬ p < r.2 := by omega
        simp [g1, g2, g3, sumT]
      · have g3 : p < r.2 := by omega
        simp [g1, g2, g3, sumT]; omega
    · have g2 : ¬ r.2 ≤ p := by omega
      simp [g1, g2, sumT]
/-- A sorted row's part up to p is one of its beginnings. -/
theorem filter_upTo {T : List Turn} (hs : T.Pairwise TLe) (p : Int) : ∃ post, T = T.filter (upTo p) ++ post := by
  induction T with
  | nil => exact ⟨[], rfl⟩
  | cons t T ih =>
    rw [List.pairwise_cons] at hs
    cases ht : upTo p t with
    | true =>
      obtain ⟨post, h⟩ := ih hs.2
      exact ⟨post, by rw [List.filter_cons_of_pos ht, List.cons_append, ← h]⟩
    | false =>
      refine ⟨t :: T, ?_⟩
      have hn : T.filter (upTo p) = [] := by
        rw [List.filter_eq_nil_iff]
        intro s hs1 hs2
        have h1 := hs.1 s hs1
        rw [upTo_iff] at hs2
        have : upTo p t = true := by rw [upTo_iff]; unfold TLe at *; omega
        rw [ht] at this; cases this
      rw [List.filter_cons_of_neg (by simp [ht]), hn]; rfl
/-- The sweep: now and most. -/
structure Sw (M : List Rng) (pre : List Turn) (now most : Int) : Prop where
  now : now = sumT pre
  up : ∀ a b, pre = a ++ b → sumT a ≤ most
  at_ : most = 0 ∨ ∃ r ∈ M, most ≤ cntM M r.1
theorem Sw.nil (M : List Rng) : Sw M [] 0 0 := ⟨rfl, fun a b h => by
  have : a = [] := by cases a with | nil => rfl | cons x a => cases h
  rw [this]; exact Int.le_refl _, .inl rfl⟩
theorem Sw.zero {M : List Rng} {pre : List Turn} {now most : Int} (h : Sw M pre now most) : 0 ≤ most := h.up [] pre rfl
theorem Sw.step {M : List Rng} (hM : ∀ r ∈ M, r.1 < r.2) {T pre post : List Turn} {t : Turn} {now most : Int} (hp : T.Perm (turnsOf M)) (hs : T.Pairwise TLe) (hT : T = pre ++ t :: post) (h : Sw M pre now most) :
    Sw M (pre ++ [t]) (now + t.2) (max most (now + t.2)) := by
  have hnow : now + t.2 = sumT (pre ++ [t]) := by rw [sumT_append, ← h.now]; simp [sumT]
  refine ⟨hnow, fun a b hab => ?_, ?_⟩
  · rcases List.eq_nil_or_concat b with rfl | ⟨b', z, rfl⟩
    · rw [List.append_nil] at hab
      rw [← hab, ← hnow]; omega
    · rw [List.concat_eq_append, ← List.append_assoc] at hab
      have h1 := List.append_inj' hab rfl
      have := h.up a b' h1.1
      omega
  · by_cases hle : now + t.2 ≤ most
    · rw [Int.max_eq_left hle]; exact h.at_
    · rw [Int.max_eq_right (by omega)]
      right
      have ht : t ∈ turnsOf M := hp.mem_iff.1 (by rw [hT]; simp)
      unfold turnsOf at ht
      obtain ⟨r, hr, ht⟩ := List.mem_flatMap.1 ht
      simp only [List.mem_cons, List.not_mem_nil, or_false] at ht
      rcases ht with rfl | rfl
      · refine ⟨r, hr, ?_⟩
        rw [← sum_upTo hM, ← sumT_perm (hp.filter (upTo r.1)), hnow]
        have hpw := hs
        rw [hT, List.pairwise_append] at hpw
        have e1 : (pre ++ [(r.1, (1 : Int))]).filter (upTo r.1) = pre ++ [(r.1, (1 : Int))] := by
          rw [List.filter_eq_self]
          intro s hs1
          rw [upTo_iff]
          rcases List.mem_append.1 hs1 with h2 | h2
          · exact hpw.2.2 s h2 _ (by simp)
          · rw [List.mem_singleton.1 h2]; unfold TLe; simp
        rw [hT, show pre ++ (r.1, (1 : Int)) :: post = (pre ++ [(r.1, (1 : Int))]) ++ post by simp, List.filter_append, e1]
        have h9 := sumT_append (pre ++ [(r.1, (1 : Int))]) (post.filter (upTo r.1))
        have h3 : 0 ≤ sumT (post.filter (upTo r.1)) := by
          unfold sumT
          have hall : ∀ s ∈ post.filter (upTo r.1), s.2 = 1 := fun s hs1 => by
            obtain ⟨h4, h5⟩ := List.mem_filter.1 hs1
            rw [upTo_iff] at h5
            have h6 := (List.pairwise_cons.1 hpw.2.1).1 s h4
            unfold TLe at h5 h6
            simp only at h5 h6
            omega
          generalize post.filter (upTo r.1) = z at hall
          induction z with
          | nil => simp
          | cons s z ih =>
            rw [List.map_cons, List.sum_cons, hall s (by simp)]
            have := ih (fun q hq => hall q (by simp [hq]))
            omega
        omega
      · exfalso
        have := h.up pre [] (by simp)
        rw [← h.now] at this
        simp only at hle
        omega
/-- What the sweep finds. -/
theorem Sw.end_ {M : List Rng} (hM : ∀ r ∈ M, r.1 < r.2) {T : List Turn} {now most : Int} (hp : T.Perm (turnsOf M)) (hs : T.Pairwise TLe) (h : Sw M T now most) : (∀ p, cntM M p ≤ most) ∧ (most = 0 ∨ ∃ r ∈ M, most = cntM M r.1) := by
  have h1 : ∀ p, cntM M p ≤ most := fun p => by
    obtain ⟨post, e⟩ := filter_upTo hs p
    have := h.up _ post e
    rwa [sumT_perm (hp.filter (upTo p)), sum_upTo hM] at this
  refine ⟨h1, ?_⟩
  rcases h.at_ with h2 | ⟨r, hr, h2⟩
  · exact .inl h2
  · exact .inr ⟨r, hr, Int.le_antisymm h2 (h1 r.1)⟩

/-! ### Counted -/

theorem Mg.perm {pre pre' out : List Rng} (h : Mg pre out) (hp : pre.Perm pre') : Mg pre' out :=
  ⟨h.pos, h.apart, fun p => by
    rw [h.cov]
    unfold Lv.cov
    rw [Bool.eq_iff_iff, List.any_eq_true, List.any_eq_true]
    constructor
    · rintro ⟨x, hx, e⟩; exact ⟨x, hp.mem_iff.1 hx, e⟩
    · rintro ⟨x, hx, e⟩; exact ⟨x, hp.mem_iff.2 hx, e⟩, fun r hr => by
    obtain ⟨s, hs, e⟩ := h.from_ r hr
    exact ⟨s, hp.mem_iff.1 hs, e⟩⟩
def cntL (L : List (List Rng)) (p : Int) : Int := ((L.filter fun x => cov x p).length : Int)
/-- Each of Ms is a merge of its fellow of L. -/
inductive MgAll : List (List Rng) → List (List Rng) → Prop
  | nil : MgAll [] []
  | cons {x m L Ms} : Mg x m → MgAll L Ms → MgAll (x :: L) (m :: Ms)
theorem MgAll.count {L Ms : List (List Rng)} (h : MgAll L Ms) (p : Int) : cntM Ms.flatten p = cntL L p := by
  induction h with
  | nil => rfl
  | @cons x m L Ms hm _ ih =>
    have h1 := hm.once p
    unfold cntM cntL at *
    rw [List.flatten_cons, List.filter_append, List.length_append, List.filter_cons]
    cases hc : cov x p with
    | true => rw [hc] at h1; simp only [if_true] at h1 ⊢; rw [List.length_cons]; omega
    | false => rw [hc] at h1; simp only [Bool.false_eq_true, if_false] at h1 ⊢; omega
theorem MgAll.pos {L Ms : List (List Rng)} (h : MgAll L Ms) : ∀ r ∈ Ms.flatten, r.1 < r.2 := by
  induction h with
  | nil => simp
  | cons hm _ ih =>
    intro r hr
    rw [List.flatten_cons] at hr
    rcases List.mem_append.1 hr with h1 | h1
    · exact hm.pos r h1
    · exact ih r h1
theorem MgAll.from_ {L Ms : List (List Rng)} (h : MgAll L Ms) : ∀ r ∈ Ms.flatten, ∃ x ∈ L, ∃ s ∈ x, s.1 = r.1 := by
  induction h with
  | nil => simp
  | cons hm _ ih =>
    intro r hr
    rw [List.flatten_cons] at hr
    rcases List.mem_append.1 hr with h1 | h1
    · obtain ⟨s, hs, e, _⟩ := hm.from_ r h1
      exact ⟨_, by simp, s, hs, e⟩
    · obtain ⟨x, hx, s, hs, e⟩ := ih r h1
      exact ⟨x, by simp [hx], s, hs, e⟩
theorem MgAll.snoc {L Ms : List (List Rng)} (h : MgAll L Ms) {x m : List Rng} (hm : Mg x m) : MgAll (L ++ [x]) (Ms ++ [m]) := by
  induction h with
  | nil => exact .cons hm .nil
  | cons h1 _ ih => exact .cons h1 ih
/-- What the reference counts. -/
structure RefM (L : List (List Rng)) (m : Int) : Prop where
  zero : 0 ≤ m
  up : ∀ x ∈ L, ∀ r ∈ x, cntL L r.1 ≤ m
  at_ : m = 0 ∨ ∃ x ∈ L, ∃ r ∈ x, m = cntL L r.1
theorem most_eq {L Ms : List (List Rng)} (h : MgAll L Ms) {T : List Turn} {now most m : Int} (hp : T.Perm (turnsOf Ms.flatten)) (hs : T.Pairwise TLe) (hsw : Sw Ms.flatten T now most) (hr : RefM L m) : most = m := by
  obtain ⟨h1, h2⟩ := hsw.end_ h.pos hp hs
  have h0 := hsw.zero
  apply Int.le_antisymm
  · rcases h2 with h2 | ⟨r, hrm, h2⟩
    · rw [h2]; exact hr.zero
    · obtain ⟨x, hx, s, hs1, e⟩ := h.from_ r hrm
      rw [h2, h.count, ← e]
      exact hr.up x hx s hs1
  · rcases hr.at_ with h3 | ⟨x, _, r, _, h3⟩
    · rw [h3]; exact h0
    · rw [h3, ← h.count]; exact h1 r.1
end Go.Proofs.Ytjpmiejgcnfiiaa.Lv
