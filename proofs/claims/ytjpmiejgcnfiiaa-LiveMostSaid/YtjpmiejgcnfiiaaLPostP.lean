/-
  Depth first, plain: to each node leads a path of nodes that are left behind it.
-/
import Derived.Test.YtjpmiejgcnfiiaaLOrderP
set_option linter.unusedVariables false
set_option linter.unusedSimpArgs false
namespace Go.Proofs.Ytjpmiejgcnfiiaa.Lv

/-- A path from c to x; in front of x the nodes of the list. -/
inductive Pth (N : List (List Nat)) : Nat → List Nat → Nat → Prop
  | refl (x) : Pth N x [] x
  | step {c c' vs x} : c' ∈ N.getD c [] → Pth N c' vs x → Pth N c (c :: vs) x
/-- y comes behind x in e. -/
def After (e : List Nat) (x y : Nat) : Prop := ∃ e1 e2, e = e1 ++ x :: e2 ∧ y ∈ e2
theorem After.left {e : List Nat} {x y : Nat} (h : After e x y) (k : List Nat) : After (k ++ e) x y := by
  obtain ⟨e1, e2, rfl, hy⟩ := h
  exact ⟨k ++ e1, e2, by simp, hy⟩
theorem After.right {e : List Nat} {x y : Nat} (h : After e x y) (k : List Nat) : After (e ++ k) x y := by
  obtain ⟨e1, e2, rfl, hy⟩ := h
  exact ⟨e1, e2 ++ k, by simp, by simp [hy]⟩
theorem After.cross {e k : List Nat} {x y : Nat} (hx : x ∈ e) (hy : y ∈ k) : After (e ++ k) x y := by
  obtain ⟨e1, e2, rfl⟩ := List.append_of_mem hx
  exact ⟨e1, e2 ++ k, by simp, by simp [hy]⟩
variable {N : List (List Nat)}
theorem Vis.paths {l : List Nat} {m : List Bool} {d : List Nat} {m' : List Bool} {d' : List Nat} (h : Vis N l m d m' d') :
    ∃ e, d' = d ++ e ∧ ∀ x ∈ e, ∃ c ∈ l, ∃ vs, Pth N c vs x ∧ ∀ y ∈ vs, After e x y := by
  induction h with
  | nil m d => exact ⟨[], by simp, by simp⟩
  | skip _ _ ih =>
    obtain ⟨e, h1, h2⟩ := ih
    refine ⟨e, h1, fun x hx => ?_⟩
    obtain ⟨c, hc, vs, h3⟩ := h2 x hx
    exact ⟨c, by simp [hc], vs, h3⟩
  | @go c l m d m1 d1 m' d' _ _ _ ih1 ih2 =>
    obtain ⟨e1, rfl, h1⟩ := ih1
    obtain ⟨e2, rfl, h2⟩ := ih2
    refine ⟨e1 ++ [c] ++ e2, by simp, fun x hx => ?_⟩
    rcases List.mem_append.1 hx with hx | hx
    · rcases List.mem_append.1 hx with hx1 | hx1
      · obtain ⟨c1, hc1, vs, hp, ha⟩ := h1 x hx1
        refine ⟨c, by simp, c :: vs, .step hc1 hp, fun y hy => ?_⟩
        rcases List.mem_cons.1 hy with rfl | hy
        · exact (show After (e1 ++ [y]) x y from After.cross hx1 (List.mem_singleton.2 rfl)).right e2
        · exact ((ha y hy).right [c]).right e2
      · have : x = c := by simpa using hx1
        subst this
        exact ⟨x, by simp, [], .refl x, by simp⟩
    · obtain ⟨c2, hc2, vs, hp, ha⟩ := h2 x hx
      exact ⟨c2, by simp [hc2], vs, hp, fun y hy => (ha y hy).left _⟩
/-- In the order in which the nodes are left: to each leads a path from the root, of nodes that are left behind it. -/
theorem IsPost.paths {d : List Nat} (h : IsPost N d) {x : Nat} (hx : x ∈ d) : ∃ vs, Pth N 0 vs x ∧ ∀ y ∈ vs, After d x y := by
  obtain ⟨m', d1, h1, rfl⟩ := h
  obtain ⟨e, he, h2⟩ := h1.paths
  have he' : d1 = e := by simpa using he
  subst he'
  rcases List.mem_append.1 hx with hx1 | hx1
  · obtain ⟨c, hc, vs, hp, ha⟩ := h2 x hx1
    refine ⟨0 :: vs, .step hc hp, fun y hy => ?_⟩
    rcases List.mem_cons.1 hy with rfl | hy
    · exact After.cross hx1 (List.mem_singleton.2 rfl)
    · exact (ha y hy).right [0]
  · have : x = 0 := by simpa using hx1
    subst this
    exact ⟨[], .refl 0, by simp⟩
/-- Each node is left once. -/
theorem IsPost.nodup {d : List Nat} (h : IsPost N d) (hN : 0 < N.length) : d.Nodup ∧ 0 ∈ d ∧ ∀ x ∈ d, x < N.length := by
  obtain ⟨m', d1, h1, rfl⟩ := h
  obtain ⟨e, he, n1, s1, _⟩ := h1.marks
  have he' : d1 = e := by simpa using he
  subst he'
  have h0 : ((List.replicate N.length false).set 0 true).getD 0 true = true := by
    rw [List.getD_eq_getElem?_getD, List.getElem?_set_self (by simpa using hN)]; rfl
  refine ⟨?_, by simp, fun x hx => ?_⟩
  · rw [List.nodup_append]
    refine ⟨n1, by simp, fun a ha b hb e => ?_⟩
    have hb' : b = 0 := by simpa using hb
    have h2 := (s1 a).1 ha
    rw [e, hb', h0] at h2
    cases h2.1
  · rcases List.mem_append.1 hx with hx | hx
    · have h2 := getD_false_lt ((s1 x).1 hx).1
      simpa using h2
    · have : x = 0 := by simpa using hx
      rw [this]; exact hN
/-- All that the nodes lead to are left, too. -/
theorem Vis.closed {l : List Nat} {m : List Bool} {d : List Nat} {m' : List Bool} {d' : List Nat} (h : Vis N l m d m' d') : (∀ c ∈ l, m'.getD c true = true) ∧ ∀ x, m.getD x true = false → m'.getD x true = true → ∀ c ∈ N.getD x [], m'.getD c true = true := by
  induction h with
  | nil m d => exact ⟨by simp, fun x h1 h2 => by rw [h1] at h2; cases h2⟩
  | @skip c l m d m' d' hs hv ih =>
    refine ⟨fun c' hc' => ?_, ih.2⟩
    rcases List.mem_cons.1 hc' with rfl | hc'
    · obtain ⟨_, _, _, _, k⟩ := hv.marks
      exact k _ hs
    · exact ih.1 c' hc'
  | @go c l m d m1 d1 m' d' hs h1 h2 ih1 ih2 =>
    obtain ⟨_, _, _, _, k1⟩ := h1.marks
    obtain ⟨_, _, _, _, k2⟩ := h2.marks
    have hcl := getD_false_lt hs
    have hset : ∀ x, (m.set c true).getD x true = if x = c then true else m.getD x true := fun x => by
      rw [List.getD_eq_getElem?_getD, List.getD_eq_getElem?_getD, List.getElem?_set]
      by_cases e : c = x
      · subst e; simp [hcl]
      · rw [if_neg e, if_neg (fun h => e h.symm)]
    refine ⟨fun c' hc' => ?_, fun x hx hx' y hy => ?_⟩
    · rcases List.mem_cons.1 hc' with rfl | hc'
      · exact k2 _ (k1 _ (by rw [hset, if_pos rfl]))
      · exact ih2.1 c' hc'
    · by_cases e : x = c
      · rw [e] at hy
        exact k2 _ (ih1.1 y hy)
      · cases h5 : m1.getD x true with
        | true => exact k2 _ (ih1.2 x (by rw [hset, if_neg e]; exact hx) h5 y hy)
        | false => exact ih2.2 x h5 hx' y hy
end Go.Proofs.Ytjpmiejgcnfiiaa.Lv
