/-
  Graphs as lists of rows; the depth first walk and the order in which it leaves the nodes. No program in sight.
-/
import Derived.Test.YthjlfbeabobgmaaDTree
namespace Go.Proofs.Ythjlfbeabobgmaa.Dom

abbrev Gr := List (List Int)
/-- An edge between nodes. -/
def Ed (N : Gr) (a b : Nat) : Prop := a < N.length ∧ b < N.length ∧ (b : Int) ∈ N.getD a []

theorem Ed.of_get {N : Gr} {a b k : Nat} (ha : a < N.length) (hb : b < N.length) (h : (N.getD a [])[k]? = some (b : Int)) : Ed N a b := ⟨ha, hb, List.mem_of_getElem? h⟩
theorem Ed.get {N : Gr} {a b : Nat} (h : Ed N a b) : ∃ k, k < (N.getD a []).length ∧ (N.getD a [])[k]? = some (b : Int) := by
  obtain ⟨k, hk, e⟩ := List.getElem_of_mem h.2.2
  exact ⟨k, hk, by rw [List.getElem?_eq_getElem hk, e]⟩

/-- The stack, innermost first, is a path from 0. -/
def Path (N : Gr) : List (Nat × Nat) → Prop
  | [] => True
  | [s] => s.1 = 0
  | s :: t :: r => Ed N t.1 s.1 ∧ Path N (t :: r)

theorem Path.tail {N : Gr} {s : Nat × Nat} {r : List (Nat × Nat)} (h : Path N (s :: r)) : Path N r := by
  cases r with
  | nil => trivial
  | cons t r => exact h.2
theorem Path.head {N : Gr} {x k l : Nat} {r : List (Nat × Nat)} (h : Path N ((x, k) :: r)) : Path N ((x, l) :: r) := by
  cases r with
  | nil => exact h
  | cons t r => exact h

/-- Met: left or on the stack. -/
def Met (st : List (Nat × Nat)) (out : List Nat) (x : Nat) : Prop := x ∈ out ∨ x ∈ st.map (·.1)

structure Dfs (N : Gr) (st : List (Nat × Nat)) (out : List Nat) (seen : List Bool) : Prop where
  len : seen.length = N.length
  mem : ∀ x, x < N.length → (seen.getD x false = true ↔ Met st out x)
  nodup : (out ++ st.map (·.1)).Nodup
  lt : ∀ x, Met st out x → x < N.length
  reach : ∀ x, Met st out x → R (Ed N) x
  path : Path N st
  root : st = [] → N ≠ [] → ∃ l, out = l ++ [0]
  done : ∀ x, x ∈ out → ∀ b, Ed N x b → Met st out b
  part : ∀ s, s ∈ st → ∀ j, j < s.2 → ∀ b : Nat, (N.getD s.1 [])[j]? = some (b : Int) → b < N.length → Met st out b
  parent : ∀ l x r, out = l ++ x :: r → x ≠ 0 → ∃ p, Ed N p x ∧ Met st r p
  cnt : out.length + st.length + seen.count false = N.length

theorem count_mark {seen : List Bool} {b : Nat} (hlt : b < seen.length) (hs : seen.getD b false = false) : (seen.set b true).count false + 1 = seen.count false := by
  have h1 : seen[b] = false := by
    rw [List.getD_eq_getElem?_getD, List.getElem?_eq_getElem hlt] at hs; exact hs
  have hm : false ∈ seen := h1 ▸ List.getElem_mem hlt
  have hp := List.count_pos_iff.2 hm
  rw [List.count_set hlt, h1]
  simp
  omega

section
variable {N : Gr} {st : List (Nat × Nat)} {r : List (Nat × Nat)} {out : List Nat} {seen : List Bool} {x k b : Nat}

theorem met_head {l : Nat} {y : Nat} : Met ((x, k) :: r) out y ↔ Met ((x, l) :: r) out y := by simp [Met]
theorem met_push {y l : Nat} : Met ((b, l) :: st) out y ↔ y = b ∨ Met st out y := by
  simp only [Met, List.map_cons, List.mem_cons]
  constructor
  · rintro (h | h | h)
    · exact .inr (.inl h)
    · exact .inl h
    · exact .inr (.inr h)
  · rintro (h | h | h)
    · exact .inr (.inl h)
    · exact .inl h
    · exact .inr (.inr h)
theorem met_pop {y : Nat} : Met r (out ++ [x]) y ↔ Met ((x, k) :: r) out y := by
  simp only [Met, List.map_cons, List.mem_cons, List.mem_append, List.not_mem_nil, or_false]
  constructor
  · rintro ((h | h) | h)
    · exact .inl h
    · exact .inr (.inl h)
    · exact .inr (.inr h)
  · rintro (h | h | h)
    · exact .inl (.inl h)
    · exact .inl (.inr h)
    · exact .inr h

theorem Dfs.empty : Dfs [] [] [] [] where
  len := rfl
  mem := fun x hx => absurd hx (Nat.not_lt_zero _)
  nodup := List.nodup_nil
  lt := fun x h => by simp [Met] at h
  reach := fun x h => by simp [Met] at h
  path := trivial
  root := fun _ h => absurd rfl h
  done := fun x h => by simp at h
  part := fun s h => by simp at h
  parent := fun l x r h => by simp at h
  cnt := rfl

theorem Dfs.start (hN : N ≠ []) : Dfs N [(0, 0)] [] ((List.replicate N.length false).set 0 true) where
  len := by simp
  mem := fun x hx => by
    simp only [Met, List.map_cons, List.map_nil, List.mem_singleton, List.not_mem_nil, false_or]
    rw [List.getD_eq_getElem?_getD, List.getElem?_set]
    by_cases h : 0 = x
    · subst h; simp [hx]
    · simp [h, hx]; omega
  nodup := by simp
  lt := fun x h => by
    simp [Met] at h
    subst h
    exact List.length_pos_iff.2 hN
  reach := fun x h => by
    simp [Met] at h
    subst h
    exact .root
  path := rfl
  root := fun h => by cases h
  done := fun x h => by simp at h
  part := fun s h j hj => by
    simp at h
    subst h
    exact absurd hj (Nat.not_lt_zero _)
  parent := fun l x r h => by simp at h
  cnt := by
    have h0 : 0 < N.length := List.length_pos_iff.2 hN
    have := count_mark (seen := List.replicate N.length false) (b := 0) (by simpa using h0) (by simp [h0])
    rw [List.count_replicate_self] at this
    simp only [List.length_nil, List.length_singleton]
    omega

theorem Dfs.top_lt (h : Dfs N ((x, k) :: r) out seen) : x < N.length := h.lt x (.inr (by simp))

/-- An edge that leads nowhere new. -/
theorem Dfs.skip (h : Dfs N ((x, k) :: r) out seen) (hs : ∀ b : Nat, (N.getD x [])[k]? = some (b : Int) → b < N.length → seen.getD b false = true) : Dfs N ((x, k + 1) :: r) out seen where
  len := h.len
  mem := fun y hy => (h.mem y hy).trans met_head
  nodup := h.nodup
  lt := fun y hy => h.lt y (met_head.1 hy)
  reach := fun y hy => h.reach y (met_head.1 hy)
  path := h.path.head
  root := fun e => by cases e
  done := fun y hy b hb => met_head.1 (h.done y hy b hb)
  part := fun s hs' j hj b hb hlt => by
    rcases List.mem_cons.1 hs' with rfl | h1
    · rcases Nat.lt_or_ge j k with h2 | h2
      · exact met_head.1 (h.part (x, k) (by simp) j h2 b hb hlt)
      · obtain rfl : j = k := by simp at hj; omega
        exact met_head.1 ((h.mem b hlt).1 (hs b hb hlt))
    · exact met_head.1 (h.part s (List.mem_cons_of_mem _ h1) j hj b hb hlt)
  parent := fun l y r' e hy => by
    obtain ⟨p, h1, h2⟩ := h.parent l y r' e hy
    exact ⟨p, h1, met_head.1 h2⟩
  cnt := h.cnt

/-- An edge to a new node. -/
theorem Dfs.push (h : Dfs N ((x, k) :: r) out seen) (hb : (N.getD x [])[k]? = some (b : Int)) (hlt : b < N.length) (hs : seen.getD b false = false) :
    Dfs N ((b, 0) :: (x, k + 1) :: r) out (seen.set b true) where
  len := by simpa using h.len
  mem := fun y hy => by
    rw [met_push, List.getD_eq_getElem?_getD, List.getElem?_set]
    by_cases e : b = y
    · subst e; simp [h.len, hlt]
    · rw [if_neg e, ← List.getD_eq_getElem?_getD, h.mem y hy]
      exact ⟨fun h1 => .inr (met_head.1 h1), fun h1 => h1.elim (fun e1 => absurd e1.symm e) met_head.1⟩
  nodup := by
    have hn : ¬ Met ((x, k) :: r) out b := fun hm => by
      have := (h.mem b hlt).2 hm
      rw [hs] at this; cases this
    have h0 := h.nodup
    rw [List.nodup_append] at h0 ⊢
    refine ⟨h0.1, ?_, ?_⟩
    · rw [List.map_cons, List.nodup_cons]
      exact ⟨fun hm => hn (.inr (by simpa using hm)), by simpa using h0.2.1⟩
    · intro a ha c hc
      rw [List.map_cons, List.mem_cons] at hc
      rcases hc with rfl | hc
      · intro e; subst e; exact hn (.inl ha)
      · exact h0.2.2 a ha c (by simpa using hc)
  lt := fun y hy => by
    rcases met_push.1 hy with rfl | h1
    · exact hlt
    · exact h.lt y (met_head.1 h1)
  reach := fun y hy => by
    rcases met_push.1 hy with rfl | h1
    · exact .step (h.reach x (.inr (by simp))) (Ed.of_get h.top_lt hlt hb)
    · exact h.reach y (met_head.1 h1)
  path := ⟨Ed.of_get h.top_lt hlt hb, h.path.head⟩
  root := fun e => by cases e
  done := fun y hy b' hb' => met_push.2 (.inr (met_head.1 (h.done y hy b' hb')))
  part := fun s hs' j hj c hc hlt' => by
    rcases List.mem_cons.1 hs' with rfl | h1
    · exact absurd hj (Nat.not_lt_zero _)
    · rcases List.mem_cons.1 h1 with rfl | h2
      · rcases Nat.lt_or_ge j k with h3 | h3
        · exact met_push.2 (.inr (met_head.1 (h.part (x, k) (by simp) j h3 c hc hlt')))
        · obtain rfl : j = k := by simp at hj; omega
          simp only at hc
          rw [hb] at hc
          injection hc with hc
          exact met_push.2 (.inl (by omega))
      · exact met_push.2 (.inr (met_head.1 (h.part s (List.mem_cons_of_mem _ h2) j hj c hc hlt')))
  parent := fun l y r' e hy => by
    obtain ⟨p, h1, h2⟩ := h.parent l y r' e hy
    exact ⟨p, h1, met_push.2 (.inr (met_head.1 h2))⟩
  cnt := by
    have h1 := count_mark (by rw [h.len]; exact hlt) hs
    have h2 := h.cnt
    simp only [List.length_cons] at h2 ⊢
    omega

/-- A node all of whose edges have been followed is left. -/
theorem Dfs.pop (h : Dfs N ((x, k) :: r) out seen) (hk : (N.getD x []).length ≤ k) : Dfs N r (out ++ [x]) seen where
  len := h.len
  mem := fun y hy => (h.mem y hy).trans met_pop.symm
  nodup := by
    have h0 := h.nodup
    rw [List.map_cons] at h0
    rw [List.append_assoc]
    exact h0
  lt := fun y hy => h.lt y (met_pop.1 hy)
  reach := fun y hy => h.reach y (met_pop.1 hy)
  path := h.path.tail
  root := fun e _ => by
    subst e
    have : x = 0 := h.path
    exact ⟨out, by rw [this]⟩
  done := fun y hy b hb => met_pop.2 (by
    rcases List.mem_append.1 hy with h1 | h1
    · exact h.done y h1 b hb
    · obtain rfl : y = x := by simpa using h1
      obtain ⟨j, hj, e⟩ := hb.get
      exact h.part (y, k) (by simp) j (by simp; omega) b e hb.2.1)
  part := fun s hs j hj b hb hlt => met_pop.2 (h.part s (List.mem_cons_of_mem _ hs) j hj b hb hlt)
  parent := fun l y r' e hy => by
    rcases List.eq_nil_or_concat r' with rfl | ⟨r'', z, rfl⟩
    · have e1 : out ++ [x] = l ++ [y] := e
      obtain ⟨rfl, e2⟩ := List.append_inj' e1 rfl
      obtain rfl : x = y := by simpa using e2
      have hp := h.path
      cases r with
      | nil => exact absurd hp hy
      | cons t r => exact ⟨t.1, hp.1, .inr (by simp)⟩
    · have e1 : out ++ [x] = (l ++ y :: r'') ++ [z] := by rw [e]; simp
      obtain ⟨rfl, e2⟩ := List.append_inj' e1 rfl
      obtain rfl : x = z := by simpa using e2
      obtain ⟨p, h1, h2⟩ := h.parent l y r'' rfl hy
      exact ⟨p, h1, by simpa using met_pop.2 h2⟩
  cnt := by
    have h2 := h.cnt
    simp only [List.length_cons, List.length_append, List.length_nil] at h2 ⊢
    omega

/-- What the walk yields. -/
structure Post (N : Gr) (out : List Nat) : Prop where
  nodup : out.Nodup
  lt : ∀ x, x ∈ out → x < N.length
  mem : ∀ x, x ∈ out ↔ N ≠ [] ∧ R (Ed N) x
  last : N ≠ [] → ∃ l, out = l ++ [0]
  parent : ∀ l x r, out = l ++ x :: r → x ≠ 0 → ∃ p, p ∈ r ∧ Ed N p x
  len : out.length ≤ N.length

theorem Dfs.post (h : Dfs N [] out seen) : Post N out where
  nodup := by simpa using h.nodup
  lt := fun x hx => h.lt x (.inl hx)
  mem := fun x => by
    constructor
    · intro hx
      refine ⟨fun e => ?_, h.reach x (.inl hx)⟩
      have := h.lt x (.inl hx)
      rw [e] at this
      exact Nat.not_lt_zero _ this
    · rintro ⟨hN, hR⟩
      induction hR with
      | root =>
        obtain ⟨l, e⟩ := h.root rfl hN
        rw [e]; simp
      | step _ he ih => simpa [Met] using h.done _ ih _ he
  last := h.root rfl
  parent := fun l x r e hx => by
    obtain ⟨p, h1, h2⟩ := h.parent l x r e hx
    exact ⟨p, by simpa [Met] using h2, h1⟩
  len := by have := h.cnt; omega

/-- What is still to come, at most. -/
def fuel (seen : List Bool) (st : List (Nat × Nat)) : Nat := 2 * seen.count false + st.length
theorem fuel_pop : fuel seen r < fuel seen ((x, k) :: r) := by unfold fuel; simp
theorem fuel_push (hlt : b < seen.length) (hs : seen.getD b false = false) : fuel (seen.set b true) ((b, 0) :: (x, k + 1) :: r) < fuel seen ((x, k) :: r) := by
  have := count_mark hlt hs
  unfold fuel
  simp only [List.length_cons]
  omega
end

/-! ### Ranks -/
/-- The place in the postorder. -/
def rk (post : List Nat) (x : Nat) : Nat := post.idxOf x
theorem rk_lt {post : List Nat} {x : Nat} (h : x ∈ post) : rk post x < post.length := List.idxOf_lt_length_iff.2 h
theorem rk_get {post : List Nat} {x : Nat} (h : x ∈ post) : post[rk post x]? = some x := by
  rw [List.getElem?_eq_getElem (rk_lt h)]
  simp [rk]
theorem rk_of {post : List Nat} (hn : post.Nodup) {i : Nat} {x : Nat} (h : post[i]? = some x) : rk post x = i := by
  obtain ⟨hi, e⟩ := List.getElem?_eq_some_iff.1 h
  subst e
  exact List.Nodup.idxOf_getElem hn i hi
theorem rk_inj {post : List Nat} {x y : Nat} (hx : x ∈ post) (hy : y ∈ post) (h : rk post x = rk post y) : x = y := by
  have h1 := rk_get hx
  rw [h, rk_get hy] at h1
  injection h1 with h1
  exact h1.symm

section
variable {N : Gr} {post : List Nat} (h : Post N post)
include h
theorem Post.root_rk (hN : N ≠ []) : 0 ∈ post ∧ rk post 0 + 1 = post.length := by
  obtain ⟨l, rfl⟩ := h.last hN
  refine ⟨by simp, ?_⟩
  rw [rk_of h.nodup (i := l.length) (by simp)]
  simp
theorem Post.rk_le {x : Nat} (hx : x ∈ post) (h0 : x ≠ 0) : rk post x < rk post 0 := by
  have hN := ((h.mem x).1 hx).1
  obtain ⟨h1, h2⟩ := h.root_rk hN
  have h3 := rk_lt hx
  rcases Nat.lt_or_ge (rk post x) (rk post 0) with h4 | h4
  · exact h4
  · exact absurd (rk_inj hx h1 (by omega)) h0
theorem Post.pred {x : Nat} (hx : x ∈ post) (h0 : x ≠ 0) : ∃ p, p ∈ post ∧ Ed N p x ∧ rk post x < rk post p := by
  obtain ⟨l, r, e⟩ := List.append_of_mem hx
  obtain ⟨p, h1, h2⟩ := h.parent l x r e h0
  have hp : p ∈ post := by rw [e]; simp [h1]
  refine ⟨p, hp, h2, ?_⟩
  obtain ⟨j, hj, ej⟩ := List.getElem_of_mem h1
  have e1 : rk post x = l.length := rk_of h.nodup (by rw [e]; simp)
  have e2 : rk post p = l.length + (j + 1) := rk_of h.nodup (by rw [e, List.getElem?_append_right (by omega)]; simp [hj, ej])
  omega
end
end Go.Proofs.Ythjlfbeabobgmaa.Dom
