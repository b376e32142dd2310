/-
  The stable sort, plain: rows of numbers as functions of the place; exchanges; what is sorted.
-/
import Derived.Test.YtigidchignlpmaaRPlain
namespace Go.Proofs.Ytigidchignlpmaa.Rg

abbrev Row := Nat → Nat
def rowL (n : Nat) (d : Row) : List Nat := (List.range n).map d
/-- Two exchanged. -/
def sw (d : Row) (i j : Nat) : Row := fun x => if x = i then d j else if x = j then d i else d x
theorem sw_left (d : Row) (i j : Nat) : sw d i j i = d j := by simp [sw]
theorem sw_right (d : Row) (i j : Nat) : sw d i j j = d i := by unfold sw; split <;> simp_all
theorem sw_else (d : Row) {i j x : Nat} (h : x ≠ i) (h' : x ≠ j) : sw d i j x = d x := by simp [sw, h, h']
theorem rowL_len (n : Nat) (d : Row) : (rowL n d).length = n := by simp [rowL]
theorem rowL_get (n : Nat) (d : Row) {i : Nat} (h : i < n) : (rowL n d)[i]? = some (d i) := by simp [rowL, h]
theorem rowL_set (n : Nat) (d : Row) (i v : Nat) : (rowL n d).set i v = rowL n (fun x => if x = i then v else d x) := by
  refine List.ext_getElem (by simp [rowL]) fun k h1 h2 => ?_
  rw [List.getElem_set]
  simp only [rowL, List.getElem_map, List.getElem_range]
  by_cases h : i = k
  · subst h; simp
  · rw [if_neg h, if_neg (fun e => h e.symm)]
theorem rowL_sw (n : Nat) (d : Row) (i j : Nat) : ((rowL n d).set i (d j)).set j (d i) = rowL n (sw d i j) := by
  rw [rowL_set, rowL_set]
  unfold rowL
  refine List.map_congr_left fun x _ => ?_
  unfold sw
  by_cases hi : x = i
  · by_cases hj : x = j
    · subst hi; subst hj; simp
    · subst hi; simp [hj]
  · by_cases hj : x = j
    · subst hj; simp [hi]
    · simp [hi, hj]
theorem set_set_perm : ∀ {l : List Nat} {i j a b : Nat}, l[i]? = some a → l[j]? = some b → ((l.set i b).set j a).Perm l
  | [], i, j, a, b, h, _ => by simp at h
  | x :: l, 0, 0, a, b, h, h' => by simp at h h'; subst h; subst h'; simp
  | x :: l, 0, j + 1, a, b, h, h' => by
    simp at h h'
    subst h
    simp only [List.set_cons_zero, List.set_cons_succ]
    exact perm_swap_head h'
  | x :: l, i + 1, 0, a, b, h, h' => by
    simp at h h'
    subst h'
    simp only [List.set_cons_zero, List.set_cons_succ]
    exact perm_swap_head h
  | x :: l, i + 1, j + 1, a, b, h, h' => by
    simp at h h'
    simp only [List.set_cons_succ]
    exact (set_set_perm h h').cons x
where
  perm_swap_head : ∀ {l : List Nat} {j x b : Nat}, l[j]? = some b → (b :: l.set j x).Perm (x :: l)
    | [], j, x, b, h => by simp at h
    | y :: l, 0, x, b, h => by
      simp at h; subst h
      simp only [List.set_cons_zero]
      exact List.Perm.swap x y l
    | y :: l, j + 1, x, b, h => by
      simp at h
      simp only [List.set_cons_succ]
      exact ((List.Perm.swap y b _).trans ((perm_swap_head h).cons y)).trans (List.Perm.swap x y l)

/-- d' is d, but for exchanges within [a, b). -/
structure Per (n a b : Nat) (d d' : Row) : Prop where
  out : ∀ i, i < a ∨ b ≤ i → d' i = d i
  inn : ∀ i, a ≤ i → i < b → ∃ j, a ≤ j ∧ j < b ∧ d' i = d j
  perm : (rowL n d').Perm (rowL n d)
theorem Per.refl (n a b : Nat) (d : Row) : Per n a b d d := ⟨fun _ _ => rfl, fun i h h' => ⟨i, h, h', rfl⟩, List.Perm.refl _⟩
theorem Per.trans {n a b : Nat} {d e f : Row} (h : Per n a b d e) (k : Per n a b e f) : Per n a b d f :=
  ⟨fun i hi => (k.out i hi).trans (h.out i hi), fun i h1 h2 => by
    obtain ⟨j, h3, h4, h5⟩ := k.inn i h1 h2
    obtain ⟨l, h6, h7, h8⟩ := h.inn j h3 h4
    exact ⟨l, h6, h7, h5.trans h8⟩, k.perm.trans h.perm⟩
theorem Per.wide {n a b a' b' : Nat} {d e : Row} (h : Per n a b d e) (ha : a' ≤ a) (hb : b ≤ b') : Per n a' b' d e :=
  ⟨fun i hi => h.out i (by omega), fun i h1 h2 => by
    by_cases hi : a ≤ i ∧ i < b
    · obtain ⟨j, h3, h4, h5⟩ := h.inn i hi.1 hi.2
      exact ⟨j, by omega, by omega, h5⟩
    · exact ⟨i, h1, h2, h.out i (by omega)⟩, h.perm⟩
theorem Per.sw {n a b : Nat} {d : Row} {i j : Nat} (hi : a ≤ i ∧ i < b) (hj : a ≤ j ∧ j < b) (hn : b ≤ n) : Per n a b d (sw d i j) :=
  ⟨fun x hx => sw_else d (by omega) (by omega), fun x h1 h2 => by
    by_cases h : x = i
    · subst h; exact ⟨j, hj.1, hj.2, sw_left d x j⟩
    by_cases h' : x = j
    · subst h'; exact ⟨i, hi.1, hi.2, sw_right d i x⟩
    · exact ⟨x, h1, h2, sw_else d h h'⟩, by
    rw [← rowL_sw]
    exact set_set_perm (rowL_get n d (by omega)) (rowL_get n d (by omega))⟩
theorem Per.lt {n a b N : Nat} {d e : Row} (h : Per n a b d e) (hd : ∀ i, i < n → d i < N) (hb : b ≤ n) : ∀ i, i < n → e i < N := fun i hi => by
  by_cases h1 : a ≤ i ∧ i < b
  · obtain ⟨j, _, h3, h4⟩ := h.inn i h1.1 h1.2
    rw [h4]; exact hd j (by omega)
  · rw [h.out i (by omega)]; exact hd i hi

/-- Sorted between a and b. -/
def Srt (B : Nat → Int) (d : Row) (a b : Nat) : Prop := ∀ i j, a ≤ i → i < j → j < b → Lt B (d i) (d j)
theorem Srt.congr {B : Nat → Int} {d e : Row} {a b : Nat} (h : Srt B d a b) (he : ∀ i, a ≤ i → i < b → e i = d i) : Srt B e a b := fun i j h1 h2 h3 => by
  rw [he i h1 (by omega), he j (by omega) h3]; exact h i j h1 h2 h3
theorem Srt.sub {B : Nat → Int} {d : Row} {a b a' b' : Nat} (h : Srt B d a b) (ha : a ≤ a') (hb : b' ≤ b) : Srt B d a' b' := fun i j h1 h2 h3 => h i j (by omega) h2 (by omega)
/-- Two sorted halves of which the one is below the other. -/
theorem Srt.join {B : Nat → Int} {d : Row} {a m b : Nat} (h : Srt B d a m) (k : Srt B d m b) (hx : ∀ i j, a ≤ i → i < m → m ≤ j → j < b → Lt B (d i) (d j)) : Srt B d a b := fun i j h1 h2 h3 => by
  by_cases hi : i < m
  · by_cases hj : j < m
    · exact h i j h1 h2 hj
    · exact hx i j h1 hi (by omega) h3
  · exact k i j (by omega) h2 h3

/-! ### The exchange of two stretches, the turning of two -/

/-- The first k of two stretches of length at least k exchanged. -/
def swR (d : Row) (a b k : Nat) : Row := fun x => if a ≤ x ∧ x < a + k then d (b + (x - a)) else if b ≤ x ∧ x < b + k then d (a + (x - b)) else d x
theorem swR_zero (d : Row) (a b : Nat) : swR d a b 0 = d := by
  funext x; unfold swR; rw [if_neg (by omega), if_neg (by omega)]
theorem swR_succ (d : Row) {a b k : Nat} (h : a + k + 1 ≤ b) : swR d a b (k + 1) = sw (swR d a b k) (a + k) (b + k) := by
  funext x
  unfold sw
  by_cases h1 : x = a + k
  · subst h1
    rw [if_pos rfl]
    unfold swR
    rw [if_pos (by omega), if_neg (by omega), if_neg (by omega)]
    congr 1; omega
  · rw [if_neg h1]
    by_cases h2 : x = b + k
    · subst h2
      rw [if_pos rfl]
      unfold swR
      rw [if_neg (by omega), if_pos (by omega), if_neg (by omega), if_neg (by omega)]
      congr 1; omega
    · rw [if_neg h2]
      unfold swR
      by_cases h3 : a ≤ x ∧ x < a + k
      · rw [if_pos (by omega), if_pos h3]
      · rw [if_neg (by omega), if_neg h3]
        by_cases h4 : b ≤ x ∧ x < b + k
        · rw [if_pos (by omega), if_pos h4]
        · rw [if_neg (by omega), if_neg h4]
/-- Where what comes to x came from, where [a, m) and [m, b) change places. -/
def rotI (a m b x : Nat) : Nat := if a ≤ x ∧ x < a + (b - m) then m + (x - a) else if a + (b - m) ≤ x ∧ x < b then a + (x - (a + (b - m))) else x
def rot (d : Row) (a m b : Nat) : Row := fun x => d (rotI a m b x)
theorem rot_eq (d : Row) {m i : Nat} (h : i ≤ m) : swR d (m - i) m i = rot d (m - i) m (m + i) := by
  funext x
  unfold rot rotI swR
  by_cases h1 : m - i ≤ x ∧ x < m - i + i
  · rw [if_pos h1, if_pos (by omega)]
  · rw [if_neg h1]
    by_cases h2 : m ≤ x ∧ x < m + i
    · rw [if_pos h2, if_neg (by omega), if_pos (by omega)]; congr 1; omega
    · rw [if_neg h2, if_neg (by omega), if_neg (by omega)]
theorem rot_more (d : Row) {m i j : Nat} (h : i ≤ m) (hij : j < i) : rot (swR d (m - i) m j) (m - (i - j)) m (m + j) = rot d (m - i) m (m + j) := by
  funext x
  unfold rot
  generalize hy : rotI (m - (i - j)) m (m + j) x = y
  unfold rotI at hy ⊢
  unfold swR
  by_cases h1 : m - i ≤ x ∧ x < m - i + (m + j - m)
  · rw [if_pos h1]
    rw [if_neg (by omega), if_neg (by omega)] at hy
    subst hy
    rw [if_pos (by omega)]
  · rw [if_neg h1]
    by_cases h2 : m - i + (m + j - m) ≤ x ∧ x < m + j
    · rw [if_pos h2]
      by_cases h3 : m - (i - j) ≤ x ∧ x < m - (i - j) + (m + j - m)
      · rw [if_pos h3] at hy
        subst hy
        rw [if_neg (by omega), if_pos (by omega)]; congr 1; omega
      · rw [if_neg h3, if_pos (by omega)] at hy
        subst hy
        rw [if_neg (by omega), if_neg (by omega)]; congr 1; omega
    · rw [if_neg h2]
      rw [if_neg (by omega), if_neg (by omega)] at hy
      subst hy
      rw [if_neg (by omega), if_neg (by omega)]
theorem rot_less (d : Row) {m i j : Nat} (h : i ≤ m) (hij : i < j) : rot (swR d (m - i) (m + j - i) i) (m - i) m (m + (j - i)) = rot d (m - i) m (m + j) := by
  funext x
  unfold rot
  generalize hy : rotI (m - i) m (m + (j - i)) x = y
  unfold rotI at hy ⊢
  unfold swR
  by_cases h1 : m - i ≤ x ∧ x < m - i + (m + j - m)
  · rw [if_pos h1]
    by_cases h3 : x < m - i + (m + (j - i) - m)
    · rw [if_pos (by omega)] at hy
      subst hy
      rw [if_neg (by omega), if_neg (by omega)]
    · rw [if_neg (by omega)] at hy
      by_cases h4 : m - i + (m + (j - i) - m) ≤ x ∧ x < m + (j - i)
      · rw [if_pos h4] at hy
        subst hy
        rw [if_pos (by omega)]; congr 1; omega
      · omega
  · rw [if_neg h1]
    by_cases h2 : m - i + (m + j - m) ≤ x ∧ x < m + j
    · rw [if_pos h2]
      rw [if_neg (by omega), if_neg (by omega)] at hy
      subst hy
      rw [if_neg (by omega), if_pos (by omega)]; congr 1; omega
    · rw [if_neg h2]
      rw [if_neg (by omega), if_neg (by omega)] at hy
      subst hy
      rw [if_neg (by omega), if_neg (by omega)]

/-! ### The merge -/

/-- Two neighbours, sorted each, what is right of later numbers than what is left. -/
structure Two (B : Nat → Int) (d : Row) (a m b : Nat) : Prop where
  left : Srt B d a m
  right : Srt B d m b
  idx : ∀ i j, a ≤ i → i < m → m ≤ j → j < b → d i < d j
/-- A right one is held against a left one. -/
theorem Two.less {B : Nat → Int} {d : Row} {a m b i j : Nat} (h : Two B d a m b) (hi : a ≤ i ∧ i < m) (hj : m ≤ j ∧ j < b) : B (d j) < B (d i) ↔ Lt B (d j) (d i) := by
  have := h.idx i j hi.1 hi.2 hj.1 hj.2
  unfold Lt; omega
theorem Two.not_less {B : Nat → Int} {d : Row} {a m b i j : Nat} (h : Two B d a m b) (hi : a ≤ i ∧ i < m) (hj : m ≤ j ∧ j < b) : ¬ B (d j) < B (d i) ↔ Lt B (d i) (d j) := by
  have := h.idx i j hi.1 hi.2 hj.1 hj.2
  unfold Lt; omega

/-- The first one has been carried to place i - 1. -/
def carR (d : Row) (a i : Nat) : Row := fun x => if a ≤ x ∧ x + 1 < i then d (x + 1) else if x + 1 = i ∧ a ≤ x then d a else d x
theorem carR_start (d : Row) (a : Nat) : carR d a (a + 1) = d := by
  funext x; unfold carR
  rw [if_neg (by omega)]
  split
  · rename_i h; rw [show x = a by omega]
  · rfl
theorem carR_step (d : Row) {a k : Nat} (h : a ≤ k) : carR d a (k + 2) = sw (carR d a (k + 1)) k (k + 1) := by
  funext x
  unfold sw
  by_cases h1 : x = k
  · subst h1
    rw [if_pos rfl]
    unfold carR
    rw [if_pos (by omega), if_neg (by omega), if_neg (by omega)]
  · rw [if_neg h1]
    by_cases h2 : x = k + 1
    · subst h2
      rw [if_pos rfl]
      unfold carR
      rw [if_neg (by omega), if_pos (by omega), if_neg (by omega), if_pos (by omega)]
    · rw [if_neg h2]
      unfold carR
      by_cases h3 : a ≤ x ∧ x + 1 < k + 1
      · rw [if_pos (by omega), if_pos h3]
      · rw [if_neg (by omega), if_neg (by omega), if_neg h3, if_neg (by omega)]
/-- The one left one put among the right ones: i the first right one that is not below it. -/
theorem Two.first {B : Nat → Int} {d : Row} {a b i : Nat} (h : Two B d a (a + 1) b) (hi : a + 1 ≤ i ∧ i ≤ b) (hlo : ∀ j, a + 1 ≤ j → j < i → Lt B (d j) (d a)) (hhi : ∀ j, i ≤ j → j < b → Lt B (d a) (d j)) : Srt B (carR d a i) a b := fun x y h1 h2 h3 => by
  unfold carR
  by_cases hx : x + 1 < i
  · rw [if_pos ⟨h1, hx⟩]
    by_cases hy : y + 1 < i
    · rw [if_pos (by omega)]; exact h.right _ _ (by omega) (by omega) (by omega)
    · rw [if_neg (by omega)]
      by_cases hy' : y + 1 = i
      · rw [if_pos (by omega)]; exact hlo _ (by omega) hx
      · rw [if_neg (by omega)]; exact h.right _ _ (by omega) (by omega) h3
  · rw [if_neg (by omega)]
    by_cases hx' : x + 1 = i
    · rw [if_pos (by omega), if_neg (by omega), if_neg (by omega)]
      exact hhi _ (by omega) h3
    · rw [if_neg (by omega), if_neg (by omega), if_neg (by omega)]; exact h.right _ _ (by omega) h2 h3
/-- The last one has been carried down to place i. -/
def dwnR (d : Row) (i m : Nat) : Row := fun x => if i < x ∧ x ≤ m then d (x - 1) else if x = i then d m else d x
theorem dwnR_start (d : Row) (m : Nat) : dwnR d m m = d := by
  funext x; unfold dwnR
  rw [if_neg (by omega)]
  split
  · rename_i h; rw [h]
  · rfl
theorem dwnR_step (d : Row) {k m : Nat} (h : k + 1 ≤ m) : dwnR d k m = sw (dwnR d (k + 1) m) (k + 1) k := by
  funext x
  unfold sw
  by_cases h1 : x = k + 1
  · subst h1
    rw [if_pos rfl]
    unfold dwnR
    rw [if_pos (by omega), if_neg (by omega), if_neg (by omega)]
    congr 1
  · rw [if_neg h1]
    by_cases h2 : x = k
    · subst h2
      rw [if_pos rfl]
      unfold dwnR
      rw [if_neg (by omega), if_pos rfl, if_neg (by omega), if_pos rfl]
    · rw [if_neg h2]
      unfold dwnR
      by_cases h3 : k + 1 < x ∧ x ≤ m
      · rw [if_pos (by omega), if_pos h3]
      · rw [if_neg (by omega), if_neg h2, if_neg h3, if_neg h1]
/-- The one right one put among the left ones: i the first left one above it. -/
theorem Two.second {B : Nat → Int} {d : Row} {a m i : Nat} (h : Two B d a m (m + 1)) (hi : a ≤ i ∧ i ≤ m) (hlo : ∀ j, a ≤ j → j < i → Lt B (d j) (d m)) (hhi : ∀ j, i ≤ j → j < m → Lt B (d m) (d j)) : Srt B (dwnR d i m) a (m + 1) := fun x y h1 h2 h3 => by
  unfold dwnR
  by_cases hx : x < i
  · rw [if_neg (by omega), if_neg (by omega)]
    by_cases hy : y < i
    · rw [if_neg (by omega), if_neg (by omega)]; exact h.left _ _ h1 h2 (by omega)
    · by_cases hy' : y = i
      · rw [if_neg (by omega), if_pos hy']; exact hlo _ h1 hx
      · rw [if_pos (by omega)]; exact h.left _ _ h1 (by omega) (by omega)
  · by_cases hx' : x = i
    · rw [if_neg (by omega), if_pos hx', if_pos (by omega)]
      exact hhi _ (by omega) (by omega)
    · rw [if_pos (by omega), if_pos (by omega)]
      exact h.left _ _ (by omega) (by omega) (by omega)

/-- Where the search of a merge ends: s. -/
structure Cut (B : Nat → Int) (d : Row) (a m b mid s : Nat) : Prop where
  mb : a ≤ mid ∧ mid ≤ b
  lo : a ≤ s ∧ s ≤ m ∧ s ≤ mid
  hi : m ≤ mid + m - s ∧ mid + m - s ≤ b
  below : ∀ c, a ≤ c → c < s → mid + m - s < b → Lt B (d (s - 1)) (d (mid + m - s))
  above : m < mid + m - s → s < m → Lt B (d (mid + m - s - 1)) (d s)
/-- Behind the turning: the two halves, each of two neighbours; all of the first below all of the second. -/
theorem Cut.halves {B : Nat → Int} {d : Row} {a m b mid s : Nat} (h : Two B d a m b) (c : Cut B d a m b mid s) :
    Two B (rot d s m (mid + m - s)) a s mid ∧ Two B (rot d s m (mid + m - s)) mid (mid + m - s) b ∧ ∀ i j, a ≤ i → i < mid → mid ≤ j → j < b → Lt B (rot d s m (mid + m - s) i) (rot d s m (mid + m - s) j) := by
  have hlo := c.lo
  have hhi := c.hi
  have hmid := c.mb
  obtain ⟨e, he⟩ : ∃ e, e = mid + m - s := ⟨_, rfl⟩
  have hem : e - m = mid - s := by omega
  have g1 : ∀ x, a ≤ x → x < s → rot d s m e x = d x := fun x h1 h2 => by unfold rot rotI; rw [if_neg (by omega), if_neg (by omega)]
  have g2 : ∀ x, s ≤ x → x < mid → rot d s m e x = d (m + (x - s)) := fun x h1 h2 => by unfold rot rotI; rw [if_pos (by omega)]
  have g3 : ∀ x, mid ≤ x → x < e → rot d s m e x = d (s + (x - mid)) := fun x h1 h2 => by unfold rot rotI; rw [if_neg (by omega), if_pos (by omega)]; congr 1; omega
  have g4 : ∀ x, e ≤ x → x < b → rot d s m e x = d x := fun x h1 h2 => by unfold rot rotI; rw [if_neg (by omega), if_neg (by omega)]
  rw [← he] at hhi ⊢
  have hbel : ∀ p q, a ≤ p → p < s → e ≤ q → q < b → Lt B (d p) (d q) := fun p q h1 h2 h3 h4 => by
    have h5 := c.below p h1 h2 (by omega)
    rw [← he] at h5
    have h6 : d p = d (s - 1) ∨ Lt B (d p) (d (s - 1)) := by
      by_cases hp : p = s - 1
      · left; rw [hp]
      · right; exact h.left _ _ h1 (by omega) (by omega)
    have h7 : d q = d e ∨ Lt B (d e) (d q) := by
      by_cases hq : q = e
      · left; rw [hq]
      · right; exact h.right _ _ (by omega) (by omega) h4
    rcases h6 with h6 | h6 <;> rcases h7 with h7 | h7
    · rw [h6, h7]; exact h5
    · rw [h6]; exact h5.trans h7
    · rw [h7]; exact h6.trans h5
    · exact (h6.trans h5).trans h7
  have habv : ∀ p q, m ≤ p → p < e → s ≤ q → q < m → Lt B (d p) (d q) := fun p q h1 h2 h3 h4 => by
    have h5 := c.above (by omega) (by omega)
    rw [← he] at h5
    have h6 : d p = d (e - 1) ∨ Lt B (d p) (d (e - 1)) := by
      by_cases hp : p = e - 1
      · left; rw [hp]
      · right; exact h.right _ _ h1 (by omega) (by omega)
    have h7 : d q = d s ∨ Lt B (d s) (d q) := by
      by_cases hq : q = s
      · left; rw [hq]
      · right; exact h.left _ _ (by omega) (by omega) h4
    rcases h6 with h6 | h6 <;> rcases h7 with h7 | h7
    · rw [h6, h7]; exact h5
    · rw [h6]; exact h5.trans h7
    · rw [h7]; exact h6.trans h5
    · exact (h6.trans h5).trans h7
  refine ⟨⟨?_, ?_, ?_⟩, ⟨?_, ?_, ?_⟩, ?_⟩
  · intro i j h1 h2 h3
    rw [g1 i h1 (by omega), g1 j (by omega) h3]; exact h.left _ _ h1 h2 (by omega)
  · intro i j h1 h2 h3
    rw [g2 i h1 (by omega), g2 j (by omega) h3]; exact h.right _ _ (by omega) (by omega) (by omega)
  · intro i j h1 h2 h3 h4
    rw [g1 i h1 h2, g2 j h3 h4]; exact h.idx _ _ h1 (by omega) (by omega) (by omega)
  · intro i j h1 h2 h3
    rw [g3 i h1 (by omega), g3 j (by omega) h3]; exact h.left _ _ (by omega) (by omega) (by omega)
  · intro i j h1 h2 h3
    rw [g4 i h1 (by omega), g4 j (by omega) h3]; exact h.right _ _ (by omega) h2 h3
  · intro i j h1 h2 h3 h4
    rw [g3 i h1 h2, g4 j h3 h4]; exact h.idx _ _ (by omega) (by omega) (by omega) h4
  · intro i j h1 h2 h3 h4
    by_cases hi : i < s
    · rw [g1 i h1 hi]
      by_cases hj : j < e
      · rw [g3 j h3 hj]; exact h.left _ _ h1 (by omega) (by omega)
      · rw [g4 j (by omega) h4]; exact hbel _ _ h1 hi (by omega) h4
    · rw [g2 i (by omega) h2]
      by_cases hj : j < e
      · rw [g3 j h3 hj]; exact habv _ _ (by omega) (by omega) (by omega) (by omega)
      · rw [g4 j (by omega) h4]; exact h.right _ _ (by omega) (by omega) h4
/-- Sorted each, and still the first below the second. -/
theorem merge_end {n : Nat} {B : Nat → Int} {d e f : Row} {a mid b : Nat} (hm : a ≤ mid ∧ mid ≤ b) (hx : ∀ i j, a ≤ i → i < mid → mid ≤ j → j < b → Lt B (d i) (d j)) (h1 : Per n a mid d e) (s1 : Srt B e a mid) (h2 : Per n mid b e f) (s2 : Srt B f mid b) : Srt B f a b ∧ Per n a b d f := by
  refine ⟨Srt.join (s1.congr fun i _ hi => h2.out i (.inl hi)) s2 fun i j a1 a2 a3 a4 => ?_, (h1.wide (Nat.le_refl _) hm.2).trans (h2.wide hm.1 (Nat.le_refl _))⟩
  rw [h2.out i (.inl a2)]
  obtain ⟨p, p1, p2, p3⟩ := h1.inn i a1 a2
  obtain ⟨q, q1, q2, q3⟩ := h2.inn j a3 a4
  rw [p3, q3, h1.out q (.inr q1)]
  exact hx p q p1 p2 q1 q2

/-! ### The insertion -/

/-- Sorted in [a, i], but for place j, in which i is. -/
structure InsJ (B : Nat → Int) (d : Row) (a i j : Nat) : Prop where
  self : d j = i
  rest : ∀ x y, a ≤ x → x < y → y ≤ i → x ≠ j → y ≠ j → Lt B (d x) (d y)
  up : ∀ y, j < y → y ≤ i → Lt B (d j) (d y)
  lt : ∀ x, a ≤ x → x ≤ i → x ≠ j → d x < i
theorem InsJ.start {B : Nat → Int} {d : Row} {a i : Nat} (h : Srt B d a i) (hi : d i = i) (hl : ∀ x, a ≤ x → x < i → d x < i) : InsJ B d a i i :=
  ⟨hi, fun x y h1 h2 h3 _ h5 => h x y h1 h2 (by omega), fun y h1 h2 => by omega, fun x h1 h2 h3 => hl x h1 (by omega)⟩
theorem InsJ.less {B : Nat → Int} {d : Row} {a i j : Nat} (h : InsJ B d a i (j + 1)) (hj : a ≤ j ∧ j < i) : B (d (j + 1)) < B (d j) ↔ Lt B (d (j + 1)) (d j) := by
  have h1 := h.lt j hj.1 (by omega) (by omega)
  have h2 := h.self
  unfold Lt; omega
theorem InsJ.step {B : Nat → Int} {d : Row} {a i j : Nat} (h : InsJ B d a i (j + 1)) (hj : a ≤ j ∧ j < i) (hl : B (d (j + 1)) < B (d j)) : InsJ B (sw d (j + 1) j) a i j := by
  have hl := (h.less hj).1 hl
  refine ⟨by rw [sw_right]; exact h.self, fun x y h1 h2 h3 h4 h5 => ?_, fun y h1 h2 => ?_, fun x h1 h2 h3 => ?_⟩
  · by_cases hx : x = j + 1
    · subst hx
      rw [sw_left, sw_else d (by omega) h5]
      exact h.rest _ _ hj.1 (by omega) h3 (by omega) (by omega)
    · by_cases hy : y = j + 1
      · subst hy
        rw [sw_left, sw_else d hx h4]
        exact h.rest _ _ h1 (by omega) (by omega) (by omega) (by omega)
      · rw [sw_else d hx h4, sw_else d hy h5]; exact h.rest _ _ h1 h2 h3 hx hy
  · rw [sw_right]
    by_cases hy : y = j + 1
    · subst hy; rw [sw_left]; exact hl
    · rw [sw_else d hy (by omega)]; exact h.up _ (by omega) h2
  · by_cases hx : x = j + 1
    · subst hx; rw [sw_left]; exact h.lt _ hj.1 (by omega) (by omega)
    · rw [sw_else d hx h3]; exact h.lt _ h1 h2 hx
theorem InsJ.stop {B : Nat → Int} {d : Row} {a i j : Nat} (h : InsJ B d a i j) (hj : a ≤ j ∧ j ≤ i) (hs : j = a ∨ ∃ k, j = k + 1 ∧ ¬ B (d j) < B (d k)) : Srt B d a (i + 1) ∧ ∀ x, a ≤ x → x < i + 1 → d x < i + 1 := by
  have hlow : ∀ x, a ≤ x → x < j → Lt B (d x) (d j) := fun x h1 h2 => by
    rcases hs with e | ⟨k, e, hk⟩
    · omega
    · subst e
      have h3 : Lt B (d k) (d (k + 1)) := by
        have := h.lt k (by omega) (by omega) (by omega)
        have := h.self
        unfold Lt; omega
      by_cases hx : x = k
      · rw [hx]; exact h3
      · exact (h.rest x k h1 (by omega) (by omega) (by omega) (by omega)).trans h3
  refine ⟨fun x y h1 h2 h3 => ?_, fun x h1 h2 => ?_⟩
  · by_cases hx : x = j
    · subst hx; exact h.up _ h2 (by omega)
    · by_cases hy : y = j
      · subst hy; exact hlow _ h1 h2
      · exact h.rest _ _ h1 h2 (by omega) hx hy
  · by_cases hx : x = j
    · subst hx; rw [h.self]; omega
    · have := h.lt x h1 (by omega) hx; omega
end Go.Proofs.Ytigidchignlpmaa.Rg
