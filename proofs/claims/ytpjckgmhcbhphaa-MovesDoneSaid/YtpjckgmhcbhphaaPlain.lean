/-
  Plain facts on parallel moves and their ordering, with no program in sight.
-/
namespace Go.Proofs.Ytpjckgmhcbhphaa

/-- A place: is it a slot, and its number. -/
abbrev Plc := Bool × Int
/-- A move: from, to. -/
abbrev Mv := Plc × Plc

/-- Are the destinations distinct? -/
def rightB (l : List Mv) : Bool := decide ((l.map Prod.snd).Nodup)

/-- Does a move name this place? -/
def namesB (l : List Mv) (x : Plc) : Bool := l.any fun m => m.1 == x || m.2 == x

/-- Is the destination of the i-th move the source of another one? -/
def wantedB (left : List Mv) (i : Nat) : Bool :=
  (List.range left.length).any fun k => k != i && (left[k]?.map Prod.fst == left[i]?.map Prod.snd)

/-- The first move whose destination is not the source of another one. -/
def readyR (left : List Mv) : Option Nat := (List.range left.length).find? fun i => !wantedB left i

def turn (f free : Plc) (m : Mv) : Mv := if m.1 = f then (free, m.2) else m

/-- One step: what is emitted, what is left. -/
def stepR (free : Plc) (left : List Mv) : Mv × List Mv :=
  match readyR left with
  | some i => (left.getD i default, left.eraseIdx i)
  | none => (((left.headD default).1, free), left.map (turn (left.headD default).1 free))

def orderN (free : Plc) : Nat → List Mv → List Mv
  | 0, _ => []
  | n + 1, left => if left = [] then [] else (stepR free left).1 :: orderN free n (stepR free left).2

def effective (l : List Mv) : List Mv := l.filter fun m => m.1 != m.2

def orderSpec (l : List Mv) (free : Plc) : List Mv :=
  if rightB l && !namesB l free then orderN free (2 * l.length) (effective l) else []

/-- What holds of the pending moves. -/
structure Pend (free : Plc) (left : List Mv) : Prop where
  nodup : (left.map Prod.snd).Nodup
  toFree : ∀ m ∈ left, m.2 ≠ free
  self : ∀ m ∈ left, m.1 ≠ m.2

def mu (free : Plc) (left : List Mv) : Nat := left.length + left.countP fun m => m.1 != free

theorem readyR_some {left : List Mv} {i : Nat} (h : readyR left = some i) : i < left.length ∧ wantedB left i = false ∧ ∀ j, j < i → wantedB left j = true := by
  unfold readyR at h
  rw [List.find?_range_eq_some] at h
  obtain ⟨h1, h2, h3⟩ := h
  refine ⟨by simpa using h2, by simpa using h1, fun j hj => by simpa using h3 j hj⟩

theorem readyR_none {left : List Mv} (h : readyR left = none) : ∀ i, i < left.length → wantedB left i = true := by
  unfold readyR at h
  rw [List.find?_range_eq_none] at h
  intro i hi
  simpa using h i hi

theorem readyR_eq_some {left : List Mv} {i : Nat} (h1 : i < left.length) (h2 : wantedB left i = false) (h3 : ∀ j, j < i → wantedB left j = true) : readyR left = some i := by
  unfold readyR
  rw [List.find?_range_eq_some]
  exact ⟨by simpa using h2, by simpa using h1, fun j hj => by simpa using h3 j hj⟩

theorem readyR_eq_none {left : List Mv} (h : ∀ i, i < left.length → wantedB left i = true) : readyR left = none := by
  unfold readyR
  rw [List.find?_range_eq_none]
  intro i hi
  simpa using h i hi

theorem wantedB_iff {left : List Mv} {i : Nat} (hi : i < left.length) : wantedB left i = true ↔ ∃ k, ∃ hk : k < left.length, k ≠ i ∧ left[k].1 = left[i].2 := by
  unfold wantedB
  simp only [List.any_eq_true, List.mem_range, Bool.and_eq_true, bne_iff_ne, ne_eq, beq_iff_eq]
  constructor
  · rintro ⟨k, hk, h1, h2⟩
    refine ⟨k, hk, h1, ?_⟩
    simpa [List.getElem?_eq_getElem hk, List.getElem?_eq_getElem hi] using h2
  · rintro ⟨k, hk, h1, h2⟩
    refine ⟨k, hk, h1, ?_⟩
    simp [List.getElem?_eq_getElem hk, List.getElem?_eq_getElem hi, h2]

/-- Pigeonhole: a list without repeats inside another of the same length: the other lies inside it. -/
theorem sub_of_nodup {α : Type} [DecidableEq α] : ∀ (a b : List α), a.Nodup → (∀ x ∈ a, x ∈ b) → b.length ≤ a.length → ∀ x ∈ b, x ∈ a
  | [], b, _, _, hl => by
    intro x hx
    have : b = [] := List.eq_nil_of_length_eq_zero (by simpa using hl)
    simp [this] at hx
  | y :: a, b, hn, hs, hl => by
    obtain ⟨hy, hn'⟩ := List.nodup_cons.1 hn
    have hyb : y ∈ b := hs y (by simp)
    have ih := sub_of_nodup a (b.erase y) hn' (fun x hx => by
      have hxy : x ≠ y := fun e => hy (e ▸ hx)
      exact (List.mem_erase_of_ne hxy).2 (hs x (by simp [hx]))) (by
      rw [List.length_erase_of_mem hyb]; simp at hl; omega)
    intro x hx
    by_cases hxy : x = y
    · simp [hxy]
    · exact List.mem_cons_of_mem _ (ih x ((List.mem_erase_of_ne hxy).2 hx))

/-- Where no move is ready each source is a destination. -/
theorem stuck_sub {free : Plc} {left : List Mv} (hp : Pend free left) (h : readyR left = none) : ∀ m ∈ left, m.1 ∈ left.map Prod.snd := by
  have hs : ∀ x ∈ left.map Prod.snd, x ∈ left.map Prod.fst := by
    intro x hx
    obtain ⟨i, hi, rfl⟩ := List.getElem_of_mem hx
    have hi' : i < left.length := by simpa using hi
    obtain ⟨k, hk, _, h2⟩ := (wantedB_iff hi').1 (readyR_none h i hi')
    rw [List.getElem_map, ← h2]
    exact List.mem_map.2 ⟨_, List.getElem_mem hk, rfl⟩
  have := sub_of_nodup (left.map Prod.snd) (left.map Prod.fst) hp.nodup hs (by simp)
  intro m hm
  exact this m.1 (List.mem_map.2 ⟨m, hm, rfl⟩)

theorem stuck_free {free : Plc} {left : List Mv} (hp : Pend free left) (h : readyR left = none) : ∀ m ∈ left, m.1 ≠ free := by
  intro m hm e
  obtain ⟨x, hx, he⟩ := List.mem_map.1 (stuck_sub hp h m hm)
  exact hp.toFree x hx (by rw [he, e])

theorem turn_snd (f free : Plc) (m : Mv) : (turn f free m).2 = m.2 := by unfold turn; split <;> rfl

theorem map_turn_snd (f free : Plc) (l : List Mv) : (l.map (turn f free)).map Prod.snd = l.map Prod.snd := by
  rw [List.map_map]; exact List.map_congr_left fun m _ => turn_snd f free m

theorem headD_mem {left : List Mv} (h : left ≠ []) : left.headD default ∈ left := by
  cases left with
  | nil => exact absurd rfl h
  | cons a l => simp

theorem step_pend {free : Plc} {left : List Mv} (hp : Pend free left) : Pend free (stepR free left).2 := by
  unfold stepR
  split
  · rename_i i h
    refine ⟨?_, fun m hm => hp.toFree m (List.mem_of_mem_eraseIdx hm), fun m hm => hp.self m (List.mem_of_mem_eraseIdx hm)⟩
    exact hp.nodup.sublist ((List.eraseIdx_sublist _ _).map _)
  · rename_i h
    refine ⟨by rw [map_turn_snd]; exact hp.nodup, fun m hm => ?_, fun m hm => ?_⟩
    · obtain ⟨x, hx, rfl⟩ := List.mem_map.1 hm
      rw [turn_snd]; exact hp.toFree x hx
    · obtain ⟨x, hx, rfl⟩ := List.mem_map.1 hm
      rw [turn_snd]
      unfold turn
      split
      · exact fun e => hp.toFree x hx e.symm
      · exact hp.self x hx

theorem countP_turn {free f : Plc} (hf : f ≠ free) : ∀ (l : List Mv), (∃ m ∈ l, m.1 = f) → (l.map (turn f free)).countP (fun m => m.1 != free) < l.countP (fun m => m.1 != free)
  | [], h => by simp at h
  | m :: l, h => by
    have le : ∀ l : List Mv, (l.map (turn f free)).countP (fun m => m.1 != free) ≤ l.countP (fun m => m.1 != free) := by
      intro l
      induction l with
      | nil => simp
      | cons x l ih =>
        simp only [List.map_cons, List.countP_cons]
        have : (if ((turn f free x).1 != free) = true then 1 else 0) ≤ (if (x.1 != free) = true then 1 else 0) := by
          unfold turn
          split
          · simp
          · exact Nat.le_refl _
        omega
    simp only [List.map_cons, List.countP_cons]
    by_cases hm : m.1 = f
    · have h1 : (if ((turn f free m).1 != free) = true then 1 else 0) = 0 := by simp [turn, hm]
      have h2 : (if (m.1 != free) = true then 1 else 0) = 1 := by simp [hm, hf]
      have := le l
      omega
    · have h1 : turn f free m = m := by simp [turn, hm]
      rw [h1]
      have ih := countP_turn hf l (by
        obtain ⟨x, hx, he⟩ := h
        rcases List.mem_cons.1 hx with rfl | hx
        · exact absurd he hm
        · exact ⟨x, hx, he⟩)
      omega

theorem countP_eraseIdx_le (p : Mv → Bool) (l : List Mv) (i : Nat) : (l.eraseIdx i).countP p ≤ l.countP p :=
  (List.eraseIdx_sublist l i).countP_le

theorem step_mu {free : Plc} {left : List Mv} (hp : Pend free left) (hne : left ≠ []) : mu free (stepR free left).2 < mu free left := by
  unfold stepR mu
  split
  · rename_i i h
    have hi := (readyR_some h).1
    have := countP_eraseIdx_le (fun m => m.1 != free) left i
    rw [List.length_eraseIdx_of_lt hi]
    simp only at this ⊢
    omega
  · rename_i h
    have hm := headD_mem hne
    have := countP_turn (stuck_free hp h _ hm) left ⟨_, hm, rfl⟩
    simp only [List.length_map]
    omega

theorem mu_le (free : Plc) (left : List Mv) : mu free left ≤ 2 * left.length := by
  unfold mu
  have := List.countP_le_length (p := fun m : Mv => m.1 != free) (l := left)
  omega

theorem orderN_nil (free : Plc) (n : Nat) : orderN free n [] = [] := by cases n <;> simp [orderN]

theorem orderN_step {free : Plc} {n : Nat} {left : List Mv} (hp : Pend free left) (hne : left ≠ []) (hn : mu free left ≤ n) :
    ∃ k, n = k + 1 ∧ orderN free n left = (stepR free left).1 :: orderN free k (stepR free left).2 ∧ mu free (stepR free left).2 ≤ k := by
  have hlt := step_mu hp hne
  cases n with
  | zero => omega
  | succ k => exact ⟨k, rfl, by simp [orderN, hne], by omega⟩

theorem effective_pend {l : List Mv} {free : Plc} (h1 : rightB l = true) (h2 : namesB l free = false) : Pend free (effective l) := by
  unfold rightB at h1
  unfold namesB at h2
  refine ⟨?_, fun m hm => ?_, fun m hm => ?_⟩
  · exact (of_decide_eq_true h1).sublist ((List.filter_sublist).map _)
  · have hm' := (List.mem_filter.1 hm).1
    intro e
    have := (List.any_eq_false.1 h2) m hm'
    simp [e] at this
  · have := (List.mem_filter.1 hm).2
    simpa using this

theorem effective_mu {l : List Mv} {free : Plc} : mu free (effective l) ≤ 2 * l.length := by
  have := mu_le free (effective l)
  have h : (effective l).length ≤ l.length := List.length_filter_le _ _
  omega

/-! ### The program's pending moves: one place for each move of the list -/

def pend (L : List (Option Mv)) : List Mv := L.filterMap id

def idx (L : List (Option Mv)) (i : Nat) : Nat := (pend (L.take i)).length

theorem pend_nil : pend [] = [] := rfl
theorem pend_cons_none (L : List (Option Mv)) : pend (none :: L) = pend L := rfl
theorem pend_cons_some (m : Mv) (L : List (Option Mv)) : pend (some m :: L) = m :: pend L := rfl

theorem pend_at : ∀ (L : List (Option Mv)) (i : Nat) (m : Mv), L[i]? = some (some m) → (pend L)[idx L i]? = some m
  | [], i, m, h => by simp at h
  | none :: L, 0, m, h => by simp at h
  | some x :: L, 0, m, h => by
    have : x = m := by simpa using h
    subst this
    simp [idx, pend_cons_some, pend_nil]
  | none :: L, i + 1, m, h => by
    have := pend_at L i m (by simpa using h)
    simpa [idx, pend_cons_none] using this
  | some x :: L, i + 1, m, h => by
    have := pend_at L i m (by simpa using h)
    simpa [idx, pend_cons_some] using this

theorem idx_mono (L : List (Option Mv)) {i k : Nat} (hik : i ≤ k) : idx L i ≤ idx L k := by
  unfold idx pend
  have : (L.take i).Sublist (L.take k) := by
    have h : L.take i = (L.take k).take i := by rw [List.take_take, Nat.min_eq_left hik]
    rw [h]; exact List.take_sublist _ _
  exact (this.filterMap id).length_le

theorem idx_succ {L : List (Option Mv)} {i : Nat} {m : Mv} (h : L[i]? = some (some m)) : idx L (i + 1) = idx L i + 1 := by
  obtain ⟨hi, he⟩ := List.getElem?_eq_some_iff.1 h
  unfold idx pend
  rw [List.take_succ_eq_append_getElem hi, List.filterMap_append, he]
  simp

theorem idx_lt {L : List (Option Mv)} {i k : Nat} {m : Mv} (h : L[i]? = some (some m)) (hik : i < k) : idx L i < idx L k := by
  have h1 := idx_succ h
  have h2 := idx_mono L (i := i + 1) (k := k) (by omega)
  omega

theorem idx_of : ∀ (L : List (Option Mv)) (j : Nat) (m : Mv), (pend L)[j]? = some m → ∃ i : Nat, L[i]? = some (some m) ∧ idx L i = j
  | [], j, m, h => by simp [pend_nil] at h
  | none :: L, j, m, h => by
    obtain ⟨i, h1, h2⟩ := idx_of L j m (by simpa [pend_cons_none] using h)
    exact ⟨i + 1, by simpa using h1, by simpa [idx, pend_cons_none] using h2⟩
  | some x :: L, 0, m, h => ⟨0, by simpa [pend_cons_some] using h, by simp [idx, pend_nil]⟩
  | some x :: L, j + 1, m, h => by
    obtain ⟨i, h1, h2⟩ := idx_of L j m (by simpa [pend_cons_some] using h)
    exact ⟨i + 1, by simpa using h1, by simpa [idx, pend_cons_some] using h2⟩

/-- Is there another pending move that reads this place? -/
def neededB (L : List (Option Mv)) (i : Nat) (p : Plc) : Bool :=
  (List.range L.length).any fun k => k != i && (match L.getD k none with | some x => x.1 == p | none => false)

theorem neededB_iff {L : List (Option Mv)} {i : Nat} {p : Plc} : neededB L i p = true ↔ ∃ (k : Nat) (x : Mv), L[k]? = some (some x) ∧ k ≠ i ∧ x.1 = p := by
  unfold neededB
  simp only [List.any_eq_true, List.mem_range, Bool.and_eq_true, bne_iff_ne, ne_eq]
  constructor
  · rintro ⟨k, hk, h1, h2⟩
    cases hx : L.getD k none with
    | none => rw [hx] at h2; cases h2
    | some x =>
      rw [hx] at h2
      refine ⟨k, x, ?_, h1, by simpa using h2⟩
      rw [List.getD_eq_getElem?_getD, List.getElem?_eq_getElem hk] at hx
      rw [List.getElem?_eq_getElem hk]
      simpa using hx
  · rintro ⟨k, x, h1, h2, h3⟩
    obtain ⟨hk, _⟩ := List.getElem?_eq_some_iff.1 h1
    refine ⟨k, hk, h2, ?_⟩
    have : L.getD k none = some x := by rw [List.getD_eq_getElem?_getD, h1]; rfl
    rw [this]
    simpa using h3

theorem needed_wanted {L : List (Option Mv)} {i : Nat} {m : Mv} (h : L[i]? = some (some m)) : wantedB (pend L) (idx L i) = neededB L i m.2 := by
  have ha := pend_at L i m h
  obtain ⟨hlt, he⟩ := List.getElem?_eq_some_iff.1 ha
  rw [Bool.eq_iff_iff, wantedB_iff hlt, neededB_iff]
  constructor
  · rintro ⟨j, hj, h1, h2⟩
    obtain ⟨k, hk1, hk2⟩ := idx_of L j _ (List.getElem?_eq_getElem hj)
    refine ⟨k, _, hk1, fun e => h1 (by rw [← hk2, e]), ?_⟩
    rw [h2, he]
  · rintro ⟨k, x, h1, h2, h3⟩
    have hb := pend_at L k x h1
    obtain ⟨hltk, hek⟩ := List.getElem?_eq_some_iff.1 hb
    refine ⟨idx L k, hltk, ?_, by rw [hek, he, h3]⟩
    rcases Nat.lt_or_gt_of_ne h2 with h' | h'
    · have := idx_lt h1 h'; omega
    · have := idx_lt h h'; omega

/-- What the program's search for a ready move finds is what the reference's finds. -/
theorem ready_found {L : List (Option Mv)} {i : Nat} {m : Mv} (h : L[i]? = some (some m)) (hn : neededB L i m.2 = false)
    (hb : ∀ j x, j < i → L[j]? = some (some x) → neededB L j x.2 = true) : readyR (pend L) = some (idx L i) := by
  have ha := pend_at L i m h
  obtain ⟨hlt, he⟩ := List.getElem?_eq_some_iff.1 ha
  refine readyR_eq_some hlt (by rw [needed_wanted h]; exact hn) fun j hj => ?_
  obtain ⟨k, hk1, hk2⟩ := idx_of L j _ (List.getElem?_eq_getElem (show j < (pend L).length by omega))
  have hki : k < i := by
    rcases Nat.lt_or_ge k i with h' | h'
    · exact h'
    · have := idx_mono L h'; omega
  rw [← hk2, needed_wanted hk1]
  exact hb k _ hki hk1

theorem ready_none {L : List (Option Mv)} (hb : ∀ (j : Nat) (x : Mv), L[j]? = some (some x) → neededB L j x.2 = true) : readyR (pend L) = none := by
  refine readyR_eq_none fun j hj => ?_
  obtain ⟨k, hk1, hk2⟩ := idx_of L j _ (List.getElem?_eq_getElem hj)
  rw [← hk2, needed_wanted hk1]
  exact hb k _ hk1

theorem pend_set_none : ∀ (L : List (Option Mv)) (i : Nat) (m : Mv), L[i]? = some (some m) → pend (L.set i none) = (pend L).eraseIdx (idx L i)
  | [], i, m, h => by simp at h
  | none :: L, 0, m, h => by simp at h
  | some x :: L, 0, m, h => by simp [idx, pend_cons_some, pend_cons_none, pend_nil]
  | none :: L, i + 1, m, h => by
    have := pend_set_none L i m (by simpa using h)
    simpa [idx, pend_cons_none] using this
  | some x :: L, i + 1, m, h => by
    have := pend_set_none L i m (by simpa using h)
    simpa [idx, pend_cons_some] using this

theorem pend_map (f : Mv → Mv) (L : List (Option Mv)) : pend (L.map (Option.map f)) = (pend L).map f := by
  induction L with
  | nil => rfl
  | cons x L ih => cases x <;> simp [pend_cons_none, pend_cons_some, ih]

theorem pend_head : ∀ (L : List (Option Mv)) (i : Nat) (m : Mv), L[i]? = some (some m) → (∀ j, j < i → L[j]? = some none) → (pend L).headD default = m
  | [], i, m, h, _ => by simp at h
  | none :: L, 0, m, h, _ => by simp at h
  | some x :: L, 0, m, h, _ => by simpa [pend_cons_some] using h
  | none :: L, i + 1, m, h, hb => by
    have := pend_head L i m (by simpa using h) (fun j hj => by simpa using hb (j + 1) (by omega))
    simpa [pend_cons_none] using this
  | some x :: L, i + 1, m, h, hb => by simpa using hb 0 (by omega)

/-- The start: the moves that do something. -/
def start (l : List Mv) : List (Option Mv) := l.map fun m => if m.1 != m.2 then some m else none

theorem pend_start (l : List Mv) : pend (start l) = effective l := by
  unfold start effective
  induction l with
  | nil => rfl
  | cons m l ih =>
    rw [List.map_cons, List.filter_cons]
    by_cases h : (m.1 != m.2) = true
    · rw [if_pos h, if_pos h, pend_cons_some, ih]
    · rw [if_neg h, if_neg h, pend_cons_none, ih]

theorem nodup_inj {α : Type} {l : List α} (hn : l.Nodup) {i j : Nat} (hi : i < l.length) (hj : j < l.length) (h : l[i] = l[j]) : i = j := by
  have hp := List.pairwise_iff_getElem.1 hn
  rcases Nat.lt_trichotomy i j with h' | h' | h'
  · exact absurd h (hp i j hi hj h')
  · exact h'
  · exact absurd h.symm (hp j i hj hi h')

/-! ### What the moves do -/

def upd (s : Plc → Int) (p : Plc) (v : Int) : Plc → Int := fun q => if q = p then v else s q
/-- One behind the other. -/
def seqS (s : Plc → Int) (l : List Mv) : Plc → Int := l.foldl (fun s m => upd s m.2 (s m.1)) s
/-- All at once; the last move to a place decides. -/
def parS (s : Plc → Int) (l : List Mv) (p : Plc) : Int := l.foldl (fun acc m => if m.2 = p then s m.1 else acc) (s p)
/-- What a place holds at first. -/
def valueOf (at_ : List Plc) (vals : List Int) (p : Plc) : Int := if p ∈ at_ then (vals[at_.idxOf p]?).getD 0 else 0

def oneByOneSpec (l : List Mv) (at_ : List Plc) (vals : List Int) : List Int := at_.map (seqS (valueOf at_ vals) l)
def atOnceSpec (l : List Mv) (at_ : List Plc) (vals : List Int) : List Int := at_.map (parS (valueOf at_ vals) l)

theorem parS_go (s : Plc → Int) (p : Plc) : ∀ (l : List Mv) (a : Int), (∀ m ∈ l, m.2 ≠ p) → l.foldl (fun acc m => if m.2 = p then s m.1 else acc) a = a
  | [], _, _ => rfl
  | m :: l, a, h => by
    rw [List.foldl_cons, if_neg (h m (by simp))]
    exact parS_go s p l a fun x hx => h x (by simp [hx])

theorem parS_not {s : Plc → Int} {l : List Mv} {p : Plc} (h : ∀ m ∈ l, m.2 ≠ p) : parS s l p = s p := parS_go s p l _ h

theorem parS_mem {s : Plc → Int} {p : Plc} : ∀ {l : List Mv} (_ : (l.map Prod.snd).Nodup) {m : Mv} (_ : m ∈ l) (_ : m.2 = p) (a : Int), l.foldl (fun acc m => if m.2 = p then s m.1 else acc) a = s m.1
  | [], _, m, hm, _, _ => by simp at hm
  | x :: l, hn, m, hm, hp, a => by
    rw [List.map_cons] at hn
    obtain ⟨hx, hn'⟩ := List.nodup_cons.1 hn
    rw [List.foldl_cons]
    rcases List.mem_cons.1 hm with rfl | hm
    · rw [if_pos hp]
      exact parS_go s p l _ fun y hy e => hx (List.mem_map.2 ⟨y, hy, by rw [e, hp]⟩)
    · exact parS_mem hn' hm hp _

theorem parS_to {s : Plc → Int} {l : List Mv} (hn : (l.map Prod.snd).Nodup) {m : Mv} (hm : m ∈ l) : parS s l m.2 = s m.1 := parS_mem hn hm rfl _

theorem par_effective {s : Plc → Int} {l : List Mv} (hn : (l.map Prod.snd).Nodup) (p : Plc) : parS s (effective l) p = parS s l p := by
  have hne : ((effective l).map Prod.snd).Nodup := hn.sublist ((List.filter_sublist).map _)
  by_cases h : ∃ m ∈ l, m.2 = p
  · obtain ⟨m, hm, rfl⟩ := h
    rw [parS_to hn hm]
    by_cases hs : m.1 = m.2
    · rw [parS_not, hs]
      intro x hx e
      have hx' := List.mem_filter.1 hx
      have : x = m := by
        obtain ⟨i, hi, rfl⟩ := List.getElem_of_mem hx'.1
        obtain ⟨j, hj, rfl⟩ := List.getElem_of_mem hm
        have hi' : i < (l.map Prod.snd).length := by simpa using hi
        have hj' : j < (l.map Prod.snd).length := by simpa using hj
        have hij : i = j := nodup_inj hn hi' hj' (by simpa using e)
        subst hij; rfl
      subst this
      simp [hs] at hx'
    · exact parS_to hne (List.mem_filter.2 ⟨hm, by simpa using hs⟩)
  · have h' : ∀ m ∈ l, m.2 ≠ p := fun m hm e => h ⟨m, hm, e⟩
    rw [parS_not h']
    exact parS_not fun m hm => h' m (List.mem_filter.1 hm).1

/-- A step leaves the effect of all that is to be done as it is, but at the free place. -/
theorem step_par {free : Plc} {left : List Mv} (hp : Pend free left) (s : Plc → Int) {p : Plc} (hpf : p ≠ free) :
    parS (upd s (stepR free left).1.2 (s (stepR free left).1.1)) (stepR free left).2 p = parS s left p := by
  have hp' := step_pend hp
  unfold stepR at hp' ⊢
  split at hp'
  · rename_i i h
    obtain ⟨hi, hw, _⟩ := readyR_some h
    have hg : left.getD i default = left[i] := by rw [List.getD_eq_getElem?_getD, List.getElem?_eq_getElem hi]; rfl
    rw [hg]
    have hread : ∀ x ∈ left.eraseIdx i, x.1 ≠ left[i].2 := by
      intro x hx e
      obtain ⟨k, hk, h1, h2⟩ := List.mem_eraseIdx_iff_getElem.1 hx
      have : wantedB left i = true := (wantedB_iff hi).2 ⟨k, hk, h1, by rw [h2, e]⟩
      rw [this] at hw; cases hw
    have hto : ∀ x ∈ left.eraseIdx i, x.2 ≠ left[i].2 := by
      intro x hx e
      obtain ⟨k, hk, h1, h2⟩ := List.mem_eraseIdx_iff_getElem.1 hx
      have hi' : i < (left.map Prod.snd).length := by simpa using hi
      have hk' : k < (left.map Prod.snd).length := by simpa using hk
      exact h1 (nodup_inj hp.nodup hk' hi' (by simp [h2, e]))
    by_cases hpi : p = left[i].2
    · subst hpi
      rw [parS_not hto, parS_to hp.nodup (List.getElem_mem hi)]
      simp [upd]
    · by_cases hx : ∃ x ∈ left.eraseIdx i, x.2 = p
      · obtain ⟨x, hx, rfl⟩ := hx
        rw [parS_to hp'.nodup hx, parS_to hp.nodup (List.mem_of_mem_eraseIdx hx)]
        simp [upd, hread x hx]
      · have h' : ∀ m ∈ left.eraseIdx i, m.2 ≠ p := fun m hm e => hx ⟨m, hm, e⟩
        rw [parS_not h', parS_not]
        · simp [upd, hpi]
        · intro m hm e
          obtain ⟨k, hk, rfl⟩ := List.getElem_of_mem hm
          by_cases hki : k = i
          · subst hki; exact hpi e.symm
          · exact h' left[k] (List.mem_eraseIdx_iff_getElem.2 ⟨k, hk, hki, rfl⟩) e
  · rename_i h
    have hfr := stuck_free hp h
    simp only at hp' ⊢
    by_cases hx : ∃ x ∈ left, x.2 = p
    · obtain ⟨x, hx, rfl⟩ := hx
      have hm : turn (left.headD default).1 free x ∈ left.map (turn (left.headD default).1 free) := List.mem_map.2 ⟨x, hx, rfl⟩
      have := parS_to (s := upd s free (s (left.headD default).1)) hp'.nodup hm
      rw [turn_snd] at this
      rw [this, parS_to hp.nodup hx]
      unfold turn
      split
      · rename_i he; simp [upd, he]
      · simp [upd, hfr x hx]
    · rw [parS_not fun m hm e => hx ⟨m, hm, e⟩, parS_not]
      · simp [upd, hpf]
      · intro m hm e
        obtain ⟨y, hy, rfl⟩ := List.mem_map.1 hm
        rw [turn_snd] at e
        exact hx ⟨y, hy, e⟩

theorem orderN_par {free : Plc} : ∀ (n : Nat) (left : List Mv), Pend free left → mu free left ≤ n → ∀ (s : Plc → Int) (p : Plc), p ≠ free → seqS s (orderN free n left) p = parS s left p := by
  intro n
  induction n with
  | zero =>
    intro left _ hm s p _
    have : left = [] := List.eq_nil_of_length_eq_zero (by unfold mu at hm; omega)
    subst this; rfl
  | succ n ih =>
    intro left hp hm s p hpf
    by_cases hne : left = []
    · subst hne; rw [orderN_nil]; rfl
    · obtain ⟨k, hk, he, hmu⟩ := orderN_step hp hne hm
      have : k = n := by omega
      subst this
      rw [he]
      show seqS (upd s _ _) _ p = _
      rw [ih _ (step_pend hp) hmu _ p hpf, step_par hp s hpf]

/-- The main law: the sequence has the effect of the parallel move at every place but the free one. -/
theorem order_par {l : List Mv} {free : Plc} (h1 : rightB l = true) (h2 : namesB l free = false) (s : Plc → Int) {p : Plc} (hp : p ≠ free) :
    seqS s (orderSpec l free) p = parS s l p := by
  unfold orderSpec
  rw [h1, h2]
  show seqS s (orderN free (2 * l.length) (effective l)) p = _
  rw [orderN_par _ _ (effective_pend h1 h2) effective_mu s p hp, par_effective (of_decide_eq_true h1)]

/-! ### How many moves are emitted -/

def toC (free : Plc) (o : List Mv) : Nat := o.countP fun m => m.2 == free
def fromC (free : Plc) (o : List Mv) : Nat := o.countP fun m => m.1 == free

theorem step_self {free : Plc} {left : List Mv} (hp : Pend free left) (hne : left ≠ []) : (stepR free left).1.1 ≠ (stepR free left).1.2 := by
  unfold stepR
  split
  · rename_i i h
    have hi := (readyR_some h).1
    have hg : left.getD i default = left[i] := by rw [List.getD_eq_getElem?_getD, List.getElem?_eq_getElem hi]; rfl
    rw [hg]
    exact hp.self _ (List.getElem_mem hi)
  · rename_i h
    exact stuck_free hp h (left.headD default) (headD_mem hne)

theorem orderN_self {free : Plc} : ∀ (n : Nat) (left : List Mv), Pend free left → ∀ m ∈ orderN free n left, m.1 ≠ m.2 := by
  intro n
  induction n with
  | zero => intro left _ m hm; simp [orderN] at hm
  | succ n ih =>
    intro left hp m hm
    by_cases hne : left = []
    · subst hne; simp [orderN] at hm
    · simp only [orderN, hne, if_false] at hm
      rcases List.mem_cons.1 hm with rfl | hm
      · exact step_self hp hne
      · exact ih _ (step_pend hp) m hm

def pf (free : Plc) (left : List Mv) : Nat := left.countP fun m => m.1 == free

theorem countP_eraseIdx {p : Mv → Bool} : ∀ (l : List Mv) (i : Nat) (hi : i < l.length), l.countP p = (l.eraseIdx i).countP p + (if p l[i] then 1 else 0)
  | [], i, hi => by simp at hi
  | x :: l, 0, _ => by simp [List.countP_cons]
  | x :: l, i + 1, hi => by
    have := countP_eraseIdx (p := p) l i (by simpa using hi)
    simp only [List.eraseIdx_cons_succ, List.countP_cons, List.getElem_cons_succ]
    omega

theorem orderN_count {free : Plc} : ∀ (n : Nat) (left : List Mv), Pend free left → mu free left ≤ n →
    (orderN free n left).length = left.length + toC free (orderN free n left) ∧ toC free (orderN free n left) + pf free left ≤ fromC free (orderN free n left) := by
  intro n
  induction n with
  | zero =>
    intro left _ hm
    have : left = [] := List.eq_nil_of_length_eq_zero (by unfold mu at hm; omega)
    subst this; simp [orderN, toC, pf, fromC]
  | succ n ih =>
    intro left hp hm
    by_cases hne : left = []
    · subst hne; simp [orderN, toC, pf, fromC]
    · obtain ⟨k, hk, he, hmu⟩ := orderN_step hp hne hm
      have : k = n := by omega
      subst this
      obtain ⟨i1, i2⟩ := ih _ (step_pend hp) hmu
      rw [he]
      generalize orderN free k (stepR free left).2 = o at *
      clear he hmu
      unfold stepR at i1 i2 ⊢
      split
      · rename_i i h
        rw [h] at i1 i2
        obtain ⟨hi, _, _⟩ := readyR_some h
        have hg : left.getD i default = left[i] := by rw [List.getD_eq_getElem?_getD, List.getElem?_eq_getElem hi]; rfl
        simp only [hg] at i1 i2 ⊢
        have ht : (left[i].2 == free) = false := by simpa using hp.toFree _ (List.getElem_mem hi)
        rw [List.length_eraseIdx_of_lt hi] at i1
        have hc := countP_eraseIdx (p := fun m => m.1 == free) left i hi
        unfold toC fromC pf at *
        simp only [List.length_cons, List.countP_cons, ht] at *
        constructor
        · simp only [Bool.false_eq_true, if_false]; omega
        · simp only [Bool.false_eq_true, if_false]; omega
      · rename_i h
        rw [h] at i1 i2
        have hfr := stuck_free hp h
        have hhm := headD_mem hne
        simp only at i1 i2 ⊢
        have hz : pf free left = 0 := by
          unfold pf
          rw [List.countP_eq_zero]
          intro m hm'
          simpa using hfr m hm'
        have hpos : 0 < pf free (left.map (turn (left.headD default).1 free)) := by
          unfold pf
          rw [List.countP_pos_iff]
          exact ⟨_, List.mem_map.2 ⟨_, hhm, rfl⟩, by simp [turn]⟩
        have hf : ((left.headD default).1 == free) = false := by simpa using hfr _ hhm
        rw [List.length_map] at i1
        unfold toC fromC at *
        simp only [List.length_cons, List.countP_cons, hf, beq_self_eq_true, if_true] at *
        constructor
        · omega
        · simp only [Bool.false_eq_true, if_false]; omega

def anyB (p : Mv → Bool) (l : List Mv) : Nat := if l.any p then 1 else 0

theorem anyB_eraseIdx (p : Mv → Bool) (l : List Mv) (i : Nat) (hi : i < l.length) : anyB p l ≤ anyB p (l.eraseIdx i) + (if p l[i] then 1 else 0) := by
  unfold anyB
  by_cases h : l.any p = true
  · rw [if_pos h]
    obtain ⟨x, hx, hpx⟩ := List.any_eq_true.1 h
    obtain ⟨k, hk, rfl⟩ := List.getElem_of_mem hx
    by_cases hki : k = i
    · subst hki; simp [hpx]
    · have : (l.eraseIdx i).any p = true := List.any_eq_true.2 ⟨l[k], List.mem_eraseIdx_iff_getElem.2 ⟨k, hk, hki, rfl⟩, hpx⟩
      rw [if_pos this]; omega
  · rw [if_neg h]; omega

theorem orderN_half {free : Plc} : ∀ (n : Nat) (left : List Mv) (f : Option Plc), Pend free left → mu free left ≤ n → (∀ m ∈ left, some m.1 ≠ f) → (∀ m ∈ left, some m.2 = f → m.1 ≠ free) →
    2 * toC free (orderN free n left) + anyB (fun m => m.1 == free) left + anyB (fun m => some m.2 == f) left ≤ left.length := by
  intro n
  induction n with
  | zero =>
    intro left f _ hm _ _
    have : left = [] := List.eq_nil_of_length_eq_zero (by unfold mu at hm; omega)
    subst this; simp [orderN, toC, anyB]
  | succ n ih =>
    intro left f hp hm h1 h2
    by_cases hne : left = []
    · subst hne; simp [orderN, toC, anyB]
    · obtain ⟨k, hk, he, hmu⟩ := orderN_step hp hne hm
      have : k = n := by omega
      subst this
      rw [he]
      cases hr : readyR left with
      | some i =>
        obtain ⟨hi, _, _⟩ := readyR_some hr
        have hg : left.getD i default = left[i] := by rw [List.getD_eq_getElem?_getD, List.getElem?_eq_getElem hi]; rfl
        have hst : stepR free left = (left[i], left.eraseIdx i) := by unfold stepR; rw [hr]; simp only [hg]
        have hi3 := ih _ f (step_pend hp) hmu (by rw [hst]; exact fun m hm' => h1 m (List.mem_of_mem_eraseIdx hm')) (by rw [hst]; exact fun m hm' => h2 m (List.mem_of_mem_eraseIdx hm'))
        rw [hst] at hi3 ⊢
        simp only at hi3 ⊢
        generalize orderN free k (left.eraseIdx i) = o at *
        have ht : (left[i].2 == free) = false := by simpa using hp.toFree _ (List.getElem_mem hi)
        rw [List.length_eraseIdx_of_lt hi] at hi3
        have a1 := anyB_eraseIdx (fun m => m.1 == free) left i hi
        have a2 := anyB_eraseIdx (fun m => some m.2 == f) left i hi
        have a3 : (if (left[i].1 == free) = true then 1 else 0) + (if (some left[i].2 == f) = true then 1 else 0) ≤ 1 := by
          by_cases c : some left[i].2 = f
          · have := h2 _ (List.getElem_mem hi) c
            simp [c, this]
          · simp only [beq_iff_eq, c, if_false]; split <;> omega
        unfold toC at *
        simp only [List.countP_cons, ht, Bool.false_eq_true, if_false] at *
        omega
      | none =>
        have hst : stepR free left = (((left.headD default).1, free), left.map (turn (left.headD default).1 free)) := by unfold stepR; rw [hr]
        have hfr := stuck_free hp hr
        have hhm := headD_mem hne
        have hhf := hfr _ hhm
        have hi3 := ih _ (some (left.headD default).1) (step_pend hp) hmu (by
          rw [hst]
          intro m hm' e
          obtain ⟨x, hx, rfl⟩ := List.mem_map.1 hm'
          unfold turn at e
          split at e
          · exact hhf (by simpa using e.symm)
          · rename_i hc; exact hc (by simpa using e)) (by
          rw [hst]
          intro m hm' e
          obtain ⟨x, hx, rfl⟩ := List.mem_map.1 hm'
          rw [turn_snd] at e
          unfold turn
          split
          · rename_i hc
            exact absurd (hc.trans (by simpa using e.symm)) (hp.self x hx)
          · exact hfr x hx)
        rw [hst] at hi3 ⊢
        simp only at hi3 ⊢
        generalize orderN free k (left.map (turn (left.headD default).1 free)) = o at *
        have b1 : anyB (fun m => m.1 == free) left = 0 := by
          unfold anyB
          rw [if_neg]
          intro hc
          obtain ⟨x, hx, hpx⟩ := List.any_eq_true.1 hc
          exact hfr x hx (by simpa using hpx)
        have b2 : anyB (fun m => some m.2 == f) left = 0 := by
          unfold anyB
          rw [if_neg]
          intro hc
          obtain ⟨x, hx, hpx⟩ := List.any_eq_true.1 hc
          obtain ⟨i, hi, rfl⟩ := List.getElem_of_mem hx
          obtain ⟨j, hj, _, h4⟩ := (wantedB_iff hi).1 (readyR_none hr i hi)
          exact h1 _ (List.getElem_mem hj) (by rw [h4]; simpa using hpx)
        have b3 : anyB (fun m => m.1 == free) (left.map (turn (left.headD default).1 free)) = 1 := by
          unfold anyB
          rw [if_pos]
          exact List.any_eq_true.2 ⟨_, List.mem_map.2 ⟨_, hhm, rfl⟩, by simp [turn]⟩
        have b4 : anyB (fun m => some m.2 == some (left.headD default).1) (left.map (turn (left.headD default).1 free)) = 1 := by
          unfold anyB
          rw [if_pos]
          obtain ⟨x, hx, hx2⟩ := List.mem_map.1 (stuck_sub hp hr _ hhm)
          exact List.any_eq_true.2 ⟨_, List.mem_map.2 ⟨x, hx, rfl⟩, by rw [turn_snd, hx2]; simp⟩
        rw [List.length_map] at hi3
        unfold toC at *
        simp only [List.countP_cons, beq_self_eq_true, if_true] at *
        omega

/-- What the law on numbers asks. -/
theorem order_few (l : List Mv) (free : Plc) : (∀ m ∈ orderSpec l free, m.1 ≠ m.2) ∧
    (orderSpec l free = [] ∨ ((orderSpec l free).length = (effective l).length + toC free (orderSpec l free) ∧ 2 * toC free (orderSpec l free) ≤ (effective l).length ∧ toC free (orderSpec l free) ≤ fromC free (orderSpec l free))) := by
  unfold orderSpec
  by_cases h : (rightB l && !namesB l free) = true
  · rw [if_pos h]
    have h1 : rightB l = true := by simp only [Bool.and_eq_true] at h; exact h.1
    have h2 : namesB l free = false := by simp only [Bool.and_eq_true, Bool.not_eq_true'] at h; exact h.2
    have hp := effective_pend h1 h2
    have hm := effective_mu (l := l) (free := free)
    obtain ⟨c1, c2⟩ := orderN_count _ _ hp hm
    have c3 := orderN_half _ _ none hp hm (by simp) (by simp)
    exact ⟨orderN_self _ _ hp, .inr ⟨c1, by omega, by omega⟩⟩
  · rw [if_neg h]
    exact ⟨by simp, .inl rfl⟩

theorem orderN_len (free : Plc) : ∀ (n : Nat) (left : List Mv), (orderN free n left).length ≤ n
  | 0, _ => by simp [orderN]
  | n + 1, left => by
    simp only [orderN]
    split
    · simp
    · have := orderN_len free n (stepR free left).2
      simp; omega

theorem order_len (l : List Mv) (free : Plc) : (orderSpec l free).length ≤ 2 * l.length := by
  unfold orderSpec
  split
  · exact orderN_len _ _ _
  · simp

end Go.Proofs.Ytpjckgmhcbhphaa
