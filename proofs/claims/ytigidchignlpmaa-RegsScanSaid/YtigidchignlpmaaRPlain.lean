/-
  Linear scan, as plain data. No program in sight.
-/
namespace Go.Proofs.Ytigidchignlpmaa.Rg

abbrev Rng := Int × Int

/-! ### Lists -/

theorem nodup_sub {α : Type} [DecidableEq α] : ∀ {xs ys : List α}, xs.Nodup → (∀ x ∈ xs, x ∈ ys) → xs.length ≤ ys.length
  | [], _, _, _ => Nat.zero_le _
  | x :: xs, ys, hn, hs => by
    have hx : x ∈ ys := hs x (by simp)
    rw [List.nodup_cons] at hn
    have := nodup_sub (ys := ys.erase x) hn.2 (fun z hz => (List.mem_erase_of_ne (by rintro rfl; exact hn.1 hz)).2 (hs z (by simp [hz])))
    rw [List.length_erase_of_mem hx] at this
    have hp := List.length_pos_of_mem hx
    simp; omega

/-! ### Ranges -/

def mayL : Int → List Rng → Bool
  | _, [] => true
  | a, r :: rs => !(decide (r.1 < a) || decide (r.2 ≤ r.1)) && mayL r.2 rs
def may (x : List Rng) : Bool := mayL 0 x && decide (0 < x.length)
def bgn (x : List Rng) : Int := (x.headD (0, 0)).1
def fin (x : List Rng) : Int := (x.getLastD (0, 0)).2
def lapsB (b e b' e' : Int) : Bool := decide (b < e') && decide (b' < e)
def meet1 (x : Rng) (y : List Rng) : Bool := y.any fun r => decide (max x.1 r.1 < min x.2 r.2)
def meets (x y : List Rng) : Bool := x.any fun r => meet1 r y

theorem bgn_get {x : List Rng} {r : Rng} (h : x[0]? = some r) : bgn x = r.1 := by
  cases x with
  | nil => simp at h
  | cons s xs => simp at h; subst h; rfl
theorem fin_get {x : List Rng} {r : Rng} {k : Nat} (h : x[k]? = some r) (hk : k + 1 = x.length) : fin x = r.2 := by
  unfold fin
  rw [List.getLastD_eq_getLast?, List.getLast?_eq_getElem?, show x.length - 1 = k by omega, h]; rfl
theorem mayL_bounds : ∀ {x : List Rng} {a : Int}, mayL a x = true → ∀ r ∈ x, a ≤ r.1 ∧ r.1 < r.2 ∧ r.2 ≤ (x.getLastD (0, 0)).2 ∧ (x.headD (0, 0)).1 ≤ r.1
  | [], _, _, r, hr => by simp at hr
  | s :: xs, a, h, r, hr => by
    simp only [mayL, Bool.and_eq_true, Bool.not_eq_true', Bool.or_eq_false_iff, decide_eq_false_iff_not] at h
    obtain ⟨⟨h1, h2⟩, h3⟩ := h
    have ih := fun r hr => mayL_bounds h3 r hr
    have hlast : s.2 ≤ ((s :: xs).getLastD (0, 0)).2 ∧ ∀ q ∈ xs, ((s :: xs).getLastD (0, 0)) = (xs.getLastD (0, 0)) := by
      cases xs with
      | nil => simp
      | cons t ts =>
        have := (ih t (by simp))
        refine ⟨?_, fun _ _ => by simp⟩
        have e : ((s :: t :: ts).getLastD (0, 0)) = ((t :: ts).getLastD (0, 0)) := by simp
        rw [e]; omega
    rcases List.mem_cons.1 hr with e | hr
    · subst e
      exact ⟨by omega, by omega, hlast.1, by simp⟩
    · have := ih r hr
      refine ⟨by omega, this.2.1, ?_, ?_⟩
      · rw [hlast.2 r hr]; exact this.2.2.1
      · simp only [List.headD_cons]; omega
theorem may_bounds {x : List Rng} (h : may x = true) : 0 ≤ bgn x ∧ bgn x < fin x ∧ ∀ r ∈ x, bgn x ≤ r.1 ∧ r.1 < r.2 ∧ r.2 ≤ fin x := by
  unfold may at h
  rw [Bool.and_eq_true] at h
  have hb := fun r hr => mayL_bounds h.1 r hr
  have hl := of_decide_eq_true h.2
  cases x with
  | nil => simp at hl
  | cons s xs =>
    have h1 := hb s (by simp)
    refine ⟨?_, ?_, fun r hr => ?_⟩
    · unfold bgn; simp only [List.headD_cons]; omega
    · unfold bgn fin; simp only [List.headD_cons]; omega
    · have := hb r hr
      exact ⟨this.2.2.2, this.2.1, this.2.2.1⟩
theorem not_meets {x y : List Rng} (hx : may x = true) (hy : may y = true) (h : fin x ≤ bgn y ∨ fin y ≤ bgn x) : meets x y = false := by
  have h1 := (may_bounds hx).2.2
  have h2 := (may_bounds hy).2.2
  unfold meets meet1
  rw [List.any_eq_false]
  intro r hr
  rw [Bool.not_eq_true, List.any_eq_false]
  intro s hs
  have a := h1 r hr
  have b := h2 s hs
  simp only [decide_eq_true_eq]
  omega

/-! ### The order -/

section
variable (B : Nat → Int)
/-- One put into place. -/
def ins (out : List Nat) (i : Nat) : List Nat := out.takeWhile (fun k => decide (B k ≤ B i)) ++ i :: out.dropWhile (fun k => decide (B k ≤ B i))
def ord (n : Nat) : List Nat := (List.range n).foldl (ins B) []
/-- Ahead in the order. -/
def Lt (x y : Nat) : Prop := B x < B y ∨ (B x = B y ∧ x < y)
end
theorem Lt.trans {B : Nat → Int} {x y z : Nat} (h : Lt B x y) (k : Lt B y z) : Lt B x z := by unfold Lt at *; omega
theorem Lt.irrefl {B : Nat → Int} {x : Nat} (h : Lt B x x) : False := by unfold Lt at h; omega
theorem Lt.asymm {B : Nat → Int} {x y : Nat} (h : Lt B x y) (k : Lt B y x) : False := (h.trans k).irrefl
theorem Lt.total {B : Nat → Int} {x y : Nat} (h : x ≠ y) : Lt B x y ∨ Lt B y x := by unfold Lt; omega

theorem sorted_unique {B : Nat → Int} : ∀ {xs ys : List Nat}, xs.Perm ys → xs.Pairwise (Lt B) → ys.Pairwise (Lt B) → xs = ys
  | [], ys, h, _, _ => (List.nil_perm.1 h).symm
  | x :: xs, ys, h, hx, hy => by
    rw [List.pairwise_cons] at hx
    cases ys with
    | nil => exact absurd (List.perm_nil.1 h) (by simp)
    | cons y ys =>
      rw [List.pairwise_cons] at hy
      have hxy : x = y := by
        by_cases e : x = y
        · exact e
        · have h1 : x ∈ y :: ys := h.subset (by simp)
          have h2 : y ∈ x :: xs := h.symm.subset (by simp)
          rcases List.mem_cons.1 h1 with h1 | h1
          · exact h1
          rcases List.mem_cons.1 h2 with h2 | h2
          · exact h2.symm
          exact ((hx.1 y h2).asymm (hy.1 x h1)).elim
      subst hxy
      rw [sorted_unique h.cons_inv hx.2 hy.2]

theorem ins_perm (B : Nat → Int) (out : List Nat) (i : Nat) : (ins B out i).Perm (out ++ [i]) := by
  unfold ins
  have h1 : (out.takeWhile (fun k => decide (B k ≤ B i)) ++ i :: out.dropWhile (fun k => decide (B k ≤ B i))).Perm (i :: (out.takeWhile (fun k => decide (B k ≤ B i)) ++ out.dropWhile (fun k => decide (B k ≤ B i)))) := List.perm_middle
  rw [List.takeWhile_append_dropWhile] at h1
  exact h1.trans (List.perm_append_singleton i out).symm
theorem mem_dropWhile_gt {B : Nat → Int} {i : Nat} : ∀ {out : List Nat}, out.Pairwise (Lt B) → ∀ k ∈ out.dropWhile (fun k => decide (B k ≤ B i)), B i < B k
  | [], _, k, hk => by simp at hk
  | x :: xs, h, k, hk => by
    rw [List.pairwise_cons] at h
    rw [List.dropWhile_cons] at hk
    split at hk
    · exact mem_dropWhile_gt h.2 k hk
    · rename_i hx
      have hx : B i < B x := by simpa using hx
      rcases List.mem_cons.1 hk with e | hk
      · subst e; exact hx
      · have := h.1 k hk; unfold Lt at this; omega
theorem mem_takeWhile_le {B : Nat → Int} {i : Nat} : ∀ {out : List Nat}, ∀ k ∈ out.takeWhile (fun k => decide (B k ≤ B i)), B k ≤ B i ∧ k ∈ out
  | [], k, hk => by simp at hk
  | x :: xs, k, hk => by
    rw [List.takeWhile_cons] at hk
    split at hk
    · rename_i hx
      rcases List.mem_cons.1 hk with e | hk
      · subst e; exact ⟨by simpa using hx, by simp⟩
      · have := mem_takeWhile_le k hk; exact ⟨this.1, by simp [this.2]⟩
    · simp at hk
theorem ins_sorted {B : Nat → Int} {out : List Nat} {i : Nat} (h : out.Pairwise (Lt B)) (hi : ∀ k ∈ out, k < i) : (ins B out i).Pairwise (Lt B) := by
  unfold ins
  rw [List.pairwise_append]
  refine ⟨h.sublist (List.takeWhile_sublist _), ?_, ?_⟩
  · rw [List.pairwise_cons]
    exact ⟨fun k hk => .inl (mem_dropWhile_gt h k hk), h.sublist (List.dropWhile_sublist _)⟩
  · intro a ha b hb
    have h1 := mem_takeWhile_le a ha
    rcases List.mem_cons.1 hb with e | hb
    · subst e
      have := hi a h1.2
      unfold Lt; omega
    · have := mem_dropWhile_gt h b hb
      exact .inl (by omega)
theorem ord_ok (B : Nat → Int) : ∀ n, (ord B n).Perm (List.range n) ∧ (ord B n).Pairwise (Lt B)
  | 0 => ⟨by simp [ord], by simp [ord]⟩
  | n + 1 => by
    have ih := ord_ok B n
    have e : ord B (n + 1) = ins B (ord B n) n := by unfold ord; rw [List.range_succ, List.foldl_append]; rfl
    rw [e, List.range_succ]
    refine ⟨(ins_perm B _ n).trans (ih.1.append_right _), ins_sorted ih.2 (fun k hk => ?_)⟩
    simpa using ih.1.subset hk
theorem ord_eq {B : Nat → Int} {n : Nat} {xs : List Nat} (h : xs.Perm (List.range n)) (hs : xs.Pairwise (Lt B)) : xs = ord B n :=
  sorted_unique (h.trans (ord_ok B n).1.symm) hs (ord_ok B n).2
theorem ord_congr {B B' : Nat → Int} (n : Nat) (h : ∀ x y, x < n → y < n → (Lt B x y ↔ Lt B' x y)) : ord B n = ord B' n := by
  refine ord_eq (ord_ok B n).1 ?_
  have hm : ∀ x ∈ ord B n, x < n := fun x hx => by simpa using (ord_ok B n).1.subset hx
  exact (ord_ok B n).2.imp_of_mem fun {a b} ha hb hab => (h a b (hm a ha) (hm b hb)).1 hab

/-! ### The scan -/

/-- The registers; the places; the spilled in the order in which they were; the number of slots. -/
structure Sc where
  held : List (Option Nat)
  pl : List (Bool × Nat)
  out : List Nat
  slots : Nat

def freeSlot (p : Nat → Bool) : Nat → Nat → Nat
  | 0, n => n
  | f + 1, n => if p n then freeSlot p f (n + 1) else n

section
variable (B E : Nat → Int) (s0 : Nat)
def laps (x y : Nat) : Bool := lapsB (B x) (E x) (B y) (E y)
def Sc.takes (s : Sc) (x n y : Nat) : Bool := decide ((s.pl.getD y (false, 0)).2 = n) && laps B E x y
def Sc.taken (s : Sc) (x n : Nat) : Bool := s.out.any (s.takes B E x n)
def Sc.slot (s : Sc) (x : Nat) : Nat := freeSlot (s.taken B E x) s.out.length s0
def Sc.spill (s : Sc) (x : Nat) : Sc :=
  { s with pl := s.pl.set x (true, s.slot B E s0 x), out := s.out ++ [x], slots := max s.slots (s.slot B E s0 x + 1) }
/-- What is left in a register. -/
def back1 (x : Nat) (o : Option Nat) : Option Nat := match o with
  | none => none
  | some y => if E y ≤ B x then none else some y
def Sc.back (s : Sc) (x : Nat) : Sc := { s with held := s.held.map (back1 B E x) }
/-- Does y end behind last? -/
def later (last y : Nat) : Bool := decide (E last < E y) || (decide (E y = E last) && decide (last < y))
/-- The last to end of those in the registers, and of x; in which register. -/
def lastL (x : Nat) (held : List (Option Nat)) : Nat × Option Nat :=
  (held.zipIdx).foldl (fun a p => match p.1 with
    | none => a
    | some y => if later E a.1 y then (y, some p.2) else a) (x, none)
def Sc.have_ (s : Sc) (r x : Nat) : Sc := { s with held := s.held.set r (some x), pl := s.pl.set x (false, r) }
def Sc.place (s : Sc) (x : Nat) : Sc :=
  if none ∈ s.held then s.have_ (s.held.idxOf none) x
  else match (lastL E x s.held).2 with
    | none => s.spill B E s0 x
    | some r => (s.spill B E s0 (lastL E x s.held).1).have_ r x
def Sc.step (s : Sc) (x : Nat) : Sc := (s.back B E x).place B E s0 x
def Sc.init (k n : Nat) : Sc := ⟨List.replicate k none, List.replicate n (false, 0), [], s0⟩
def scan (k n : Nat) (l : List Nat) : Sc := l.foldl (Sc.step B E s0) (Sc.init s0 k n)
end

/-! #### The free slot -/

theorem freeSlot_spec {p : Nat → Bool} {ys : List Nat} (h : ∀ m, p m = true → m ∈ ys) : ∀ (f n : Nat), (∀ m, n ≤ m → m < n + f → True) → (ys.filter (fun m => decide (n ≤ m))).length ≤ f →
    n ≤ freeSlot p f n ∧ freeSlot p f n ≤ n + f ∧ p (freeSlot p f n) = false ∧ ∀ m, n ≤ m → m < freeSlot p f n → p m = true
  | 0, n, _, hl => by
    refine ⟨Nat.le_refl _, Nat.le_refl _, ?_, fun m h1 h2 => by simp [freeSlot] at h2; omega⟩
    show p n = false
    cases hp : p n with
    | false => rfl
    | true =>
      have hm : n ∈ ys.filter (fun m => decide (n ≤ m)) := List.mem_filter.2 ⟨h n hp, by simp⟩
      have := List.length_pos_of_mem hm
      omega
  | f + 1, n, _, hl => by
    simp only [freeSlot]
    cases hp : p n with
    | false => exact ⟨Nat.le_refl _, by simp, by simpa using hp, fun m h1 h2 => by simp at h2; omega⟩
    | true =>
      simp only [if_true]
      have hlt : (ys.filter (fun m => decide (n + 1 ≤ m))).length ≤ f := by
        have hm : n ∈ ys.filter (fun m => decide (n ≤ m)) := List.mem_filter.2 ⟨h n hp, by simp⟩
        have hsub : (ys.filter (fun m => decide (n + 1 ≤ m))).length < (ys.filter (fun m => decide (n ≤ m))).length := by
          have e : ys.filter (fun m => decide (n + 1 ≤ m)) = (ys.filter (fun m => decide (n ≤ m))).filter (fun m => decide (n + 1 ≤ m)) := by
            rw [List.filter_filter]
            refine List.filter_congr fun m _ => ?_
            rw [← Bool.decide_and, decide_eq_decide]; omega
          rw [e]
          exact List.length_filter_lt_length_iff_exists.2 ⟨n, hm, by simp⟩
        omega
      obtain ⟨h1, h2, h3, h4⟩ := freeSlot_spec h f (n + 1) (fun _ _ _ => trivial) hlt
      refine ⟨by omega, by omega, h3, fun m a b => ?_⟩
      by_cases e : m = n
      · subst e; exact hp
      · exact h4 m (by omega) b
/-- The free slot is the one lowest that is free. -/
theorem freeSlot_unique {p : Nat → Bool} {n a b : Nat} (ha : n ≤ a) (hb : n ≤ b) (ha0 : p a = false) (hb0 : p b = false) (ha1 : ∀ m, n ≤ m → m < a → p m = true) (hb1 : ∀ m, n ≤ m → m < b → p m = true) : a = b := by
  rcases Nat.lt_trichotomy a b with h | h | h
  · have := hb1 a ha h; rw [ha0] at this; cases this
  · exact h
  · have := ha1 b hb h; rw [hb0] at this; cases this

section
variable (B E : Nat → Int) (s0 : Nat)
theorem Sc.slot_spec (s : Sc) (x : Nat) : s0 ≤ s.slot B E s0 x ∧ s.slot B E s0 x ≤ s0 + s.out.length ∧ s.taken B E x (s.slot B E s0 x) = false ∧ ∀ m, s0 ≤ m → m < s.slot B E s0 x → s.taken B E x m = true := by
  unfold Sc.slot
  refine freeSlot_spec (p := s.taken B E x) (ys := s.out.map (fun y => (s.pl.getD y (false, 0)).2)) (fun m hm => ?_) _ _ (fun _ _ _ => trivial) ?_
  · unfold Sc.taken at hm
    rw [List.any_eq_true] at hm
    obtain ⟨y, hy, h⟩ := hm
    unfold Sc.takes at h
    rw [Bool.and_eq_true] at h
    exact List.mem_map.2 ⟨y, hy, of_decide_eq_true h.1⟩
  · exact Nat.le_trans (List.length_filter_le _ _) (by simp)
end
end Go.Proofs.Ytigidchignlpmaa.Rg
