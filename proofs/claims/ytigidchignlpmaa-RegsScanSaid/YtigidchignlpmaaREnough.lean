/-
  Linear scan, plain: spilled only where too many overlap; a scan of what is shifted; the reference's scan.
-/
import Derived.Test.YtigidchignlpmaaRSound
namespace Go.Proofs.Ytigidchignlpmaa.Rg

/-! ### Enough registers -/

section
variable (B E : Nat → Int) (n : Nat)
def over (p : Int) : List Nat := (List.range n).filter fun j => decide (B j ≤ p) && decide (p < E j)
def lap (p : Int) : Nat := (over B E n p).length
end
def spilled (pl : List (Bool × Nat)) : Nat := (pl.filter (·.1)).length

theorem pl_eq {s : Sc} {n : Nat} (h : s.pl.length = n) : s.pl = (List.range n).map s.at_ := by
  refine List.ext_getElem (by simp [h]) fun i h1 h2 => ?_
  simp [Sc.at_, List.getD_eq_getElem?_getD, h1]
theorem spilled_eq {s : Sc} {n : Nat} (h : s.pl.length = n) : spilled s.pl = ((List.range n).filter (fun y => (s.at_ y).1)).length := by
  unfold spilled
  rw [pl_eq h, List.filter_map, List.length_map]
  rfl

section
variable {B E : Nat → Int} {s0 k n : Nat} {done : List Nat} {s : Sc}
theorem Inv.spilled_le (h : Inv B E s0 k n done s) : s.out.length ≤ spilled s.pl := by
  rw [spilled_eq h.base.pln]
  refine nodup_sub h.base.nd fun x hx => ?_
  have := (h.base.out x).1 hx
  exact List.mem_filter.2 ⟨by simpa using h.base.lt x this.1, this.2⟩
theorem Inv.spilled_zero (h : Inv B E s0 k n done s) : spilled s.pl = 0 ↔ s.out = [] := by
  constructor
  · intro h0
    have := h.spilled_le
    exact List.eq_nil_of_length_eq_zero (by omega)
  · intro h0
    rw [spilled_eq h.base.pln, List.length_eq_zero_iff, List.filter_eq_nil_iff]
    intro y _
    by_cases hy : y ∈ done
    · intro h1
      have := (h.base.out y).2 ⟨hy, h1⟩
      rw [h0] at this; simp at this
    · rw [h.base.undone y hy]; simp
theorem Mid.crowd {x : Nat} (h : Mid B E s0 k n done x s) (hn : none ∉ s.held) : k + 1 ≤ lap B E n (B x) := by
  have hg : ∀ r, r < k → ∃ y, s.held[r]? = some (some y) := fun r hr => by
    have hr' : r < s.held.length := by rw [h.base.hl]; exact hr
    cases hh : s.held[r] with
    | none => exact absurd (hh ▸ List.getElem_mem hr') hn
    | some y => exact ⟨y, by rw [List.getElem?_eq_getElem hr', hh]⟩
  obtain ⟨f, hf⟩ : ∃ f : Nat → Nat, f = fun r => ((s.held[r]?).getD none).getD 0 := ⟨_, rfl⟩
  have hfs : ∀ r, r < k → s.held[r]? = some (some (f r)) := fun r hr => by
    obtain ⟨y, hy⟩ := hg r hr
    rw [hf]; simp [hy]
  have hin : ∀ r, r < k → f r ∈ done ∧ s.at_ (f r) = (false, r) := fun r hr => h.base.hin r _ (hfs r hr)
  have hnd : (x :: (List.range k).map f).Nodup := by
    rw [List.nodup_cons]
    constructor
    · intro hx
      obtain ⟨r, hr, e⟩ := List.mem_map.1 hx
      exact h.new (e ▸ (hin r (by simpa using hr)).1)
    · unfold List.Nodup
      rw [List.pairwise_map]
      refine List.nodup_range.imp_of_mem fun {a b} ha hb hab e => hab ?_
      have h1 := (hin a (by simpa using ha)).2
      have h2 := (hin b (by simpa using hb)).2
      rw [e, h2] at h1
      injection h1 with _ h1
      exact h1.symm
  have := nodup_sub hnd (ys := over B E n (B x)) fun y hy => by
    unfold over
    rw [List.mem_filter]
    rcases List.mem_cons.1 hy with e | hy
    · subst e
      exact ⟨by simpa using h.xn, by simp [h.pos]⟩
    · obtain ⟨r, hr, e⟩ := List.mem_map.1 hy
      have hr : r < k := by simpa using hr
      subst e
      have h1 := hin r hr
      exact ⟨by simpa using h.base.lt _ h1.1, by simp [h.le _ h1.1, h.gt r _ (hfs r hr)]⟩
  simpa [lap] using this
theorem Mid.crowded {x : Nat} (h : Mid B E s0 k n done x s) (h0 : s.out = [] ∨ ∃ i, i < n ∧ k < lap B E n (B i)) :
    (s.place B E s0 x).out = [] ∨ ∃ i, i < n ∧ k < lap B E n (B i) := by
  unfold Sc.place
  split
  · exact h0.imp id id
  · rename_i hn
    exact .inr ⟨x, h.xn, h.crowd hn⟩
end
theorem scan_crowd {B E : Nat → Int} {s0 k n : Nat} (hv : ∀ i, i < n → B i < E i) : ∀ (l done : List Nat) (s : Sc), Inv B E s0 k n done s → (done ++ l).Pairwise (Lt B) → (∀ y ∈ l, y < n) → (s.out = [] ∨ ∃ i, i < n ∧ k < lap B E n (B i)) →
    (l.foldl (Sc.step B E s0) s).out = [] ∨ ∃ i, i < n ∧ k < lap B E n (B i)
  | [], done, s, h, _, _, h0 => h0
  | x :: l, done, s, h, hs, hl, h0 => by
    have hp := List.pairwise_append.1 hs
    have h1 : ∀ y ∈ done, Lt B y x := fun y hy => hp.2.2 y hy x (by simp)
    have hm := h.back (hl x (by simp)) (fun hx => (h1 x hx).irrefl) (fun y hy => by have := h1 y hy; unfold Lt at this; omega) (hv x (hl x (by simp)))
    exact scan_crowd hv l (done ++ [x]) _ hm.place (by simpa using hs) (fun y hy => hl y (by simp [hy])) (hm.crowded h0)
/-- Something is spilled just where more overlap than there are registers. -/
theorem enough {B E : Nat → Int} {s0 k n : Nat} (hv : ∀ i, i < n → B i < E i) : spilled (Rg.scan B E s0 k n (ord B n)).pl = 0 ↔ ∀ i, i < n → lap B E n (B i) ≤ k := by
  have hI := Inv.whole (s0 := s0) (k := k) hv
  have ho := ord_ok B n
  rw [hI.spilled_zero]
  constructor
  · intro h0 i hi
    have hd : ∀ y, y < n → y ∈ ord B n := fun y hy => ho.1.symm.subset (by simpa using hy)
    have hf : ∀ y, y < n → ((Rg.scan B E s0 k n (ord B n)).at_ y).1 = false := fun y hy => by
      cases h1 : ((Rg.scan B E s0 k n (ord B n)).at_ y).1 with
      | false => rfl
      | true =>
        have := (hI.base.out y).2 ⟨hd y hy, h1⟩
        rw [h0] at this; simp at this
    have hmem : ∀ y ∈ over B E n (B i), y < n ∧ B y ≤ B i ∧ B i < E y := fun y hy => by
      unfold over at hy
      rw [List.mem_filter] at hy
      simpa using hy
    have hnd : ((over B E n (B i)).map fun y => ((Rg.scan B E s0 k n (ord B n)).at_ y).2).Nodup := by
      unfold List.Nodup
      rw [List.pairwise_map]
      have hn0 : (over B E n (B i)).Nodup := List.nodup_range.sublist List.filter_sublist
      refine hn0.imp_of_mem fun {a b} ha hb hab e => ?_
      have h1 := hmem a ha
      have h2 := hmem b hb
      rcases hI.base.rapart a (hd a h1.1) b (hd b h2.1) hab (hf a h1.1) (hf b h2.1) e with h3 | h3 <;> omega
    have := nodup_sub hnd (ys := List.range k) fun r hr => by
      obtain ⟨y, hy, e⟩ := List.mem_map.1 hr
      subst e
      have h1 := hmem y hy
      simpa using hI.base.reg y (hd y h1.1) (hf y h1.1)
    simpa [lap] using this
  · intro h0
    rcases scan_crowd (s0 := s0) (k := k) hv (ord B n) [] _ Inv.init (by simpa using ho.2) (fun y hy => by simpa using ho.1.subset hy) (.inl rfl) with h1 | ⟨i, hi, h1⟩
    · exact h1
    · have := h0 i hi; omega

/-! ### Shifted -/

def shift (d : Nat) (p : Bool × Nat) : Bool × Nat := if p.1 then (true, p.2 + d) else p
structure Sh (d : Nat) (s t : Sc) : Prop where
  held : t.held = s.held
  out : t.out = s.out
  slots : t.slots = s.slots + d
  pl : t.pl = s.pl.map (shift d)
theorem Sh.at_ {d : Nat} {s t : Sc} (h : Sh d s t) (y : Nat) : t.at_ y = shift d (s.at_ y) := by
  unfold Sc.at_
  rw [h.pl, List.getD_eq_getElem?_getD, List.getD_eq_getElem?_getD, List.getElem?_map]
  cases s.pl[y]? with
  | none => rfl
  | some p => rfl
theorem freeSlot_shift {p q : Nat → Bool} {d : Nat} (h : ∀ m, q (m + d) = p m) : ∀ (f n : Nat), freeSlot q f (n + d) = freeSlot p f n + d
  | 0, _ => rfl
  | f + 1, n => by
    simp only [freeSlot, h n]
    split
    · rw [show n + d + 1 = n + 1 + d by omega]; exact freeSlot_shift h f (n + 1)
    · rfl
section
variable {B E B' E' : Nat → Int} {by_ : Int} {s0 k n d : Nat} {done : List Nat} {s t : Sc} (hB : ∀ i, B' i = B i + by_) (hE : ∀ i, E' i = E i + by_)
include hB hE
theorem laps_shift (x y : Nat) : laps B' E' x y = laps B E x y := by
  unfold laps lapsB
  rw [hB, hB, hE, hE]
  congr 1 <;> (rw [decide_eq_decide]; omega)
theorem back1_shift (x : Nat) (o : Option Nat) : back1 B' E' x o = back1 B E x o := by
  cases o with
  | none => rfl
  | some y =>
    simp only [back1]
    rw [hB, hE]
    by_cases h : E y ≤ B x
    · rw [if_pos h, if_pos (by omega)]
    · rw [if_neg h, if_neg (by omega)]
omit hB in
theorem lastL_shift (x : Nat) (held : List (Option Nat)) : lastL E' x held = lastL E x held := by
  unfold lastL
  have h : ∀ a y, later E' a y = later E a y := fun a y => by
    unfold later
    rw [hE, hE]
    congr 1
    · rw [decide_eq_decide]; omega
    · congr 1; rw [decide_eq_decide]; omega
  simp only [h]
theorem Sh.slot (h : Sh d s t) (ho : ∀ y ∈ s.out, (s.at_ y).1 = true) (x : Nat) : t.slot B' E' (s0 + d) x = s.slot B E s0 x + d := by
  unfold Sc.slot
  rw [h.out]
  refine freeSlot_shift (fun m => ?_) _ _
  unfold Sc.taken
  rw [h.out]
  have hk : ∀ y ∈ s.out, t.takes B' E' x (m + d) y = s.takes B E x m y := fun y hy => by
    unfold Sc.takes
    rw [laps_shift hB hE]
    have e := h.at_ y
    unfold Sc.at_ at e
    rw [e]
    have h1 : (s.pl.getD y (false, 0)).1 = true := ho y hy
    unfold shift
    rw [if_pos h1]
    congr 1
    rw [decide_eq_decide]
    simp only []; omega
  rw [Bool.eq_iff_iff, List.any_eq_true, List.any_eq_true]
  constructor
  · rintro ⟨y, hy, h1⟩; exact ⟨y, hy, by rw [← hk y hy]; exact h1⟩
  · rintro ⟨y, hy, h1⟩; exact ⟨y, hy, by rw [hk y hy]; exact h1⟩
theorem Sh.spill (h : Sh d s t) (ho : ∀ y ∈ s.out, (s.at_ y).1 = true) (x : Nat) : Sh d (s.spill B E s0 x) (t.spill B' E' (s0 + d) x) := by
  have hs := h.slot (s0 := s0) hB hE ho x
  refine ⟨h.held, by show t.out ++ [x] = s.out ++ [x]; rw [h.out], ?_, ?_⟩
  · show max t.slots (t.slot B' E' (s0 + d) x + 1) = max s.slots (s.slot B E s0 x + 1) + d
    rw [hs, h.slots]; omega
  · show t.pl.set x (true, t.slot B' E' (s0 + d) x) = (s.pl.set x (true, s.slot B E s0 x)).map (shift d)
    rw [hs, h.pl, List.map_set]; rfl
omit hB hE in
theorem Sh.have_ (h : Sh d s t) (r x : Nat) : Sh d (s.have_ r x) (t.have_ r x) := by
  refine ⟨by show t.held.set r (some x) = _; rw [h.held]; rfl, h.out, h.slots, ?_⟩
  show t.pl.set x (false, r) = (s.pl.set x (false, r)).map (shift d)
  rw [h.pl, List.map_set]; rfl
theorem Sh.step (h : Sh d s t) (ho : ∀ y ∈ s.out, (s.at_ y).1 = true) (x : Nat) : Sh d (s.step B E s0 x) (t.step B' E' (s0 + d) x) := by
  have hb : Sh d (s.back B E x) (t.back B' E' x) := by
    refine ⟨?_, h.out, h.slots, h.pl⟩
    show t.held.map (back1 B' E' x) = s.held.map (back1 B E x)
    rw [h.held]
    exact List.map_congr_left fun o _ => back1_shift hB hE x o
  unfold Sc.step Sc.place
  rw [hb.held, lastL_shift hE]
  split
  · exact hb.have_ _ _
  · cases (lastL E x (s.back B E x).held).2 with
    | none => exact hb.spill hB hE ho x
    | some r => exact (hb.spill hB hE ho _).have_ r x
end
theorem scan_shift {B E B' E' : Nat → Int} {by_ : Int} {s0 k n d : Nat} (hB : ∀ i, B' i = B i + by_) (hE : ∀ i, E' i = E i + by_) (hv : ∀ i, i < n → B i < E i) : ∀ (l done : List Nat) (s t : Sc), Inv B E s0 k n done s → Sh d s t → (done ++ l).Pairwise (Lt B) → (∀ y ∈ l, y < n) →
    Sh d (l.foldl (Sc.step B E s0) s) (l.foldl (Sc.step B' E' (s0 + d)) t)
  | [], done, s, t, h, hs, _, _ => hs
  | x :: l, done, s, t, h, hs, hp, hl => by
    have hp' := List.pairwise_append.1 hp
    have h1 : ∀ y ∈ done, Lt B y x := fun y hy => hp'.2.2 y hy x (by simp)
    exact scan_shift hB hE hv l (done ++ [x]) _ _ (h.step (hl x (by simp)) (fun hx => (h1 x hx).irrefl) (fun y hy => by have := h1 y hy; unfold Lt at this; omega) (hv x (hl x (by simp)))) (hs.step hB hE (fun y hy => ((h.base.out y).1 hy).2) x) (by simpa using hp) (fun y hy => hl y (by simp [hy]))
theorem moved {B E B' E' : Nat → Int} {by_ : Int} {s0 k n d : Nat} (hB : ∀ i, B' i = B i + by_) (hE : ∀ i, E' i = E i + by_) (hv : ∀ i, i < n → B i < E i) : Sh d (Rg.scan B E s0 k n (ord B n)) (Rg.scan B' E' (s0 + d) k n (ord B' n)) := by
  have ho := ord_ok B n
  have e : ord B' n = ord B n := ord_congr n fun x y _ _ => by unfold Lt; rw [hB, hB]; omega
  rw [e]
  refine scan_shift hB hE hv _ [] _ _ Inv.init ⟨rfl, rfl, rfl, ?_⟩ (by simpa using ho.2) (fun y hy => by simpa using ho.1.subset hy)
  simp [Sc.init, shift]

/-! ### The reference's scan -/

/-- The reference's state: the element in each register, the slot of each element. -/
structure Rf where
  regs : List (Option Nat)
  slots : List (Option Nat)
section
variable (B E : Nat → Int) (s0 : Nat)
def Rf.takes (t : Rf) (x m y : Nat) : Bool := decide (t.slots.getD y none = some m) && laps B E y x
def Rf.taken (t : Rf) (x m : Nat) : Bool := (List.range t.slots.length).any (t.takes B E x m)
/-- m is the lowest slot that is free for x. -/
structure Rf.IsSlot (t : Rf) (x m : Nat) : Prop where
  le : s0 ≤ m
  free : t.taken B E x m = false
  low : ∀ j, s0 ≤ j → j < m → t.taken B E x j = true
/-- The reference's state and the scan's. -/
structure RR (n : Nat) (s : Sc) (t : Rf) : Prop where
  regs : t.regs = s.held
  len : t.slots.length = n
  slots : ∀ y, y < n → t.slots.getD y none = if (s.at_ y).1 then some (s.at_ y).2 else none
end
section
variable {B E : Nat → Int} {s0 k n : Nat} {done : List Nat} {s : Sc} {t : Rf}
theorem RR.taken (h : RR n s t) (hI : Inv0 B E s0 k n done s) (x m : Nat) : t.taken B E x m = s.taken B E x m := by
  rw [Bool.eq_iff_iff]
  unfold Rf.taken Sc.taken
  rw [List.any_eq_true, List.any_eq_true]
  constructor
  · rintro ⟨y, hy, h1⟩
    have hy : y < n := by rw [← h.len]; simpa using hy
    unfold Rf.takes at h1
    rw [Bool.and_eq_true] at h1
    have h2 := of_decide_eq_true h1.1
    rw [h.slots y hy] at h2
    split at h2
    · rename_i h3
      simp only [Option.some.injEq] at h2
      have hyd : y ∈ done := by
        by_cases hd : y ∈ done
        · exact hd
        · rw [hI.undone y hd] at h3; simp at h3
      refine ⟨y, (hI.out y).2 ⟨hyd, h3⟩, ?_⟩
      unfold Sc.takes
      rw [Bool.and_eq_true]
      exact ⟨decide_eq_true h2, by rw [laps_symm]; exact h1.2⟩
    · simp at h2
  · rintro ⟨y, hy, h1⟩
    obtain ⟨hyd, h3⟩ := (hI.out y).1 hy
    have hyn := hI.lt y hyd
    unfold Sc.takes at h1
    rw [Bool.and_eq_true] at h1
    have h2 := of_decide_eq_true h1.1
    refine ⟨y, by rw [h.len]; simpa using hyn, ?_⟩
    unfold Rf.takes
    rw [Bool.and_eq_true, h.slots y hyn, if_pos h3]
    exact ⟨decide_eq_true (by rw [← h2]), by rw [laps_symm]; exact h1.2⟩
theorem RR.slot (h : RR n s t) (hI : Inv0 B E s0 k n done s) {x m : Nat} (hm : t.IsSlot B E s0 x m) : m = s.slot B E s0 x := by
  obtain ⟨p1, p2, p3, p4⟩ := s.slot_spec B E s0 x
  exact freeSlot_unique (p := s.taken B E x) hm.le p1 (by rw [← h.taken hI]; exact hm.free) p3 (fun j a b => by rw [← h.taken hI]; exact hm.low j a b) p4
theorem RR.init : RR n (Sc.init s0 k n) ⟨List.replicate k none, List.replicate n none⟩ :=
  ⟨rfl, by simp, fun y hy => by simp [Sc.at_, Sc.init, List.getD_eq_getElem?_getD, hy]⟩
theorem RR.spill (h : RR n s t) (hp : s.pl.length = n) {x : Nat} : RR n (s.spill B E s0 x) { t with slots := t.slots.set x (some (s.slot B E s0 x)) } := by
  refine ⟨h.regs, by simp [h.len], fun y hy => ?_⟩
  show (t.slots.set x _).getD y none = if ((s.pl.set x (true, s.slot B E s0 x)).getD y (false, 0)).1 then some ((s.pl.set x (true, s.slot B E s0 x)).getD y (false, 0)).2 else none
  rw [getD_set, getD_set, h.len, hp]
  split
  · rfl
  · exact h.slots y hy
theorem RR.have_ (h : RR n s t) {r x : Nat} (hx : (s.at_ x).1 = false) : RR n (s.have_ r x) { t with regs := t.regs.set r (some x) } := by
  refine ⟨by show t.regs.set r (some x) = _; rw [h.regs]; rfl, h.len, fun y hy => ?_⟩
  show t.slots.getD y none = if ((s.pl.set x (false, r)).getD y (false, 0)).1 then some ((s.pl.set x (false, r)).getD y (false, 0)).2 else none
  rw [getD_set, h.slots y hy]
  by_cases e : x = y ∧ x < s.pl.length
  · rw [if_pos e, ← e.1, hx]; rfl
  · rw [if_neg e]
end
end Go.Proofs.Ytigidchignlpmaa.Rg
