import Derived.Test.YtjpmiejgcnfiiaaGreatQ0
import Derived.Test.YtjpmiejgcnfiiaaGreatQ1
import Derived.Test.YtjpmiejgcnfiiaaGreatRows
import Derived.WalkKit
import Derived.WalkSpells
import Derived.Deep.DeepMust
import Derived.Deep.QuietTactic
import Derived.BigQuiet
import Derived.Outline
import Derived.IntWalk
set_option linter.unusedVariables false
set_option linter.unusedSimpArgs false
namespace Go.Proofs.YtjpmiejgcnfiiaaGreat.Lv

/-- A block as the search for what is live sees it. -/
structure PIns where
 args : List Nat
 outs : List Nat
structure PBlk where
 params : List Nat
 ins : List PIns
 ends : List Nat
 next : List Nat
instance : Inhabited PBlk := ⟨⟨[], [], [], []⟩⟩

def setAll (l : List Nat) (b : Bool) (s : List Bool) : List Bool := l.foldl (fun s v => s.set v b) s
theorem setAll_len (l : List Nat) (b : Bool) (s : List Bool) : (setAll l b s).length = s.length := by
 unfold setAll
 induction l generalizing s with
 | nil => rfl
 | cons v l ih => rw [List.foldl_cons, ih, List.length_set]
theorem getD_set_bool (s : List Bool) (v i : Nat) (b : Bool) (hv : v < s.length) : (s.set v b).getD i false = if i = v then b else s.getD i false := by
 rw [List.getD_eq_getElem?_getD, List.getD_eq_getElem?_getD, List.getElem?_set]
 by_cases e : v = i
 ·subst e; simp [hv]
 ·rw [if_neg e, if_neg (fun h => e h.symm)]
theorem setAll_getD {l : List Nat} {b : Bool} {s : List Bool} (hl : ∀ v ∈ l, v < s.length) (i : Nat) : (setAll l b s).getD i false = if i ∈ l then b else s.getD i false := by
 unfold setAll
 induction l generalizing s with
 | nil => simp
 | cons v l ih =>
  rw [List.foldl_cons, ih (s := s.set v b) (fun w hw => by rw [List.length_set]; exact hl w (by simp [hw])), getD_set_bool s v i b (hl v (by simp))]
  by_cases h1 : i ∈ l
  ·simp [h1]
  ·by_cases h2 : i = v
   ·simp [h2]
   ·simp [h1, h2]

/-- One step backwards, for one value. -/
def stepV (v : Nat) (x : PIns) (s : Bool) : Bool := if v ∈ x.args then true else if v ∈ x.outs then false else s
/-- At the beginning of a block, for one value: s at its end. -/
def beginV (b : PBlk) (v : Nat) (s : Bool) : Bool := if v ∈ b.params then false else b.ins.foldr (stepV v) (if v ∈ b.ends then true else s)
def beginP (b : PBlk) (s : List Bool) : List Bool := setAll b.params false (b.ins.foldr (fun x s => setAll x.args true (setAll x.outs false s)) (setAll b.ends true s))
/-- All numbers of the block are below n. -/
structure PBlk.In (b : PBlk) (n : Nat) : Prop where
 params : ∀ v ∈ b.params, v < n
 args : ∀ x ∈ b.ins, ∀ v ∈ x.args, v < n
 outs : ∀ x ∈ b.ins, ∀ v ∈ x.outs, v < n
 ends : ∀ v ∈ b.ends, v < n
theorem begin_getD {b : PBlk} {s : List Bool} (h : b.In s.length) (v : Nat) : (beginP b s).length = s.length ∧ (beginP b s).getD v false = beginV b v (s.getD v false) := by
 unfold beginP beginV
 have h0 : (setAll b.ends true s).length = s.length := setAll_len _ _ _
 have h1 : (setAll b.ends true s).getD v false = if v ∈ b.ends then true else s.getD v false := setAll_getD h.ends v
 have key : ∀ (l : List PIns) (z : List Bool) (y : Bool), (∀ x ∈ l, (∀ v ∈ x.args, v < z.length) ∧ ∀ v ∈ x.outs, v < z.length) → z.getD v false = y →
   (l.foldr (fun x s => setAll x.args true (setAll x.outs false s)) z).length = z.length ∧ (l.foldr (fun x s => setAll x.args true (setAll x.outs false s)) z).getD v false = l.foldr (stepV v) y := by
  intro l
  induction l with
  | nil => intro z y _ hz; exact ⟨rfl, hz⟩
  | cons x l ih =>
   intro z y hb hz
   obtain ⟨i1, i2⟩ := ih z y (fun q hq => hb q (by simp [hq])) hz
   have hx := hb x (by simp)
   rw [List.foldr_cons, List.foldr_cons]
   refine ⟨by rw [setAll_len, setAll_len, i1], ?_⟩
   rw [setAll_getD (by rw [setAll_len, i1]; exact hx.1), setAll_getD (by rw [i1]; exact hx.2), i2]
   rfl
 obtain ⟨k1, k2⟩ := key b.ins (setAll b.ends true s) _ (fun x hx => ⟨by rw [h0]; exact h.args x hx, by rw [h0]; exact h.outs x hx⟩) h1
 refine ⟨by rw [setAll_len, k1, h0], ?_⟩
 rw [setAll_getD (by rw [k1, h0]; exact h.params), k2]
/-- A block that uses no value ahead of its own making of it. -/
structure PBlk.Fit (b : PBlk) (v : Nat) : Prop where
 once : b.ins.Pairwise fun x y => v ∈ x.outs → v ∉ y.outs
 late : b.ins.Pairwise fun x y => v ∈ y.outs → v ∉ x.args
 own : ∀ x ∈ b.ins, v ∈ x.outs → v ∉ x.args
def PBlk.makes (b : PBlk) (v : Nat) : Prop := v ∈ b.params ∨ ∃ x ∈ b.ins, v ∈ x.outs
def PBlk.uses (b : PBlk) (v : Nat) : Prop := v ∈ b.ends ∨ ∃ x ∈ b.ins, v ∈ x.args
theorem beginV_iff {b : PBlk} {v : Nat} (h : b.Fit v) (s : Bool) : beginV b v s = true ↔ ¬ b.makes v ∧ (b.uses v ∨ s = true) := by
 unfold beginV PBlk.makes PBlk.uses
 by_cases hp : v ∈ b.params
 ·simp [hp]
 ·rw [if_neg hp]
  have key : ∀ (l : List PIns) (y : Bool), (l.Pairwise fun x y => v ∈ y.outs → v ∉ x.args) → (∀ x ∈ l, v ∈ x.outs → v ∉ x.args) →
    (l.foldr (stepV v) y = true ↔ (¬ ∃ x ∈ l, v ∈ x.outs) ∧ ((∃ x ∈ l, v ∈ x.args) ∨ y = true)) := by
   intro l
   induction l with
   | nil => intro y _ _; simp
   | cons x l ih =>
    intro y h1 h2
    rw [List.pairwise_cons] at h1
    have ih' := ih y h1.2 (fun q hq => h2 q (by simp [hq]))
    have hst : (x :: l).foldr (stepV v) y = if v ∈ x.args then true else if v ∈ x.outs then false else l.foldr (stepV v) y := rfl
    rw [hst]
    by_cases ha : v ∈ x.args
    ·rw [if_pos ha]
     constructor
     ·intro _
      refine ⟨?_, .inl ⟨x, by simp, ha⟩⟩
      rintro ⟨q, hq, hqo⟩
      rcases List.mem_cons.1 hq with rfl | hq
      ·exact h2 _ (by simp) hqo ha
      ·exact h1.1 q hq hqo ha
     ·intro _; rfl
    ·rw [if_neg ha]
     by_cases ho : v ∈ x.outs
     ·rw [if_pos ho]
      constructor
      ·intro h; cases h
      ·rintro ⟨hn, _⟩; exact absurd ⟨x, by simp, ho⟩ hn
     ·rw [if_neg ho, ih']
      simp [ha, ho]
  rw [key b.ins _ h.late h.own]
  constructor
  ·rintro ⟨h1, h2⟩
   refine ⟨fun h3 => h3.elim hp h1, ?_⟩
   rcases h2 with h2 | h2
   ·exact .inl (.inr h2)
   ·by_cases he : v ∈ b.ends
    ·exact .inl (.inl he)
    ·rw [if_neg he] at h2; exact .inr h2
  ·rintro ⟨h1, h2⟩
   refine ⟨fun h3 => h1 (.inr h3), ?_⟩
   rcases h2 with (h2 | h2) | h2
   ·exact .inr (by rw [if_pos h2])
   ·exact .inl h2
   ·exact .inr (by
     split
     ·rfl
     ·exact h2)

/-- The blocks at whose beginning a value that others make is needed. -/
inductive Need (F : List PBlk) (order : List Nat) (v : Nat) : Nat → Prop
 | use {b} : b ∈ order → ¬ (F.getD b default).makes v → (F.getD b default).uses v → Need F order v b
 | flow {b t} : b ∈ order → ¬ (F.getD b default).makes v → t ∈ (F.getD b default).next → Need F order v t → Need F order v b
/-- A set that is closed holds them all. -/
theorem Need.least {F : List PBlk} {order : List Nat} {v : Nat} {S : Nat → Prop} (h : ∀ b ∈ order, ¬ (F.getD b default).makes v → ((F.getD b default).uses v ∨ ∃ t ∈ (F.getD b default).next, S t) → S b) {b : Nat} (hb : Need F order v b) : S b := by
 induction hb with
 | use h1 h2 h3 => exact h _ h1 h2 (.inl h3)
 | flow h1 h2 h3 _ ih => exact h _ h1 h2 (.inr ⟨_, h3, ih⟩)
theorem Need.step {F : List PBlk} {order : List Nat} {v b : Nat} (h1 : b ∈ order) (h2 : ¬ (F.getD b default).makes v) (h3 : (F.getD b default).uses v ∨ ∃ t ∈ (F.getD b default).next, Need F order v t) : Need F order v b := by
 rcases h3 with h3 | ⟨t, h3, h4⟩
 ·exact .use h1 h2 h3
 ·exact .flow h1 h2 h3 h4

/-! ### The program's search -/

def orL (a b : List Bool) : List Bool := List.zipWith (· || ·) a b
def behindP (n : List (List Bool)) (nv : Nat) (next : List Nat) : List Bool := next.foldl (fun out t => orL out (n.getD t [])) (List.replicate nv false)
theorem orL_len {a b : List Bool} (h : b.length = a.length) : (orL a b).length = a.length := by unfold orL; simp [h]
theorem orL_getD {a b : List Bool} (h : b.length = a.length) (v : Nat) : (orL a b).getD v false = (a.getD v false || b.getD v false) := by
 unfold orL
 rw [List.getD_eq_getElem?_getD, List.getD_eq_getElem?_getD, List.getD_eq_getElem?_getD, List.getElem?_zipWith]
 by_cases hv : v < a.length
 ·rw [List.getElem?_eq_getElem hv, List.getElem?_eq_getElem (by omega)]; rfl
 ·rw [List.getElem?_eq_none (by omega), List.getElem?_eq_none (by omega)]; rfl
theorem behind_getD {n : List (List Bool)} {nv : Nat} {next : List Nat} (hn : ∀ t ∈ next, (n.getD t []).length = nv) (v : Nat) :
  (behindP n nv next).length = nv ∧ ((behindP n nv next).getD v false = true ↔ ∃ t ∈ next, (n.getD t []).getD v false = true) := by
 unfold behindP
 have key : ∀ (l : List Nat) (s : List Bool), s.length = nv → (∀ t ∈ l, (n.getD t []).length = nv) → (l.foldl (fun out t => orL out (n.getD t [])) s).length = nv ∧
   ((l.foldl (fun out t => orL out (n.getD t [])) s).getD v false = true ↔ s.getD v false = true ∨ ∃ t ∈ l, (n.getD t []).getD v false = true) := by
  intro l
  induction l with
  | nil => intro s hs _; exact ⟨hs, by simp⟩
  | cons t l ih =>
   intro s hs hl
   have ht := hl t (by simp)
   obtain ⟨i1, i2⟩ := ih (orL s (n.getD t [])) (by rw [orL_len (by omega)]; exact hs) (fun q hq => hl q (by simp [hq]))
   rw [List.foldl_cons]
   refine ⟨i1, ?_⟩
   rw [i2, orL_getD (by omega), Bool.or_eq_true, or_assoc]
   simp
 obtain ⟨k1, k2⟩ := key next (List.replicate nv false) (by simp) hn
 refine ⟨k1, ?_⟩
 rw [k2]
 constructor
 ·rintro (h | h)
  ·rw [List.getD_eq_getElem?_getD, List.getElem?_replicate] at h
   split at h <;> cases h
  ·exact h
 ·exact .inr
end Go.Proofs.YtjpmiejgcnfiiaaGreat.Lv
namespace Go.Proofs.YtjpmiejgcnfiiaaGreat.Lv

/-- The program's arrays from and to, at one value. -/
def insV (v : Nat) (at_ : Int) (s : Int × Int) (p : PIns × Nat) : Int × Int :=
 let place := at_ + 2 * ((p.2 : Int) + 1)
 let s1 := if v ∈ p.1.args then (s.1, place + 1) else s
 if v ∈ p.1.outs then (place + 1, place + 2) else s1
def startV (b : PBlk) (v : Nat) (at_ : Int) (bg : Bool) : Int × Int := if v ∈ b.params then (at_, at_ + 1) else (if bg then at_ else -1, 0)
def closeV (b : PBlk) (at_ : Int) : Int := at_ + 2 * ((b.ins.length : Int) + 2)
def blkV (b : PBlk) (v : Nat) (at_ : Int) (bg bh : Bool) : Int × Int :=
 let s := b.ins.zipIdx.foldl (insV v at_) (startV b v at_ bg)
 let s := if v ∈ b.ends then (s.1, closeV b at_ - 1) else s
 if bh then (s.1, closeV b at_) else s
def rangeP (b : PBlk) (v : Nat) (at_ : Int) (bg bh : Bool) : Option (Int × Int) :=
 let s := blkV b v at_ bg bh
 if 0 ≤ s.1 ∧ s.1 < s.2 then some s else none

/-- Where v is made: by a parameter (0), by instruction i (i + 1), or not here. -/
def findM (v : Nat) (l : List (PIns × Nat)) (m : Option Nat) : Option Nat := match m with
 | some i => some i
 | none => match l.find? (fun p => decide (v ∈ p.1.outs)) with
  | some p => some (p.2 + 1)
  | none => none
def madeI (b : PBlk) (v : Nat) : Option Nat := findM v b.ins.zipIdx (if v ∈ b.params then some 0 else none)
/-- Where it is last used: by instruction u, or by the end (the number of instructions). -/
def lastU (v : Nat) (l : List (PIns × Nat)) (u : Option Nat) : Option Nat := l.foldl (fun u p => if v ∈ p.1.args then some p.2 else u) u
def usedI (b : PBlk) (v : Nat) : Option Nat := if v ∈ b.ends then some b.ins.length else lastU v b.ins.zipIdx none
def rangeR (b : PBlk) (v : Nat) (at_ : Int) (bg bh : Bool) : Option (Int × Int) :=
 match madeI b v, bg with
 | none, false => none
 | m, _ =>
  let from_ := match m with
   | some (i + 1) => at_ + 2 * ((i : Int) + 1) + 1
   | _ => at_
  let to := match usedI b v with
   | some u => max (from_ + 1) (at_ + 2 * ((u : Int) + 1) + 1)
   | none => from_ + 1
  some (from_, if bh then closeV b at_ else to)

/-- Where the fold stands: made at m (or not), last used at u. -/
def stV (at_ : Int) (bg : Bool) (m u : Option Nat) : Int × Int :=
 let f := match m with
  | some (i + 1) => at_ + 2 * ((i : Int) + 1) + 1
  | some 0 => at_
  | none => if bg then at_ else -1
 (f, match u with
  | some u => at_ + 2 * ((u : Int) + 1) + 1
  | none => match m with
   | some _ => f + 1
   | none => 0)
/-- No use ahead of its making, from here on. -/
structure Tail (v : Nat) (l : List PIns) (m : Option Nat) : Prop where
 once : l.Pairwise fun x y => v ∈ x.outs → v ∉ y.outs
 late : l.Pairwise fun x y => v ∈ y.outs → v ∉ x.args
 own : ∀ x ∈ l, v ∈ x.outs → v ∉ x.args
 made : m ≠ none → ∀ x ∈ l, v ∉ x.outs
theorem fold_eq {v : Nat} {at_ : Int} {bg : Bool} : ∀ (l : List (PIns × Nat)) (m u : Option Nat), Tail v (l.map (·.1)) m → (m = none → u ≠ none → ∀ x ∈ l.map (·.1), v ∉ x.outs) →
  l.foldl (insV v at_) (stV at_ bg m u) = stV at_ bg (findM v l m) (lastU v l u)
 | [], m, u, _, _ => by
  cases m <;> rfl
 | p :: l, m, u, h, hu => by
  have h1 := h.once
  have h2 := h.late
  rw [List.map_cons, List.pairwise_cons] at h1 h2
  have ht : ∀ m', (m' ≠ none → ∀ x ∈ l.map (·.1), v ∉ x.outs) → Tail v (l.map (·.1)) m' := fun m' hm => ⟨h1.2, h2.2, fun x hx => h.own x (by simp at hx ⊢; exact .inr hx), hm⟩
  rw [List.foldl_cons]
  by_cases ho : v ∈ p.1.outs
  ·have hm : m = none := by
    cases m with
    | none => rfl
    | some i => exact absurd ho (h.made (by simp) p.1 (by simp))
   subst hm
   have hun : u = none := by
    cases u with
    | none => rfl
    | some i => exact absurd ho (hu rfl (by simp) p.1 (by simp))
   subst hun
   have ha := h.own p.1 (by simp) ho
   have hno : ∀ x ∈ l.map (·.1), v ∉ x.outs := fun x hx => h1.1 x hx ho
   have e1 : insV v at_ (stV at_ bg none none) p = stV at_ bg (some (p.2 + 1)) none := by
    unfold insV
    simp only [if_neg ha, if_pos ho]
    unfold stV
    simp only
    congr 1 <;> omega
   rw [e1, fold_eq l (some (p.2 + 1)) none (ht _ (fun _ => hno)) (fun e => by cases e)]
   unfold findM lastU
   rw [List.find?_cons_of_pos (by simpa using ho), List.foldl_cons, if_neg ha]
  ·by_cases ha : v ∈ p.1.args
   ·have hno : m = none → ∀ x ∈ l.map (·.1), v ∉ x.outs := fun _ x hx hxo => h2.1 x hx hxo ha
    have e1 : insV v at_ (stV at_ bg m u) p = stV at_ bg m (some p.2) := by
     unfold insV
     simp only [if_pos ha, if_neg ho]
     rfl
    rw [e1, fold_eq l m (some p.2) (ht m (fun hm x hx => h.made hm x (by simp at hx ⊢; exact .inr hx))) (fun e _ => hno e)]
    unfold lastU
    rw [List.foldl_cons, if_pos ha]
    congr 1
    unfold findM
    cases m with
    | some i => rfl
    | none => rw [List.find?_cons_of_neg (by simpa using ho)]
   ·have e1 : insV v at_ (stV at_ bg m u) p = stV at_ bg m u := by
     unfold insV
     simp only [if_neg ha, if_neg ho]
    rw [e1, fold_eq l m u (ht m (fun hm x hx => h.made hm x (by simp at hx ⊢; exact .inr hx))) (fun e hu' x hx => hu e hu' x (by simp at hx ⊢; exact .inr hx))]
    unfold lastU
    rw [List.foldl_cons, if_neg ha]
    congr 1
    unfold findM
    cases m with
    | some i => rfl
    | none => rw [List.find?_cons_of_neg (by simpa using ho)]

theorem findM_none {v : Nat} {l : List (PIns × Nat)} (h : findM v l none = none) : ∀ p ∈ l, v ∉ p.1.outs := by
 unfold findM at h
 cases hf : l.find? (fun p => decide (v ∈ p.1.outs)) with
 | none =>
  intro p hp ho
  have := List.find?_eq_none.1 hf p hp
  simp [ho] at this
 | some p => rw [hf] at h; cases h
theorem findM_some {v : Nat} {l : List (PIns × Nat)} {k : Nat} (h : findM v l none = some k) : ∃ p ∈ l, k = p.2 + 1 ∧ v ∈ p.1.outs := by
 unfold findM at h
 cases hf : l.find? (fun p => decide (v ∈ p.1.outs)) with
 | none => rw [hf] at h; cases h
 | some p =>
  rw [hf] at h
  refine ⟨p, List.mem_of_find?_eq_some hf, (Option.some.inj h).symm, ?_⟩
  have := List.find?_some hf
  simpa using this
theorem lastU_spec {v : Nat} : ∀ (l : List (PIns × Nat)) (u0 : Option Nat), (lastU v l u0 = u0 ∧ ∀ p ∈ l, v ∉ p.1.args) ∨ ∃ p ∈ l, lastU v l u0 = some p.2 ∧ v ∈ p.1.args
 | [], u0 => .inl ⟨rfl, by simp⟩
 | p :: l, u0 => by
  have e : lastU v (p :: l) u0 = lastU v l (if v ∈ p.1.args then some p.2 else u0) := rfl
  rw [e]
  by_cases ha : v ∈ p.1.args
  ·rw [if_pos ha]
   rcases lastU_spec l (some p.2) with ⟨h1, _⟩ | ⟨q, hq, h1, h2⟩
   ·exact .inr ⟨p, by simp, h1, ha⟩
   ·exact .inr ⟨q, by simp [hq], h1, h2⟩
  ·rw [if_neg ha]
   rcases lastU_spec l u0 with ⟨h1, h2⟩ | ⟨q, hq, h1, h2⟩
   ·refine .inl ⟨h1, fun q hq => ?_⟩
    rcases List.mem_cons.1 hq with rfl | hq
    ·exact ha
    ·exact h2 q hq
   ·exact .inr ⟨q, by simp [hq], h1, h2⟩
theorem zip_get {b : PBlk} {p : PIns × Nat} (h : p ∈ b.ins.zipIdx) : b.ins[p.2]? = some p.1 := by
 have := List.mem_zipIdx_iff_getElem?.1 h
 simpa using this
theorem zip_mem {b : PBlk} {x : PIns} (h : x ∈ b.ins) : ∃ i, (x, i) ∈ b.ins.zipIdx := by
 obtain ⟨i, hi, e⟩ := List.getElem_of_mem h
 exact ⟨i, List.mem_zipIdx_iff_getElem?.2 (by simp [← e, List.getElem?_eq_getElem hi])⟩
theorem blkV_eq {b : PBlk} {v : Nat} (h : b.Fit v) (hp : v ∈ b.params → ∀ x ∈ b.ins, v ∉ x.outs) (at_ : Int) (bg bh : Bool) :
  blkV b v at_ bg bh = ((stV at_ bg (madeI b v) (usedI b v)).1, if bh then closeV b at_ else (stV at_ bg (madeI b v) (usedI b v)).2) := by
 have hz : b.ins.zipIdx.map (·.1) = b.ins := by simp
 have hs : startV b v at_ bg = stV at_ bg (if v ∈ b.params then some 0 else none) none := by
  unfold startV stV
  by_cases hv : v ∈ b.params
  ·simp [hv]
  ·simp [hv]
 have hf := fold_eq (v := v) (at_ := at_) (bg := bg) b.ins.zipIdx (if v ∈ b.params then some 0 else none) none (by
  rw [hz]
  refine ⟨h.once, h.late, h.own, fun hm => ?_⟩
  by_cases hv : v ∈ b.params
  ·exact hp hv
  ·rw [if_neg hv] at hm; exact absurd rfl hm) (fun _ hu => absurd rfl hu)
 unfold blkV
 rw [hs, hf]
 show (if bh then _ else _) = _
 have he : (if v ∈ b.ends then ((stV at_ bg (madeI b v) (lastU v b.ins.zipIdx none)).1, closeV b at_ - 1) else stV at_ bg (madeI b v) (lastU v b.ins.zipIdx none)) = stV at_ bg (madeI b v) (usedI b v) := by
  unfold usedI
  by_cases hv : v ∈ b.ends
  ·rw [if_pos hv, if_pos hv]
   unfold stV closeV
   simp only
   congr 1
   omega
  ·rw [if_neg hv, if_neg hv]
 show (if bh = true then ((if v ∈ b.ends then ((stV at_ bg (madeI b v) (lastU v b.ins.zipIdx none)).1, closeV b at_ - 1) else stV at_ bg (madeI b v) (lastU v b.ins.zipIdx none)).1, closeV b at_) else (if v ∈ b.ends then ((stV at_ bg (madeI b v) (lastU v b.ins.zipIdx none)).1, closeV b at_ - 1) else stV at_ bg (madeI b v) (lastU v b.ins.zipIdx none))) = _
 rw [he]
 cases bh <;> rfl
theorem used_iff {b : PBlk} {v : Nat} : usedI b v = none ↔ ¬ b.uses v := by
 unfold usedI PBlk.uses
 by_cases hv : v ∈ b.ends
 ·simp [hv]
 ·rw [if_neg hv]
  rcases lastU_spec (v := v) b.ins.zipIdx none with ⟨h1, h2⟩ | ⟨p, hp, h1, h2⟩
  ·rw [h1]
   simp only [true_iff, not_or]
   refine ⟨hv, ?_⟩
   rintro ⟨x, hx, hxa⟩
   obtain ⟨i, hi⟩ := zip_mem hx
   exact h2 _ hi hxa
  ·rw [h1]
   constructor
   ·intro h; cases h
   ·intro h; exact absurd (.inr ⟨p.1, List.mem_of_getElem? (zip_get hp), h2⟩) h
/-- The two ways are one. -/
theorem range_eq {b : PBlk} {v : Nat} (h : b.Fit v) (hp : v ∈ b.params → ∀ x ∈ b.ins, v ∉ x.outs) {at_ : Int} (hat : 0 ≤ at_) {bg bh : Bool} (hbg : bg = true ↔ ¬ b.makes v ∧ (b.uses v ∨ bh = true)) : rangeP b v at_ bg bh = rangeR b v at_ bg bh := by
 unfold rangeP
 rw [blkV_eq h hp]
 unfold rangeR
 cases hm : madeI b v with
 | none =>
  cases bg with
  | false => simp [stV]
  | true =>
   have hlive := (hbg.1 rfl).2
   cases hu : usedI b v with
   | none =>
    have hbh : bh = true := hlive.resolve_left (used_iff.1 hu)
    subst hbh
    simp [stV, closeV]
    omega
   | some u =>
    cases bh
    ·simp [stV]; omega
    ·simp [stV, closeV]; omega
 | some k =>
  have hk : k ≤ b.ins.length ∧ ∀ i, k = i + 1 → ∃ x, b.ins[i]? = some x ∧ v ∈ x.outs := by
   unfold madeI at hm
   by_cases hv : v ∈ b.params
   ·rw [if_pos hv] at hm
    have : k = 0 := (Option.some.inj hm).symm
    subst this
    exact ⟨Nat.zero_le _, fun i hi => by omega⟩
   ·rw [if_neg hv] at hm
    obtain ⟨p, hpm, rfl, ho⟩ := findM_some hm
    have hg := zip_get hpm
    have := (List.getElem?_eq_some_iff.1 hg).1
    exact ⟨by omega, fun i hi => ⟨p.1, by rw [show i = p.2 by omega]; exact hg, ho⟩⟩
  have hu : ∀ u, usedI b v = some u → k ≤ u := fun u hu => by
   cases k with
   | zero => exact Nat.zero_le _
   | succ i =>
    obtain ⟨x, hx, ho⟩ := hk.2 i rfl
    unfold usedI at hu
    by_cases hv : v ∈ b.ends
    ·rw [if_pos hv] at hu
     have := Option.some.inj hu
     omega
    ·rw [if_neg hv] at hu
     rcases lastU_spec (v := v) b.ins.zipIdx none with ⟨h1, _⟩ | ⟨p, hpm, h1, h2⟩
     ·rw [h1] at hu; cases hu
     ·rw [h1] at hu
      have hpu : p.2 = u := Option.some.inj hu
      have hg := zip_get hpm
      obtain ⟨l1, e1⟩ := List.getElem?_eq_some_iff.1 hx
      obtain ⟨l2, e2⟩ := List.getElem?_eq_some_iff.1 hg
      rcases Nat.lt_trichotomy p.2 i with hlt | heq | hgt
      ·exfalso
       have := List.pairwise_iff_getElem.1 h.late p.2 i l2 l1 hlt
       rw [e1, e2] at this
       exact this ho h2
      ·exfalso
       subst heq
       rw [e1] at e2
       exact h.own x (List.mem_of_getElem? hx) ho (by rw [e2]; exact h2)
      ·omega
  have hk1 := hk.1
  cases k with
  | zero =>
   cases hus : usedI b v with
   | none => cases bg <;> cases bh <;> simp [stV, closeV] <;> omega
   | some u => cases bg <;> cases bh <;> simp [stV, closeV] <;> omega
  | succ i =>
   cases hus : usedI b v with
   | none => cases bg <;> cases bh <;> simp [stV, closeV] <;> omega
   | some u =>
    have := hu u hus
    cases bg <;> cases bh <;> simp [stV, closeV] <;> omega
end Go.Proofs.YtjpmiejgcnfiiaaGreat.Lv
namespace Go.Proofs.YtjpmiejgcnfiiaaGreat
open Go Go.RowKit

theorem laidOut : laidOutB Tryz.prog = true := by kernel_rfl
theorem get_some {α : Type} {l : List α} {k : Nat} (h : k < l.length) : ∃ r, l[k]? = some r := ⟨l[k], List.getElem?_eq_getElem h⟩

/-- A row that came in. -/
structure RwD (α : Type) where
 a : Option Addr
 l : List α
 c : Nat
def RwD.v {α : Type} (x : RwD α) : Value := .slice x.a x.l.length x.c
/-- An edge. -/
structure EdD where
 to : Int
 args : RwD Int
def edC (x : EdD) : List Value := [.int .i64 x.to, x.args.v]
/-- An instruction. -/
structure InD where
 kind : Int
 op : Int
 a : Int
 b : Int
 n : Int
 args : RwD Int
 outs : RwD Int
def inC (x : InD) : List Value := [.int .i64 x.kind, .int .i64 x.op, .int .i64 x.a, .int .i64 x.b, .int .u64 x.n, x.args.v, x.outs.v]
/-- A block. -/
structure BkD where
 params : RwD Int
 ins : RwD InD
 kind : Int
 cond : Int
 args : RwD Int
 to : RwD EdD
 trap : Int
def bkC (x : BkD) : List Value := [x.params.v, x.ins.v, .int .i64 x.kind, .int .i64 x.cond, x.args.v, x.to.v, .int .i64 x.trap]
/-- A form. -/
structure SsD where
 params : RwD Int
 results : RwD Int
 vals : RwD Int
 blocks : RwD BkD
def ssC (x : SsD) : List Value := [x.params.v, x.results.v, x.vals.v, x.blocks.v]

/-- A row of numbers, in memory. -/
structure NumOk (w : World) (x : RwD Int) : Prop where
 seg : Seg w x.a (x.l.flatMap intC)
 len : x.l.length ≤ maxLen
structure EdOk (w : World) (x : EdD) : Prop where
 args : NumOk w x.args
structure InOk (w : World) (x : InD) : Prop where
 args : NumOk w x.args
 outs : NumOk w x.outs
structure BkOk (w : World) (x : BkD) : Prop where
 params : NumOk w x.params
 insSeg : Seg w x.ins.a (x.ins.l.flatMap inC)
 ins : ∀ i ∈ x.ins.l, InOk w i
 insLen : x.ins.l.length ≤ maxLen
 args : NumOk w x.args
 toSeg : Seg w x.to.a (x.to.l.flatMap edC)
 to : ∀ e ∈ x.to.l, EdOk w e
 toLen : x.to.l.length ≤ maxLen
structure SsOk (w : World) (x : SsD) : Prop where
 vals : NumOk w x.vals
 seg : Seg w x.blocks.a (x.blocks.l.flatMap bkC)
 blocks : ∀ b ∈ x.blocks.l, BkOk w b
 len : x.blocks.l.length ≤ maxLen
theorem NumOk.keep {w w' : World} {x : RwD Int} (h : NumOk w x) (hk : Keep w w') : NumOk w' x := ⟨h.seg.keep hk, h.len⟩
theorem EdOk.keep {w w' : World} {x : EdD} (h : EdOk w x) (hk : Keep w w') : EdOk w' x := ⟨h.args.keep hk⟩
theorem InOk.keep {w w' : World} {x : InD} (h : InOk w x) (hk : Keep w w') : InOk w' x := ⟨h.args.keep hk, h.outs.keep hk⟩
theorem BkOk.keep {w w' : World} {x : BkD} (h : BkOk w x) (hk : Keep w w') : BkOk w' x :=
 ⟨h.params.keep hk, h.insSeg.keep hk, fun i hi => (h.ins i hi).keep hk, h.insLen, h.args.keep hk, h.toSeg.keep hk, fun e he => (h.to e he).keep hk, h.toLen⟩
theorem SsOk.keep {w w' : World} {x : SsD} (h : SsOk w x) (hk : Keep w w') : SsOk w' x := ⟨h.vals.keep hk, h.seg.keep hk, fun b hb => (h.blocks b hb).keep hk, h.len⟩

/-! ### What the search sees of it -/

def nat (l : List Int) : List Nat := l.map Int.toNat
def InD.p (x : InD) : Lv.PIns := ⟨nat x.args.l, nat x.outs.l⟩
/-- The values that the end uses. -/
def BkD.endsI (x : BkD) : List Int := x.args.l ++ (if x.kind = 1 ∨ x.kind = 2 then [x.cond] else []) ++ x.to.l.flatMap (fun e => e.args.l)
/-- The blocks that follow, of n. -/
def BkD.nextI (x : BkD) (n : Nat) : List Int := (x.to.l.map (·.to)).filter fun t => decide (0 ≤ t ∧ t < (n : Int))
def BkD.p (x : BkD) (n : Nat) : Lv.PBlk := ⟨nat x.params.l, x.ins.l.map InD.p, nat x.endsI, nat (x.nextI n)⟩
def SsD.F (x : SsD) : List Lv.PBlk := x.blocks.l.map (BkD.p · x.blocks.l.length)

/-- A block, an instruction, an edge of the form. -/
theorem bk_get {w wr : World} {A : Option Addr} {l : List BkD} {k : Nat} {x : BkD} (h : Seg w A (l.flatMap bkC)) (hkeep : Keep w wr) (hx : l[k]? = some x) :
  ∃ b off, A = some ⟨b, off, none⟩ ∧ b < w.heap.size ∧ ∀ j v, (bkC x)[j]? = some v → wr.cell? ⟨b, off + k * 7 + j, none⟩ = some v := by
 obtain ⟨hk, e⟩ := List.getElem?_eq_some_iff.1 hx
 obtain ⟨b, off, e', hb, hc⟩ := h.elem 7 (fun _ => rfl) (by omega) hk
 rw [e] at hc
 exact ⟨b, off, e', hb, fun j v hv => by have := hkeep.cell (hc j v hv); rwa [← Nat.add_assoc] at this⟩
theorem in_get {w wr : World} {A : Option Addr} {l : List InD} {k : Nat} {x : InD} (h : Seg w A (l.flatMap inC)) (hkeep : Keep w wr) (hx : l[k]? = some x) :
  ∃ b off, A = some ⟨b, off, none⟩ ∧ b < w.heap.size ∧ ∀ j v, (inC x)[j]? = some v → wr.cell? ⟨b, off + k * 7 + j, none⟩ = some v := by
 obtain ⟨hk, e⟩ := List.getElem?_eq_some_iff.1 hx
 obtain ⟨b, off, e', hb, hc⟩ := h.elem 7 (fun _ => rfl) (by omega) hk
 rw [e] at hc
 exact ⟨b, off, e', hb, fun j v hv => by have := hkeep.cell (hc j v hv); rwa [← Nat.add_assoc] at this⟩
theorem ed_get {w wr : World} {A : Option Addr} {l : List EdD} {k : Nat} {x : EdD} (h : Seg w A (l.flatMap edC)) (hkeep : Keep w wr) (hx : l[k]? = some x) :
  ∃ b off, A = some ⟨b, off, none⟩ ∧ b < w.heap.size ∧ wr.cell? ⟨b, off + k * 2, none⟩ = some (.int .i64 x.to) ∧ wr.cell? ⟨b, off + k * 2 + 1, none⟩ = some x.args.v := by
 obtain ⟨hk, e⟩ := List.getElem?_eq_some_iff.1 hx
 obtain ⟨b, off, e', hb, hc⟩ := h.elem 2 (fun _ => rfl) (by omega) hk
 rw [e] at hc
 exact ⟨b, off, e', hb, by have := hkeep.cell (hc 0 _ rfl); simpa using this, by have := hkeep.cell (hc 1 _ rfl); rwa [← Nat.add_assoc] at this⟩
end Go.Proofs.YtjpmiejgcnfiiaaGreat
