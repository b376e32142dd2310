import Derived.Test.YtjpmiejgcnfiiaaGreatQ13
set_option linter.unusedVariables false
set_option linter.unusedSimpArgs false
namespace Go.Proofs.YtjpmiejgcnfiiaaGreat
open Go

/-- The values that a block makes; those that it makes ahead of its k-th instruction. -/
def BkD.outsI (y : BkD) : List Int := y.params.l ++ y.ins.l.flatMap fun i => i.outs.l
def BkD.hereI (y : BkD) (k : Nat) : List Int := y.params.l ++ (y.ins.l.take k).flatMap fun i => i.outs.l
theorem BkD.hereI_all {y : BkD} {k : Nat} (h : y.ins.l.length ≤ k) : y.hereI k = y.outsI := by unfold BkD.hereI BkD.outsI; rw [List.take_of_length_le h]
theorem BkD.hereI_succ {y : BkD} {k : Nat} {i : InD} (h : y.ins.l[k]? = some i) : y.hereI (k + 1) = y.hereI k ++ i.outs.l := by
 unfold BkD.hereI
 rw [List.take_add_one, h]
 simp
theorem BkD.hereI_le (y : BkD) (k : Nat) : (y.hereI k).length ≤ y.outsI.length := by
 unfold BkD.hereI BkD.outsI
 simp only [List.length_append]
 have : ((y.ins.l.take k).flatMap fun i => i.outs.l).length ≤ (y.ins.l.flatMap fun i => i.outs.l).length := by
  rw [← List.take_append_drop k y.ins.l, List.flatMap_append, List.length_append]
  simp
 omega
def SsD.outsA (x : SsD) : List Int := x.blocks.l.flatMap BkD.outsI

/-- What the check looks things up in. -/
structure VK where
 over : Int → Int → Bool
 defs : List Int
 reached : List Bool
def VK.standsB (K : VK) (b : Int) (here : List Int) (v : Int) : Bool :=
 if v < 0 ∨ (K.defs.length : Int) ≤ v then false
 else if K.defs.getD v.toNat (-1) < 0 then false
 else if K.reached.getD b.toNat false = false then true
 else if K.defs.getD v.toNat (-1) = b then decide (v ∈ here)
 else K.over (K.defs.getD v.toNat (-1)) b
/-- Where each value is made, as far as the blocks from k on say. -/
structure DefsI (x : SsD) (k : Nat) (D : List Int) : Prop where
 len : D.length = x.vals.l.length
 some_ : ∀ v, v < x.vals.l.length → D.getD v (-1) = -1 ∨ ∃ (c : Nat) (y : BkD), k ≤ c ∧ x.blocks.l[c]? = some y ∧ D.getD v (-1) = (c : Int) ∧ (v : Int) ∈ y.outsI
 all : ∀ v, v < x.vals.l.length → ∀ (c : Nat) (y : BkD), k ≤ c → x.blocks.l[c]? = some y → (v : Int) ∈ y.outsI → D.getD v (-1) ≠ -1
/-- A block that the check lets through. -/
structure BkV (x : SsD) (K : VK) (b : Nat) (y : BkD) : Prop where
 inn : y.In x.vals.l.length
 ins : ∀ k i, y.ins.l[k]? = some i → ∀ v ∈ i.args.l, K.standsB b (y.hereI k) v = true
 ends : ∀ v ∈ y.endsI, K.standsB b y.outsI v = true
 edges : ∀ e ∈ y.to.l, 0 ≤ e.to ∧ e.to < (x.blocks.l.length : Int)
/-- A form that it lets through. -/
structure Valid (x : SsD) (K : VK) : Prop where
 ne : x.blocks.l ≠ []
 first : ∀ y, x.blocks.l[0]? = some y → y.params.l = []
 once : ∀ v, v < x.vals.l.length → x.outsA.count (v : Int) ≤ 1
 defs : DefsI x 0 K.defs
 root : K.reached.getD 0 false = true
 shut : ∀ b, K.reached.getD b false = true → ∀ t ∈ x.N.getD b [], K.reached.getD t false = true
 blk : ∀ b y, x.blocks.l[b]? = some y → BkV x K b y

theorem cnt_two {α : Type} {f : α → List Int} {v : Int} : ∀ {l : List α} {i j : Nat} {a c : α}, i < j → l[i]? = some a → l[j]? = some c → v ∈ f a → v ∈ f c → 2 ≤ (l.flatMap f).count v
 | [], _, _, _, _, _, h, _, _, _ => by simp at h
 | d :: l, 0, j + 1, a, c, _, h1, h2, h3, h4 => by
  have e : d = a := by simpa using h1
  subst e
  rw [List.flatMap_cons, List.count_append]
  have k1 := List.one_le_count_iff.2 h3
  have k2 : 1 ≤ (l.flatMap f).count v := List.one_le_count_iff.2 (List.mem_flatMap.2 ⟨c, List.mem_of_getElem? (by simpa using h2), h4⟩)
  omega
 | d :: l, i + 1, j + 1, a, c, h0, h1, h2, h3, h4 => by
  rw [List.flatMap_cons, List.count_append]
  have := cnt_two (f := f) (v := v) (l := l) (i := i) (j := j) (by omega) (by simpa using h1) (by simpa using h2) h3 h4
  omega
 | _ :: _, _, 0, _, _, h, _, _, _, _ => absurd h (by omega)
theorem cnt_in {α : Type} {f : α → List Int} {v : Int} {l : List α} {a : α} (h : a ∈ l) : (f a).count v ≤ (l.flatMap f).count v := by
 obtain ⟨s, t, rfl⟩ := List.append_of_mem h
 rw [List.flatMap_append, List.flatMap_cons, List.count_append, List.count_append]
 omega
theorem nat_mem {l : List Int} {v : Nat} (h : ∀ u ∈ l, 0 ≤ u) : v ∈ nat l ↔ (v : Int) ∈ l := by
 unfold nat
 rw [List.mem_map]
 constructor
 ·rintro ⟨u, hu, rfl⟩
  have := h u hu
  rwa [show ((u.toNat : Nat) : Int) = u by omega]
 ·intro hv; exact ⟨(v : Int), hv, by simp⟩

section
variable {x : SsD} {K : VK}
theorem Valid.once_blk (h : Valid x K) {b : Nat} {y : BkD} (hy : x.blocks.l[b]? = some y) {v : Nat} (hv : v < x.vals.l.length) : y.outsI.count (v : Int) ≤ 1 :=
 Nat.le_trans (cnt_in (f := BkD.outsI) (List.mem_of_getElem? hy)) (h.once v hv)
theorem Valid.one_blk (h : Valid x K) {b c : Nat} {y z : BkD} (hy : x.blocks.l[b]? = some y) (hz : x.blocks.l[c]? = some z) {v : Nat} (hv : v < x.vals.l.length) (h1 : (v : Int) ∈ y.outsI) (h2 : (v : Int) ∈ z.outsI) : b = c := by
 have h0 := h.once v hv
 rcases Nat.lt_trichotomy b c with hlt | e | hlt
 ·have := cnt_two (f := BkD.outsI) hlt hy hz h1 h2
  unfold SsD.outsA at h0; omega
 ·exact e
 ·have := cnt_two (f := BkD.outsI) hlt hz hy h2 h1
  unfold SsD.outsA at h0; omega
/-- A value that a block makes is told to be made there. -/
theorem Valid.def_eq (h : Valid x K) {b : Nat} {y : BkD} (hy : x.blocks.l[b]? = some y) {v : Nat} (hv : v < x.vals.l.length) (h1 : (v : Int) ∈ y.outsI) : K.defs.getD v (-1) = (b : Int) := by
 rcases h.defs.some_ v hv with h2 | ⟨c, z, _, hz, h3, h4⟩
 ·exact absurd h2 (h.defs.all v hv b y (Nat.zero_le _) hy h1)
 ·rw [h3, h.one_blk hy hz hv h1 h4]
theorem Valid.reach (h : Valid x K) {b : Nat} (hb : b ∈ x.ord) : K.reached.getD b false = true := by
 have h0 := x.ordOk
 unfold OrdOk at h0
 rw [if_neg h.ne] at h0
 obtain ⟨vs, hp, _⟩ := h0.paths (x := b) (by simpa using hb)
 have key : ∀ a vs b, Lv.Pth x.N a vs b → K.reached.getD a false = true → K.reached.getD b false = true := by
  intro a vs b hp
  induction hp with
  | refl => exact id
  | step hc _ ih => exact fun ha => ih (h.shut _ ha _ hc)
 exact key 0 vs b hp h.root
/-- A use in a block that is reached stands behind the making. -/
theorem Valid.stands (h : Valid x K) {b : Nat} (hb : b ∈ x.ord) {here : List Int} {v : Int} (hs : K.standsB b here v = true) :
  ∃ (u : Nat) (d : Nat) (z : BkD), v = (u : Int) ∧ u < x.vals.l.length ∧ K.defs.getD u (-1) = (d : Int) ∧ x.blocks.l[d]? = some z ∧ v ∈ z.outsI ∧ ((d = b ∧ v ∈ here) ∨ (d ≠ b ∧ K.over d b = true)) := by
 unfold VK.standsB at hs
 split at hs
 ·cases hs
 ·rename_i h1
  have h1a : 0 ≤ v ∧ v < (K.defs.length : Int) := by omega
  rw [h.defs.len] at h1a
  obtain ⟨u, rfl⟩ : ∃ u : Nat, v = (u : Int) := ⟨v.toNat, by omega⟩
  simp only [Int.toNat_natCast] at hs
  split at hs
  ·cases hs
  ·rename_i h2
   rw [h.reach hb] at hs
   simp only [Bool.true_eq_false, if_false] at hs
   rcases h.defs.some_ u (by omega) with h3 | ⟨d, z, _, hz, h3, h4⟩
   ·omega
   ·refine ⟨u, d, z, rfl, by omega, h3, hz, h4, ?_⟩
    rw [h3] at hs
    by_cases e : d = b
    ·subst e
     rw [if_pos rfl] at hs
     exact .inl ⟨rfl, of_decide_eq_true hs⟩
    ·rw [if_neg (by omega)] at hs
     exact .inr ⟨e, hs⟩
/-- In a block that makes a value: no use of it ahead. -/
theorem Valid.local_ (h : Valid x K) {b : Nat} (hb : b ∈ x.ord) {y : BkD} (hy : x.blocks.l[b]? = some y) {k : Nat} {i : InD} (hi : y.ins.l[k]? = some i) {v : Nat} (hv : (v : Int) ∈ i.args.l) (hm : (v : Int) ∈ y.outsI) : (v : Int) ∈ y.hereI k := by
 have hV := h.blk b y hy
 obtain ⟨u, d, z, e, hu, h3, hz, h4, h5⟩ := h.stands hb (hV.ins k i hi _ hv)
 have e' : v = u := by omega
 subst e'
 have h6 := h.def_eq hy hu hm
 rcases h5 with ⟨_, h7⟩ | ⟨h7, _⟩
 ·exact h7
 ·omega
theorem take_get {α : Type} {l : List α} {k p : Nat} {a : α} (h : (l.take k)[p]? = some a) : p < k ∧ l[p]? = some a := by
 rw [List.getElem?_take] at h
 split at h
 ·exact ⟨by assumption, h⟩
 ·cases h
theorem Valid.late (h : Valid x K) {b : Nat} (hb : b ∈ x.ord) {y : BkD} (hy : x.blocks.l[b]? = some y) {k j : Nat} {i i' : InD} (hi : y.ins.l[k]? = some i) (hj : y.ins.l[j]? = some i') (hkj : k ≤ j) {v : Nat} (hv : (v : Int) ∈ i.args.l) (ho : (v : Int) ∈ i'.outs.l) : False := by
 have hm : (v : Int) ∈ y.outsI := List.mem_append_right _ (List.mem_flatMap.2 ⟨i', List.mem_of_getElem? hj, ho⟩)
 have hvn : v < x.vals.l.length := by
  have := (h.blk b y hy).inn.outs i' (List.mem_of_getElem? hj) _ ho
  omega
 have h1 := h.once_blk hy hvn
 unfold BkD.outsI at h1
 rw [List.count_append] at h1
 rcases List.mem_append.1 (h.local_ hb hy hi hv hm) with h2 | h2
 ·have k1 := List.one_le_count_iff.2 h2
  have k2 : 1 ≤ (y.ins.l.flatMap fun i => i.outs.l).count (v : Int) := List.one_le_count_iff.2 (List.mem_flatMap.2 ⟨i', List.mem_of_getElem? hj, ho⟩)
  omega
 ·obtain ⟨i2, hi2, ho2⟩ := List.mem_flatMap.1 h2
  obtain ⟨p, hp⟩ := List.mem_iff_getElem?.1 hi2
  obtain ⟨hpk, hp2⟩ := take_get hp
  have := cnt_two (f := fun i : InD => i.outs.l) (show p < j by omega) hp2 hj ho2 ho
  omega
theorem Valid.fits (h : Valid x K) : Fits x where
 inn := fun b y hy => (h.blk b y hy).inn
 fit := fun b hb v => by
  obtain ⟨y, hy⟩ := get_some (x.ord_spec.2 b hb)
  have hin := (h.blk b y hy).inn
  rw [SsD.F_get hy]
  have hget : ∀ (p : Nat) (q : Lv.PIns), (y.p x.blocks.l.length).ins[p]? = some q → ∃ i, y.ins.l[p]? = some i ∧ q = i.p := fun p q hq => by
   have hq' : (y.ins.l.map InD.p)[p]? = some q := hq
   rw [List.getElem?_map] at hq'
   cases hi : y.ins.l[p]? with
   | none => rw [hi] at hq'; cases hq'
   | some i => rw [hi] at hq'; exact ⟨i, rfl, (Option.some.inj hq').symm⟩
  have hargs : ∀ i ∈ y.ins.l, v ∈ i.p.args → (v : Int) ∈ i.args.l := fun i hi hv => (nat_mem (fun u hu => (hin.args i hi u hu).1)).1 hv
  have houts : ∀ i ∈ y.ins.l, v ∈ i.p.outs → (v : Int) ∈ i.outs.l := fun i hi hv => (nat_mem (fun u hu => (hin.outs i hi u hu).1)).1 hv
  refine ⟨?_, ?_, ?_⟩
  ·rw [List.pairwise_iff_getElem]
   intro p q hp hq hpq h1 h2
   obtain ⟨i, hi, e1⟩ := hget p _ (List.getElem?_eq_getElem hp)
   obtain ⟨j, hj, e2⟩ := hget q _ (List.getElem?_eq_getElem hq)
   rw [e1] at h1
   rw [e2] at h2
   have o1 := houts i (List.mem_of_getElem? hi) h1
   have o2 := houts j (List.mem_of_getElem? hj) h2
   have h3 := cnt_two (f := fun i : InD => i.outs.l) hpq hi hj o1 o2
   have hvn := hin.outs i (List.mem_of_getElem? hi) _ o1
   have h4 := h.once_blk hy (v := v) (by omega)
   unfold BkD.outsI at h4
   rw [List.count_append] at h4
   omega
  ·rw [List.pairwise_iff_getElem]
   intro p q hp hq hpq h1 h2
   obtain ⟨i, hi, e1⟩ := hget p _ (List.getElem?_eq_getElem hp)
   obtain ⟨j, hj, e2⟩ := hget q _ (List.getElem?_eq_getElem hq)
   rw [e1] at h2
   rw [e2] at h1
   exact h.late hb hy hi hj (by omega) (hargs i (List.mem_of_getElem? hi) h2) (houts j (List.mem_of_getElem? hj) h1)
  ·intro q hq h1 h2
   obtain ⟨p, hp⟩ := List.mem_iff_getElem?.1 hq
   obtain ⟨i, hi, e1⟩ := hget p _ hp
   rw [e1] at h1 h2
   exact h.late hb hy hi hi (Nat.le_refl _) (hargs i (List.mem_of_getElem? hi) h2) (houts i (List.mem_of_getElem? hi) h1)
 par := fun b hb v hv q hq ho => by
  obtain ⟨y, hy⟩ := get_some (x.ord_spec.2 b hb)
  have hin := (h.blk b y hy).inn
  rw [SsD.F_get hy] at hv hq
  have h1 : (v : Int) ∈ y.params.l := (nat_mem (fun u hu => (hin.params u hu).1)).1 hv
  obtain ⟨i, hi, rfl⟩ := List.mem_map.1 (show q ∈ y.ins.l.map InD.p from hq)
  have h2 : (v : Int) ∈ i.outs.l := (nat_mem (fun u hu => (hin.outs i hi u hu).1)).1 ho
  have hvn := hin.params _ h1
  have h4 := h.once_blk hy (v := v) (by omega)
  unfold BkD.outsI at h4
  rw [List.count_append] at h4
  have k1 := List.one_le_count_iff.2 h1
  have k2 : 1 ≤ (y.ins.l.flatMap fun i => i.outs.l).count (v : Int) := List.one_le_count_iff.2 (List.mem_flatMap.2 ⟨i, hi, h2⟩)
  omega
end
end Go.Proofs.YtjpmiejgcnfiiaaGreat
namespace Go.Proofs.YtjpmiejgcnfiiaaGreat.Dom

/-! ### Paths -/
section
variable (E : Nat → Nat → Prop) (rank : Nat → Nat)

/-- Reached from node 0. -/
inductive R : Nat → Prop
 | root : R 0
 | step {a b : Nat} : R a → E a b → R b
/-- Reached on a path that avoids d. -/
inductive RA (d : Nat) : Nat → Prop
 | root : 0 ≠ d → RA d 0
 | step {a b : Nat} : RA d a → E a b → b ≠ d → RA d b
/-- Reached on a path that avoids d and goes up in rank at most k times. -/
inductive RK (d : Nat) : Nat → Nat → Prop
 | root (k : Nat) : 0 ≠ d → RK d k 0
 | adv {k a b : Nat} : RK d k a → E a b → rank b < rank a → b ≠ d → RK d k b
 | ret {k a b : Nat} : RK d k a → E a b → b ≠ d → RK d (k + 1) b
/-- d dominates x. -/
def Dm (d x : Nat) : Prop := R E x ∧ ¬ RA E d x
/-- A path from a to x all of whose nodes but a are of lower rank than a. -/
inductive Pb (a : Nat) : Nat → Prop
 | one {b : Nat} : E a b → rank b < rank a → Pb a b
 | step {b c : Nat} : Pb a b → E b c → rank c < rank a → Pb a c
end

section
variable {E : Nat → Nat → Prop} {rank : Nat → Nat}

theorem RA.reach {d x : Nat} (h : RA E d x) : R E x := by
 induction h with
 | root _ => exact .root
 | step _ he _ ih => exact .step ih he
theorem RA.ne {d x : Nat} (h : RA E d x) : x ≠ d := by
 cases h with
 | root h => exact h
 | step _ _ h => exact h
theorem RK.ne {d k x : Nat} (h : RK E rank d k x) : x ≠ d := by
 cases h with
 | root _ h => exact h
 | adv _ _ _ h => exact h
 | ret _ _ h => exact h
theorem RK.ra {d k x : Nat} (h : RK E rank d k x) : RA E d x := by
 induction h with
 | root _ h => exact .root h
 | adv _ he _ hn ih => exact .step ih he hn
 | ret _ he hn ih => exact .step ih he hn
theorem RK.mono {d k x : Nat} (h : RK E rank d k x) : RK E rank d (k + 1) x := by
 induction h with
 | root _ h => exact .root _ h
 | adv _ he hr hn ih => exact .adv ih he hr hn
 | ret _ he hn ih => exact .ret ih he hn
theorem RK.mono_le {d k l x : Nat} (h : RK E rank d k x) (hl : k ≤ l) : RK E rank d l x := by
 induction hl with
 | refl => exact h
 | step _ ih => exact ih.mono
/-- A path to m avoids n, or its part up to n is a path to n. -/
theorem RK.pass {d k m : Nat} (n : Nat) (h : RK E rank d k m) : RK E rank n k m ∨ RK E rank d k n := by
 induction h with
 | root k h =>
  by_cases h0 : 0 = n
  ·subst h0; exact .inr (.root _ h)
  ·exact .inl (.root _ h0)
 | @adv k a b ha he hr hn ih =>
  rcases ih with h1 | h1
  ·by_cases hb : b = n
   ·subst hb; exact .inr (.adv ha he hr hn)
   ·exact .inl (.adv h1 he hr hb)
  ·exact .inr h1
 | @ret k a b ha he hn ih =>
  rcases ih with h1 | h1
  ·by_cases hb : b = n
   ·subst hb; exact .inr (.ret ha he hn)
   ·exact .inl (.ret h1 he hb)
  ·exact .inr h1.mono
theorem Pb.lt {a x : Nat} (h : Pb E rank a x) : rank x < rank a := by
 cases h with
 | one _ h => exact h
 | step _ _ h => exact h
theorem Pb.ra {a x d : Nat} (h : Pb E rank a x) (ha : RA E d a) (hd : rank a < rank d) : RA E d x := by
 induction h with
 | one he hr => exact .step ha he (fun e => by subst e; omega)
 | step _ he hr ih => exact .step ih he (fun e => by subst e; omega)
theorem Pb.trans {a b c : Nat} (h : Pb E rank b c) (k : Pb E rank a b) : Pb E rank a c := by
 have hb := k.lt
 induction h with
 | one he hr => exact .step k he (by omega)
 | step _ he hr ih => exact .step ih he (by omega)
end

/-! ### Chains -/
section
/-- d is on the chain of x. -/
inductive Anc (f : Nat → Nat) : Nat → Nat → Prop
 | refl (x : Nat) : Anc f x x
 | up {x d : Nat} : x ≠ 0 → Anc f (f x) d → Anc f x d
variable {f : Nat → Nat}
theorem Anc.zero {d : Nat} (h : Anc f 0 d) : d = 0 := by
 cases h with
 | refl => rfl
 | up h _ => exact absurd rfl h
theorem Anc.trans {x y z : Nat} (h : Anc f x y) (k : Anc f y z) : Anc f x z := by
 induction h with
 | refl => exact k
 | up h0 _ ih => exact .up h0 (ih k)
theorem Anc.cases' {x d : Nat} (h : Anc f x d) : d = x ∨ (x ≠ 0 ∧ Anc f (f x) d) := by
 cases h with
 | refl => exact .inl rfl
 | up h0 h => exact .inr ⟨h0, h⟩
/-- Two on one chain. -/
theorem Anc.total {x y z : Nat} (h : Anc f x y) (k : Anc f x z) : Anc f y z ∨ Anc f z y := by
 induction h with
 | refl => exact .inl k
 | @up x d h0 h ih =>
  rcases k.cases' with rfl | ⟨_, k'⟩
  ·exact .inr (.up h0 h)
  ·exact ih k'
end

/-! ### The state of the iteration -/
section
variable (E : Nat → Nat → Prop) (rank : Nat → Nat)

/-- The tree on the nodes of S: each but 0 has a parent of S of higher rank, from which a path leads to it through lower nodes; a node's dominators are on its chain. -/
structure Tree (S : Nat → Prop) (f : Nat → Nat) : Prop where
 zero : S 0
 reach : ∀ x, S x → R E x
 up : ∀ x, S x → x ≠ 0 → S (f x) ∧ rank x < rank (f x) ∧ Pb E rank (f x) x
 dom : ∀ x, S x → ∀ d, Dm E d x → Anc f x d
variable {E rank} {S : Nat → Prop} {f : Nat → Nat}

theorem Tree.anc (h : Tree E rank S f) {x d : Nat} (hx : S x) (ha : Anc f x d) : S d ∧ (d = x ∨ (rank x < rank d ∧ Pb E rank d x)) := by
 induction ha with
 | refl => exact ⟨hx, .inl rfl⟩
 | @up x d h0 _ ih =>
  obtain ⟨h1, h2, h3⟩ := h.up x hx h0
  obtain ⟨h4, h5⟩ := ih h1
  refine ⟨h4, .inr ?_⟩
  rcases h5 with rfl | ⟨h5, h6⟩
  ·exact ⟨h2, h3⟩
  ·exact ⟨by omega, h3.trans h6⟩
theorem Tree.anc_le (h : Tree E rank S f) {x d : Nat} (hx : S x) (ha : Anc f x d) : rank x ≤ rank d := by
 rcases (h.anc hx ha).2 with rfl | ⟨h1, _⟩ <;> omega
theorem Tree.antisymm (h : Tree E rank S f) {x y : Nat} (hx : S x) (ha : Anc f x y) (hb : Anc f y x) : x = y := by
 have hy := (h.anc hx ha).1
 rcases (h.anc hx ha).2 with e | ⟨h1, _⟩
 ·exact e.symm
 ·have := h.anc_le hy hb; omega
/-- A node above n on m's chain that dominates m dominates n. -/
theorem Tree.dom_above (h : Tree E rank S f) {m n d : Nat} (hm : S m) (hn : Anc f m n) (hd : Anc f n d) (hne : d ≠ n) (hdm : Dm E d m) : Dm E d n := by
 have hS := (h.anc hm hn).1
 refine ⟨h.reach n hS, fun hra => hdm.2 ?_⟩
 have hr : rank n < rank d := by
  rcases (h.anc hS hd).2 with e | ⟨h1, _⟩
  ·exact absurd e hne
  ·exact h1
 rcases (h.anc hm hn).2 with e | ⟨_, hp⟩
 ·exact e ▸ hra
 ·exact hp.ra hra hr

/-- What the processed predecessors of n say: best. -/
structure Best (E : Nat → Nat → Prop) (rank : Nat → Nat) (S : Nat → Prop) (f : Nat → Nat) (n best : Nat) : Prop where
 some : ∃ p, S p ∧ E p n ∧ rank n < rank p
 mem : S best
 all : ∀ d, Anc f best d ↔ ∀ p, S p → E p n → Anc f p d

theorem Best.rk (h : Tree E rank S f) {n best : Nat} (hb : Best E rank S f n best) : rank n < rank best := by
 obtain ⟨p, h1, h2, h3⟩ := hb.some
 have := h.anc_le h1 ((hb.all best).1 (.refl _) p h1 h2)
 omega
theorem Best.path (h : Tree E rank S f) {n best : Nat} (hb : Best E rank S f n best) : Pb E rank best n := by
 obtain ⟨p, h1, h2, h3⟩ := hb.some
 have hr := hb.rk h
 rcases (h.anc h1 ((hb.all best).1 (.refl _) p h1 h2)).2 with e | ⟨_, hp⟩
 ·subst e; exact .one h2 hr
 ·exact .step hp h2 hr

def set (f : Nat → Nat) (n v : Nat) : Nat → Nat := fun x => if x = n then v else f x
theorem set_ne {f : Nat → Nat} {n v x : Nat} (h : x ≠ n) : set f n v x = f x := by simp [set, h]
theorem set_eq {f : Nat → Nat} {n v : Nat} : set f n v n = v := by simp [set]

/-- A chain that does not pass n is as it was. -/
theorem anc_set_far {n v x d : Nat} (hn : ¬ Anc f x n) : Anc (set f n v) x d ↔ Anc f x d := by
 constructor
 ·intro h
  induction h with
  | refl => exact .refl _
  | @up x d h0 h ih =>
   have hx : x ≠ n := fun e => hn (e ▸ .refl _)
   rw [set_ne hx] at ih
   exact .up h0 (ih (fun h1 => hn (.up h0 h1)))
 ·intro h
  induction h with
  | refl => exact .refl _
  | @up x d h0 h ih =>
   have hx : x ≠ n := fun e => hn (e ▸ .refl _)
   exact .up h0 (by rw [set_ne hx]; exact ih (fun h1 => hn (.up h0 h1)))
theorem anc_set_here {n v d : Nat} (h0 : n ≠ 0) (hv : ¬ Anc f v n) : Anc (set f n v) n d ↔ d = n ∨ Anc f v d := by
 constructor
 ·intro h
  rcases h.cases' with e | ⟨_, h1⟩
  ·exact .inl e
  ·rw [set_eq] at h1; exact .inr ((anc_set_far hv).1 h1)
 ·rintro (rfl | h)
  ·exact .refl _
  ·exact .up h0 (by rw [set_eq]; exact (anc_set_far hv).2 h)
theorem anc_set_through {n v x : Nat} (h : Anc f x n) : Anc (set f n v) x n := by
 induction h with
 | refl => exact .refl _
 | @up x d h0 h ih =>
  by_cases hx : x = d
  ·subst hx; exact .refl _
  ·exact .up h0 (by rw [set_ne hx]; exact ih)
/-- On a chain that passes n: what is below n stays, above n comes n's new chain. -/
theorem anc_set_cases {n v x d : Nat} (h : Anc f x n) (hd : Anc (set f n v) x d) : Anc f x d ∨ Anc (set f n v) n d := by
 induction h with
 | refl => exact .inr hd
 | @up x m h0 h ih =>
  by_cases hx : x = m
  ·subst hx; exact .inr hd
  ·rcases hd.cases' with e | ⟨_, h1⟩
   ·subst e; exact .inl (.refl _)
   ·rw [set_ne hx] at h1
    exact (ih h1).imp (.up h0) id
theorem anc_set_low {n v x d : Nat} (hanti : ∀ d, Anc f n d → Anc f d n → d = n) (h : Anc f x d) (hd : Anc f d n) : Anc (set f n v) x d := by
 induction h with
 | refl => exact .refl _
 | @up x m h0 h ih =>
  by_cases hx : x = n
  ·subst hx
   rw [hanti m (.up h0 h) hd]
   exact .refl _
  ·exact .up h0 (by rw [set_ne hx]; exact ih hd)

theorem Best.far (h : Tree E rank S f) {n best : Nat} (hb : Best E rank S f n best) : ¬ Anc f best n := fun ha => by
 have h1 := h.anc_le hb.mem ha
 have h2 := hb.rk h
 omega
theorem Best.dom (h : Tree E rank S f) {n best : Nat} (h0 : n ≠ 0) (hb : Best E rank S f n best) {d : Nat} (hd : Dm E d n) : Anc (set f n best) n d := by
 rw [anc_set_here h0 (hb.far h)]
 by_cases hne : d = n
 ·exact .inl hne
 ·refine .inr ((hb.all d).2 fun p hp he => h.dom p hp d ⟨h.reach p hp, fun hra => hd.2 (.step hra he (fun e => hne e.symm))⟩)
/-- A node gets a new parent. -/
theorem Tree.update (h : Tree E rank S f) {n best : Nat} (h0 : n ≠ 0) (hR : R E n) (hb : Best E rank S f n best) : Tree E rank (fun x => S x ∨ x = n) (set f n best) where
 zero := .inl h.zero
 reach := fun x hx => hx.elim (h.reach x) (fun e => e ▸ hR)
 up := fun x hx hx0 => by
  by_cases e : x = n
  ·subst e; rw [set_eq]; exact ⟨.inl hb.mem, hb.rk h, hb.path h⟩
  ·rw [set_ne e]
   have hS : S x := hx.elim id (fun h1 => absurd h1 e)
   obtain ⟨h1, h2, h3⟩ := h.up x hS hx0
   exact ⟨.inl h1, h2, h3⟩
 dom := fun x hx d hd => by
  by_cases e : x = n
  ·subst e; exact hb.dom h h0 hd
  ·have hS : S x := hx.elim id (fun h1 => absurd h1 e)
   have ha := h.dom x hS d hd
   by_cases hn : Anc f x n
   ·have hSn := (h.anc hS hn).1
    rcases ha.total hn with h1 | h1
    ·exact anc_set_low (fun y h2 h3 => (h.antisymm hSn h2 h3).symm) ha h1
    ·by_cases hne : d = n
     ·subst hne; exact anc_set_through hn
     ·exact (anc_set_through hn).trans (hb.dom h h0 (h.dom_above hS hn h1 hne hd))
   ·exact (anc_set_far hn).2 ha

/-- Every node on the chain of x is on all paths to x that go up at most k times. -/
def J (E : Nat → Nat → Prop) (rank : Nat → Nat) (f : Nat → Nat) (k x : Nat) : Prop := ∀ d, Anc f x d → ¬ RK E rank d k x
theorem J.less {k x : Nat} (h : J E rank f (k + 1) x) : J E rank f k x := fun d ha hk => h d ha hk.mono
theorem J.here (h : Tree E rank S f) {n best k : Nat} (h0 : n ≠ 0) (hb : Best E rank S f n best)
  (hadv : ∀ a, R E a → E a n → rank n < rank a → S a ∧ J E rank f k a) (hret : ∀ j, k = j + 1 → ∀ a, R E a → S a ∧ J E rank f j a) : J E rank (set f n best) k n := by
 intro d ha hk
 rw [anc_set_here h0 (hb.far h)] at ha
 rcases ha with rfl | ha
 ·exact hk.ne rfl
 ·have hall := (hb.all d).1 ha
  cases hk with
  | root => exact h0 rfl
  | @adv _ a _ h1 he hr _ =>
   obtain ⟨h2, h3⟩ := hadv a h1.ra.reach he hr
   exact h3 d (hall a h2 he) h1
  | @ret k a _ h1 he _ =>
   obtain ⟨h2, h3⟩ := hret _ rfl a h1.ra.reach
   exact h3 d (hall a h2 he) h1
theorem J.other {n best k m : Nat} (hJn : J E rank (set f n best) k n) (hJm : J E rank f k m) : J E rank (set f n best) k m := by
 intro d ha hk
 by_cases hn : Anc f m n
 ·rcases anc_set_cases hn ha with h1 | h1
  ·exact hJm d h1 hk
  ·rcases hk.pass n with h2 | h2
   ·exact hJm n hn h2
   ·exact hJn d h1 h2
 ·exact hJm d ((anc_set_far hn).1 ha) hk
/-- Where n keeps its parent. -/
theorem J.same (h : Tree E rank S f) {n k : Nat} (h0 : n ≠ 0) (hb : Best E rank S f n (f n))
  (hadv : ∀ a, R E a → E a n → rank n < rank a → S a ∧ J E rank f k a) (hret : ∀ j, k = j + 1 → ∀ a, R E a → S a ∧ J E rank f j a) : J E rank f k n := by
 have h1 := J.here h h0 hb hadv hret
 have e : set f n (f n) = f := by funext x; unfold set; split <;> simp_all
 rwa [e] at h1

/-! ### The end -/
/-- All reachable nodes are in the tree, and each parent is what the predecessors say. -/
theorem fix_dom (h : Tree E rank S f) (hall : ∀ x, R E x → S x) (hfix : ∀ x, R E x → x ≠ 0 → Best E rank S f x (f x)) : ∀ x, R E x → ∀ d, Anc f x d ↔ Dm E d x := by
 intro x hx d
 refine ⟨fun ha => ⟨hx, fun hra => ?_⟩, h.dom x (hall x hx) d⟩
 clear hx
 induction hra with
 | root h0 => exact h0 ha.zero.symm
 | @step a b hra he hne ih =>
  have hRa := hra.reach
  rcases ha.cases' with e | ⟨h0, h1⟩
  ·exact hne e.symm
  ·exact ih ((((hfix b (.step hRa he) h0).all d).1 h1) a (hall a hRa) he)
/-- A number of retreats that serves all. -/
theorem bound_exists (E : Nat → Nat → Prop) (rank : Nat → Nat) (n : Nat) : ∃ K, ∀ d x, d < n → x < n → RA E d x → RK E rank d K x := by
 have one : ∀ d x, RA E d x → ∃ k, RK E rank d k x := fun d x h => by
  induction h with
  | root h => exact ⟨0, .root _ h⟩
  | step _ he hn ih => obtain ⟨k, hk⟩ := ih; exact ⟨k + 1, .ret hk he hn⟩
 have row : ∀ d m, ∃ K, ∀ x, x < m → RA E d x → RK E rank d K x := fun d m => by
  induction m with
  | zero => exact ⟨0, fun x hx => absurd hx (Nat.not_lt_zero _)⟩
  | succ m ih =>
   obtain ⟨K, hK⟩ := ih
   by_cases hr : RA E d m
   ·obtain ⟨k, hk⟩ := one d m hr
    refine ⟨max K k, fun x hx h => ?_⟩
    rcases Nat.lt_or_ge x m with h1 | h1
    ·exact (hK x h1 h).mono_le (Nat.le_max_left _ _)
    ·obtain rfl : x = m := by omega
     exact hk.mono_le (Nat.le_max_right _ _)
   ·refine ⟨K, fun x hx h => ?_⟩
    rcases Nat.lt_or_ge x m with h1 | h1
    ·exact hK x h1 h
    ·obtain rfl : x = m := by omega
     exact absurd h hr
 have all : ∀ m, ∃ K, ∀ d x, d < m → x < n → RA E d x → RK E rank d K x := fun m => by
  induction m with
  | zero => exact ⟨0, fun d x hd => absurd hd (Nat.not_lt_zero _)⟩
  | succ m ih =>
   obtain ⟨K, hK⟩ := ih
   obtain ⟨k, hk⟩ := row m n
   refine ⟨max K k, fun d x hd hx h => ?_⟩
   rcases Nat.lt_or_ge d m with h1 | h1
   ·exact (hK d x h1 hx h).mono_le (Nat.le_max_left _ _)
   ·obtain rfl : d = m := by omega
    exact (hk x hx h).mono_le (Nat.le_max_right _ _)
 exact all n
/-- Where the chains are the dominators, a node keeps its parent. -/
theorem best_same (h : Tree E rank S f) (hall : ∀ x, R E x → S x) (hdom : ∀ x, R E x → ∀ d, Anc f x d → Dm E d x) {n best : Nat} (h0 : n ≠ 0) (hR : R E n) (hb : Best E rank S f n best) : best = f n := by
 obtain ⟨hS, hr, _⟩ := h.up n (hall n hR) h0
 have h1 : Anc f best (f n) := (hb.all _).2 fun p hp he => by
  have hd := hdom n hR (f n) (.up h0 (.refl _))
  refine h.dom p hp _ ⟨h.reach p hp, fun hra => hd.2 (.step hra he (fun e => ?_))⟩
  rw [← e] at hr; omega
 have hbR : Dm E best n := ⟨hR, fun hra => by
  cases hra with
  | root => exact h0 rfl
  | @step a _ ha he _ =>
   have hRa := ha.reach
   exact (hdom a hRa best ((hb.all best).1 (.refl _) a (hall a hRa) he)).2 ha⟩
 have h2 : Anc f (f n) best := by
  rcases (h.dom n (hall n hR) best hbR).cases' with e | ⟨_, h3⟩
  ·have := hb.rk h; rw [e] at this; omega
  ·exact h3
 exact h.antisymm hb.mem h1 h2
end
end Go.Proofs.YtjpmiejgcnfiiaaGreat.Dom
namespace Go.Proofs.YtjpmiejgcnfiiaaGreat.Dom

abbrev Gr := List (List Int)
/-- An edge between nodes. -/
def Ed (N : Gr) (a b : Nat) : Prop := a < N.length ∧ b < N.length ∧ (b : Int) ∈ N.getD a []

theorem Ed.of_get {N : Gr} {a b k : Nat} (ha : a < N.length) (hb : b < N.length) (h : (N.getD a [])[k]? = some (b : Int)) : Ed N a b := ⟨ha, hb, List.mem_of_getElem? h⟩
theorem Ed.get {N : Gr} {a b : Nat} (h : Ed N a b) : ∃ k, k < (N.getD a []).length ∧ (N.getD a [])[k]? = some (b : Int) := by
 obtain ⟨k, hk, e⟩ := List.getElem_of_mem h.2.2
 exact ⟨k, hk, by rw [List.getElem?_eq_getElem hk, e]⟩

/-- The stack, innermost first, is a path from 0. -/
def Path (N : Gr) : List (Nat × Nat) → Prop
 | [] => True
 | [s] => s.1 = 0
 | s :: t :: r => Ed N t.1 s.1 ∧ Path N (t :: r)

theorem Path.tail {N : Gr} {s : Nat × Nat} {r : List (Nat × Nat)} (h : Path N (s :: r)) : Path N r := by
 cases r with
 | nil => trivial
 | cons t r => exact h.2
theorem Path.head {N : Gr} {x k l : Nat} {r : List (Nat × Nat)} (h : Path N ((x, k) :: r)) : Path N ((x, l) :: r) := by
 cases r with
 | nil => exact h
 | cons t r => exact h

/-- Met: left or on the stack. -/
def Met (st : List (Nat × Nat)) (out : List Nat) (x : Nat) : Prop := x ∈ out ∨ x ∈ st.map (·.1)

structure Dfs (N : Gr) (st : List (Nat × Nat)) (out : List Nat) (seen : List Bool) : Prop where
 len : seen.length = N.length
 mem : ∀ x, x < N.length → (seen.getD x false = true ↔ Met st out x)
 nodup : (out ++ st.map (·.1)).Nodup
 lt : ∀ x, Met st out x → x < N.length
 reach : ∀ x, Met st out x → R (Ed N) x
 path : Path N st
 root : st = [] → N ≠ [] → ∃ l, out = l ++ [0]
 done : ∀ x, x ∈ out → ∀ b, Ed N x b → Met st out b
 part : ∀ s, s ∈ st → ∀ j, j < s.2 → ∀ b : Nat, (N.getD s.1 [])[j]? = some (b : Int) → b < N.length → Met st out b
 parent : ∀ l x r, out = l ++ x :: r → x ≠ 0 → ∃ p, Ed N p x ∧ Met st r p
 cnt : out.length + st.length + seen.count false = N.length

theorem count_mark {seen : List Bool} {b : Nat} (hlt : b < seen.length) (hs : seen.getD b false = false) : (seen.set b true).count false + 1 = seen.count false := by
 have h1 : seen[b] = false := by
  rw [List.getD_eq_getElem?_getD, List.getElem?_eq_getElem hlt] at hs; exact hs
 have hm : false ∈ seen := h1 ▸ List.getElem_mem hlt
 have hp := List.count_pos_iff.2 hm
 rw [List.count_set hlt, h1]
 simp
 omega

section
variable {N : Gr} {st : List (Nat × Nat)} {r : List (Nat × Nat)} {out : List Nat} {seen : List Bool} {x k b : Nat}

theorem met_head {l : Nat} {y : Nat} : Met ((x, k) :: r) out y ↔ Met ((x, l) :: r) out y := by simp [Met]
theorem met_push {y l : Nat} : Met ((b, l) :: st) out y ↔ y = b ∨ Met st out y := by
 simp only [Met, List.map_cons, List.mem_cons]
 constructor
 ·rintro (h | h | h)
  ·exact .inr (.inl h)
  ·exact .inl h
  ·exact .inr (.inr h)
 ·rintro (h | h | h)
  ·exact .inr (.inl h)
  ·exact .inl h
  ·exact .inr (.inr h)
theorem met_pop {y : Nat} : Met r (out ++ [x]) y ↔ Met ((x, k) :: r) out y := by
 simp only [Met, List.map_cons, List.mem_cons, List.mem_append, List.not_mem_nil, or_false]
 constructor
 ·rintro ((h | h) | h)
  ·exact .inl h
  ·exact .inr (.inl h)
  ·exact .inr (.inr h)
 ·rintro (h | h | h)
  ·exact .inl (.inl h)
  ·exact .inl (.inr h)
  ·exact .inr h

theorem Dfs.empty : Dfs [] [] [] [] where
 len := rfl
 mem := fun x hx => absurd hx (Nat.not_lt_zero _)
 nodup := List.nodup_nil
 lt := fun x h => by simp [Met] at h
 reach := fun x h => by simp [Met] at h
 path := trivial
 root := fun _ h => absurd rfl h
 done := fun x h => by simp at h
 part := fun s h => by simp at h
 parent := fun l x r h => by simp at h
 cnt := rfl

theorem Dfs.start (hN : N ≠ []) : Dfs N [(0, 0)] [] ((List.replicate N.length false).set 0 true) where
 len := by simp
 mem := fun x hx => by
  simp only [Met, List.map_cons, List.map_nil, List.mem_singleton, List.not_mem_nil, false_or]
  rw [List.getD_eq_getElem?_getD, List.getElem?_set]
  by_cases h : 0 = x
  ·subst h; simp [hx]
  ·simp [h, hx]; omega
 nodup := by simp
 lt := fun x h => by
  simp [Met] at h
  subst h
  exact List.length_pos_iff.2 hN
 reach := fun x h => by
  simp [Met] at h
  subst h
  exact .root
 path := rfl
 root := fun h => by cases h
 done := fun x h => by simp at h
 part := fun s h j hj => by
  simp at h
  subst h
  exact absurd hj (Nat.not_lt_zero _)
 parent := fun l x r h => by simp at h
 cnt := by
  have h0 : 0 < N.length := List.length_pos_iff.2 hN
  have := count_mark (seen := List.replicate N.length false) (b := 0) (by simpa using h0) (by simp [h0])
  rw [List.count_replicate_self] at this
  simp only [List.length_nil, List.length_singleton]
  omega

theorem Dfs.top_lt (h : Dfs N ((x, k) :: r) out seen) : x < N.length := h.lt x (.inr (by simp))

/-- An edge that leads nowhere new. -/
theorem Dfs.skip (h : Dfs N ((x, k) :: r) out seen) (hs : ∀ b : Nat, (N.getD x [])[k]? = some (b : Int) → b < N.length → seen.getD b false = true) : Dfs N ((x, k + 1) :: r) out seen where
 len := h.len
 mem := fun y hy => (h.mem y hy).trans met_head
 nodup := h.nodup
 lt := fun y hy => h.lt y (met_head.1 hy)
 reach := fun y hy => h.reach y (met_head.1 hy)
 path := h.path.head
 root := fun e => by cases e
 done := fun y hy b hb => met_head.1 (h.done y hy b hb)
 part := fun s hs' j hj b hb hlt => by
  rcases List.mem_cons.1 hs' with rfl | h1
  ·rcases Nat.lt_or_ge j k with h2 | h2
   ·exact met_head.1 (h.part (x, k) (by simp) j h2 b hb hlt)
   ·obtain rfl : j = k := by simp at hj; omega
    exact met_head.1 ((h.mem b hlt).1 (hs b hb hlt))
  ·exact met_head.1 (h.part s (List.mem_cons_of_mem _ h1) j hj b hb hlt)
 parent := fun l y r' e hy => by
  obtain ⟨p, h1, h2⟩ := h.parent l y r' e hy
  exact ⟨p, h1, met_head.1 h2⟩
 cnt := h.cnt

/-- An edge to a new node. -/
theorem Dfs.push (h : Dfs N ((x, k) :: r) out seen) (hb : (N.getD x [])[k]? = some (b : Int)) (hlt : b < N.length) (hs : seen.getD b false = false) :
  Dfs N ((b, 0) :: (x, k + 1) :: r) out (seen.set b true) where
 len := by simpa using h.len
 mem := fun y hy => by
  rw [met_push, List.getD_eq_getElem?_getD, List.getElem?_set]
  by_cases e : b = y
  ·subst e; simp [h.len, hlt]
  ·rw [if_neg e, ← List.getD_eq_getElem?_getD, h.mem y hy]
   exact ⟨fun h1 => .inr (met_head.1 h1), fun h1 => h1.elim (fun e1 => absurd e1.symm e) met_head.1⟩
 nodup := by
  have hn : ¬ Met ((x, k) :: r) out b := fun hm => by
   have := (h.mem b hlt).2 hm
   rw [hs] at this; cases this
  have h0 := h.nodup
  rw [List.nodup_append] at h0 ⊢
  refine ⟨h0.1, ?_, ?_⟩
  ·rw [List.map_cons, List.nodup_cons]
   exact ⟨fun hm => hn (.inr (by simpa using hm)), by simpa using h0.2.1⟩
  ·intro a ha c hc
   rw [List.map_cons, List.mem_cons] at hc
   rcases hc with rfl | hc
   ·intro e; subst e; exact hn (.inl ha)
   ·exact h0.2.2 a ha c (by simpa using hc)
 lt := fun y hy => by
  rcases met_push.1 hy with rfl | h1
  ·exact hlt
  ·exact h.lt y (met_head.1 h1)
 reach := fun y hy => by
  rcases met_push.1 hy with rfl | h1
  ·exact .step (h.reach x (.inr (by simp))) (Ed.of_get h.top_lt hlt hb)
  ·exact h.reach y (met_head.1 h1)
 path := ⟨Ed.of_get h.top_lt hlt hb, h.path.head⟩
 root := fun e => by cases e
 done := fun y hy b' hb' => met_push.2 (.inr (met_head.1 (h.done y hy b' hb')))
 part := fun s hs' j hj c hc hlt' => by
  rcases List.mem_cons.1 hs' with rfl | h1
  ·exact absurd hj (Nat.not_lt_zero _)
  ·rcases List.mem_cons.1 h1 with rfl | h2
   ·rcases Nat.lt_or_ge j k with h3 | h3
    ·exact met_push.2 (.inr (met_head.1 (h.part (x, k) (by simp) j h3 c hc hlt')))
    ·obtain rfl : j = k := by simp at hj; omega
     simp only at hc
     rw [hb] at hc
     injection hc with hc
     exact met_push.2 (.inl (by omega))
   ·exact met_push.2 (.inr (met_head.1 (h.part s (List.mem_cons_of_mem _ h2) j hj c hc hlt')))
 parent := fun l y r' e hy => by
  obtain ⟨p, h1, h2⟩ := h.parent l y r' e hy
  exact ⟨p, h1, met_push.2 (.inr (met_head.1 h2))⟩
 cnt := by
  have h1 := count_mark (by rw [h.len]; exact hlt) hs
  have h2 := h.cnt
  simp only [List.length_cons] at h2 ⊢
  omega

/-- A node all of whose edges have been followed is left. -/
theorem Dfs.pop (h : Dfs N ((x, k) :: r) out seen) (hk : (N.getD x []).length ≤ k) : Dfs N r (out ++ [x]) seen where
 len := h.len
 mem := fun y hy => (h.mem y hy).trans met_pop.symm
 nodup := by
  have h0 := h.nodup
  rw [List.map_cons] at h0
  rw [List.append_assoc]
  exact h0
 lt := fun y hy => h.lt y (met_pop.1 hy)
 reach := fun y hy => h.reach y (met_pop.1 hy)
 path := h.path.tail
 root := fun e _ => by
  subst e
  have : x = 0 := h.path
  exact ⟨out, by rw [this]⟩
 done := fun y hy b hb => met_pop.2 (by
  rcases List.mem_append.1 hy with h1 | h1
  ·exact h.done y h1 b hb
  ·obtain rfl : y = x := by simpa using h1
   obtain ⟨j, hj, e⟩ := hb.get
   exact h.part (y, k) (by simp) j (by simp; omega) b e hb.2.1)
 part := fun s hs j hj b hb hlt => met_pop.2 (h.part s (List.mem_cons_of_mem _ hs) j hj b hb hlt)
 parent := fun l y r' e hy => by
  rcases List.eq_nil_or_concat r' with rfl | ⟨r'', z, rfl⟩
  ·have e1 : out ++ [x] = l ++ [y] := e
   obtain ⟨rfl, e2⟩ := List.append_inj' e1 rfl
   obtain rfl : x = y := by simpa using e2
   have hp := h.path
   cases r with
   | nil => exact absurd hp hy
   | cons t r => exact ⟨t.1, hp.1, .inr (by simp)⟩
  ·have e1 : out ++ [x] = (l ++ y :: r'') ++ [z] := by rw [e]; simp
   obtain ⟨rfl, e2⟩ := List.append_inj' e1 rfl
   obtain rfl : x = z := by simpa using e2
   obtain ⟨p, h1, h2⟩ := h.parent l y r'' rfl hy
   exact ⟨p, h1, by simpa using met_pop.2 h2⟩
 cnt := by
  have h2 := h.cnt
  simp only [List.length_cons, List.length_append, List.length_nil] at h2 ⊢
  omega

/-- What the walk yields. -/
structure Post (N : Gr) (out : List Nat) : Prop where
 nodup : out.Nodup
 lt : ∀ x, x ∈ out → x < N.length
 mem : ∀ x, x ∈ out ↔ N ≠ [] ∧ R (Ed N) x
 last : N ≠ [] → ∃ l, out = l ++ [0]
 parent : ∀ l x r, out = l ++ x :: r → x ≠ 0 → ∃ p, p ∈ r ∧ Ed N p x
 len : out.length ≤ N.length

theorem Dfs.post (h : Dfs N [] out seen) : Post N out where
 nodup := by simpa using h.nodup
 lt := fun x hx => h.lt x (.inl hx)
 mem := fun x => by
  constructor
  ·intro hx
   refine ⟨fun e => ?_, h.reach x (.inl hx)⟩
   have := h.lt x (.inl hx)
   rw [e] at this
   exact Nat.not_lt_zero _ this
  ·rintro ⟨hN, hR⟩
   induction hR with
   | root =>
    obtain ⟨l, e⟩ := h.root rfl hN
    rw [e]; simp
   | step _ he ih => simpa [Met] using h.done _ ih _ he
 last := h.root rfl
 parent := fun l x r e hx => by
  obtain ⟨p, h1, h2⟩ := h.parent l x r e hx
  exact ⟨p, by simpa [Met] using h2, h1⟩
 len := by have := h.cnt; omega

/-- What is still to come, at most. -/
def fuel (seen : List Bool) (st : List (Nat × Nat)) : Nat := 2 * seen.count false + st.length
theorem fuel_pop : fuel seen r < fuel seen ((x, k) :: r) := by unfold fuel; simp
theorem fuel_push (hlt : b < seen.length) (hs : seen.getD b false = false) : fuel (seen.set b true) ((b, 0) :: (x, k + 1) :: r) < fuel seen ((x, k) :: r) := by
 have := count_mark hlt hs
 unfold fuel
 simp only [List.length_cons]
 omega
end

/-! ### Ranks -/
/-- The place in the postorder. -/
def rk (post : List Nat) (x : Nat) : Nat := post.idxOf x
theorem rk_lt {post : List Nat} {x : Nat} (h : x ∈ post) : rk post x < post.length := List.idxOf_lt_length_iff.2 h
theorem rk_get {post : List Nat} {x : Nat} (h : x ∈ post) : post[rk post x]? = some x := by
 rw [List.getElem?_eq_getElem (rk_lt h)]
 simp [rk]
theorem rk_of {post : List Nat} (hn : post.Nodup) {i : Nat} {x : Nat} (h : post[i]? = some x) : rk post x = i := by
 obtain ⟨hi, e⟩ := List.getElem?_eq_some_iff.1 h
 subst e
 exact List.Nodup.idxOf_getElem hn i hi
theorem rk_inj {post : List Nat} {x y : Nat} (hx : x ∈ post) (hy : y ∈ post) (h : rk post x = rk post y) : x = y := by
 have h1 := rk_get hx
 rw [h, rk_get hy] at h1
 injection h1 with h1
 exact h1.symm

section
variable {N : Gr} {post : List Nat} (h : Post N post)
include h
theorem Post.root_rk (hN : N ≠ []) : 0 ∈ post ∧ rk post 0 + 1 = post.length := by
 obtain ⟨l, rfl⟩ := h.last hN
 refine ⟨by simp, ?_⟩
 rw [rk_of h.nodup (i := l.length) (by simp)]
 simp
theorem Post.rk_le {x : Nat} (hx : x ∈ post) (h0 : x ≠ 0) : rk post x < rk post 0 := by
 have hN := ((h.mem x).1 hx).1
 obtain ⟨h1, h2⟩ := h.root_rk hN
 have h3 := rk_lt hx
 rcases Nat.lt_or_ge (rk post x) (rk post 0) with h4 | h4
 ·exact h4
 ·exact absurd (rk_inj hx h1 (by omega)) h0
theorem Post.pred {x : Nat} (hx : x ∈ post) (h0 : x ≠ 0) : ∃ p, p ∈ post ∧ Ed N p x ∧ rk post x < rk post p := by
 obtain ⟨l, r, e⟩ := List.append_of_mem hx
 obtain ⟨p, h1, h2⟩ := h.parent l x r e h0
 have hp : p ∈ post := by rw [e]; simp [h1]
 refine ⟨p, hp, h2, ?_⟩
 obtain ⟨j, hj, ej⟩ := List.getElem_of_mem h1
 have e1 : rk post x = l.length := rk_of h.nodup (by rw [e]; simp)
 have e2 : rk post p = l.length + (j + 1) := rk_of h.nodup (by rw [e, List.getElem?_append_right (by omega)]; simp [hj, ej])
 omega
end
end Go.Proofs.YtjpmiejgcnfiiaaGreat.Dom
