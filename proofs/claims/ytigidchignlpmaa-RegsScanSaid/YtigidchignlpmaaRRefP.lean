/-
  Linear scan, plain: the reference goes the same way.
-/
import Derived.Test.YtigidchignlpmaaREnough
namespace Go.Proofs.Ytigidchignlpmaa.Rg

section
variable (B E : Nat → Int) (s0 : Nat)
/-- The reference's step. -/
def Rf.Next (t : Rf) (x : Nat) (t' : Rf) : Prop :=
  if none ∈ t.regs.map (back1 B E x) then t' = ⟨(t.regs.map (back1 B E x)).set ((t.regs.map (back1 B E x)).idxOf none) (some x), t.slots⟩
  else ∃ m, t.IsSlot B E s0 (lastL E x (t.regs.map (back1 B E x))).1 m ∧
    t' = ⟨match (lastL E x (t.regs.map (back1 B E x))).2 with
      | none => t.regs.map (back1 B E x)
      | some r => (t.regs.map (back1 B E x)).set r (some x), t.slots.set (lastL E x (t.regs.map (back1 B E x))).1 (some m)⟩
end
section
variable {B E : Nat → Int} {s0 k n x : Nat} {done : List Nat} {s : Sc} {t t' : Rf}
theorem RR.next (h : RR n s t) (hI : Inv B E s0 k n done s) (hx : x < n) (hn : x ∉ done) (hle : ∀ y ∈ done, B y ≤ B x) (hp : B x < E x) (ht : t.Next B E s0 x t') : RR n (s.step B E s0 x) t' := by
  have hm := hI.back hx hn hle hp
  have hb : RR n (s.back B E x) ⟨t.regs.map (back1 B E x), t.slots⟩ := ⟨by show t.regs.map _ = s.held.map _; rw [h.regs], h.len, h.slots⟩
  have hax : ((s.back B E x).at_ x).1 = false := by show (s.at_ x).1 = false; rw [hI.base.undone x hn]
  unfold Rf.Next at ht
  unfold Sc.step Sc.place
  have hr : t.regs.map (back1 B E x) = (s.back B E x).held := hb.regs
  rw [hr] at ht
  split
  · rename_i hmem
    rw [if_pos hmem] at ht
    subst ht
    have := hb.have_ (r := (s.back B E x).held.idxOf none) hax
    rw [hr] at this
    exact this
  · rename_i hmem
    rw [if_neg hmem] at ht
    obtain ⟨m, h1, h2⟩ := ht
    have hs : m = (s.back B E x).slot B E s0 (lastL E x (s.back B E x).held).1 := by
      refine hb.slot hm.base (t := ⟨t.regs.map (back1 B E x), t.slots⟩) ?_
      exact ⟨h1.le, h1.free, h1.low⟩
    subst hs
    have h3 := hb.spill (B := B) (E := E) (s0 := s0) hm.base.pln (x := (lastL E x (s.back B E x).held).1)
    rw [hr] at h3
    rcases lastL_spec E x (s.back B E x).held with ⟨h4, h5⟩ | ⟨r, h4, h5⟩
    · rw [h4] at h2 ⊢
      simp only [] at h2 ⊢
      rw [h5] at h2 h3
      subst h2
      exact h3
    · rw [h4] at h2 ⊢
      simp only [] at h2 ⊢
      subst h2
      refine h3.have_ (r := r) ?_
      have hne : (lastL E x (s.back B E x).held).1 ≠ x := fun e => by
        have := (hm.base.hin r _ h5).1
        rw [e] at this
        exact hn this
      rw [spill_at x (by rw [hm.base.pln]; exact (hm.base.lt _ (hm.base.hin r _ h5).1)), if_neg hne]
      exact hax
theorem step_at (hI : Inv B E s0 k n done s) (hx : x < n) (hn : x ∉ done) (hle : ∀ y ∈ done, B y ≤ B x) (hp : B x < E x) (y : Nat) :
    y = x ∨ ((s.step B E s0 x).at_ y).1 = true ∨ (s.step B E s0 x).at_ y = s.at_ y := by
  have hm := hI.back hx hn hle hp
  by_cases e : y = x
  · exact .inl e
  right
  unfold Sc.step Sc.place
  split
  · right
    rw [have_at _ _ (by rw [hm.base.pln]; exact hx), if_neg (fun h => e h.symm)]; rfl
  · rcases lastL_spec E x (s.back B E x).held with ⟨h4, h5⟩ | ⟨r, h4, h5⟩
    · rw [h4]
      right
      show ((s.back B E x).spill B E s0 x).at_ y = s.at_ y
      rw [spill_at _ (by rw [hm.base.pln]; exact hx), if_neg (fun h => e h.symm)]; rfl
    · rw [h4]
      have hl := hm.base.lt _ (hm.base.hin r _ h5).1
      show ((((s.back B E x).spill B E s0 (lastL E x (s.back B E x).held).1).have_ r x).at_ y).1 = true ∨ (((s.back B E x).spill B E s0 (lastL E x (s.back B E x).held).1).have_ r x).at_ y = s.at_ y
      rw [have_at _ _ (by simp [Sc.spill, hm.base.pln, hx]), if_neg (fun h => e h.symm), spill_at _ (by rw [hm.base.pln]; exact hl)]
      split
      · exact .inl rfl
      · exact .inr rfl
/-- The reference's places. -/
structure PlR (n : Nat) (done : List Nat) (s : Sc) (p : List Nat) : Prop where
  len : p.length = n
  at_ : ∀ y ∈ done, (s.at_ y).1 = false → p[y]? = some (s.at_ y).2
theorem PlR.next {p p' : List Nat} (h : PlR n done s p) (hI : Inv B E s0 k n done s) (hx : x < n) (hn : x ∉ done) (hle : ∀ y ∈ done, B y ≤ B x) (hp : B x < E x) (hl : p'.length = n) (ho : ∀ y, y ≠ x → p'[y]? = p[y]?) (hr : ∀ r, r < k → (s.step B E s0 x).held[r]? = some (some x) → p'[x]? = some r) : PlR n (done ++ [x]) (s.step B E s0 x) p' := by
  have hI' := hI.step hx hn hle hp
  refine ⟨hl, fun y hy h0 => ?_⟩
  by_cases e : y = x
  · subst e
    rcases hI'.live y hy h0 with h1 | ⟨z, hz, h1⟩
    · exact hr _ (hI'.base.reg y hy h0) h1
    · exfalso
      rcases List.mem_append.1 hz with hz | hz
      · have := hle z hz; omega
      · rw [List.mem_singleton.1 hz] at h1; omega
  · have hyd : y ∈ done := by
      rcases List.mem_append.1 hy with hy | hy
      · exact hy
      · exact absurd (List.mem_singleton.1 hy) e
    rcases step_at hI hx hn hle hp y with h1 | h1 | h1
    · exact absurd h1 e
    · rw [h0] at h1; cases h1
    · rw [ho y e, h1]
      exact h.at_ y hyd (by rw [← h1]; exact h0)
/-- What the reference makes of it at the end. -/
def refPl (t : Rf) (p : List Nat) (i : Nat) : Bool × Nat := match t.slots.getD i none with
  | some m => (true, m)
  | none => (false, p.getD i 0)
theorem refPl_eq {p : List Nat} (h : RR n s t) (hp : PlR n done s p) (hd : ∀ y, y < n → y ∈ done) {i : Nat} (hi : i < n) : refPl t p i = s.at_ i := by
  unfold refPl
  rw [h.slots i hi]
  by_cases h0 : (s.at_ i).1 = true
  · rw [if_pos h0]; exact Prod.ext h0.symm rfl
  · rw [if_neg h0]
    have h0 : (s.at_ i).1 = false := by simpa using h0
    have := hp.at_ i (hd i hi) h0
    simp only []
    rw [List.getD_eq_getElem?_getD, this]
    exact Prod.ext h0.symm rfl
/-- The number of slots, counted at the end. -/
def refSlots (s0 : Nat) (l : List (Bool × Nat)) : Nat := l.foldl (fun a p => if p.1 then max a (p.2 + 1) else a) s0
theorem refSlots_spec (s0 : Nat) : ∀ (l : List (Bool × Nat)) (a : Nat), let r := l.foldl (fun a p => if p.1 then max a (p.2 + 1) else a) a
    a ≤ r ∧ (∀ p ∈ l, p.1 = true → p.2 < r) ∧ (r = a ∨ ∃ p ∈ l, p.1 = true ∧ p.2 + 1 = r)
  | [], a => ⟨Nat.le_refl _, by simp, .inl rfl⟩
  | p :: l, a => by
    obtain ⟨h1, h2, h3⟩ := refSlots_spec s0 l (if p.1 then max a (p.2 + 1) else a)
    simp only [List.foldl_cons]
    refine ⟨?_, fun q hq hq1 => ?_, ?_⟩
    · by_cases hp : p.1 = true
      · rw [if_pos hp] at h1; rw [if_pos hp]; omega
      · rw [if_neg hp] at h1; rw [if_neg hp]; omega
    · rcases List.mem_cons.1 hq with e | hq
      · subst e
        rw [if_pos hq1] at h1; rw [if_pos hq1]; omega
      · exact h2 q hq hq1
    · rcases h3 with h3 | ⟨q, hq, h4, h5⟩
      · by_cases hp : p.1 = true
        · rw [if_pos hp] at h3
          by_cases hm : p.2 + 1 ≤ a
          · left; rw [if_pos hp]; omega
          · right; exact ⟨p, by simp, hp, by rw [if_pos hp]; omega⟩
        · rw [if_neg hp] at h3; left; rw [if_neg hp]; exact h3
      · exact .inr ⟨q, by simp [hq], h4, h5⟩
theorem refSlots_eq (hI : Inv B E s0 k n done s) : refSlots s0 s.pl = s.slots := by
  obtain ⟨h1, h2, h3⟩ := refSlots_spec s0 s.pl s0
  have hmem : ∀ p ∈ s.pl, p.1 = true → ∃ y ∈ s.out, s.at_ y = p := fun p hp h0 => by
    rw [pl_eq hI.base.pln] at hp
    obtain ⟨y, hy, e⟩ := List.mem_map.1 hp
    refine ⟨y, (hI.base.out y).2 ⟨?_, by rw [e]; exact h0⟩, e⟩
    by_cases hd : y ∈ done
    · exact hd
    · rw [hI.base.undone y hd] at e; rw [← e] at h0; simp at h0
  have hmem2 : ∀ y ∈ s.out, s.at_ y ∈ s.pl ∧ (s.at_ y).1 = true := fun y hy => by
    have h4 := (hI.base.out y).1 hy
    refine ⟨?_, h4.2⟩
    rw [pl_eq hI.base.pln]
    exact List.mem_map.2 ⟨y, by simpa using hI.base.lt y h4.1, rfl⟩
  unfold refSlots
  apply Nat.le_antisymm
  · rcases h3 with h3 | ⟨p, hp, h4, h5⟩
    · rw [h3]; exact hI.base.sle.1
    · obtain ⟨y, hy, e⟩ := hmem p hp h4
      have := (hI.base.srng y hy).2
      rw [e] at this
      omega
  · rcases hI.base.sat with h4 | ⟨y, hy, h4⟩
    · rw [h4]; exact h1
    · have := h2 _ (hmem2 y hy).1 (hmem2 y hy).2
      omega
end
end Go.Proofs.Ytigidchignlpmaa.Rg
