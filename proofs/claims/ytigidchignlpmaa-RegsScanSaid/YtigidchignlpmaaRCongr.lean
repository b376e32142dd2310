/-
  A scan asks only for where the elements begin and end.
-/
import Derived.Test.YtigidchignlpmaaREnough
namespace Go.Proofs.Ytigidchignlpmaa.Rg

section
variable {B E B' E' : Nat → Int} {s0 k n : Nat} (hB : ∀ i, i < n → B' i = B i) (hE : ∀ i, i < n → E' i = E i)
include hB hE
omit hB in
theorem lastL_congr {x : Nat} (hx : x < n) {held : List (Option Nat)} (hh : ∀ y, some y ∈ held → y < n) : lastL E' x held = lastL E x held := by
  unfold lastL
  have key : ∀ (l : List (Option Nat × Nat)) (a : Nat × Option Nat), a.1 < n → (∀ p ∈ l, ∀ y, p.1 = some y → y < n) →
      l.foldl (fun a p => match p.1 with | none => a | some y => if later E' a.1 y then (y, some p.2) else a) a = l.foldl (fun a p => match p.1 with | none => a | some y => if later E a.1 y then (y, some p.2) else a) a := by
    intro l
    induction l with
    | nil => intro a _ _; rfl
    | cons p l ih =>
      intro a ha hl
      simp only [List.foldl_cons]
      cases hp : p.1 with
      | none => exact ih a ha fun q hq => hl q (by simp [hq])
      | some y =>
        have hy := hl p (by simp) y hp
        have hlt : later E' a.1 y = later E a.1 y := by unfold later; rw [hE _ ha, hE _ hy]
        simp only [hlt]
        split
        · exact ih _ hy fun q hq => hl q (by simp [hq])
        · exact ih _ ha fun q hq => hl q (by simp [hq])
  refine key _ _ hx fun p hp y e => ?_
  have := List.mem_zipIdx_iff_getElem?.1 hp
  refine hh y ?_
  rw [← e]
  exact List.mem_of_getElem? (by simpa using this)
theorem slot_congr {s : Sc} (ho : ∀ y ∈ s.out, y < n) {z : Nat} (hz : z < n) : s.slot B' E' s0 z = s.slot B E s0 z := by
  have : s.taken B' E' z = s.taken B E z := by
    funext m
    unfold Sc.taken
    rw [Bool.eq_iff_iff, List.any_eq_true, List.any_eq_true]
    have hc : ∀ y ∈ s.out, s.takes B' E' z m y = s.takes B E z m y := fun y hy => by
      unfold Sc.takes laps
      rw [hB _ hz, hE _ hz, hB _ (ho y hy), hE _ (ho y hy)]
    constructor
    · rintro ⟨y, hy, h⟩; exact ⟨y, hy, by rw [← hc y hy]; exact h⟩
    · rintro ⟨y, hy, h⟩; exact ⟨y, hy, by rw [hc y hy]; exact h⟩
  unfold Sc.slot
  rw [this]
theorem step_congr {s : Sc} (hh : ∀ y, some y ∈ s.held → y < n) (ho : ∀ y ∈ s.out, y < n) {x : Nat} (hx : x < n) : s.step B' E' s0 x = s.step B E s0 x := by
  have hback : s.back B' E' x = s.back B E x := by
    unfold Sc.back
    congr 1
    refine List.map_congr_left fun o hm => ?_
    cases o with
    | none => rfl
    | some y =>
      unfold back1
      simp only [hB _ hx, hE _ (hh y hm)]
  unfold Sc.step
  rw [hback]
  have hh1 : ∀ y, some y ∈ (s.back B E x).held → y < n := fun y hy => by
    obtain ⟨r, hr⟩ := List.mem_iff_getElem?.1 hy
    exact hh y (List.mem_of_getElem? (back_some hr).1)
  have ho1 : ∀ y ∈ (s.back B E x).out, y < n := ho
  obtain ⟨t, ht⟩ : ∃ t, s.back B E x = t := ⟨_, rfl⟩
  rw [ht] at hh1 ho1 ⊢
  have hl := lastL_congr hE hx hh1
  have hl1 : (lastL E x t.held).1 < n := by
    rcases lastL_spec E x t.held with ⟨_, h2⟩ | ⟨r, _, h2⟩
    · rw [h2]; exact hx
    · exact hh1 _ (List.mem_of_getElem? h2)
  have hspill : ∀ z, z < n → t.spill B' E' s0 z = t.spill B E s0 z := fun z hz => by
    unfold Sc.spill
    rw [slot_congr (s0 := s0) hB hE ho1 hz]
  unfold Sc.place
  rw [hl]
  split
  · rfl
  · cases (lastL E x t.held).2 with
    | none => exact hspill x hx
    | some r => simp only [hspill _ hl1]
theorem fold_congr (hv : ∀ i, i < n → B i < E i) : ∀ (l done : List Nat) (s : Sc), Inv B E s0 k n done s → (done ++ l).Pairwise (Lt B) → (∀ y ∈ l, y < n) → l.foldl (Sc.step B' E' s0) s = l.foldl (Sc.step B E s0) s
  | [], _, _, _, _, _ => rfl
  | x :: l, done, s, h, hp, hl => by
    have hp' := List.pairwise_append.1 hp
    have h1 : ∀ y ∈ done, Lt B y x := fun y hy => hp'.2.2 y hy x (by simp)
    have hx := hl x (by simp)
    rw [List.foldl_cons, List.foldl_cons, step_congr (s0 := s0) hB hE (fun y hy => by
      obtain ⟨r, hr⟩ := List.mem_iff_getElem?.1 hy
      exact h.base.lt y (h.base.hin r y hr).1) (fun y hy => h.base.lt y ((h.base.out y).1 hy).1) hx]
    exact fold_congr hv l (done ++ [x]) _ (h.step hx (fun hx => (h1 x hx).irrefl) (fun y hy => by have := h1 y hy; unfold Lt at this; omega) (hv x hx)) (by simpa using hp) (fun y hy => hl y (by simp [hy]))
theorem scan_congr (hv : ∀ i, i < n → B i < E i) : Rg.scan B' E' s0 k n (ord B' n) = Rg.scan B E s0 k n (ord B n) := by
  have ho := ord_ok B n
  have e : ord B' n = ord B n := ord_congr n fun x y hx hy => by unfold Lt; rw [hB x hx, hB y hy]
  rw [e]
  exact fold_congr hB hE hv _ [] _ Inv.init (by simpa using ho.2) (fun y hy => by simpa using ho.1.subset hy)
end

/-- Shifted where there are elements. -/
theorem moved_to {B E B' E' : Nat → Int} {by_ : Int} {s0 k n d : Nat} (hB : ∀ i, i < n → B' i = B i + by_) (hE : ∀ i, i < n → E' i = E i + by_) (hv : ∀ i, i < n → B i < E i) : Sh d (Rg.scan B E s0 k n (ord B n)) (Rg.scan B' E' (s0 + d) k n (ord B' n)) := by
  have h1 := moved (B := B) (E := E) (B' := fun i => B i + by_) (E' := fun i => E i + by_) (by_ := by_) (s0 := s0) (k := k) (n := n) (d := d) (fun _ => rfl) (fun _ => rfl) hv
  have h2 := scan_congr (B := fun i => B i + by_) (E := fun i => E i + by_) (B' := B') (E' := E') (s0 := s0 + d) (k := k) (n := n) hB hE (fun i hi => by have := hv i hi; show B i + by_ < E i + by_; omega)
  rw [h2]
  exact h1
end Go.Proofs.Ytigidchignlpmaa.Rg
