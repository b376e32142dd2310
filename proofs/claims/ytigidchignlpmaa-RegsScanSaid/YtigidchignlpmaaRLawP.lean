/-
  What the laws ask of a scan, in plain terms.
-/
import Derived.Test.YtigidchignlpmaaRSpilled
import Derived.Test.YtigidchignlpmaaREnough
import Derived.Test.YtigidchignlpmaaRScan1
namespace Go.Proofs.Ytigidchignlpmaa
open Go Go.RowKit Rg

def toI (pl : List (Bool × Nat)) : List (Bool × Int) := pl.map fun p => (p.1, (p.2 : Int))
theorem toI_flat (pl : List (Bool × Nat)) : (toI pl).flatMap plI = pl.flatMap plC := by
  unfold toI
  rw [List.flatMap_map]
  congr 1
theorem toI_len (pl : List (Bool × Nat)) : (toI pl).length = pl.length := by simp [toI]
theorem spillN_toI (pl : List (Bool × Nat)) : spillN (toI pl) = Rg.spilled pl := by
  unfold spillN Rg.spilled toI
  rw [List.filter_map, List.length_map]
  rfl
theorem toI_getD (pl : List (Bool × Nat)) (i : Nat) : (toI pl).getD i (false, 0) = ((pl.getD i (false, 0)).1, ((pl.getD i (false, 0)).2 : Int)) := by
  unfold toI
  rw [List.getD_eq_getElem?_getD, List.getD_eq_getElem?_getD, List.getElem?_map]
  cases pl[i]? <;> rfl

theorem toI_get {pl : List (Bool × Nat)} {i : Nat} {p : Bool × Nat} (h : pl[i]? = some p) : (toI pl)[i]? = some (p.1, (p.2 : Int)) := by
  unfold toI
  rw [List.getElem?_map, h]; rfl

/-- No clash in what a scan says. -/
theorem scan_apart {ls : List LvD} (hm : ∀ x ∈ ls, may x.l = true) (k s0 : Nat) {i j : Nat} (hij : i < j) (hj : j < ls.length) :
    clashB ls (toI (Rg.scan (BL ls) (EL ls) s0 k ls.length (ord (BL ls) ls.length)).pl) i j = false := by
  have hv : ∀ i, i < ls.length → BL ls i < EL ls i := fun i hi => by
    obtain ⟨x, hx⟩ := get_some hi
    rw [BL_get hx, EL_get hx]
    exact (may_bounds (hm x (List.mem_of_getElem? hx))).2.1
  have hI := Inv.whole (s0 := s0) (k := k) hv
  have ho := ord_ok (BL ls) ls.length
  obtain ⟨S, hS⟩ : ∃ S, Rg.scan (BL ls) (EL ls) s0 k ls.length (ord (BL ls) ls.length) = S := ⟨_, rfl⟩
  rw [hS] at hI ⊢
  have di : i ∈ ord (BL ls) ls.length := ho.1.mem_iff.2 (by simp; omega)
  have dj : j ∈ ord (BL ls) ls.length := ho.1.mem_iff.2 (by simp; omega)
  obtain ⟨x, hx⟩ := get_some (l := ls) (k := i) (by omega)
  obtain ⟨y, hy⟩ := get_some (l := ls) (k := j) hj
  have hmx := hm x (List.mem_of_getElem? hx)
  have hmy := hm y (List.mem_of_getElem? hy)
  unfold clashB
  rw [Bool.and_eq_false_iff]
  by_cases he : S.pl.getD i (false, 0) = S.pl.getD j (false, 0)
  · right
    have e1 : ls.getD i default = x := by rw [List.getD_eq_getElem?_getD, hx]; rfl
    have e2 : ls.getD j default = y := by rw [List.getD_eq_getElem?_getD, hy]; rfl
    rw [e1, e2]
    refine not_meets hmx hmy ?_
    rw [← BL_get hx, ← BL_get hy, ← EL_get hx, ← EL_get hy]
    have he' : S.at_ i = S.at_ j := he
    cases hp : (S.at_ i).1 with
    | false => exact hI.base.rapart i di j dj (by omega) hp (by rw [← he']; exact hp) (by rw [he'])
    | true =>
      have hs := hI.base.sapart i ((hI.base.out i).2 ⟨di, hp⟩) j ((hI.base.out j).2 ⟨dj, by rw [← he']; exact hp⟩) (by omega) (by rw [he'])
      unfold laps lapsB at hs
      rw [Bool.and_eq_false_iff, decide_eq_false_iff_not, decide_eq_false_iff_not] at hs
      omega
  · left
    rw [toI_getD, toI_getD, decide_eq_false_iff_not]
    intro h
    apply he
    have h1 := congrArg Prod.fst h
    have h2 := congrArg Prod.snd h
    simp only at h1 h2
    exact Prod.ext h1 (by omega)

/-- The bounds of a scan. -/
theorem scan_bounds {ls : List LvD} (hm : ∀ x ∈ ls, may x.l = true) (k s0 : Nat) :
    ∃ S, Rg.scan (BL ls) (EL ls) s0 k ls.length (ord (BL ls) ls.length) = S ∧ S.pl.length = ls.length ∧ s0 ≤ S.slots ∧ S.slots - s0 ≤ Rg.spilled S.pl ∧ Rg.spilled S.pl ≤ ls.length ∧ S.slots ≤ s0 + ls.length ∧
      ∀ (i : Nat) (p : Bool × Nat), S.pl[i]? = some p → (p.1 = false → p.2 < k) ∧ (p.1 = true → s0 ≤ p.2 ∧ p.2 < S.slots) := by
  have hv : ∀ i, i < ls.length → BL ls i < EL ls i := fun i hi => by
    obtain ⟨x, hx⟩ := get_some hi
    rw [BL_get hx, EL_get hx]
    exact (may_bounds (hm x (List.mem_of_getElem? hx))).2.1
  have hI := Inv.whole (s0 := s0) (k := k) hv
  have ho := ord_ok (BL ls) ls.length
  obtain ⟨S, hS⟩ : ∃ S, Rg.scan (BL ls) (EL ls) s0 k ls.length (ord (BL ls) ls.length) = S := ⟨_, rfl⟩
  rw [hS] at hI
  have h1 := hI.spilled_le
  have h2 := hI.base.sle
  have h3 : Rg.spilled S.pl ≤ S.pl.length := List.length_filter_le _ _
  rw [hI.base.pln] at h3
  refine ⟨S, hS, hI.base.pln, h2.1, by omega, h3, by omega, fun i p hp => ?_⟩
  have hi : i < ls.length := by have := (List.getElem?_eq_some_iff.1 hp).1; rw [hI.base.pln] at this; exact this
  have di : i ∈ ord (BL ls) ls.length := ho.1.mem_iff.2 (by simpa using hi)
  have ha : S.at_ i = p := by unfold Sc.at_; rw [List.getD_eq_getElem?_getD, hp]; rfl
  refine ⟨fun h => ?_, fun h => ?_⟩
  · have := hI.base.reg i di (by rw [ha]; exact h)
    rwa [ha] at this
  · have := hI.base.srng i ((hI.base.out i).2 ⟨di, by rw [ha]; exact h⟩)
    rwa [ha] at this
end Go.Proofs.Ytigidchignlpmaa
