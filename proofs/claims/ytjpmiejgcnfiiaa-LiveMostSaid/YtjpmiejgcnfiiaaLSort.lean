/-
  What the library's sort does to a row of the call's own.
-/
import Derived.Test.YtjpmiejgcnfiiaaArr
import Derived.Shelf.SlSortCmp.WholeK
set_option linter.unusedVariables false
set_option linter.unusedSimpArgs false
namespace Go.Proofs.Ytjpmiejgcnfiiaa
open Go Go.RowKit Go.Shelf Go.Lib Go.Sort Go.Proofs

section
variable {α : Type} [Inhabited α] {f : α → List Value} {s : Nat} {e : TypeId} {w : World} {base g n c : Nat} {xs : List α}

theorem flatK_eq (hf : ∀ x, (f x).length = s) (d : Array α) : (flatK f s d).toList = d.toList.flatMap f := by
  refine List.ext_getElem? fun t => ?_
  have hl : (d.toList.flatMap f).length = d.size * s := by rw [flat_length f s hf]; simp
  rcases Nat.lt_or_ge t (d.size * s) with h | h
  · have hs : 0 < s := by rcases Nat.eq_zero_or_pos s with h0 | h0; · subst h0; simp at h
                          · exact h0
    have hk : t / s < d.size := Nat.div_lt_of_lt_mul (by rwa [Nat.mul_comm] at h)
    have hj : t % s < s := Nat.mod_lt _ hs
    have e1 := get_flatK f s d t h
    have e2 := flat_get f s hf d.toList (t / s) (t % s) (by simpa using hk) hj
    rw [Nat.mul_comm, Nat.div_add_mod] at e2
    rw [e2, Array.getElem?_toList, Array.getElem?_eq_getElem (by simpa using h)]
    rw [getElem!_pos (flatK f s d) t (by simpa using h)] at e1
    rw [e1, getElem!_pos d (t / s) hk, getElem!_pos _ (t % s) (by rw [hf]; exact hj), Array.getElem_toList, List.getElem?_eq_getElem (by rw [hf]; exact hj)]
    rfl
  · rw [List.getElem?_eq_none (by simpa using h), List.getElem?_eq_none (by rw [hl]; exact h)]

theorem Own.holdsK (hf : ∀ x, (f x).length = s) (h : Own f s e w base (.slice (some ⟨g, 0, none⟩) n c) xs) : HoldsK f s w g 0 xs.toArray := by
  intro j hj
  rw [size_flatK] at hj
  have hl : (xs.flatMap f).length = xs.length * s := flat_length f s hf xs
  obtain ⟨hn, hseg⟩ := h.segN
  have hfl := flatK_eq hf xs.toArray
  have hj' : j < (xs.flatMap f).length := by rw [hl]; simpa using hj
  have e1 : (flatK f s xs.toArray)[j]! = (xs.flatMap f)[j] := by
    have h0 : j < (flatK f s xs.toArray).size := by rw [size_flatK]; exact hj
    rw [getElem!_pos _ j h0, ← Array.getElem_toList (h := h0)]
    simp only [hfl]
  obtain ⟨ad, ha, hc⟩ := hseg.at_ hj'
  cases ha
  have hadd : (⟨g, 0, none⟩ : Addr).add j = ⟨g, j, none⟩ := by unfold Addr.add; split <;> simp_all
  rw [hadd] at hc
  rw [Nat.zero_add, e1]
  exact ⟨hc, h.thawed j⟩

theorem Own.sorted (hf : ∀ x, (f x).length = s) (h : Own f s e w base (.slice (some ⟨g, 0, none⟩) n c) xs) (d : Array α) (m : Nat) (os : Array Obj) (hd : d.size = xs.length) :
    Own f s e (sortWorldK f s w g 0 m d os) base (.slice (some ⟨g, 0, none⟩) n c) d.toList ∧ Ext (fun k => k = g) w (sortWorldK f s w g 0 m d os) := by
  obtain ⟨hn, _⟩ := h.segN
  subst hn
  have hl : (d.toList.flatMap f).length = d.size * s := by rw [flat_length f s hf]; simp
  have hfl := flatK_eq hf d
  rcases h.2 with ⟨hv, _⟩ | ⟨g', cap, cur, hv, hb, hh, hn, hm, hc, ht⟩
  · cases hv
  · injection hv with h1 h2 h3
    injection h1 with h1
    injection h1 with h1
    subst h1 h3
    have hg := (Array.getElem?_eq_some_iff.1 hh).1
    have hcs : d.size * s ≤ cur.size := by
      rw [hd]
      have := h.1
      have h5 := congrArg List.length ht
      rw [this] at h5
      simp at h5
      omega
    have hblk : (sortWorldK f s w g 0 m d os).heap[g]? = some (.cells (putCells id 0 (flatK f s d) cur) e (0, 0)) := by
      show ((w.heap.modify g (onCells (putCells id 0 (flatK f s d)))) ++ os)[g]? = _
      rw [Array.getElem?_append_left (by simpa using hg), Array.getElem?_modify, if_pos rfl, hh]
      rfl
    refine ⟨⟨?_, .inr ⟨g, c, putCells id 0 (flatK f s d) cur, ?_, hb, hblk, ?_, hm, ?_, ?_⟩⟩, ⟨rfl, rfl, rfl, ?_, fun k hk hne => ?_⟩⟩
    · rw [hl]; simp
    · simp [hd]
    · simp [hd]; exact hn
    · simpa [putCells] using hc
    · refine List.ext_getElem? fun t => ?_
      rw [List.getElem?_take]
      by_cases h6 : t < d.toList.length * s
      · rw [if_pos h6]
        have h7 : t < d.size * s := by simpa using h6
        have h8 : t < (putCells id 0 (flatK f s d) cur).size := by simp [putCells]; omega
        rw [Array.getElem?_toList, Array.getElem?_eq_getElem h8]
        simp only [putCells, Array.getElem_mapIdx, Nat.zero_le, true_and, Nat.zero_add, Nat.sub_zero, size_flatK, h7, if_true, id]
        rw [← hfl, Array.getElem?_toList, getElem!_pos _ t (by rw [size_flatK]; exact h7), Array.getElem?_eq_getElem (by rw [size_flatK]; exact h7)]
      · rw [if_neg h6, List.getElem?_eq_none (by rw [hl]; simpa using h6)]
    · show w.heap.size ≤ ((w.heap.modify g (onCells (putCells id 0 (flatK f s d)))) ++ os).size
      simp
    · show ((w.heap.modify g (onCells (putCells id 0 (flatK f s d)))) ++ os)[k]? = _
      rw [Array.getElem?_append_left (by simpa using hk), Array.getElem?_modify, if_neg (fun e => hne e.symm)]
end
end Go.Proofs.Ytjpmiejgcnfiiaa
