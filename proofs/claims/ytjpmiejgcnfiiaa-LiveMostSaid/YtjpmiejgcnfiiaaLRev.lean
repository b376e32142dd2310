/-
  The library's Reverse.
-/
import Derived.Test.YtjpmiejgcnfiiaaLNext
import Derived.Shelf.RegionOpenPlain
set_option linter.unusedVariables false
set_option linter.unusedSimpArgs false
namespace Go.Proofs.Ytjpmiejgcnfiiaa
open Go Go.RowKit

section
variable {t : TypeId} {w : World} {base g n c : Nat} {xs : List Int}
theorem IOwn.put (h : Own intC 1 t w base (.slice (some ⟨g, 0, none⟩) n c) xs) (j : Nat) (x : Int) : Own intC 1 t (w.setCell ⟨g, j, none⟩ (.int .i64 x)) base (.slice (some ⟨g, 0, none⟩) n c) (xs.set j x) := by
  refine Own.put (f := intC) (s := 1) (ys := xs.set j x) (fun _ => rfl) h j _ ?_ (by simp)
  rw [flat_int, flat_int, List.map_set]
theorem IOwn.get (h : Own intC 1 t w base (.slice (some ⟨g, 0, none⟩) n c) xs) {j : Nat} {x : Int} (hj : xs[j]? = some x) : w.cell? ⟨g, j, none⟩ = some (.int .i64 x) := by
  have hl := (List.getElem?_eq_some_iff.1 hj).1
  obtain ⟨g', c', e, _, _, hc⟩ := own_at h (by omega)
  cases e
  exact hc j _ (by rw [flat_int, List.getElem?_map, hj]; rfl)
end

/-- A row of which the first k and the last k are turned. -/
def revK (d : List Int) (k : Nat) : List Int := (List.range d.length).map fun p => if p < k ∨ d.length - k ≤ p then d.getD (d.length - 1 - p) 0 else d.getD p 0
theorem revK_len (d : List Int) (k : Nat) : (revK d k).length = d.length := by simp [revK]
theorem revK_get (d : List Int) (k : Nat) {p : Nat} (hp : p < d.length) : (revK d k)[p]? = some (if p < k ∨ d.length - k ≤ p then d.getD (d.length - 1 - p) 0 else d.getD p 0) := by
  unfold revK; rw [List.getElem?_map, List.getElem?_range hp]; rfl
theorem revK_zero (d : List Int) : revK d 0 = d := by
  refine List.ext_getElem? fun p => ?_
  rcases Nat.lt_or_ge p d.length with hp | hp
  · rw [revK_get d 0 hp, if_neg (by omega), List.getD_eq_getElem?_getD, List.getElem?_eq_getElem hp]; rfl
  · rw [List.getElem?_eq_none (by rw [revK_len]; exact hp), List.getElem?_eq_none hp]
theorem revK_end {d : List Int} {k : Nat} (h : d.length ≤ 2 * k + 1) : revK d k = d.reverse := by
  refine List.ext_getElem? fun p => ?_
  rcases Nat.lt_or_ge p d.length with hp | hp
  · rw [revK_get d k hp, List.getElem?_reverse hp]
    split
    · rw [List.getD_eq_getElem?_getD, List.getElem?_eq_getElem (by omega)]; rfl
    · have : d.length - 1 - p = p := by omega
      rw [List.getD_eq_getElem?_getD, List.getElem?_eq_getElem hp, this, List.getElem?_eq_getElem hp]; rfl
  · rw [List.getElem?_eq_none (by rw [revK_len]; exact hp), List.getElem?_eq_none (by simpa using hp)]
theorem revK_step {d : List Int} {k j : Nat} (hj : k + j + 1 = d.length) (h : k < j) {x y : Int} (hx : (revK d k)[k]? = some x) (hy : (revK d k)[j]? = some y) : ((revK d k).set k y).set j x = revK d (k + 1) := by
  rw [revK_get d k (by omega), if_neg (by omega)] at hx
  rw [revK_get d k (by omega), if_neg (by omega)] at hy
  refine List.ext_getElem? fun p => ?_
  rcases Nat.lt_or_ge p d.length with hp | hp
  · rw [revK_get d _ hp, List.getElem?_set]
    by_cases e : j = p
    · subst e
      rw [if_pos rfl, if_pos (by rw [List.length_set, revK_len]; exact hp), if_pos (by omega), show d.length - 1 - j = k by omega]
      exact hx.symm
    · rw [if_neg e, List.getElem?_set]
      by_cases e' : k = p
      · subst e'
        rw [if_pos rfl, if_pos (by rw [revK_len]; exact hp), if_pos (by omega), show d.length - 1 - k = j by omega]
        exact hy.symm
      · rw [if_neg e', revK_get d k hp]
        by_cases g : p < k ∨ d.length - k ≤ p
        · rw [if_pos g, if_pos (by omega)]
        · rw [if_neg g, if_neg (by omega)]
  · rw [List.getElem?_eq_none (by simp [revK_len]; exact hp), List.getElem?_eq_none (by rw [revK_len]; exact hp)]

set_option maxHeartbeats 2000000 in
theorem reverse_calls (xs : List Int) (base g n c : Nat) (w : World) (h : Own intC 1 3 w base (.slice (some ⟨g, 0, none⟩) n c) xs) (hN : xs.length ≤ 1000000) :
    Calls Try.prog 22 #[.slice (some ⟨g, 0, none⟩) n c] w fun e w' => (∃ v, e = .returned v) ∧ Own intC 1 3 w' base (.slice (some ⟨g, 0, none⟩) n c) xs.reverse ∧ Ext (fun k => k = g) w w' := by
  have mixed : Try.prog.follows .mixedOrders = true := by kernel_rfl
  obtain ⟨hn, _⟩ := h.segN
  subst hn
  obtain ⟨N, hNe⟩ : ∃ N, xs.length = N := ⟨_, rfl⟩
  rw [hNe] at h hN ⊢
  have hg : g < w.heap.size := (h.lt g rfl).2
  go_enter Try.func22, Try.ntmps22
  go_wp2
  go_loopw [2, 3] (fun i j wr => ∃ (k : Nat) (jv : Int), k ≤ N ∧ jv = (N : Int) - 1 - (k : Int) ∧ i = .int .i64 k ∧ j = .int .i64 jv ∧ Hid (Own intC 1 3 wr base (.slice (some ⟨g, 0, none⟩) N c) (revK xs k)) ∧ Hid (Ext (fun k => k = g) w wr)) (fun i _ _ => N - (intOf i).toNat)
  case atStart => exact ⟨0, _, Nat.zero_le _, by omega, rfl, rfl, Lib.hid (by rw [revK_zero]; exact h), Lib.hid (Ext.refl _ _)⟩
  case round =>
    clear h
    obtain ⟨k, jv, hk, hjv, rfl, rfl, hown, hE⟩ := hrel
    by_cases hlt : (k : Int) < jv
    · obtain ⟨j, rfl⟩ : ∃ j : Nat, jv = (j : Int) := ⟨jv.toNat, by omega⟩
      have hkj : k + j + 1 = N := by omega
      have hkl : k < j := by omega
      obtain ⟨x, hx⟩ := get_some (l := revK xs k) (k := k) (by rw [revK_len]; omega)
      obtain ⟨y, hy⟩ := get_some (l := revK xs k) (k := j) (by rw [revK_len]; omega)
      have c1 := IOwn.get hown.out hx
      have c2 := IOwn.get hown.out hy
      have Hs := Lib.hid (show Own intC 1 3 ((wr.setCell ⟨g, k, none⟩ (.int .i64 y)).setCell ⟨g, j, none⟩ (.int .i64 x)) base (.slice (some ⟨g, 0, none⟩) N c) (revK xs (k + 1)) ∧ Ext (fun k => k = g) w ((wr.setCell ⟨g, k, none⟩ (.int .i64 y)).setCell ⟨g, j, none⟩ (.int .i64 x)) from
        ⟨by rw [← revK_step (by rw [hNe]; exact hkj) hkl hx hy]; exact IOwn.put (IOwn.put hown.out k y) j x, (hE.out.setCell (p := ⟨g, k, none⟩) (fun _ => rfl) _).setCell (p := ⟨g, j, none⟩) (fun _ => rfl) _⟩)
      have ff := hown.out.thawed
      have ll := (hown.out.lt g rfl).2
      obtain ⟨u3, c3⟩ : ∃ v, (wr.setCell ⟨g, k, none⟩ (.int .i64 y)).cell? ⟨g, j, none⟩ = some v := ⟨_, IOwn.get (IOwn.put hown.out k y) (by rw [List.getElem?_set_ne (by omega)]; exact hy)⟩
      have p1 : (0 : Int) ≤ (k : Int) := by omega
      have p2 : (0 : Int) ≤ (j : Int) := by omega
      have q1 : (k : Int) < (N : Int) := by omega
      have q2 : (j : Int) < (N : Int) := by omega
      have s1 : IntKind.i64.wrap ((k : Int) + 1) = ((k + 1 : Nat) : Int) := by rw [show (k : Int) + 1 = ((k + 1 : Nat) : Int) by omega]; exact IntWalk.i64_in _ (by omega)
      have s2 : IntKind.i64.wrap ((j : Int) - 1) = (N : Int) - 1 - ((k + 1 : Nat) : Int) := by rw [show (j : Int) - 1 = (N : Int) - 1 - ((k + 1 : Nat) : Int) by omega]; exact IntWalk.i64_in _ (by omega)
      have Hj := Lib.hid hkj
      clear hown hE hx hy hjv hkj
      go_wp2_with fail
      go_big_region_o
      clear c1 c2 c3 ff ll
      go_wp2
      go_roundw
      case rel => exact ⟨k + 1, _, by have := Hj.out; omega, rfl, by go_num, by first | rfl | rw [s2], Lib.hid (Hs.out.1.keep (Keep.refl _).drew), Lib.hid Hs.out.2.drew⟩
      case measure => simp [intOf]; omega
    · have Hf := Lib.hid (show Own intC 1 3 wr base (.slice (some ⟨g, 0, none⟩) N c) xs.reverse ∧ Ext (fun k => k = g) w wr from ⟨by rw [← revK_end (d := xs) (k := k) (by omega)]; exact hown.out, hE.out⟩)
      clear hown hE
      go_wp2
      refine bodyPost_end (results_none rfl _ _ _) rfl ⟨⟨_, rfl⟩, Hf.out⟩
end Go.Proofs.Ytjpmiejgcnfiiaa
