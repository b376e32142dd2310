/-
  The library's Clone and Compare; the closure by which ranges are sorted.
-/
import Derived.Test.YtjpmiejgcnfiiaaLShelf
import Derived.Test.YtjpmiejgcnfiiaaLAdd
set_option linter.unusedVariables false
set_option linter.unusedSimpArgs false
namespace Go.Proofs.Ytjpmiejgcnfiiaa
open Go Go.RowKit Go.Shelf Go.Lib Go.Sort Go.Proofs

set_option maxRecDepth 100000 in
set_option maxHeartbeats 2000000 in
theorem clone_calls (l : List Lv.Rng) (A : Option Addr) (c : Nat) (w : World) (hs : Seg w A (l.flatMap rngC)) (hn : l.length ≤ 1000000) :
    Calls Try.prog 23 #[.slice A l.length c] w fun e w' => ∃ v, e = .returned v ∧ Own rngC 2 50 w' w.heap.size v l ∧ Keep w w' := by
  cases A with
  | none =>
    have hl : l = [] := by
      cases l with
      | nil => rfl
      | cons x l =>
        obtain ⟨ad, e, _⟩ := hs 0 (.int .i64 x.1) (by simp [rngC])
        cases e
    subst hl
    have k1 := fun (W : World) => Lib.run_eql_slice_nil (P := Try.prog) W 26 50 none 0 c 0 0 Try.underlying26
    show Calls Try.prog _ #[.slice none 0 c] w _
    go_enter Try.func23, Try.ntmps23
    go_wp2
    go_ret
    exact ⟨_, rfl, Own.nil _ _ _ _ _, Keep.refl _⟩
  | some ad =>
    have ho : Own rngC 2 50 (w.alloc (.cells #[] 50)) w.heap.size (.slice (some ⟨w.heap.size, 0, none⟩) 0 0) [] := Own.empty_made rngC 2 50 w (Nat.le_refl _)
    have hk : Keep w (w.alloc (.cells #[] 50)) := (Keep.refl _).alloc _
    obtain ⟨v', w2, hrun, hown, hg, _⟩ := append_run elR ho (hs.keep hk) c 26 (by simp; unfold maxLen; omega) (by simp; omega) (by simp)
    obtain ⟨A', c', rfl, _⟩ := hown.form
    rw [List.nil_append] at hrun hown
    have Hown := Lib.hid hown
    have Hk2 := Lib.hid (show Keep w w2 from hk.grown hg (fun k hk' => by
      have e : w.heap.size = k := Option.some.inj hk'
      omega))
    clear hs ho hg hown
    have k1 := fun (W : World) => Lib.run_eql_slice_nil (P := Try.prog) W 26 50 (some ad) l.length c 0 0 Try.underlying26
    go_enter Try.func23, Try.ntmps23
    go_wp2_with (at_builtin; refine wpList_append_eq rfl _ _ _ rfl _ _ rfl rfl _ _ hrun ?_; clear hrun)
    go_ret
    exact ⟨_, rfl, Hown.out, Hk2.out⟩

set_option maxHeartbeats 1000000 in
theorem compare_calls (x y : Int) (w : World) : Calls Try.prog 26 #[.int .i64 x, .int .i64 y] w fun e w' => e = .returned (.int .i64 (Lib.compareInt x y)) ∧ w' = w := by
  have hx : (x != x) = false := by simp
  have hy : (y != y) = false := by simp
  unfold Lib.compareInt
  by_cases h1 : x < y
  · go_enter Try.func26, Try.ntmps26
    go_wp2
    go_ret
    exact ⟨by simp [h1], rfl⟩
  · by_cases h2 : y < x
    · go_enter Try.func26, Try.ntmps26
      go_wp2
      go_ret
      exact ⟨by simp [h1, h2], rfl⟩
    · go_enter Try.func26, Try.ntmps26
      go_wp2
      go_ret
      exact ⟨by simp [h1, h2], rfl⟩
end Go.Proofs.Ytjpmiejgcnfiiaa
