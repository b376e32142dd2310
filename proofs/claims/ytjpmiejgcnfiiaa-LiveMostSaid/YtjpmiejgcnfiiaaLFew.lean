/-
  The statement's few.
-/
import Derived.Test.YtjpmiejgcnfiiaaLLives
set_option linter.unusedVariables false
set_option linter.unusedSimpArgs false
namespace Go.Proofs.Ytjpmiejgcnfiiaa
open Go Go.RowKit

/-- The lengths of the first lists. -/
def lens (ls : List LvD) (k : Nat) : Nat := ((ls.take k).map (fun x => x.l.length)).foldl (· + ·) 0
theorem lens_succ {ls : List LvD} {k : Nat} {x : LvD} (hx : ls[k]? = some x) : lens ls (k + 1) = lens ls k + x.l.length := by
  unfold lens; rw [List.take_add_one, hx, List.map_append, List.foldl_append]; rfl
theorem lens_le {ls : List LvD} (hb : ∀ x ∈ ls, x.l.length ≤ 17592186044416) : ∀ k, lens ls k ≤ k * 17592186044416
  | 0 => by simp [lens]
  | k + 1 => by
    rcases Nat.lt_or_ge k ls.length with h | h
    · obtain ⟨x, hx⟩ := get_some h
      rw [lens_succ hx]
      have := lens_le hb k
      have := hb x (List.mem_of_getElem? hx)
      omega
    · have e : lens ls (k + 1) = lens ls k := by
        unfold lens; rw [List.take_of_length_le (by omega), List.take_of_length_le (by omega)]
      have := lens_le hb k
      omega
def fewB (ls : List LvD) : Bool := decide (ls.length ≤ 80) && decide (lens ls 200 ≤ 160)

set_option maxHeartbeats 1000000 in
theorem few_calls (ls : List LvD) (A : Option Addr) (c : Nat) (w : World) (h : Lives w A ls) (hn : ls.length ≤ 9000000000000000000) (hb : ∀ x ∈ ls, x.l.length ≤ 17592186044416) :
    Calls Try.prog 4 #[.slice A ls.length c] w fun e w' => e = .returned (.bool (fewB ls)) ∧ w = w' := by
  have Hl := Lib.hid h
  have Hb := Lib.hid hb
  clear h hb
  go_enter Try.func4, Try.ntmps4
  go_wp2
  go_loop [3, 4] (fun n i => ∃ k : Nat, k ≤ ls.length ∧ k ≤ 200 ∧ i = .int .i64 k ∧ n = .int .i64 (lens ls k : Int)) (fun _ i => ls.length - (intOf i).toNat)
  case atStart => exact ⟨0, Nat.zero_le _, Nat.zero_le _, rfl, rfl⟩
  case round =>
    obtain ⟨k, hk, hk2, rfl, rfl⟩ := hrel
    have hle := lens_le Hb.out k
    by_cases hlt : k < ls.length
    · by_cases h2 : k < 200
      · have hkk : (k : Int) < (ls.length : Int) := by omega
        have hk0 : (0 : Int) ≤ (k : Int) := by omega
        have d2 : decide ((k : Int) < 200) = true := decide_eq_true (by omega)
        obtain ⟨x, hx⟩ := get_some hlt
        obtain ⟨b, off, rfl, hb, c0, c1, _⟩ := Hl.out.get (Keep.refl _) hx
        have hxl := Hb.out x (List.mem_of_getElem? hx)
        have Hs := Lib.hid (lens_succ hx)
        obtain ⟨m, hm⟩ : ∃ m, m = lens ls k := ⟨_, rfl⟩
        rw [← hm] at Hs hle ⊢
        clear hm hx
        have s1 : (0 : Int) ≤ (m : Int) + (x.l.length : Int) := by omega
        have s2 : (m : Int) + (x.l.length : Int) ≤ 9000000000000000 := by omega
        go_wp2
        go_round
        case rel => exact ⟨k + 1, hlt, by omega, by go_num, by rw [Hs.out]; go_num⟩
        case measure => simp [intOf]; omega
      · have e200 : k = 200 := by omega
        subst e200
        have d2 : decide (((200 : Nat) : Int) < 200) = false := by decide
        have h3 : ¬ ls.length ≤ 80 := by omega
        have Hf := Lib.hid (show fewB ls = false by unfold fewB; rw [decide_eq_false h3]; rfl)
        have d3 : decide ((ls.length : Int) ≤ 80) = false := decide_eq_false (by omega)
        have d3' : decide (ls.length ≤ 80) = false := decide_eq_false h3
        clear h3
        go_wp2
        go_ret
        exact ⟨by rw [Hf.out]; rfl, rfl⟩
    · have hkl : k = ls.length := by omega
      have Hl2 := Lib.hid (show lens ls 200 = lens ls k by unfold lens; rw [List.take_of_length_le (by omega), List.take_of_length_le (by omega)])
      have hge : ¬ (k : Int) < (ls.length : Int) := by omega
      by_cases h3 : ls.length ≤ 80
      · have d3' : decide (ls.length ≤ 80) = true := decide_eq_true h3
        have d3 : decide ((ls.length : Int) ≤ 80) = true := decide_eq_true (by omega)
        have Hf := Lib.hid (show fewB ls = decide (lens ls k ≤ 160) by unfold fewB; rw [decide_eq_true h3, Hl2.out]; rfl)
        have Hd := Lib.hid (show decide ((lens ls k : Int) ≤ 160) = decide (lens ls k ≤ 160) from decide_eq_decide.2 ⟨fun h => by omega, fun h => by omega⟩)
        obtain ⟨m, hm⟩ : ∃ m, m = lens ls k := ⟨_, rfl⟩
        rw [← hm] at Hf Hd hle ⊢
        clear hm hkl
        go_wp2
        go_ret
        exact ⟨by rw [Hf.out, ← Hd.out]; rfl, rfl⟩
      · have Hf := Lib.hid (show fewB ls = false by unfold fewB; rw [decide_eq_false h3]; rfl)
        have d3 : decide ((ls.length : Int) ≤ 80) = false := decide_eq_false (by omega)
        have d3' : decide (ls.length ≤ 80) = false := decide_eq_false h3
        clear h3 hkl
        go_wp2
        go_ret
        exact ⟨by rw [Hf.out]; rfl, rfl⟩
end Go.Proofs.Ytjpmiejgcnfiiaa
