/-
  The program's Spilled.
-/
import Derived.Test.YtigidchignlpmaaRClash
namespace Go.Proofs.Ytigidchignlpmaa
open Go Go.RowKit Rg

def spillN (pl : List (Bool × Int)) : Nat := (pl.filter (·.1)).length
theorem spillN_take {pl : List (Bool × Int)} {k : Nat} {p : Bool × Int} (h : pl[k]? = some p) : spillN (pl.take (k + 1)) = spillN (pl.take k) + (if p.1 then 1 else 0) := by
  unfold spillN
  rw [List.take_add_one, h, List.filter_append]
  cases hp : p.1 <;> simp [hp]
theorem spillN_le (pl : List (Bool × Int)) : spillN pl ≤ pl.length := List.length_filter_le _ _

set_option maxHeartbeats 2000000 in
theorem spilled_calls (P : Option Addr) (pl : List (Bool × Int)) (cp : Nat) (sl : Int) (w : World) (hp : Seg w P (pl.flatMap plI)) (hpn : pl.length ≤ maxLen) :
    Calls Try.prog 15 #[.agg #[.slice P pl.length cp, .int .i64 sl]] w fun e w' => e = .returned (.int .i64 (spillN pl : Int)) ∧ Keep w w' := by
  unfold maxLen at hpn
  obtain ⟨wa, hwa⟩ : ∃ wa : World, wa = w.alloc (.cells #[.slice P pl.length cp, .int .i64 sl] 27) := ⟨_, rfl⟩
  have hka : Keep w wa := by rw [hwa]; exact (Keep.refl _).alloc _
  have bg : Blk wa w.heap.size 27 [.slice P pl.length cp, .int .i64 sl] := by rw [hwa]; exact Blk.new w _ _
  have g0 : wa.cell? ⟨w.heap.size, 0, none⟩ = some (.slice P pl.length cp) := bg.cell 0
  have lg := bg.lt
  clear bg
  go_enter Try.func15, Try.ntmps15
  go_wp2_with fail
  rw [← hwa]
  clear hwa
  go_wp2
  go_loopw [3, 9] (fun vn vi wr => ∃ i n : Nat, i ≤ pl.length ∧ vi = .int .i64 i ∧ vn = .int .i64 n ∧ Hid (spillN (pl.take i) = n ∧ n ≤ i) ∧ Keep wa wr) (fun _ i _ => pl.length - (intOf i).toNat)
  case atStart => exact ⟨0, 0, Nat.zero_le _, rfl, rfl, Lib.hid ⟨rfl, Nat.le_refl _⟩, Keep.refl _⟩
  case round =>
    obtain ⟨i, n, hi, rfl, rfl, Hn, hkeep⟩ := hrel
    by_cases hin : i < pl.length
    · obtain ⟨p, hpi⟩ := get_some hin
      obtain ⟨b, off, rfl, hb, p0, p1⟩ := pl_get hp (hka.trans hkeep) hpi
      have hii : (i : Int) < (pl.length : Int) := by omega
      have hi0 : (0 : Int) ≤ (i : Int) := by omega
      have Hs := Lib.hid (spillN_take hpi)
      have s1 : IntKind.i64.wrap ((n : Int) + 1) = ((n + 1 : Nat) : Int) := by rw [show (n : Int) + 1 = ((n + 1 : Nat) : Int) by omega]; exact IntWalk.i64_in _ (by have := Hn.out.2; omega)
      clear hpi hp
      cases d : p.1
      · have Hn2 := Lib.hid (show spillN (pl.take (i + 1)) = n ∧ n ≤ i + 1 by rw [Hs.out, d, Hn.out.1]; exact ⟨by simp, by have := Hn.out.2; omega⟩)
        rw [d] at p0
        go_wp2
        go_roundw
        case rel => exact ⟨i + 1, n, hin, by go_num, rfl, Hn2, hkeep.alloc _⟩
        case measure => simp [intOf]; omega
      · have Hn2 := Lib.hid (show spillN (pl.take (i + 1)) = n + 1 ∧ n + 1 ≤ i + 1 by rw [Hs.out, d, Hn.out.1]; exact ⟨by simp, by have := Hn.out.2; omega⟩)
        rw [d] at p0
        go_wp2
        go_roundw
        case rel => exact ⟨i + 1, n + 1, hin, by go_num, by go_num, Hn2, hkeep.alloc _⟩
        case measure => simp [intOf]; omega
    · have Hy := Lib.hid (show spillN pl = n by
        have := Hn.out.1
        rwa [show i = pl.length by omega, List.take_length] at this)
      clear hp
      go_wp2
      go_ret
      exact ⟨by rw [Hy.out]; rfl, hka.trans hkeep⟩
end Go.Proofs.Ytigidchignlpmaa
