/-
  moves.Right returns whether the destinations are distinct.
-/
import Derived.Test.YtpjckgmhcbhphaaBase
namespace Go.Proofs.Ytpjckgmhcbhphaa
open Go Go.RowKit

theorem right_dup {l : List Mv} {k : Nat} (hk : k < l.length) (hin : l[k].2 ∈ (l.take k).map Prod.snd) : rightB l = false := by
  unfold rightB
  refine decide_eq_false fun hn => ?_
  obtain ⟨m, hm, he⟩ := List.mem_map.1 hin
  obtain ⟨j, hj, rfl⟩ := List.getElem_of_mem hm
  have hjk : j < k := by have := hj; simp at this; omega
  have : j = k := nodup_inj hn (by simp; omega) (by simpa using hk) (by simpa using he)
  omega

theorem right_more {l : List Mv} {k : Nat} (hk : k < l.length) (hn : ((l.take k).map Prod.snd).Nodup) (hin : ¬ l[k].2 ∈ (l.take k).map Prod.snd) : ((l.take (k + 1)).map Prod.snd).Nodup := by
  rw [take_snoc l hk, List.map_append, List.nodup_append]
  refine ⟨hn, by simp, fun x hx y hy => ?_⟩
  simp only [List.map_cons, List.map_nil, List.mem_singleton] at hy
  rw [hy]; exact fun e => hin (e ▸ hx)

theorem right_calls (l : List Mv) (A : Option Addr) (c : Nat) (w : World) (hs : Seg w A (l.flatMap mvC)) (hwf : ∀ m ∈ l, MvOk m) (hn : l.length ≤ 1000000) :
    Calls Try.prog 10 #[.slice A l.length c] w fun e w' => e = .returned (.bool (rightB l)) ∧ Keep w w' := by
  have hmm := @run_makeMap Try.prog
  go_enter Try.func10, Try.ntmps10
  go_wp2
  go_loopw [9] (fun i wr => ∃ k : Nat, k ≤ l.length ∧ i = .int .i64 k ∧ ((l.take k).map Prod.snd).Nodup ∧ MetIs wr w.heap.size ((l.take k).map Prod.snd) ∧ Keep w wr) (fun i _ => l.length - (intOf i).toNat)
  case atStart => exact ⟨0, Nat.zero_le _, rfl, by simp, ⟨_, _, MapAt.made _ _ _, by simp⟩, (Keep.refl _).alloc _⟩
  case round =>
    obtain ⟨k, hk, rfl, hnd, hmet, hkeep⟩ := hrel
    by_cases hlt : k < l.length
    · obtain ⟨b, off, rfl, hb, c0, c1, c2, c3⟩ := mv_at hs hkeep hlt
      have hw2 := (hwf l[k] (List.getElem_mem hlt)).2
      have hlk := fun o => met_look hmet l[k].2 hw2 (wr.alloc o) (Below.heap_alloc wr o _ hmet.lt)
      by_cases hin : l[k].2 ∈ (l.take k).map Prod.snd
      · have Hd := Lib.hid (right_dup hlt hin)
        rw [decide_eq_true hin] at hlk
        clear hin hmet
        go_wp2
        go_ret
        exact ⟨by rw [Hd.out]; rfl, hkeep.alloc _⟩
      · have Hd := Lib.hid (right_more hlt hnd hin)
        rw [decide_eq_false hin] at hlk
        obtain ⟨W', hrun, hmet', hg⟩ := met_put hmet l[k].2 hw2 (wr.alloc (.cells #[.bool l[k].1.1, .int .i64 l[k].1.2, .bool l[k].2.1, .int .i64 l[k].2.2] 32)) (Below.heap_alloc wr _ _ hmet.lt)
        have Hm := Lib.hid hmet'
        clear hmet' hin hmet
        go_wp2
        go_roundw
        case rel => exact ⟨k + 1, hlt, by go_num, Hd.out, by rw [take_snoc l hlt, List.map_append]; exact Hm.out, (hkeep.alloc _).grown hg (fun j hj => by cases hj; exact Nat.le_refl _)⟩
        case measure => simp [intOf]; omega
    · have hd : rightB l = true := by
        unfold rightB
        rw [List.take_of_length_le (by omega)] at hnd
        exact decide_eq_true hnd
      have Hd := Lib.hid hd
      clear hd
      go_wp2
      go_ret
      exact ⟨by rw [Hd.out]; rfl, hkeep⟩
end Go.Proofs.Ytpjckgmhcbhphaa
