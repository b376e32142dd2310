/-
  slices.Index at places, moves.value: what a place holds at first.
-/
import Derived.Test.YtpjckgmhcbhphaaBase
import Derived.Deep.QuietTactic
import Derived.BigQuiet
namespace Go.Proofs.Ytpjckgmhcbhphaa
open Go Go.RowKit

/-- The first index of p, or -1. -/
def idxP (l : List Plc) (p : Plc) : Int := if p ∈ l then (l.idxOf p : Int) else -1

theorem idxP_found {l : List Plc} {p : Plc} {k : Nat} (hk : k < l.length) (h : l[k] = p) (hb : ¬ p ∈ l.take k) : idxP l p = k := by
  have hm : p ∈ l := h ▸ List.getElem_mem hk
  have hi : l.idxOf p = k := by
    rcases Nat.lt_trichotomy (l.idxOf p) k with hlt | he | hgt
    · exfalso
      apply hb
      have hl : l.idxOf p < l.length := List.idxOf_lt_length_iff.2 hm
      have := List.getElem_idxOf hl
      rw [← this]
      exact List.mem_take_iff_getElem.2 ⟨l.idxOf p, by omega, rfl⟩
    · exact he
    · exfalso
      have := List.not_of_lt_findIdx (p := (· == p)) (xs := l) (i := k) (by simpa [List.idxOf] using hgt)
      simp [h] at this
  unfold idxP
  rw [if_pos hm, hi]

theorem plcIndex_calls (l : List Plc) (A : Option Addr) (c : Nat) (p : Plc) (w : World) (hs : Seg w A (l.flatMap plcC)) (hn : l.length ≤ 1000000) :
    Calls Try.prog 31 #[.slice A l.length c, .agg #[.bool p.1, .int .i64 p.2]] w fun e w' => e = .returned (.int .i64 (idxP l p)) ∧ Keep w w' := by
  have heq := plc_eql
  go_enter Try.func31, Try.ntmps31
  go_wp2
  go_loopw [8] (fun i wr => ∃ k : Nat, k ≤ l.length ∧ i = .int .i64 k ∧ (¬ p ∈ l.take k) ∧ Keep (w.alloc (.cells (plcC p).toArray 24)) wr) (fun i _ => l.length - (intOf i).toNat)
  case atStart => exact ⟨0, Nat.zero_le _, rfl, by simp, Keep.refl _⟩
  case round =>
    obtain ⟨k, hk, rfl, hnd, hkeep⟩ := hrel
    have hw0 : Keep w wr := ((Keep.refl w).alloc _).trans hkeep
    have hblk := (Blk.new w 24 (plcC p)).keep hkeep
    have p0 : wr.cell? ⟨w.heap.size, 0, none⟩ = some (.bool p.1) := hblk.cell 0
    have p1 : wr.cell? ⟨w.heap.size, 1, none⟩ = some (.int .i64 p.2) := hblk.cell 1
    clear hblk
    by_cases hlt : k < l.length
    · obtain ⟨b, off, rfl, hb, c0, c1⟩ := plc_at hs hw0 hlt
      have hkk : (k : Int) < (l.length : Int) := by omega
      have hk0 : (0 : Int) ≤ (k : Int) := by omega
      by_cases hq : p = l[k]
      · have hd := plcEq_true hq
        have Hf := Lib.hid (idxP_found hlt hq.symm hnd)
        clear hq hnd
        go_wp2_with fail
        go_quiet (fail)
        go_wp2
        go_ret
        exact ⟨by rw [Hf.out]; rfl, (hw0.drewN _)⟩
      · have hd := plcEq_false hq
        have hnx : ¬ p ∈ l.take (k + 1) := fun hm => by
          rw [take_snoc l hlt] at hm
          rcases List.mem_append.1 hm with h | h
          · exact hnd h
          · exact hq (List.mem_singleton.1 h)
        have Hf := Lib.hid hnx
        clear hq hnd hnx
        go_wp2_with fail
        go_quiet (fail)
        go_wp2
        go_roundw
        case rel => exact ⟨k + 1, hlt, by go_num, Hf.out, hkeep.drewN _⟩
        case measure => simp [intOf]; omega
    · have hf : idxP l p = -1 := by
        unfold idxP
        rw [List.take_of_length_le (by omega)] at hnd
        rw [if_neg hnd]
      have Hf := Lib.hid hf
      clear hf hnd
      go_wp2
      go_ret
      exact ⟨by rw [Hf.out]; rfl, hw0⟩

theorem idxP_cases (l : List Plc) (p : Plc) : (idxP l p = -1 ∧ ¬ p ∈ l) ∨ ∃ k : Nat, idxP l p = k ∧ p ∈ l ∧ l.idxOf p = k ∧ k < l.length := by
  unfold idxP
  by_cases h : p ∈ l
  · exact .inr ⟨l.idxOf p, by rw [if_pos h], h, rfl, List.idxOf_lt_length_iff.2 h⟩
  · exact .inl ⟨by rw [if_neg h], h⟩

theorem value_calls (p : Plc) (l : List Plc) (vals : List Int) (A A2 : Option Addr) (c c2 : Nat) (w : World) (hs : Seg w A (l.flatMap plcC)) (hv : Seg w A2 (vals.flatMap u64C)) (hn : l.length ≤ 1000000) (hm : vals.length ≤ 1000000) :
    Calls Try.prog 27 #[.agg #[.bool p.1, .int .i64 p.2], .slice A l.length c, .slice A2 vals.length c2] w fun e w' => e = .returned (.int .u64 (valueOf l vals p)) ∧ Keep w w' := by
  have hcall := plcIndex_calls l A c p (w.alloc (.cells #[.bool p.1, .int .i64 p.2] 24)) (hs.keep ((Keep.refl _).alloc _)) hn
  have key : ∀ r, valueOf l vals p = r → Hid (valueOf l vals p = r) := fun r h => h
  rcases idxP_cases l p with ⟨hi, hp⟩ | ⟨k, hi, hp, hk, hkl⟩
  · rw [hi] at hcall
    have Hcall := Lib.hid hcall
    have Hv := Lib.hid (show valueOf l vals p = 0 by unfold valueOf; rw [if_neg hp])
    clear hcall hi hp key
    go_enter Try.func27, Try.ntmps27
    go_wp2_with (go_at_call 31; refine Hcall.out.mono ?_; rintro e w1 ⟨rfl, hk1⟩)
    go_ret
    exact ⟨by rw [Hv.out]; rfl, ((Keep.refl _).alloc _).trans hk1⟩
  · rw [hi] at hcall
    have Hcall := Lib.hid hcall
    by_cases hlt : k < vals.length
    · have Hv := Lib.hid (show valueOf l vals p = vals[k] by unfold valueOf; rw [if_pos hp, hk, List.getElem?_eq_getElem hlt]; rfl)
      clear hcall hi hp key hk
      go_enter Try.func27, Try.ntmps27
      go_wp2_with fail
      refine Hcall.out.mono ?_
      rintro e w1 ⟨rfl, hk1⟩
      have hkw : Keep w w1 := ((Keep.refl _).alloc _).trans hk1
      obtain ⟨b, off, rfl, hb, c0⟩ := val_at hv hkw hlt
      go_wp2
      go_ret
      exact ⟨by rw [Hv.out]; rfl, hkw⟩
    · have Hv := Lib.hid (show valueOf l vals p = 0 by unfold valueOf; rw [if_pos hp, hk, List.getElem?_eq_none (by omega)]; rfl)
      clear hcall hi hp key hk
      go_enter Try.func27, Try.ntmps27
      go_wp2_with (go_at_call 31; refine Hcall.out.mono ?_; rintro e w1 ⟨rfl, hk1⟩)
      go_ret
      exact ⟨by rw [Hv.out]; rfl, ((Keep.refl _).alloc _).trans hk1⟩

/-! ### The map of values -/
def HaveIs (w : World) (b : Nat) (h : Plc → Option Int) : Prop := ∃ n M, MapAt Try.prog 24 w b n M ∧ ∀ p, M (plcV p) = (h p).map (.int .u64)

theorem HaveIs.lt {w : World} {b : Nat} {h : Plc → Option Int} (hh : HaveIs w b h) : b < w.heap.size := by obtain ⟨n, M, hm, _⟩ := hh; exact hm.lt
theorem HaveIs.of_heap {w w' : World} {b : Nat} {h : Plc → Option Int} (hh : HaveIs w b h) (he : w'.heap[b]? = w.heap[b]?) : HaveIs w' b h := by
  obtain ⟨n, M, hm, hM⟩ := hh; exact ⟨n, M, hm.of_heap he, hM⟩
theorem HaveIs.keep {w w' : World} {b : Nat} {h : Plc → Option Int} (hh : HaveIs w b h) (hk : Keep w w') : HaveIs w' b h := hh.of_heap (hk.block b hh.lt)

theorem have_look {w : World} {b : Nat} {h : Plc → Option Int} (hh : HaveIs w b h) (p : Plc) (hp : PlOk p) (W : World) (hW : W.heap[b]? = w.heap[b]?) :
    (Instr.lookup 49 (.map (some b)) (.agg #[.bool p.1, .int .i64 p.2]) true).run Try.prog W = .ok (.tuple #[.int .u64 ((h p).getD 0), .bool (h p).isSome]) W := by
  obtain ⟨n, M, hm, hM⟩ := hh
  obtain ⟨kl, hk⟩ := plc_key p hp
  have := lookup_run (hm.of_heap hW) plcK Try.underlying49 (zeroU64 W) hk true
  rw [show (Value.agg #[Value.bool p.1, Value.int .i64 p.2]) = plcV p from rfl, this, hM p]
  cases h p <;> rfl

theorem have_put {w : World} {b : Nat} {h : Plc → Option Int} (hh : HaveIs w b h) (p : Plc) (hp : PlOk p) (v : Int) (W : World) (hW : W.heap[b]? = w.heap[b]?) :
    ∃ W', (Instr.mapUpdate 49 (.map (some b)) (.agg #[.bool p.1, .int .i64 p.2]) (.int .u64 v)).run Try.prog W = .ok () W' ∧ HaveIs W' b (fun q => if q = p then some v else h q) ∧ W.grownBy W' (some b) := by
  obtain ⟨n, M, hm, hM⟩ := hh
  obtain ⟨kl, hk⟩ := plc_key p hp
  obtain ⟨W', h1, h2, h3⟩ := update_run (hm.of_heap hW) plcK Try.underlying49 (v := .int .u64 v) hk
  refine ⟨W', h1, ⟨_, _, h2, fun q => ?_⟩, h3⟩
  unfold putM
  by_cases hq : q = p
  · subst hq; simp
  · rw [if_neg (fun e => hq (plcV_inj e)), hM q]
    simp [hq]

def allSpec (l : List Plc) (vals : List Int) (h : Plc → Option Int) : List Int := l.map fun p => (h p).getD (valueOf l vals p)

theorem all_calls (l : List Plc) (vals : List Int) (h : Plc → Option Int) (A A2 : Option Addr) (c c2 b : Nat) (w : World) (hs : Seg w A (l.flatMap plcC)) (hv : Seg w A2 (vals.flatMap u64C)) (hh : HaveIs w b h)
    (hok : ∀ p ∈ l, PlOk p) (hn : l.length ≤ 1000000) (hm : vals.length ≤ 1000000) :
    Calls Try.prog 28 #[.slice A l.length c, .slice A2 vals.length c2, .map (some b)] w fun e w' => ∃ v, e = .returned v ∧ Own u64C 1 39 w' w.heap.size v (allSpec l vals h) ∧ Keep w w' := by
  go_enter Try.func28, Try.ntmps28
  go_wp2
  go_loopw [7, 14] (fun v i wr => ∃ k : Nat, k ≤ l.length ∧ i = .int .i64 k ∧ Own u64C 1 39 wr w.heap.size v ((l.take k).map fun p => (h p).getD (valueOf l vals p)) ∧ Keep w wr) (fun _ i _ => l.length - (intOf i).toNat)
  case atStart => exact ⟨0, Nat.zero_le _, rfl, Own.nil _ _ _ _ _, Keep.refl _⟩
  case round =>
    obtain ⟨k, hk, rfl, hown, hkeep⟩ := hrel
    have hlen : ((l.take k).map fun p => (h p).getD (valueOf l vals p)).length = k := by simp; omega
    by_cases hlt : k < l.length
    · obtain ⟨b', off, rfl, hb, c0, c1⟩ := plc_at hs hkeep hlt
      have hlk := fun o => have_look (hh.keep hkeep) l[k] (hok _ (List.getElem_mem hlt)) (wr.alloc o) (Below.heap_alloc wr o _ (hh.keep hkeep).lt)
      have hbs := hkeep.size
      have hnB : ∀ j, u7.ownBlock = some j → w.heap.size ≤ j := fun j hj => (hown.lt j hj).1
      have Hlen := Lib.hid hlen
      clear hlen
      cases hg : h l[k] with
      | some x =>
        rw [hg] at hlk
        obtain ⟨v', w2, hap0, hown2, hg2, _⟩ := append_run (ys := [x]) elU ((hown.alloc (.cells (plcC l[k]).toArray 24)).alloc (.cells (u64C x).toArray 39)) (Seg.of_blk (Blk.new (wr.alloc (.cells (plcC l[k]).toArray 24)) 39 (u64C x))) 1 34 (by rw [Hlen.out]; simp only [List.length_singleton, maxLen]; omega) (by rw [Hlen.out]; simp only [List.length_singleton]; omega) (by simp; omega)
        have hap : (Builtin.append_ #[34, 34] 34 #[u7, .slice (some ⟨wr.heap.size + 1, 0, none⟩) 1 1]).run Try.prog ((wr.alloc (.cells #[.bool l[k].1, .int .i64 l[k].2] 24)).alloc (.cells #[.int .u64 x] 39)) = .ok v' w2 := by
          rw [show wr.heap.size + 1 = (wr.alloc (.cells (plcC l[k]).toArray 24)).heap.size by simp]; exact hap0
        have Hf := Lib.hid (show Own u64C 1 39 w2 w.heap.size v' ((l.take (k + 1)).map fun p => (h p).getD (valueOf l vals p)) by
          rw [take_snoc l hlt, List.map_append, List.map_singleton, hg]; exact hown2)
        have Hk := Lib.hid (show Keep w w2 from ((hkeep.alloc _).alloc _).grown hg2 hnB)
        clear hap0 hown2 hg2 hg
        go_wp2_with (at_builtin; refine wpList_append_eq rfl _ _ _ rfl _ _ rfl rfl _ _ hap ?_)
        go_roundw
        case rel => exact ⟨k + 1, hlt, by go_num, Hf.out, Hk.out⟩
        case measure => simp [intOf]; omega
      | none =>
        rw [hg] at hlk
        have hcv := value_calls l[k] l vals (some ⟨b', off, none⟩) A2 c c2 (wr.alloc (.cells #[.bool l[k].1, .int .i64 l[k].2] 24)) (hs.keep (hkeep.alloc _)) (hv.keep (hkeep.alloc _)) hn hm
        have Hcv := Lib.hid hcv
        clear hcv
        go_wp2_with fail
        refine Hcv.out.mono ?_
        rintro e w1 ⟨rfl, hk1⟩
        have hkw1 : Keep wr w1 := ((Keep.refl _).alloc _).trans hk1
        generalize hx : valueOf l vals l[k] = x at *
        obtain ⟨v', w2, hap0, hown2, hg2, _⟩ := append_run (ys := [x]) elU ((hown.keep hkw1).alloc (.cells (u64C x).toArray 39)) (Seg.of_blk (Blk.new w1 39 (u64C x))) 1 34 (by rw [Hlen.out]; simp only [List.length_singleton, maxLen]; omega) (by rw [Hlen.out]; simp only [List.length_singleton]; omega) (by have := hkw1.size; simp; omega)
        have hap : (Builtin.append_ #[34, 34] 34 #[u7, .slice (some ⟨w1.heap.size, 0, none⟩) 1 1]).run Try.prog (w1.alloc (.cells #[.int .u64 x] 39)) = .ok v' w2 := hap0
        have Hf := Lib.hid (show Own u64C 1 39 w2 w.heap.size v' ((l.take (k + 1)).map fun p => (h p).getD (valueOf l vals p)) by
          rw [take_snoc l hlt, List.map_append, List.map_singleton, hg, hx]; exact hown2)
        have Hk := Lib.hid (show Keep w w2 from ((hkeep.trans hkw1).alloc _).grown hg2 hnB)
        clear hap0 hown2 hg2 hg hx
        go_wp2_with (at_builtin; refine wpList_append_eq rfl _ _ _ rfl _ _ rfl rfl _ _ hap ?_)
        go_roundw
        case rel => exact ⟨k + 1, hlt, by go_num, Hf.out, Hk.out⟩
        case measure => simp [intOf]; omega
    · have Hf := Lib.hid (show Own u64C 1 39 wr w.heap.size u7 (allSpec l vals h) by
        unfold allSpec; rw [List.take_of_length_le (by omega)] at hown; exact hown)
      go_wp2
      go_ret
      exact ⟨_, rfl, Hf.out, hkeep⟩
end Go.Proofs.Ytpjckgmhcbhphaa
