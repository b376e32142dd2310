/-
  moves.OneByOne and moves.AtOnce.
-/
import Derived.Test.YtpjckgmhcbhphaaValue
import Derived.Test.YtpjckgmhcbhphaaRegion
namespace Go.Proofs.Ytpjckgmhcbhphaa
open Go Go.RowKit

theorem have_made (w : World) : HaveIs (w.alloc (.map #[] 0)) w.heap.size (fun _ => none) := ⟨_, _, MapAt.made Try.prog 24 w, fun _ => rfl⟩

theorem seqS_snoc (s : Plc → Int) (l : List Mv) (m : Mv) : seqS s (l ++ [m]) = upd (seqS s l) m.2 (seqS s l m.1) := by
  unfold seqS; rw [List.foldl_append]; rfl
theorem parS_snoc (s : Plc → Int) (l : List Mv) (m : Mv) (p : Plc) : parS s (l ++ [m]) p = if m.2 = p then s m.1 else parS s l p := by
  unfold parS; rw [List.foldl_append]; rfl

theorem oneByOne_calls (l : List Mv) (at_ : List Plc) (vals : List Int) (A A1 A2 : Option Addr) (c c1 c2 : Nat) (w : World) (hs : Seg w A (l.flatMap mvC)) (ha : Seg w A1 (at_.flatMap plcC)) (hv : Seg w A2 (vals.flatMap u64C))
    (hwf : ∀ m ∈ l, MvOk m) (hok : ∀ p ∈ at_, PlOk p) (hn : l.length ≤ 1000000) (hn1 : at_.length ≤ 1000000) (hn2 : vals.length ≤ 1000000) :
    Calls Try.prog 16 #[.slice A l.length c, .slice A1 at_.length c1, .slice A2 vals.length c2] w fun e w' => ∃ v, e = .returned v ∧ Own u64C 1 39 w' w.heap.size v (oneByOneSpec l at_ vals) ∧ Keep w w' := by
  have hmm := @run_makeMap Try.prog
  go_enter Try.func16, Try.ntmps16
  go_wp2
  go_loopw [15] (fun i wr => ∃ (k : Nat) (h : Plc → Option Int), k ≤ l.length ∧ i = .int .i64 k ∧ HaveIs wr w.heap.size h ∧ (∀ p, (h p).getD (valueOf at_ vals p) = seqS (valueOf at_ vals) (l.take k) p) ∧ Keep w wr) (fun i _ => l.length - (intOf i).toNat)
  case atStart => exact ⟨0, fun _ => none, Nat.zero_le _, rfl, have_made w, fun p => rfl, (Keep.refl _).alloc _⟩
  case round =>
    obtain ⟨k, h, hk, rfl, hh, hval, hkeep⟩ := hrel
    by_cases hlt : k < l.length
    · obtain ⟨b, off, rfl, hb, c0, c1', c2', c3⟩ := mv_at hs hkeep hlt
      have hw1 := (hwf l[k] (List.getElem_mem hlt)).1
      have hw2 := (hwf l[k] (List.getElem_mem hlt)).2
      have hlk := fun o => have_look hh l[k].1 hw1 (wr.alloc o) (Below.heap_alloc wr o _ hh.lt)
      have Hval := Lib.hid hval
      have hlt' := hh.lt
      have Hnext := Lib.hid (show ∀ (v : Int), (h l[k].1).getD (valueOf at_ vals l[k].1) = v → ∀ p, ((fun q => if q = l[k].2 then some v else h q) p).getD (valueOf at_ vals p) = seqS (valueOf at_ vals) (l.take (k + 1)) p by
        intro v hv' p
        rw [take_snoc l hlt, seqS_snoc]
        unfold upd
        by_cases hp : p = l[k].2
        · simp only [hp, if_true, Option.getD_some]; rw [← hv', hval]
        · simp only [hp, if_false]; exact hval p)
      clear hval
      cases hg : h l[k].1 with
      | some x =>
        rw [hg] at hlk
        obtain ⟨W', hrun, hh', hg'⟩ := have_put hh l[k].2 hw2 x (wr.alloc (.cells #[.bool l[k].1.1, .int .i64 l[k].1.2, .bool l[k].2.1, .int .i64 l[k].2.2] 32)) (Below.heap_alloc wr _ _ hlt')
        have Hn := Lib.hid (Hnext.out x (by rw [hg]; rfl))
        clear hg Hnext
        go_wp2
        go_roundw
        case rel => exact ⟨k + 1, _, hlt, by go_num, hh', Hn.out, (hkeep.alloc _).grown hg' (fun j hj => by cases hj; exact Nat.le_refl _)⟩
        case measure => simp [intOf]; omega
      | none =>
        rw [hg] at hlk
        have hcv := value_calls l[k].1 at_ vals A1 A2 c1 c2 (wr.alloc (.cells #[.bool l[k].1.1, .int .i64 l[k].1.2, .bool l[k].2.1, .int .i64 l[k].2.2] 32)) (ha.keep (hkeep.alloc _)) (hv.keep (hkeep.alloc _)) hn1 hn2
        have Hcv := Lib.hid hcv
        clear hcv
        go_wp2_with fail
        refine Hcv.out.mono ?_
        rintro e w1 ⟨rfl, hk1⟩
        have hblk := (Blk.new wr 32 (mvC l[k])).keep hk1
        have d2 : w1.cell? ⟨wr.heap.size, 2, none⟩ = some (.bool l[k].2.1) := hblk.cell 2
        have d3 : w1.cell? ⟨wr.heap.size, 3, none⟩ = some (.int .i64 l[k].2.2) := hblk.cell 3
        have hkw1 : Keep wr w1 := ((Keep.refl _).alloc _).trans hk1
        obtain ⟨W', hrun, hh', hg'⟩ := have_put (hh.keep hkw1) l[k].2 hw2 (valueOf at_ vals l[k].1) w1 rfl
        have Hn := Lib.hid (Hnext.out (valueOf at_ vals l[k].1) (by rw [hg]; rfl))
        clear hg Hnext hblk
        go_wp2
        go_roundw
        case rel => exact ⟨k + 1, _, hlt, by go_num, hh', Hn.out, (hkeep.trans hkw1).grown hg' (fun j hj => by cases hj; exact Nat.le_refl _)⟩
        case measure => simp [intOf]; omega
    · have hsp : allSpec at_ vals h = oneByOneSpec l at_ vals := by
        unfold allSpec oneByOneSpec
        rw [List.take_of_length_le (by omega)] at hval
        exact List.map_congr_left fun p _ => hval p
      have hca := all_calls at_ vals h A1 A2 c1 c2 w.heap.size wr (ha.keep hkeep) (hv.keep hkeep) hh hok hn1 hn2
      rw [hsp] at hca
      have Hca := Lib.hid hca
      clear hca hsp hval
      go_wp2_with fail
      refine Hca.out.mono ?_
      rintro e w1 ⟨v, rfl, hown, hk1⟩
      go_wp2
      go_ret
      exact ⟨v, rfl, hown.mono hkeep.size, hkeep.trans hk1⟩

theorem atOnce_calls (l : List Mv) (at_ : List Plc) (vals : List Int) (A A1 A2 : Option Addr) (c c1 c2 : Nat) (w : World) (hs : Seg w A (l.flatMap mvC)) (ha : Seg w A1 (at_.flatMap plcC)) (hv : Seg w A2 (vals.flatMap u64C))
    (hwf : ∀ m ∈ l, MvOk m) (hok : ∀ p ∈ at_, PlOk p) (hn : l.length ≤ 1000000) (hn1 : at_.length ≤ 1000000) (hn2 : vals.length ≤ 1000000) :
    Calls Try.prog 18 #[.slice A l.length c, .slice A1 at_.length c1, .slice A2 vals.length c2] w fun e w' => ∃ v, e = .returned v ∧ Own u64C 1 39 w' w.heap.size v (atOnceSpec l at_ vals) ∧ Keep w w' := by
  have hmm := @run_makeMap Try.prog
  go_enter Try.func18, Try.ntmps18
  go_wp2
  go_loopw [13] (fun i wr => ∃ (k : Nat) (h : Plc → Option Int), k ≤ l.length ∧ i = .int .i64 k ∧ HaveIs wr w.heap.size h ∧ (∀ p, (h p).getD (valueOf at_ vals p) = parS (valueOf at_ vals) (l.take k) p) ∧ Keep w wr) (fun i _ => l.length - (intOf i).toNat)
  case atStart => exact ⟨0, fun _ => none, Nat.zero_le _, rfl, have_made w, fun p => rfl, (Keep.refl _).alloc _⟩
  case round =>
    obtain ⟨k, h, hk, rfl, hh, hval, hkeep⟩ := hrel
    by_cases hlt : k < l.length
    · obtain ⟨b, off, rfl, hb, c0, c1', c2', c3⟩ := mv_at hs hkeep hlt
      have hw2 := (hwf l[k] (List.getElem_mem hlt)).2
      have hlt' := hh.lt
      have Hnext := Lib.hid (show ∀ p, ((fun q => if q = l[k].2 then some (valueOf at_ vals l[k].1) else h q) p).getD (valueOf at_ vals p) = parS (valueOf at_ vals) (l.take (k + 1)) p by
        intro p
        rw [take_snoc l hlt, parS_snoc]
        by_cases hp : p = l[k].2
        · simp [hp]
        · simp only [hp, if_false, Ne.symm hp]; exact hval p)
      clear hval
      go_wp2
      have hblk := Blk.new wr 32 (mvC l[k])
      have hne : ¬ wr.heap.size = w.heap.size := by omega
      generalize hW0 : wr.alloc (.cells #[.bool l[k].1.1, .int .i64 l[k].1.2, .bool l[k].2.1, .int .i64 l[k].2.2] 32) = W0 at *
      have HW0 := Lib.hid hW0
      have hblk' : Blk W0 wr.heap.size 32 (mvC l[k]) := by rw [← hW0]; exact hblk
      clear hW0 hblk
      have x0 := fun x : KE (fun j => j = w.heap.size) W0 => x.cell (v := .bool l[k].1.1) (hblk'.cell 0) hne
      have x1 := fun x : KE (fun j => j = w.heap.size) W0 => x.cell (v := .int .i64 l[k].1.2) (hblk'.cell 1) hne
      have x2 := fun x : KE (fun j => j = w.heap.size) W0 => x.cell (v := .bool l[k].2.1) (hblk'.cell 2) hne
      have x3 := fun x : KE (fun j => j = w.heap.size) W0 => x.cell (v := .int .i64 l[k].2.2) (hblk'.cell 3) hne
      have hkW : Keep wr W0 := by rw [← HW0.out]; exact (Keep.refl _).alloc _
      refine region_begin (S := fun w' => ∃ x : KE (fun j => j = w.heap.size) W0, w' = x.val) (by kernel_rfl) ?_
      refine region_take [0, 1, 2, 3, 4, 5, 6] [] 2 (by kernel_rfl) (by kernel_rfl) (KE.mk' (Ext.drew (Ext.refl _ _))) ?_
      show wpQuiet _ _ _ _ [_, _, _, _, _, _, _] _
      repeat (go_big_quiet_step (fail))
      refine wpQuiet_nil ?_
      clear x0 x1 x2 x3
      have Hcv := Lib.hid (value_calls l[k].1 at_ vals A1 A2 c1 c2 W0.drew (ha.keep (Keep.drew (hkeep.trans hkW))) (hv.keep (Keep.drew (hkeep.trans hkW))) hn1 hn2)
      refine region_fix (i := 7) (fuel := 1) rfl (by kernel_rfl) (fun K hK => ?_)
      go_simp
      refine Hcv.out.mono ?_
      rintro e w1 ⟨rfl, hk1⟩
      have hkw1 : Keep wr w1 := hkW.trans (Keep.trans (Keep.drew (Keep.refl _)) hk1)
      refine hK _ _ (KE.mk' (Keep.ext (Keep.trans (Keep.drew (Keep.refl _)) hk1) _)) ?_
      clear hK K
      obtain ⟨W', hrun, hh', hg'⟩ := have_put (hh.keep hkw1) l[k].2 hw2 (valueOf at_ vals l[k].1) w1 rfl
      refine region_fix (i := 8) (fuel := 0) rfl (by kernel_rfl) (fun K hK => ?_)
      go_simp
      refine hK _ _ (KE.mk' ((Keep.ext (Keep.trans (Keep.drew (Keep.refl _)) hk1) _).grown hg' (fun j hj _ => by cases hj; rfl))) ?_
      clear hK K
      refine region_done (by kernel_rfl) ?_
      go_wp2
      go_roundw
      case rel => exact ⟨k + 1, _, hlt, by go_num, hh', Hnext.out, (hkeep.trans hkw1).grown hg' (fun j hj => by cases hj; exact Nat.le_refl _)⟩
      case measure => simp [intOf]; omega
    · have hsp : allSpec at_ vals h = atOnceSpec l at_ vals := by
        unfold allSpec atOnceSpec
        rw [List.take_of_length_le (by omega)] at hval
        exact List.map_congr_left fun p _ => hval p
      have hca := all_calls at_ vals h A1 A2 c1 c2 w.heap.size wr (ha.keep hkeep) (hv.keep hkeep) hh hok hn1 hn2
      rw [hsp] at hca
      have Hca := Lib.hid hca
      clear hca hsp hval
      go_wp2_with fail
      refine Hca.out.mono ?_
      rintro e w1 ⟨v, rfl, hown, hk1⟩
      go_wp2
      go_ret
      exact ⟨v, rfl, hown.mono hkeep.size, hkeep.trans hk1⟩
end Go.Proofs.Ytpjckgmhcbhphaa
