/-
  The reference: OneByOne.
-/
import Derived.Test.YtpjckgmhcbhphaaRef4
namespace Go.Proofs.Ytpjckgmhcbhphaa
open Go Go.RowKit

theorem flat_u64 (l : List Int) : l.flatMap u64C = l.map (Value.int .u64) := by
  induction l with
  | nil => rfl
  | cons x l ih => rw [List.flatMap_cons, ih]; rfl
theorem Own.set1 {e : TypeId} {w : World} {base g c n : Nat} {xs : List Int} (h : Own u64C 1 e w base (.slice (some ⟨g, 0, none⟩) n c) xs) (i : Nat) (x : Int) :
    Own u64C 1 e (w.setCell ⟨g, i, none⟩ (.int .u64 x)) base (.slice (some ⟨g, 0, none⟩) n c) (xs.set i x) := by
  obtain ⟨hn, _⟩ := h.segN
  subst hn
  have := (World.ownsRow.stored (g := g) h i (.int .u64 x)).1
  unfold Own
  rw [flat_u64, List.map_set, ← flat_u64, List.length_set]
  exact this

theorem own_store {e : TypeId} {w : World} {base g n c : Nat} {xs : List Int} (h : Own u64C 1 e w base (.slice (some ⟨g, 0, none⟩) n c) xs) (k : Nat) (hk : k < xs.length) :
    (∃ old, w.cell? ⟨g, k, none⟩ = some old) ∧ w.frozen? ⟨g, k, none⟩ = false ∧ base ≤ g := by
  obtain ⟨hn, hs⟩ := h.segN
  subst hn
  obtain ⟨b', off', he, _, hc'⟩ := val_at hs (Keep.refl _) hk
  cases he
  exact ⟨⟨_, by simpa using hc'⟩, World.ownsRow.frozenAt h k, (h.lt g rfl).1⟩

/-- All places of the moves behind at_. -/
def allP (l : List Mv) (at_ : List Plc) : List Plc := at_ ++ l.flatMap fun m => [m.1, m.2]
theorem allP_len (l : List Mv) (at_ : List Plc) : (allP l at_).length = at_.length + 2 * l.length := by
  unfold allP
  rw [List.length_append]
  congr 1
  induction l with
  | nil => rfl
  | cons m l ih => simp at ih ⊢; omega
theorem allP_next {l : List Mv} {at_ : List Plc} {k : Nat} (h : k < l.length) : allP (l.take (k + 1)) at_ = allP (l.take k) at_ ++ [l[k].1, l[k].2] := by
  unfold allP; rw [take_snoc l h, List.flatMap_append]; simp
theorem allP_mem {l : List Mv} {at_ : List Plc} {m : Mv} (h : m ∈ l) : m.1 ∈ allP l at_ ∧ m.2 ∈ allP l at_ := by
  unfold allP
  exact ⟨List.mem_append.2 (.inr (List.mem_flatMap.2 ⟨m, h, by simp⟩)), List.mem_append.2 (.inr (List.mem_flatMap.2 ⟨m, h, by simp⟩))⟩

/-- The first i values are right, the others as they were. -/
def mixK (all : List Plc) (s : Plc → Int) (now : List Int) (i : Nat) : List Int := (all.take i).map s ++ now.drop i
theorem mixK_len {all : List Plc} {s : Plc → Int} {now : List Int} (hl : now.length = all.length) (i : Nat) (hi : i ≤ all.length) : (mixK all s now i).length = all.length := by
  unfold mixK; simp; omega
theorem mixK_next {all : List Plc} {s : Plc → Int} {now : List Int} (hl : now.length = all.length) {i : Nat} (hi : i < all.length) : (mixK all s now i).set i (s all[i]) = mixK all s now (i + 1) := by
  unfold mixK
  rw [List.set_append, if_neg (by simp; omega), take_snoc all hi, List.map_append, List.append_assoc]
  congr 1
  have : i - (List.map s (List.take i all)).length = 0 := by simp; omega
  rw [this, List.drop_eq_getElem_cons (show i < now.length by omega)]
  rfl
theorem mixK_end {all : List Plc} {s : Plc → Int} {now : List Int} (hl : now.length = all.length) : mixK all s now all.length = all.map s := by
  unfold mixK; rw [List.take_length, List.drop_eq_nil_of_le (by omega), List.append_nil]

theorem valueOf_map {all : List Plc} (s : Plc → Int) {p : Plc} (h : p ∈ all) : valueOf all (all.map s) p = s p := by
  unfold valueOf
  rw [if_pos h]
  have hl := List.idxOf_lt_length_iff.2 h
  rw [List.getElem?_map, List.getElem?_eq_getElem hl, List.getElem_idxOf hl]
  rfl
theorem atOnce_step {all : List Plc} (s : Plc → Int) {l : List Mv} {k : Nat} (hk : k < l.length) (h1 : l[k].1 ∈ all) :
    atOnceSpec [l[k]] all (all.map (seqS s (l.take k))) = all.map (seqS s (l.take (k + 1))) := by
  unfold atOnceSpec
  refine List.map_congr_left fun p hp => ?_
  rw [take_snoc l hk, seqS_snoc]
  simp only [parS, List.foldl_cons, List.foldl_nil, upd]
  rw [valueOf_map _ h1, valueOf_map _ hp]
  by_cases h : l[k].2 = p
  · rw [if_pos h, if_pos h.symm]
  · rw [if_neg h, if_neg (fun h' => h h'.symm)]
theorem one_end (l : List Mv) (at_ : List Plc) (vals : List Int) : ((allP l at_).map (seqS (valueOf at_ vals) l)).take at_.length = oneByOneSpec l at_ vals := by
  unfold allP oneByOneSpec
  rw [List.map_append, List.take_left' (by simp)]

theorem refOneByOne_calls (l : List Mv) (at_ : List Plc) (vals : List Int) (A A1 A2 : Option Addr) (c c1 c2 : Nat) (w : World) (hs : Seg w A (l.flatMap mvC)) (ha : Seg w A1 (at_.flatMap plcC)) (hv : Seg w A2 (vals.flatMap u64C))
    (hn : l.length ≤ 1000) (hn1 : at_.length ≤ 1000) (hn2 : vals.length ≤ 1000) (hc : l.length ≤ c) (hcm : c ≤ maxLen) :
    Calls Try.prog 17 #[.slice A l.length c, .slice A1 at_.length c1, .slice A2 vals.length c2] w fun e w' => ∃ v, e = .returned v ∧ Own u64C 1 39 w' w.heap.size v (oneByOneSpec l at_ vals) ∧ Keep w w' := by
  obtain ⟨v1, w1, ha1, ho1, hg1, hb1⟩ := append_run (ys := at_) elPl (Own.empty plcC 2 24 w (Nat.le_refl _)) (ha.keep ((Keep.refl w).alloc _)) c1 33 (by simp [maxLen]; omega) (by simp; omega) (by simp)
  have hk1 : Keep w w1 := ((Keep.refl w).alloc _).grown hg1 (fun j hj => by simp [Value.ownBlock] at hj; subst hj; exact Nat.le_refl _)
  have ho1' : Own plcC 2 24 w1 w.heap.size v1 (allP [] at_) := by
    unfold allP; simpa using ho1
  have Ho1 := Lib.hid ho1'
  clear ho1 ho1' hg1 hb1
  go_enter Try.func17, Try.ntmps17
  go_wp2_with (at_builtin; refine wpList_append_eq rfl _ _ _ rfl _ _ rfl rfl _ _ ha1 ?_)
  go_loopw [7, 8] (fun v i wr => ∃ k : Nat, k ≤ l.length ∧ i = .int .i64 k ∧ Own plcC 2 24 wr w.heap.size v (allP (l.take k) at_) ∧ Keep w wr) (fun _ i _ => l.length - (intOf i).toNat)
  case atStart => exact ⟨0, Nat.zero_le _, rfl, Ho1.out, hk1⟩
  case round =>
    obtain ⟨k, hk, rfl, hown, hkeep⟩ := hrel
    by_cases hlt : k < l.length
    · obtain ⟨b, off, rfl, hb, c0, c1', c2', c3⟩ := mv_at hs (Keep.refl w) hlt
      have hkk : (k : Int) < (l.length : Int) := by omega
      have hk0 : (0 : Int) ≤ (k : Int) := by omega
      have hlen : (allP (l.take k) at_).length = at_.length + 2 * k := by rw [allP_len]; simp; omega
      have hnB : ∀ j, u7.ownBlock = some j → w.heap.size ≤ j := fun j hj => (hown.lt j hj).1
      have hkd : Keep wr wr.drew := Keep.drew (Keep.refl _)
      obtain ⟨v', w2, hap0, hown3, hg2, _⟩ := append_run (ys := [l[k].1, l[k].2]) elPl ((hown.keep hkd).alloc (.cells (([l[k].1, l[k].2] : List Plc).flatMap plcC).toArray 24)) (Seg.of_blk (Blk.new wr.drew 24 (([l[k].1, l[k].2] : List Plc).flatMap plcC))) 2 33 (by rw [hlen]; simp only [List.length_cons, List.length_nil, maxLen]; omega) (by rw [hlen]; simp only [List.length_cons, List.length_nil]; omega) (by have := hkeep.size; simp; omega)
      have Hown := Lib.hid (show Own plcC 2 24 w2 w.heap.size v' (allP (l.take (k + 1)) at_) by rw [allP_next hlt]; exact hown3)
      have hkx : Keep w w2 := ((hkeep.trans hkd).alloc _).grown hg2 hnB
      have x0 := fun x : KW w => x.cell c0
      have x1 := fun x : KW w => x.cell c1'
      have x2 := fun x : KW w => x.cell c2'
      have x3 := fun x : KW w => x.cell c3
      clear hown hown3 hg2 hnB hlen
      go_wp2_with fail
      refine region_begin (S := fun w' => ∃ x : KW w, w' = x.val) (by kernel_rfl) ?_
      refine region_take [0, 1, 2, 3, 4, 5, 6, 7, 8, 9, 10] [] 3 (by kernel_rfl) (by kernel_rfl) (InK.mk' (hkeep.trans hkd)) ?_
      show wpQuiet _ _ _ _ (_ :: _ :: _ :: _ :: _ :: _ :: _ :: _ :: _ :: _ :: _ :: []) _
      repeat (go_big_quiet_step (fail))
      refine wpQuiet_nil ?_
      refine region_fix (i := 11) (fuel := 2) rfl (by kernel_rfl) (fun K hK => ?_)
      go_simp
      refine hK _ _ (InK.mk' (hkeep.alloc _).drew) ?_
      clear hK K
      refine region_fixU (i := 12) (fuel := 1) rfl rfl (by kernel_rfl) (fun K hK => ?_)
      refine wp_append_eq _ _ _ rfl _ _ rfl rfl _ _ hap0 ?_
      refine hK _ _ (InK.mk' hkx) ?_
      clear hK K
      simp only [Act.put, List.setIfInBounds_toArray, List.set_cons_succ, List.set_cons_zero]
      refine region_take [13] _ 0 (by kernel_rfl) (by kernel_rfl) (InK.mk' hkx) ?_
      show wpQuiet _ _ _ _ (_ :: []) _
      repeat (go_big_quiet_step (fail))
      refine wpQuiet_nil ?_
      refine region_done (by kernel_rfl) ?_
      clear hap0
      go_wp2
      go_roundw
      case rel => exact ⟨k + 1, hlt, by go_num, Hown.out, hkx⟩
      case measure => simp [intOf]; omega
    · rw [List.take_of_length_le (by omega)] at hown
      obtain ⟨A3, c3, rfl, _⟩ := hown.form
      obtain ⟨all, hall⟩ : ∃ all, all = allP l at_ := ⟨_, rfl⟩
      have hin : ∀ m ∈ l, m.1 ∈ all := fun m hm => by rw [hall]; exact (allP_mem hm).1
      have hal := allP_len l at_
      have hget : ∀ i (h : i < at_.length) (h' : i < all.length), all[i] = at_[i] := by
        intro i h h'
        simp only [hall, allP]
        exact List.getElem_append_left h
      have hend := one_end l at_ vals
      rw [← hall] at hown hal hend ⊢
      have hsa := hown.seg
      obtain ⟨w3, rfl⟩ : ∃ w3 : World, w3 = wr := ⟨_, rfl⟩
      have hcall := refAtOnce_calls [] all vals none A3 A2 0 c3 c2 w3 (Seg.nil _ _) hsa (hv.keep hkeep) (by simp) (by omega) (by omega)
      have hal1 : all.length ≤ 4000 := by omega
      have hal2 : at_.length ≤ all.length := by omega
      clear hal
      have Hcall := Lib.hid hcall
      have Hin := Lib.hid hin
      have Hget := Lib.hid hget
      have Hend := Lib.hid hend
      clear hown hall hcall hin hget hend Ho1 ha1
      have ha3 := ha.keep hkeep
      have hv3 := hv.keep hkeep
      have hs3 := hs.keep hkeep
      go_wp2_with fail
      refine Hcall.out.mono ?_
      rintro e w4 ⟨v4, rfl, hown4, hk4⟩
      clear Hcall
      obtain ⟨now, hnow⟩ : ∃ now, now = atOnceSpec [] all vals := ⟨_, rfl⟩
      have hnl : now.length = all.length := by rw [hnow]; simp [atOnceSpec]
      rw [← hnow] at hown4
      clear hnow
      have Hown4 := Lib.hid hown4
      clear hown4
      go_wp2
      have hmx := fun i (hi : i ≤ all.length) => mixK_len (s := valueOf at_ vals) hnl i hi
      have hm0 : mixK all (valueOf at_ vals) now 0 = now := by simp [mixK]
      have hk34 := hkeep.trans hk4
      have Hmx := Lib.hid hmx
      have Hm0 := Lib.hid hm0
      have Hnl := Lib.hid hnl
      clear hmx hm0 hnl
      go_loopw [10] (fun i wr => ∃ k : Nat, k ≤ at_.length ∧ i = .int .i64 k ∧ Own u64C 1 39 wr w3.heap.size v4 (mixK all (valueOf at_ vals) now k) ∧ Keep w3 wr) (fun i _ => at_.length - (intOf i).toNat)
      case atStart => exact ⟨0, Nat.zero_le _, rfl, by rw [Hm0.out]; exact Hown4.out, hk4⟩
      case round =>
        obtain ⟨k, hk, rfl, hown5, hkp⟩ := hrel
        by_cases hlt : k < at_.length
        · have hall : k < all.length := by omega
          have hml := Hmx.out k (by omega)
          obtain ⟨g, c5, rfl, hg, hgb, _⟩ := own_at hown5 (by omega)
          rw [hml]
          have hkk : (k : Int) < (at_.length : Int) := by omega
          have hkk2 : (k : Int) < (all.length : Int) := by omega
          have hk0 : (0 : Int) ≤ (k : Int) := by omega
          obtain ⟨b, off, rfl, hb, d0, d1⟩ := plc_at ha3 hkp hlt
          have Hc := Lib.hid (refHas_calls at_[k] at_ vals (some ⟨b, off, none⟩) A2 c1 c2 wr (ha3.keep hkp) (hv3.keep hkp) (by omega) (by omega))
          have Hown5 := Lib.hid hown5
          clear hown5 hml
          go_wp2_with fail
          refine Hc.out.mono ?_
          rintro e w5 ⟨rfl, hk5⟩
          have hown6 := Hown5.out.keep hk5
          obtain ⟨⟨old, cc⟩, hfz, _⟩ := own_store hown6 k (by rw [Hmx.out k (by omega)]; exact hall)
          have hnx := mixK_next (s := valueOf at_ vals) Hnl.out hall
          rw [Hget.out k hlt hall] at hnx
          have Hset := Lib.hid (show Own u64C 1 39 (w5.setCell ⟨g, k, none⟩ (.int .u64 (valueOf at_ vals at_[k]))) w3.heap.size (.slice (some ⟨g, 0, none⟩) (mixK all (valueOf at_ vals) now k).length c5) (mixK all (valueOf at_ vals) now (k + 1)) by
            rw [← hnx]; exact Own.set1 hown6 k _)
          have Hkk := Lib.hid (show Keep w3 (w5.setCell ⟨g, k, none⟩ (.int .u64 (valueOf at_ vals at_[k]))) from (hkp.trans hk5).setCell hgb _)
          have Hml := Lib.hid (Hmx.out k (by omega))
          have hgl5 : g < w5.heap.size := Nat.lt_of_lt_of_le hg hk5.size
          clear hown6 hnx Hown5 Hc
          go_wp2
          go_roundw
          case rel => exact ⟨k + 1, hlt, by go_num, by rw [← Hml.out]; exact Hset.out, Hkk.out⟩
          case measure => simp [intOf]; omega
        · have hke : k = at_.length := by omega
          subst hke
          obtain ⟨A5, c5, rfl, _⟩ := hown5.form
          rw [Hmx.out _ hal2]
          have Hown5 := Lib.hid hown5
          obtain ⟨w5, rfl⟩ : ∃ w5 : World, w5 = wr := ⟨_, rfl⟩
          clear hown5
          go_wp2
          go_loopw [11] (fun i wr => ∃ k : Nat, k ≤ all.length ∧ i = .int .i64 k ∧ Own u64C 1 39 wr w3.heap.size (.slice A5 all.length c5) (mixK all (valueOf at_ vals) now k) ∧ Keep w3 wr) (fun i _ => all.length - (intOf i).toNat)
          case atStart => exact ⟨at_.length, hal2, rfl, by rw [← Hmx.out _ hal2]; exact Hown5.out, hkp⟩
          case round =>
            obtain ⟨k, hk, rfl, hown6, hkq⟩ := hrel
            by_cases hlt : k < all.length
            · have hml := Hmx.out k (by omega)
              obtain ⟨g, c6, hv6, hg, hgb, _⟩ := own_at hown6 (by omega)
              rw [hml] at hv6
              cases hv6
              have hkk : (k : Int) < (all.length : Int) := by omega
              have hk0 : (0 : Int) ≤ (k : Int) := by omega
              obtain ⟨b, off, rfl, hb, d0, d1⟩ := plc_at hsa hkq hlt
              have Hc := Lib.hid (refHas_calls all[k] at_ vals A1 A2 c1 c2 wr (ha3.keep hkq) (hv3.keep hkq) (by omega) (by omega))
              have Hown6 := Lib.hid hown6
              clear hown6 hml
              go_wp2_with fail
              refine Hc.out.mono ?_
              rintro e w6 ⟨rfl, hk6⟩
              have hown7 := Hown6.out.keep hk6
              obtain ⟨⟨old, cc⟩, hfz, _⟩ := own_store hown7 k (by rw [Hmx.out k (by omega)]; exact hlt)
              have hnx := mixK_next (s := valueOf at_ vals) Hnl.out hlt
              have Hset := Lib.hid (show Own u64C 1 39 (w6.setCell ⟨g, k, none⟩ (.int .u64 (valueOf at_ vals all[k]))) w3.heap.size (.slice (some ⟨g, 0, none⟩) all.length c5) (mixK all (valueOf at_ vals) now (k + 1)) by
                rw [← hnx]; exact Own.set1 hown7 k _)
              have Hkk := Lib.hid (show Keep w3 (w6.setCell ⟨g, k, none⟩ (.int .u64 (valueOf at_ vals all[k]))) from (hkq.trans hk6).setCell hgb _)
              have hgl5 : g < w6.heap.size := Nat.lt_of_lt_of_le hg hk6.size
              clear hown7 hnx Hown6 Hc
              go_wp2
              go_roundw
              case rel => exact ⟨k + 1, hlt, by go_num, Hset.out, Hkk.out⟩
              case measure => simp [intOf]; omega
            · have hke : k = all.length := by omega
              subst hke
              rw [mixK_end Hnl.out] at hown6
              have Hown6 := Lib.hid hown6
              clear hown6 Hmx Hm0 Hnl Hown5 Hget Hown4
              go_wp2
              go_loopw [9, 12] (fun v i wr => ∃ k : Nat, k ≤ l.length ∧ i = .int .i64 k ∧ Own u64C 1 39 wr w3.heap.size v (all.map (seqS (valueOf at_ vals) (l.take k))) ∧ Keep w3 wr) (fun _ i _ => l.length - (intOf i).toNat)
              case atStart => exact ⟨0, Nat.zero_le _, rfl, Hown6.out, hkq⟩
              case round =>
                obtain ⟨k, hk, rfl, hown8, hkr⟩ := hrel
                obtain ⟨A8, c8, rfl, hcl8, hcm8⟩ := hown8.form
                by_cases hlt : k < l.length
                · have hl1 : (k : Int) + 1 ≤ (c : Int) := by omega
                  have hk0 : (0 : Int) ≤ (k : Int) := by omega
                  have hk1' : (k : Int) ≤ (k : Int) + 1 := by omega
                  have h4 : IntKind.i64.wrap ((k : Int) + 1) = (k : Int) + 1 := IntWalk.i64_in _ (by omega)
                  have h5 : ((k : Int) + 1).toNat = k + 1 := by omega
                  have hcne : ¬ c - k = 0 := by omega
                  have hsub : k + 1 - k = 1 := by omega
                  obtain ⟨b, off, rfl, hb, _⟩ := mv_at hs3 hkr hlt
                  have hseg : Seg wr (some ⟨b, off + k * 4, none⟩) (([l[k]] : List Mv).flatMap mvC) := by
                    have h0 := (Seg.cut (f := mvC) (s := 4) (fun _ => rfl) (hs3.keep hkr) k).take 4
                    have h1 : ((l.drop k).flatMap mvC).take 4 = ([l[k]] : List Mv).flatMap mvC := by
                      rw [List.drop_eq_getElem_cons hlt]; rfl
                    rw [h1] at h0
                    have h2 : ((some (⟨b, off, none⟩ : Addr)).map (·.add (k * 4))) = some ⟨b, off + k * 4, none⟩ := by
                      simp [Addr.add]
                    rw [h2] at h0
                    exact h0
                  have hcall := refAtOnce_calls [l[k]] all (all.map (seqS (valueOf at_ vals) (l.take k))) (some ⟨b, off + k * 4, none⟩) A3 A8 (c - k) c3 c8 wr hseg (hsa.keep hkr) hown8.seg (by simp) (by omega) (by simp; omega)
                  rw [atOnce_step _ hlt (Hin.out _ (List.getElem_mem hlt))] at hcall
                  rw [List.length_map] at hcall
                  have Hcall := Lib.hid hcall
                  clear hcall hown8 Hown6 hcl8 hcm8
                  go_wp2_with fail
                  refine Hcall.out.mono ?_
                  rintro e w9 ⟨v9, rfl, hown9, hk9⟩
                  have Hown9 := Lib.hid (hown9.mono hkr.size)
                  clear hown9 Hcall
                  go_wp2
                  go_roundw
                  case rel => exact ⟨k + 1, hlt, by go_num, Hown9.out, hkr.trans hk9⟩
                  case measure => simp [intOf]; omega
                · rw [List.take_of_length_le (by omega)] at hown8
                  rw [List.take_of_length_le (by omega)]
                  rw [List.length_map] at hcl8
                  have hkw : Keep w wr := hkeep.trans hkr
                  have hsg : Seg wr A8 (((all.map (seqS (valueOf at_ vals) l)).take at_.length).flatMap u64C) := by
                    rw [← flat_take u64C 1 (fun _ => rfl)]; exact hown8.seg.take _
                  rw [Hend.out] at hsg
                  have hol : (oneByOneSpec l at_ vals).length = at_.length := by simp [oneByOneSpec]
                  obtain ⟨v9, w9, ha9, ho9, hg9, _⟩ := append_run (ys := oneByOneSpec l at_ vals) elU (Own.empty u64C 1 39 wr hkw.size) (hsg.keep ((Keep.refl wr).alloc _)) c8 34 (by rw [hol]; simp [maxLen]; omega) (by rw [hol]; simp; omega) (by have := hkw.size; simp; omega)
                  have hkf : Keep w w9 := (hkw.alloc _).grown hg9 (fun j hj => by simp [Value.ownBlock] at hj; subst hj; exact hkw.size)
                  rw [hol] at ha9
                  have Hfin := Lib.hid (show Own u64C 1 39 w9 w.heap.size v9 (oneByOneSpec l at_ vals) by simpa using ho9)
                  have hb1 : (at_.length : Int) ≤ (c8 : Int) := by omega
                  clear ho9 hg9 hol hown8 Hown6
                  go_wp2_with (at_builtin; refine wpList_append_eq rfl _ _ _ rfl _ _ rfl rfl _ _ ha9 ?_)
                  go_ret
                  exact ⟨v9, rfl, Hfin.out, hkf⟩
end Go.Proofs.Ytpjckgmhcbhphaa
