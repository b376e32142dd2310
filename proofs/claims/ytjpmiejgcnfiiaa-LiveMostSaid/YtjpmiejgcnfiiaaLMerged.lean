/-
  The program's merged: disjoint ranges in increasing order.
-/
import Derived.Test.YtjpmiejgcnfiiaaLClone
import Derived.Test.YtjpmiejgcnfiiaaLSort
import Derived.Shelf.SlSortCmp.NoneTotal
import Derived.StillTailTactics
set_option linter.unusedVariables false
set_option linter.unusedSimpArgs false
namespace Go.Proofs.Ytjpmiejgcnfiiaa
open Go Go.RowKit Go.Shelf Go.Lib Go.Sort Go.Proofs

set_option maxHeartbeats 1000000 in
theorem mergedCmp_calls (x y : Lv.Rng) (W : World) : Calls Try.prog 25 #[.agg (rngC x).toArray, .agg (rngC y).toArray] W fun e w' => e = .returned (.int .i64 (Lib.compareInt x.1 y.1)) ∧ ∃ q os', w' = grow (W.drewN q) os' := by
  have hcon := fun W' => compare_calls x.1 y.1 W'
  generalize Lib.compareInt x.1 y.1 = r at hcon ⊢
  show Calls Try.prog _ #[.agg #[.int .i64 x.1, .int .i64 x.2], .agg #[.int .i64 y.1, .int .i64 y.2]] W _
  go_enter Try.func25, Try.ntmps25
  go_wp2_with (go_at_call 26; refine (hcon _).mono ?_; rintro e w' ⟨rfl, rfl⟩)
  go_ret
  exact ⟨rfl, 0, _, by rw [alloc_eq_grow, alloc_eq_grow, grow_grow]; rfl⟩

theorem lt_from (x y : Lv.Rng) : ltOf (fun x y : Lv.Rng => Lib.compareInt x.1 y.1) x y = decide (x.1 < y.1) := by
  unfold ltOf Lib.compareInt
  by_cases h1 : x.1 < y.1
  · simp [h1]
  · by_cases h2 : y.1 < x.1 <;> simp [h1, h2]
theorem swo_from : SWO (ltOf fun x y : Lv.Rng => Lib.compareInt x.1 y.1) where
  irrefl x := by rw [lt_from]; simp
  trans x y z h1 h2 := by rw [lt_from] at *; simp at *; omega
  ntrans x y z h1 h2 := by rw [lt_from] at *; simp at *; omega
/-- A sorted permutation, as lists. -/
theorem sorted_list {α : Type} [Inhabited α] {lt : α → α → Bool} {l : List α} {d : Array α} (hp : PermIn 0 l.toArray.size l.toArray d) (hs : SortedIn lt 0 l.toArray.size d) : d.size = l.length ∧ d.toList.Perm l ∧ d.toList.Pairwise fun a b => lt b a = false := by
  have h1 : d.size = l.length := by have := hp.1; simpa using this
  refine ⟨h1, ?_, ?_⟩
  · have := hp.2.2
    have e1 : d.extract 0 l.toArray.size = d := by rw [show l.toArray.size = d.size from hp.1.symm]; simp
    have e2 : l.toArray.extract 0 l.toArray.size = l.toArray := by simp
    rw [e1, e2] at this
    exact this
  · rw [List.pairwise_iff_getElem]
    intro i j hi hj hij
    have hi' : i < d.size := by simpa using hi
    have hj' : j < d.size := by simpa using hj
    have := hs i j (Nat.zero_le _) hij (by simpa [h1] using hj')
    rw [getElem!_pos d i hi', getElem!_pos d j hj'] at this
    exact this

theorem sortRng_calls (l : List Lv.Rng) (A : Option Addr) (c base : Nat) (w : World) (h : Own rngC 2 50 w base (.slice A l.length c) l) (hn : l.length ≤ 1000000) :
    Calls Try.prog 24 #[.slice A l.length c, .func (.func 25) #[] #[]] w fun e w' => ∃ d : List Lv.Rng, e = .returned (.tuple #[]) ∧ d.Perm l ∧ d.Pairwise (fun a b => a.1 ≤ b.1) ∧
      Own rngC 2 50 w' base (.slice A l.length c) d ∧ Ext (fun k => base ≤ k) w w' := by
  rcases h.2 with ⟨hv, h0⟩ | ⟨g, cap, cur, hv, hb, hh, _⟩
  · have hl : l = [] := List.eq_nil_of_length_eq_zero h0
    subst hl
    have hcon := AnyF.slices_SortFunc_none sortRng A c (.func (.func 25) #[] #[]) w
    change Calls Try.prog 24 _ _ _ at hcon
    refine hcon.mono ?_
    rintro e w' ⟨rfl, rfl⟩
    exact ⟨[], rfl, List.Perm.nil, .nil, h, Ext.refl _ _⟩
  · injection hv with h1 h2 h3
    subst h1
    have hcon := AnyQ.slices_SortFunc sortRng 2 Try.isAgg50 Try.sizeOf50 rngC (fun _ => rfl) (fun x v hv => by simp [rngC] at hv; rcases hv with rfl | rfl <;> rfl) (fun x y => Lib.compareInt x.1 y.1) swo_from 25 #[] g 0 c l.toArray w
      (enters_of Try.func25 (by kernel_rfl) rfl) (fun _ _ _ _ x y => mergedCmp_calls x y _) (Own.holdsK (f := rngC) (s := 2) (fun _ => rfl) h) ((Array.getElem?_eq_some_iff.1 hh).1) (by simp; omega)
    change Calls Try.prog 24 _ _ _ at hcon
    rw [show l.toArray.size = l.length by simp] at hcon
    refine hcon.mono ?_
    rintro e w' ⟨rfl, d, m, os, hp, hs, rfl⟩
    obtain ⟨e1, e2, e3⟩ := sorted_list (l := l) (by simpa using hp) (by simpa using hs)
    obtain ⟨o1, o2⟩ := Own.sorted (f := rngC) (s := 2) (fun _ => rfl) h d m os e1
    refine ⟨d.toList, rfl, e2, e3.imp fun {a b} hab => ?_, o1, o2.mono fun i _ e => by rw [e]; exact hb⟩
    rw [lt_from] at hab
    simpa using hab

/-- The program's fold. -/
def mf (l : List Lv.Rng) : List Lv.Rng := l.foldl Lv.mstep []
theorem mf_succ {l : List Lv.Rng} {k : Nat} {r : Lv.Rng} (h : l[k]? = some r) : mf (l.take (k + 1)) = Lv.mstep (mf (l.take k)) r := by
  unfold mf; rw [List.take_add_one, h]; simp
theorem mstep_len (out : List Lv.Rng) (r : Lv.Rng) : (Lv.mstep out r).length ≤ out.length + 1 := by
  unfold Lv.mstep
  split
  · omega
  · split
    · simp
    · split
      · simp
      · simp
theorem mf_len (l : List Lv.Rng) (k : Nat) : (mf (l.take k)).length ≤ k := by
  induction k with
  | zero => simp [mf]
  | succ k ih =>
    cases h : l[k]? with
    | none => rw [List.take_of_length_le (by have := List.getElem?_eq_none_iff.1 h; omega), ← List.take_of_length_le (l := l) (i := k) (List.getElem?_eq_none_iff.1 h)]; omega
    | some r => rw [mf_succ h]; have := mstep_len (mf (l.take k)) r; omega
theorem mf_mg {l : List Lv.Rng} (hs : l.Pairwise fun a b => a.1 ≤ b.1) : ∀ k, k ≤ l.length → Lv.Mg (l.take k) (mf (l.take k))
  | 0, _ => by simpa [mf] using Lv.Mg.nil
  | k + 1, hk => by
    have h : l[k]? = some l[k] := List.getElem?_eq_getElem hk
    have ih := mf_mg hs k (by omega)
    rw [mf_succ h, take_snoc l hk]
    refine ih.step fun s hs' => ?_
    obtain ⟨i, hi, e⟩ := List.getElem_of_mem hs'
    have hi' : i < k := by simp at hi; omega
    rw [← e, List.getElem_take]
    exact List.pairwise_iff_getElem.1 hs i k (by omega) hk hi'
theorem mf_snoc {l : List Lv.Rng} {k : Nat} {r q : Lv.Rng} {kk : List Lv.Rng} (h : l[k]? = some r) (hr : r.1 < r.2) (ho : mf (l.take k) = kk ++ [q]) : mf (l.take (k + 1)) = if r.1 ≤ q.2 then kk ++ [(q.1, max q.2 r.2)] else (kk ++ [q]) ++ [r] := by
  rw [mf_succ h, ho]
  unfold Lv.mstep
  rw [if_neg (by omega)]
  simp
theorem mf_first {l : List Lv.Rng} {k : Nat} {r : Lv.Rng} (h : l[k]? = some r) (hr : r.1 < r.2) (ho : mf (l.take k) = []) : mf (l.take (k + 1)) = [r] := by
  rw [mf_succ h, ho]
  unfold Lv.mstep
  rw [if_neg (by omega)]
  rfl
theorem mf_skip {l : List Lv.Rng} {k : Nat} {r : Lv.Rng} (h : l[k]? = some r) (hr : r.2 ≤ r.1) : mf (l.take (k + 1)) = mf (l.take k) := by
  rw [mf_succ h]
  unfold Lv.mstep
  rw [if_pos hr]

set_option maxHeartbeats 4000000 in
set_option maxRecDepth 100000 in
theorem merged_calls (l : List Lv.Rng) (A : Option Addr) (c : Nat) (w : World) (hs : Seg w A (l.flatMap rngC)) (hn : l.length ≤ 100000) :
    Calls Try.prog 13 #[.slice A l.length c] w fun e w' => ∃ v out, e = .returned v ∧ Own rngC 2 50 w' w.heap.size v out ∧ Lv.Mg l out ∧ out.length ≤ l.length ∧ Keep w w' := by
  have hcl := clone_calls l A c w hs (by omega)
  have Hcl := Lib.hid hcl
  obtain ⟨n, hnl⟩ : ∃ n, l.length = n := ⟨_, rfl⟩
  have Hnl := Lib.hid hnl
  rw [hnl] at hn ⊢
  clear hcl hs hnl
  go_enter Try.func13, Try.ntmps13
  go_wp2_with fail
  have hcl2 := Hcl.out
  rw [Hnl.out] at hcl2
  refine hcl2.mono ?_
  clear hcl2
  rintro e w1 ⟨v1, rfl, hown1, hk1⟩
  obtain ⟨A1, c1, rfl, hl1, hc1⟩ := hown1.form
  have hso := sortRng_calls l A1 c1 w.heap.size w1 hown1 (by rw [Hnl.out]; omega)
  rw [Hnl.out] at hso ⊢
  have Hso := Lib.hid hso
  have Hk1 := Lib.hid hk1
  clear hso hown1 hl1 hc1 hk1
  go_wp2_with fail
  refine Hso.out.mono ?_
  clear Hso
  rintro e w2 ⟨d, rfl, hp, hsd, hown2, hE2⟩
  have hdn : d.length = n := by rw [← Hnl.out]; exact hp.length_eq
  have Hk2 := Lib.hid (show Keep w w2 from Keep.of_ext Hk1.out hE2 (fun k hk e => by omega))
  have Hseg := Lib.hid hown2.segN.2
  have Hmg := Lib.hid (show Lv.Mg l (mf d) from by
    have := (mf_mg hsd d.length (Nat.le_refl _)).perm (pre' := l) (by rw [List.take_length]; exact hp)
    rwa [List.take_length] at this)
  have Hdn := Lib.hid hdn
  clear hp hsd hown2 hE2 hdn
  go_wp2_with fail
  go_loopw [4, 6, 7, 14] (fun vo _ _ vi wr => ∃ k : Nat, k ≤ n ∧ vi = .int .i64 k ∧ Hid (Own rngC 2 50 wr w2.heap.size vo (mf (d.take k))) ∧ Hid (Keep w2 wr)) (fun _ _ _ i _ => n - (intOf i).toNat)
  case atStart => exact ⟨0, Nat.zero_le _, rfl, Lib.hid (Own.nil _ _ _ _ _), Lib.hid (Keep.refl _)⟩
  case round =>
    obtain ⟨k, hk, rfl, hown, hkeep⟩ := hrel
    by_cases hin : k < n
    · obtain ⟨r, hr⟩ := get_some (l := d) (k := k) (by rw [Hdn.out]; exact hin)
      obtain ⟨bE, oE, hE, hbE, q0, q1⟩ := rng_get Hseg.out hkeep.out hr
      subst hE
      have lE := Nat.lt_of_lt_of_le hbE hkeep.out.size
      have k1 : (k : Int) < (n : Int) := by omega
      have k0 : (0 : Int) ≤ (k : Int) := by omega
      obtain ⟨x, y⟩ := r
      replace q0 : wr.cell? ⟨bE, oE + k * 2, none⟩ = some (.int .i64 x) := q0
      replace q1 : wr.cell? ⟨bE, oE + k * 2 + 1, none⟩ = some (.int .i64 y) := q1
      obtain ⟨wb, hwb, kb, bb⟩ := box2 wr 50 (.int .i64 x) (.int .i64 y)
      have y0 : wb.cell? ⟨wr.heap.size, 0, none⟩ = some (.int .i64 x) := bb.cell 0
      have y1 : wb.cell? ⟨wr.heap.size, 1, none⟩ = some (.int .i64 y) := bb.cell 1
      have yl := bb.lt
      have hlen := mf_len d k
      by_cases hxy : y ≤ x
      · have Hn := Lib.hid (show Own rngC 2 50 wb w2.heap.size u4 (mf (d.take (k + 1))) ∧ Keep w2 wb from ⟨by rw [mf_skip hr hxy]; exact hown.out.keep kb, hkeep.out.trans kb⟩)
        rw [hwb] at y0 y1 yl
        clear hown hkeep hr kb bb
        go_wp2
        rw [← hwb]
        go_roundw
        case rel => exact ⟨k + 1, hin, by go_num, Lib.hid Hn.out.1, Lib.hid Hn.out.2⟩
        case measure => simp [intOf]; omega
      · have hxyd : decide (y ≤ x) = false := decide_eq_false hxy
        obtain ⟨Ao, co, hform, hco1, hco2⟩ := hown.out.form
        subst hform
        have Hob := Lib.hid (hown.out.keep kb)
        have HkB := Lib.hid (hkeep.out.trans kb)
        have hlt : x < y := by omega
        obtain ⟨mo, hmo⟩ : ∃ mo, (mf (d.take k)).length = mo := ⟨_, rfl⟩
        rw [hmo] at hco1 hlen Hob ⊢
        unfold maxLen at hco2
        have Hpush := Lib.hid (show ∀ wq, Keep wb wq → ∃ A' c' w7, (Builtin.append_ #[26, 26] 26 #[.slice Ao mo co, .slice (some ⟨wq.heap.size, 0, none⟩) 1 1]).run Try.prog (wq.alloc (.cells #[.int .i64 x, .int .i64 y] 50)) = .ok (.slice A' (mo + 1) c') w7 ∧
            Own rngC 2 50 w7 w2.heap.size (.slice A' (mo + 1) c') (mf (d.take k) ++ [(x, y)]) ∧ Keep w2 w7 from fun wq hkq => by
          obtain ⟨A3, c3, e3, A', c', w7, hrun, ho7, hE7, _⟩ := (Hob.out.keep hkq).push1 (P := Try.prog) elR (x, y) (by rw [hmo]; omega) (by omega) (Nat.le_trans HkB.out.size hkq.size) 26
          cases e3
          rw [hmo] at hrun ho7
          exact ⟨A', c', w7, hrun, ho7, Keep.of_ext (HkB.out.trans hkq) hE7 (fun k hk e => by omega)⟩)
        rcases List.eq_nil_or_concat (mf (d.take k)) with hnil | ⟨kk, q, hkq⟩
        · have Hnx := Lib.hid (show mf (d.take (k + 1)) = mf (d.take k) ++ [(x, y)] by rw [mf_first hr hlt hnil, hnil]; rfl)
          have hmo0 : mo = 0 := by rw [← hmo, hnil]; rfl
          subst hmo0
          rw [hwb] at y0 y1 yl
          have Hwb := Lib.hid hwb
          clear hown hkeep hr kb bb hmo hnil hwb Hob
          go_wp2_with fail
          rw [← Hwb.out] at y0 y1 yl ⊢
          go_quiet (fail)
          obtain ⟨wq, hwq⟩ : ∃ wq, wb.drewN nq = wq := ⟨_, rfl⟩
          have hkq : Keep wb wq := by rw [← hwq]; exact (Keep.refl wb).drewN nq
          have z0 := hkq.cell y0
          have z1 := hkq.cell y1
          have zl := Nat.lt_of_lt_of_le yl hkq.size
          rw [hwq]
          obtain ⟨A', c', w7, hrun, ho7, hk7⟩ := Hpush.out wq hkq
          have Hn := Lib.hid (show Own rngC 2 50 w7 w2.heap.size (.slice A' (0 + 1) c') (mf (d.take (k + 1))) ∧ Keep w2 w7 from ⟨by rw [Hnx.out]; exact ho7, hk7⟩)
          clear hwq hkq ho7 hk7 Hpush Hnx y0 y1 yl
          go_wp2_with (at_builtin; refine wpList_append_eq rfl _ _ _ rfl _ _ rfl rfl _ _ hrun ?_; clear hrun)
          go_roundw
          case rel => exact ⟨k + 1, hin, by go_num, Lib.hid Hn.out.1, Lib.hid Hn.out.2⟩
          case measure => simp [intOf]; omega
        · rw [List.concat_eq_append] at hkq
          have hlk : mo = kk.length + 1 := by rw [← hmo, hkq]; simp
          have hnk : (mo : Int) - 1 = (kk.length : Int) := by omega
          have hwk : IntKind.i64.wrap ((mo : Int) - 1) = (kk.length : Int) := by rw [hnk]; exact IntWalk.i64_in _ (by omega)
          have m0 : (0 : Int) ≤ (kk.length : Int) := by omega
          have m1 : (kk.length : Int) < (mo : Int) := by omega
          have mp : decide (0 < mo) = true := decide_eq_true (by omega)
          have Hob2 := Hob.out
          rw [hkq] at Hob2
          obtain ⟨g, c0', e, gl, gb, hgc⟩ := own_at Hob2 (by simp)
          obtain rfl : Ao = some ⟨g, 0, none⟩ := by cases e; rfl
          have p2 : wb.cell? ⟨g, kk.length * 2 + 1, none⟩ = some (.int .i64 q.2) := hgc _ _ (by
            rw [flat_get rngC 2 (fun _ => rfl) (kk ++ [q]) kk.length 1 (by simp) (by omega)]
            simp [rngC])
          have pf := Hob2.thawed (kk.length * 2 + 1)
          have Hob2 := Lib.hid Hob2
          have Hwb := Lib.hid hwb
          have hgr : g ≠ wr.heap.size := fun e => by have := (hown.out.lt g rfl).2; omega
          by_cases hj : x ≤ q.2
          · have hsn := mf_snoc hr hlt hkq
            rw [if_pos hj] at hsn
            replace hsn : mf (d.take (k + 1)) = kk ++ [(q.1, max q.2 y)] := hsn
            have Hnx := Lib.hid hsn
            rw [hwb] at y0 y1 yl p2 pf gl
            clear hown hkeep hr kb bb hmo hwb Hob hkq hsn hlk hnk e hgc Hpush
            go_wp2_with fail
            rw [← Hwb.out] at y0 y1 yl p2 pf gl ⊢
            go_quiet (fail)
            obtain ⟨wq, hwq⟩ : ∃ wq, wb.drewN nq = wq := ⟨_, rfl⟩
            have hkq : Keep wb wq := by rw [← hwq]; exact (Keep.refl wb).drewN nq
            have z0 := hkq.cell y0
            have z1 := hkq.cell y1
            have zl := Nat.lt_of_lt_of_le yl hkq.size
            have z2 := hkq.cell p2
            have zf := (Hob2.out.keep hkq).thawed (kk.length * 2 + 1)
            have zg := Nat.lt_of_lt_of_le gl hkq.size
            have Hn := Lib.hid (show Own rngC 2 50 (wq.setCell ⟨g, kk.length * 2 + 1, none⟩ (.int .i64 (max q.2 y))).drew w2.heap.size (.slice (some ⟨g, 0, none⟩) mo co) (mf (d.take (k + 1))) ∧ Keep w2 (wq.setCell ⟨g, kk.length * 2 + 1, none⟩ (.int .i64 (max q.2 y))).drew from
              ⟨by
                rw [Hnx.out]
                exact (Own.put (f := rngC) (s := 2) (fun _ => rfl) (Hob2.out.keep hkq) _ _ (rng_last kk q (q.1, max q.2 y) rfl) (by simp)).keep ((Keep.refl _).drew), ((HkB.out.trans hkq).setCell (p := ⟨g, kk.length * 2 + 1, none⟩) (by exact gb) _).drew⟩)
            rw [hwq]
            clear hwq hkq y0 y1 yl p2 pf gl Hnx
            go_wp2_with fail
            go_still_tail 14, (by kernel_rfl)
            change wpList _ _ _ _ _ wq.drew
            go_wp2
            go_roundw
            case rel => exact ⟨k + 1, hin, by go_num, Lib.hid Hn.out.1, Lib.hid Hn.out.2⟩
            case measure => simp [intOf]; omega
          · have hjd : decide (x ≤ q.2) = false := decide_eq_false hj
            have Hnx := Lib.hid (show mf (d.take (k + 1)) = mf (d.take k) ++ [(x, y)] by rw [mf_snoc hr hlt hkq, if_neg hj, hkq])
            rw [hwb] at y0 y1 yl p2 pf gl
            clear hown hkeep hr kb bb hmo hwb Hob hkq hlk hnk e hgc
            go_wp2_with fail
            rw [← Hwb.out] at y0 y1 yl p2 pf gl ⊢
            go_quiet (fail)
            obtain ⟨wq, hwq⟩ : ∃ wq, wb.drewN nq = wq := ⟨_, rfl⟩
            have hkq : Keep wb wq := by rw [← hwq]; exact (Keep.refl wb).drewN nq
            have z0 := hkq.cell y0
            have z1 := hkq.cell y1
            have zl := Nat.lt_of_lt_of_le yl hkq.size
            rw [hwq]
            obtain ⟨A', c', w7, hrun, ho7, hk7⟩ := Hpush.out wq hkq
            have Hn := Lib.hid (show Own rngC 2 50 w7 w2.heap.size (.slice A' (mo + 1) c') (mf (d.take (k + 1))) ∧ Keep w2 w7 from ⟨by rw [Hnx.out]; exact ho7, hk7⟩)
            clear hwq hkq ho7 hk7 Hpush Hnx y0 y1 yl p2 pf gl
            go_wp2_with (at_builtin; refine wpList_append_eq rfl _ _ _ rfl _ _ rfl rfl _ _ hrun ?_; clear hrun)
            go_roundw
            case rel => exact ⟨k + 1, hin, by go_num, Lib.hid Hn.out.1, Lib.hid Hn.out.2⟩
            case measure => simp [intOf]; omega
    · have hkn : n = k := by omega
      subst hkn
      have hown2 := hown.out
      rw [List.take_of_length_le (by rw [Hdn.out]; exact Nat.le_refl _)] at hown2
      have Hr := Lib.hid (show Own rngC 2 50 wr w.heap.size u4 (mf d) ∧ Keep w wr ∧ (mf d).length ≤ n from ⟨hown2.mono Hk2.out.size, Hk2.out.trans hkeep.out, by have := mf_len d n; rwa [List.take_of_length_le (by rw [Hdn.out]; exact Nat.le_refl _)] at this⟩)
      clear hown hown2 hkeep
      go_wp2
      go_ret
      exact ⟨_, _, rfl, Hr.out.1, Hmg.out, Hr.out.2.2, Hr.out.2.1⟩
end Go.Proofs.Ytjpmiejgcnfiiaa
