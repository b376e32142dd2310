/-
  The program's add: a range joins the row of its value.
-/
import Derived.Test.YtjpmiejgcnfiiaaLFound
import Derived.Test.YtjpmiejgcnfiiaaLLives
set_option linter.unusedVariables false
set_option linter.unusedSimpArgs false
namespace Go.Proofs.Ytjpmiejgcnfiiaa
open Go Go.RowKit

theorem elR : ElT Try.prog 26 50 2 16 rngC where
  slice := Try.underlying26
  info := info_of (z := .agg #[.int .i64 0, .int .i64 0]) (by kernel_rfl) rfl
  pos := by omega
  len := fun _ => rfl
  one := fun x u hu => by simp [rngC] at hu; rcases hu with rfl | rfl <;> rfl
/-- The rows of ranges: one for each value. -/
abbrev RgRows (w : World) (b base : Nat) (L : List (List Lv.Rng)) : Prop := RowsAt rngC 2 50 26 w b base L
/-- What a step on the rows may change: the array, the row of marks, rows of ranges. -/
def RngS (rb bl bm : Nat) (w : World) (k : Nat) : Prop := k = bl ∨ k = bm ∨ rb ≤ k ∧ ∃ cs fl, w.heap[k]? = some (.cells cs 50 fl)
theorem RngS.trans {rb bl bm : Nat} {a b c : World} (h : Ext (RngS rb bl bm a) a b) (k : Ext (RngS rb bl bm b) b c) : Ext (RngS rb bl bm a) a c := by
  refine h.trans k fun i hi hs => ?_
  rcases hs with rfl | rfl | ⟨hr, cs, fl, h1⟩
  · exact .inl rfl
  · exact .inr (.inl rfl)
  · rcases Classical.em (RngS rb bl bm a i) with h2 | h2
    · exact h2
    · rw [h.block i hi h2] at h1
      exact .inr (.inr ⟨hr, cs, fl, h1⟩)
theorem RngS.keep {rb bl bm : Nat} {a b : World} (h : Keep a b) : Ext (RngS rb bl bm a) a b := h.ext _
theorem Blk.rngS {rb bl bm : Nat} {w w' : World} {b : Nat} {t : TypeId} {cs : List Value} (h : Blk w b t cs) (hE : Ext (RngS rb bl bm w) w w') (h1 : b ≠ bl) (h2 : b ≠ bm) (h3 : t ≠ 50) : Blk w' b t cs := by
  refine h.ext hE fun hs => ?_
  rcases hs with e | e | ⟨_, cs', fl, h4⟩
  · exact h1 e
  · exact h2 e
  · unfold Blk at h
    rw [h] at h4; cases h4; exact h3 rfl
theorem Own.rngS {α : Type} {f : α → List Value} {s : Nat} {e : TypeId} {w w' : World} {base rb bl bm : Nat} {v : Value} {xs : List α} (h : Own f s e w base v xs) (hE : Ext (RngS rb bl bm w) w w') (h1 : ∀ k, v.ownBlock = some k → k ≠ bl ∧ k ≠ bm) (h3 : e ≠ 50) : Own f s e w' base v xs := by
  refine h.ext hE fun k hk hs => ?_
  rcases hs with e' | e' | ⟨_, cs', fl, h4⟩
  · exact (h1 k hk).1 e'
  · exact (h1 k hk).2 e'
  · rcases h.2 with ⟨rfl, _⟩ | ⟨g1, cap, cur, rfl, _, hh, _⟩
    · cases hk
    · simp only [Value.ownBlock, Option.some.injEq] at hk
      subst hk
      rw [hh] at h4; cases h4; exact h3 rfl
/-- The last range of a row is changed. -/
theorem rng_last (k : List Lv.Rng) (q q' : Lv.Rng) (h : q'.1 = q.1) : (k ++ [q']).flatMap rngC = ((k ++ [q]).flatMap rngC).set (k.length * 2 + 1) (.int .i64 q'.2) := by
  have hl := flat_length rngC 2 (fun _ => rfl) k
  rw [List.flatMap_append, List.flatMap_append, List.set_append, if_neg (by omega), hl, show k.length * 2 + 1 - k.length * 2 = 1 by omega]
  simp [rngC, h]
/-- A row's cell is written. -/
theorem RowsAt.edit {α : Type} {f : α → List Value} {s : Nat} {ei eo : TypeId} {w : World} {b base : Nat} {L : List (List α)} (hf : ∀ x, (f x).length = s) (hne : ei ≠ eo) (h : RowsAt f s ei eo w b base L) {a g n c : Nat} (ha : a < L.length) (hc : w.cell? ⟨b, a, none⟩ = some (.slice (some ⟨g, 0, none⟩) n c)) (j : Nat) (u : Value) {ys : List α} (hy : ys.flatMap f = (L[a].flatMap f).set j u) (hl : ys.length = L[a].length) :
    RowsAt f s ei eo (w.setCell ⟨g, j, none⟩ u) b base (L.set a ys) := by
  obtain ⟨vs, h1, h2, h3, h4⟩ := h
  have hva : vs[a]? = some (.slice (some ⟨g, 0, none⟩) n c) := by rw [← hc, h1.cell]
  have hoa := h3 a _ _ hva (List.getElem?_eq_getElem ha)
  have hgb : g ≠ b := hoa.blk_apart h1 hne rfl
  refine ⟨vs, h1.far (p := ⟨g, j, none⟩) (fun e => hgb e.symm) u, by simp [h2], fun i v l hv hli => ?_, h4⟩
  by_cases e : a = i
  · subst e
    rw [hva] at hv
    cases hv
    rw [List.getElem?_set_self ha] at hli
    cases hli
    exact hoa.put hf j u hy hl
  · rw [List.getElem?_set_ne e] at hli
    exact (h3 i v l hv hli).put_far (fun q hq e' => h4 a i _ _ g e hva hv rfl (by rw [hq, show q = g from e'])) u
theorem RowsAt.at_ {α : Type} {f : α → List Value} {s : Nat} {ei eo : TypeId} {w : World} {b base : Nat} {L : List (List α)} (h : RowsAt f s ei eo w b base L) {a : Nat} (ha : a < L.length) : ∃ A c, w.cell? ⟨b, a, none⟩ = some (.slice A L[a].length c) ∧ L[a].length ≤ c ∧ c ≤ maxLen ∧ Own f s ei w base (.slice A L[a].length c) L[a] := by
  obtain ⟨vs, h1, h2, h3, h4⟩ := h
  have hva : vs[a]? = some vs[a] := List.getElem?_eq_getElem (by omega)
  have ho := h3 a _ _ hva (List.getElem?_eq_getElem ha)
  obtain ⟨A, c, e, h5, h6⟩ := ho.form
  exact ⟨A, c, by rw [h1.cell, hva, e], h5, h6, by rw [← e]; exact ho⟩
theorem RowsAt.blk {α : Type} {f : α → List Value} {s : Nat} {ei eo : TypeId} {w : World} {b base : Nat} {L : List (List α)} (h : RowsAt f s ei eo w b base L) : ∃ vs, Blk w b eo vs := by
  obtain ⟨vs, h1, _⟩ := h
  exact ⟨vs, h1⟩

theorem RowsAt.push2 {α : Type} {f : α → List Value} {s : Nat} {ei eo : TypeId} {w : World} {base : Nat} {L : List (List α)} {P : Program} {ti : TypeId} {bytes : Nat} (E : ElT P ti ei s bytes f) (hne : ei ≠ eo) {b : Nat} (h : RowsAt f s ei eo w b base L) {a : Nat} (ha : a < L.length) (x : α) (hn : L[a].length < 1000000) (hby : bytes ≤ 1000) (hbase : base ≤ w.heap.size) (ty : TypeId) :
    ∃ A c, w.cell? ⟨b, a, none⟩ = some (.slice A L[a].length c) ∧ ∃ v' w2, (∃ A' c', v' = .slice A' (L[a].length + 1) c') ∧ (Builtin.append_ #[ti, ti] ty #[.slice A L[a].length c, .slice (some ⟨w.heap.size, 0, none⟩) 1 1]).run P (w.alloc (.cells (f x).toArray ei)) = .ok v' w2 ∧
      w2.cell? ⟨b, a, none⟩ = some (.slice A L[a].length c) ∧ w2.frozen? ⟨b, a, none⟩ = false ∧ b < w2.heap.size ∧
      RowsAt f s ei eo (w2.setCell ⟨b, a, none⟩ v') b base (L.set a (L[a] ++ [x])) ∧ Ext (fun k => k = b ∨ base ≤ k ∧ ∃ cs fl, w.heap[k]? = some (.cells cs ei fl)) w (w2.setCell ⟨b, a, none⟩ v') := by
  obtain ⟨vs, h1, h2, h3, h4⟩ := h
  have hv : vs[a]? = some vs[a] := List.getElem?_eq_getElem (by omega)
  have hl : L[a]? = some L[a] := List.getElem?_eq_getElem ha
  have ho := h3 a _ _ hv hl
  obtain ⟨A, c, hform, _⟩ := ho.form
  have hka : Keep w (w.alloc (.cells (f x).toArray ei)) := (Keep.refl _).alloc _
  have hseg : Seg (w.alloc (.cells (f x).toArray ei)) (some ⟨w.heap.size, 0, none⟩) ([x].flatMap f) := by
    have : [x].flatMap f = f x := by simp
    rw [this]
    exact Seg.of_blk (Blk.new w ei (f x))
  have hmul : (L[a].length + 1) * bytes ≤ (L[a].length + 1) * 1000 := Nat.mul_le_mul_left _ hby
  obtain ⟨v', w2, hrun, hown, hg, hgb⟩ := append_run (ys := [x]) E (ho.keep hka) hseg 1 ty (by simp [maxLen]; omega) (by simp; omega) (Nat.le_trans hbase hka.size)
  have hbr : ∀ k, vs[a].ownBlock = some k → k ≠ b := fun k hk => ho.blk_apart h1 hne hk
  have hb2 : Blk w2 b eo vs := by
    have hbk := h1.keep hka
    exact (hg.block b hbk.lt (fun e => hbr b e.symm rfl)).trans hbk
  have hE : Ext (fun k => k = b ∨ base ≤ k ∧ ∃ cs fl, w.heap[k]? = some (.cells cs ei fl)) w (w2.setCell ⟨b, a, none⟩ v') :=
    ((hka.ext _).grown hg (fun k hk _ => .inr (by
      rcases ho.2 with ⟨e, _⟩ | ⟨g1, cap, cur, e, hbg, hh, _⟩
      · rw [e] at hk; cases hk
      · rw [e] at hk
        simp only [Value.ownBlock, Option.some.injEq] at hk
        subst hk
        exact ⟨hbg, _, _, hh⟩))).setCell (p := ⟨b, a, none⟩) (fun _ => .inl rfl) v'
  refine ⟨A, c, ?_, v', w2, (by obtain ⟨A', c', e', _⟩ := hown.form; exact ⟨A', c', by rw [e']; simp⟩), by rw [← hform]; exact hrun, ?_, hb2.frozen a, hb2.lt, ⟨vs.set a v', hb2.set_ a v', by simp [h2], ?_, ?_⟩, hE⟩
  · rw [h1.cell, hv, hform]
  · rw [hb2.cell, hv, hform]
  · intro i v l hi hli
    by_cases e : a = i
    · subst e
      rw [List.getElem?_set_self (by omega)] at hi hli
      cases hi
      cases hli
      exact hown.put_far (fun k hk => hown.blk_apart hb2 hne hk) _
    · rw [List.getElem?_set_ne e] at hi hli
      have hoi := h3 i v l hi hli
      have hoi2 : Own f s ei w2 base v l := (hoi.keep hka).grown hg (by
        cases hq : v.ownBlock with
        | none => exact .inl rfl
        | some k => exact .inr fun e1 => h4 a i _ _ k e hv hi e1.symm hq)
      exact hoi2.put_far (fun k hk => hoi2.blk_apart hb2 hne hk) _
  · intro i j v u k hij hi hj hk
    by_cases ei' : a = i
    · subst ei'
      rw [List.getElem?_set_self (by omega)] at hi
      cases hi
      rw [List.getElem?_set_ne hij] at hj
      rcases hgb with e | e
      · exact h4 a j _ _ k hij hv hj (e ▸ hk)
      · intro hu
        have hjl : j < L.length := by have := (List.getElem?_eq_some_iff.1 hj).1; omega
        have h5 : k < w.heap.size := ((h3 j u L[j] hj (List.getElem?_eq_getElem hjl)).lt k hu).2
        rw [hk] at e
        have h6 := Option.some.inj e
        have h7 := hka.size
        omega
    · rw [List.getElem?_set_ne ei'] at hi
      by_cases ej : a = j
      · subst ej
        rw [List.getElem?_set_self (by omega)] at hj
        cases hj
        intro hu
        rcases hgb with e | e
        · exact h4 i a _ _ k hij hi hv hk (e ▸ hu)
        · have hil : i < L.length := by have := (List.getElem?_eq_some_iff.1 hi).1; omega
          have h5 : k < w.heap.size := ((h3 i v L[i] hi (List.getElem?_eq_getElem hil)).lt k hk).2
          rw [hu] at e
          have h6 := Option.some.inj e
          have h7 := hka.size
          omega
      · rw [List.getElem?_set_ne ej] at hj
        exact h4 i j v u k hij hi hj hk

set_option maxHeartbeats 4000000 in
theorem add_calls (L : List (List Lv.Rng)) (br bl bm base nv cl v : Nat) (x y : Int) (w : World) (cs : List Value) (hr : Blk w br 70 (.slice (some ⟨bl, 0, none⟩) nv cl :: cs)) (hL : RgRows w bl base L) (hlen : L.length = nv) (hv : v < nv) (hln : ∀ l ∈ L, l.length < 1000000) (hb : base ≤ w.heap.size) :
    Calls Try.prog 34 #[.pointer (some ⟨br, 0, none⟩), .int .i64 (v : Int), .int .i64 x, .int .i64 y] w fun e w' => (∃ u, e = .returned u) ∧ RgRows w' bl base (L.set v (Lv.joinR (L.getD v []) (x, y))) ∧ Ext (RngS base bl bm w) w w' := by
  have mixed : Try.prog.follows .mixedOrders = true := by kernel_rfl
  have hvL : v < L.length := by omega
  have c0 : w.cell? ⟨br, 0, none⟩ = some (.slice (some ⟨bl, 0, none⟩) nv cl) := hr.cell 0
  have lbr := hr.lt
  obtain ⟨A, c, q0, hc1, hc2, hown⟩ := hL.at_ hvL
  have eLv : L.getD v [] = L[v] := by rw [List.getD_eq_getElem?_getD, List.getElem?_eq_getElem hvL]; rfl
  have hlv := hln L[v] (List.getElem_mem hvL)
  obtain ⟨vs, hbl⟩ := hL.blk
  have lbl := hbl.lt
  have hvi : (v : Int) < (nv : Int) := by omega
  have hvi0 : (0 : Int) ≤ (v : Int) := by omega
  have Hr := Lib.hid hr
  have HL := Lib.hid hL
  unfold maxLen at hc2
  rw [eLv]
  have hd : Keep w w.drew := (Keep.refl _).drew
  have hbrl : br ≠ bl := hr.ne hbl (by decide)
  have kx := fun z : KB w br => z.cell c0
  rcases List.eq_nil_or_concat L[v] with hnil | ⟨k, q, hkq⟩
  · have hz : L[v].length = 0 := by rw [hnil]; rfl
    have hpush := (hL.keep hd).push2 (P := Try.prog) elR (by decide) hvL (x, y) (by omega) (by omega) hb 26
    obtain ⟨A', c', q0', v', w2, ⟨A2, c2', rfl⟩, hrun, d2, f2, l2, hR2, hE2⟩ := hpush
    rw [(hd.cell q0)] at q0'
    cases q0'
    have Hend := Lib.hid (show RgRows (w2.setCell ⟨bl, v, none⟩ (.slice A2 (L[v].length + 1) c2')) bl base (L.set v (Lv.joinR L[v] (x, y))) ∧ Ext (RngS base bl bm w) w (w2.setCell ⟨bl, v, none⟩ (.slice A2 (L[v].length + 1) c2')) from
      ⟨by rw [show Lv.joinR L[v] (x, y) = L[v] ++ [(x, y)] from by rw [hnil]; rfl]; exact hR2, by
        have hdx : Ext (RngS base bl bm w) w w.drew := hd.ext _
        refine hdx.trans hE2 fun k hk e => ?_
        rcases e with e | ⟨hrb, cs', fl, e⟩
        · exact .inl e
        · exact .inr (.inr ⟨hrb, cs', fl, e⟩)⟩)
    have Hk3 := Lib.hid (show (w2.setCell ⟨bl, v, none⟩ (.slice A2 (L[v].length + 1) c2')).heap[br]? = w.heap[br]? from hE2.block br lbr (fun e => by
      rcases e with e | ⟨hrb, cs', fl, e⟩
      · exact hbrl e
      · unfold Blk at hr
        have e : w.heap[br]? = _ := e
        rw [hr] at e; cases e))
    have Hk2 := Lib.hid (show w2.heap[br]? = w.heap[br]? from (Below.heap_setCell w2 ⟨bl, v, none⟩ (.slice A2 (L[v].length + 1) c2') br hbrl).symm.trans Hk3.out)
    have Hrun := Lib.hid hrun
    have hka : (w.drew.alloc (.cells #[.int .i64 x, .int .i64 y] 50)).heap[br]? = w.heap[br]? := (hd.alloc _).block br lbr
    obtain ⟨n, hn⟩ : ∃ n, L[v].length = n := ⟨_, rfl⟩
    have Hn := Lib.hid hn
    rw [hn] at q0 Hrun hc1 hlv d2 Hend Hk3
    have hrunX := Hrun.out
    have Hrun : Hid ((Builtin.append_ #[26, 26] 26 #[.slice A n c, .slice (some ⟨w.heap.size, 0, none⟩) 1 1]).run Try.prog (w.drew.alloc (.cells #[.int .i64 x, .int .i64 y] 50)) = .ok (.slice A2 (n + 1) c2') w2) := Lib.hid hrunX
    have hn0 : n = 0 := by omega
    subst hn0
    clear hr hL hown hbl hnil hz hn hln hlen eLv hb hE2 hR2 hrun hrunX
    go_enter Try.func34, Try.ntmps34
    go_wp2_with fail
    refine region_begin (S := fun w' => ∃ z : KB w br, w' = z.val) (by kernel_rfl) ?_
    refine region_take [0, 1, 2, 3, 4, 5, 6, 7, 8] [] 4 (by kernel_rfl) (by kernel_rfl) (KB.mk' rfl) ?_
    show wpQuiet _ _ _ _ [_, _, _, _, _, _, _, _, _] _
    repeat (go_big_quiet_step (fail))
    refine wpQuiet_nil ?_
    refine region_fixU (i := 9) (fuel := 3) rfl rfl (by kernel_rfl) (fun K hK => ?_)
    go_simp
    refine hK _ _ (KB.mk' hka) ?_
    clear hK K
    refine region_fixU (i := 10) (fuel := 2) rfl rfl (by kernel_rfl) (fun K hK => ?_)
    refine wp_append_eq _ _ _ rfl _ _ rfl rfl _ _ Hrun.out ?_
    refine hK _ _ (KB.mk' Hk2.out) ?_
    clear hK K
    refine region_fixU (i := 11) (fuel := 1) rfl rfl (by kernel_rfl) (fun K hK => ?_)
    go_simp
    refine hK _ _ (KB.mk' Hk2.out) ?_
    clear hK K
    refine region_fixU (i := 12) (fuel := 0) rfl rfl (by kernel_rfl) (fun K hK => ?_)
    go_simp
    refine hK _ _ (KB.mk' Hk3.out) ?_
    clear hK K
    refine region_done (by kernel_rfl) ?_
    clear kx hka
    go_wp2
    refine bodyPost_end (results_none rfl _ _ _) rfl ⟨⟨_, rfl⟩, Hend.out.1, Hend.out.2⟩
  · rw [List.concat_eq_append] at hkq
    have hlk : L[v].length = k.length + 1 := by rw [hkq]; simp
    obtain ⟨g, c0', e, _, _, hgc⟩ := own_at hown (by omega)
    obtain rfl : A = some ⟨g, 0, none⟩ := by cases e; rfl
    have p2 : w.cell? ⟨g, k.length * 2 + 1, none⟩ = some (.int .i64 q.2) := hgc _ _ (by
      rw [flat_get rngC 2 (fun _ => rfl) L[v] k.length 1 (by omega) (by omega)]
      simp [hkq, rngC])
    have pf := hown.thawed (k.length * 2 + 1)
    have pl : g < w.heap.size := (hown.lt g rfl).2
    obtain ⟨n, hn⟩ : ∃ n, n = L[v].length := ⟨_, rfl⟩
    have hnk : (n : Int) - 1 = (k.length : Int) := by omega
    have hwk : IntKind.i64.wrap ((n : Int) - 1) = (k.length : Int) := by rw [hnk]; exact IntWalk.i64_in _ (by omega)
    have m0 : (0 : Int) ≤ (k.length : Int) := by omega
    have m1 : (k.length : Int) < (n : Int) := by omega
    have mp : decide (0 < n) = true := decide_eq_true (by omega)
    by_cases hj : x ≤ q.2
    · obtain ⟨mx, hmx⟩ : ∃ mx : Int, (if q.2 < y then y else q.2) = mx := ⟨_, rfl⟩
      have hmx2 : max q.2 y = mx := by rw [← hmx]; split <;> omega
      have Hend := Lib.hid (show RgRows (w.setCell ⟨g, k.length * 2 + 1, none⟩ (.int .i64 mx)) bl base (L.set v (Lv.joinR L[v] (x, y))) ∧ Ext (RngS base bl bm w) w (w.setCell ⟨g, k.length * 2 + 1, none⟩ (.int .i64 mx)) from
        ⟨by
          rw [hkq, Lv.joinR_in hj]
          show RgRows _ _ _ (L.set v (k ++ [(q.1, max q.2 y)]))
          rw [hmx2]
          refine RowsAt.edit (f := rngC) (s := 2) (ei := 50) (eo := 26) (fun _ => rfl) (by decide) hL hvL q0 _ _ ?_ (by rw [hkq]; simp)
          rw [hkq]
          exact rng_last k q (q.1, mx) rfl, (Ext.refl _ _).setCell (p := ⟨g, k.length * 2 + 1, none⟩) (fun _ => by
            rcases hown.2 with ⟨e, _⟩ | ⟨g1, cap, cur, e, hbg, hh, _⟩
            · cases e
            · cases e
              exact .inr (.inr ⟨hbg, _, _, hh⟩)) _⟩)
      rw [← hn] at q0 hc1 hlv
      clear hr hL hown hbl hkq hlk hnk hn hgc e eLv hln hlen hb kx hmx2
      go_enter Try.func34, Try.ntmps34
      go_wp2_with fail
      refine bodyPost_ret (results_none rfl _ _ _) rfl ⟨⟨_, rfl⟩, Hend.out.1, Hend.out.2⟩
    · have hjd : decide (x ≤ q.2) = false := decide_eq_false hj
      have hpush := (hL.keep hd).push2 (P := Try.prog) elR (by decide) hvL (x, y) (by omega) (by omega) hb 26
      obtain ⟨A', c', q0', v', w2, ⟨A2, c2', rfl⟩, hrun, d2, f2, l2, hR2, hE2⟩ := hpush
      rw [(hd.cell q0)] at q0'
      cases q0'
      have Hend := Lib.hid (show RgRows (w2.setCell ⟨bl, v, none⟩ (.slice A2 (L[v].length + 1) c2')) bl base (L.set v (Lv.joinR L[v] (x, y))) ∧ Ext (RngS base bl bm w) w (w2.setCell ⟨bl, v, none⟩ (.slice A2 (L[v].length + 1) c2')) from
        ⟨by rw [show Lv.joinR L[v] (x, y) = L[v] ++ [(x, y)] from by rw [hkq, Lv.joinR_out hj]]; exact hR2, by
          have hdx : Ext (RngS base bl bm w) w w.drew := hd.ext _
          refine hdx.trans hE2 fun k hk e => ?_
          rcases e with e | ⟨hrb, cs', fl, e⟩
          · exact .inl e
          · exact .inr (.inr ⟨hrb, cs', fl, e⟩)⟩)
      have Hk3 := Lib.hid (show (w2.setCell ⟨bl, v, none⟩ (.slice A2 (L[v].length + 1) c2')).heap[br]? = w.heap[br]? from hE2.block br lbr (fun e => by
        rcases e with e | ⟨hrb, cs', fl, e⟩
        · exact hbrl e
        · unfold Blk at hr
          have e : w.heap[br]? = _ := e
          rw [hr] at e; cases e))
      have Hk2 := Lib.hid (show w2.heap[br]? = w.heap[br]? from (Below.heap_setCell w2 ⟨bl, v, none⟩ (.slice A2 (L[v].length + 1) c2') br hbrl).symm.trans Hk3.out)
      have Hrun := Lib.hid hrun
      have hka : (w.drew.alloc (.cells #[.int .i64 x, .int .i64 y] 50)).heap[br]? = w.heap[br]? := (hd.alloc _).block br lbr
      
      replace hn := hn.symm
      rw [hn] at q0 Hrun hc1 hlv d2 Hend Hk3
      have hrunX := Hrun.out
      have Hrun : Hid ((Builtin.append_ #[26, 26] 26 #[.slice (some ⟨g, 0, none⟩) n c, .slice (some ⟨w.heap.size, 0, none⟩) 1 1]).run Try.prog (w.drew.alloc (.cells #[.int .i64 x, .int .i64 y] 50)) = .ok (.slice A2 (n + 1) c2') w2) := Lib.hid hrunX
      clear hr hL hown hbl hkq hlk hnk hn hgc e eLv hln hlen hb hE2 hR2 hrun hrunX pf
      go_enter Try.func34, Try.ntmps34
      go_wp2_with fail
      refine region_begin (S := fun w' => ∃ z : KB w br, w' = z.val) (by kernel_rfl) ?_
      refine region_take [0, 1, 2, 3, 4, 5, 6, 7, 8] [] 4 (by kernel_rfl) (by kernel_rfl) (KB.mk' rfl) ?_
      show wpQuiet _ _ _ _ [_, _, _, _, _, _, _, _, _] _
      repeat (go_big_quiet_step (fail))
      refine wpQuiet_nil ?_
      refine region_fixU (i := 9) (fuel := 3) rfl rfl (by kernel_rfl) (fun K hK => ?_)
      go_simp
      refine hK _ _ (KB.mk' hka) ?_
      clear hK K
      refine region_fixU (i := 10) (fuel := 2) rfl rfl (by kernel_rfl) (fun K hK => ?_)
      refine wp_append_eq _ _ _ rfl _ _ rfl rfl _ _ Hrun.out ?_
      refine hK _ _ (KB.mk' Hk2.out) ?_
      clear hK K
      refine region_fixU (i := 11) (fuel := 1) rfl rfl (by kernel_rfl) (fun K hK => ?_)
      go_simp
      refine hK _ _ (KB.mk' Hk2.out) ?_
      clear hK K
      refine region_fixU (i := 12) (fuel := 0) rfl rfl (by kernel_rfl) (fun K hK => ?_)
      go_simp
      refine hK _ _ (KB.mk' Hk3.out) ?_
      clear hK K
      refine region_done (by kernel_rfl) ?_
      clear kx hka
      go_wp2
      refine bodyPost_end (results_none rfl _ _ _) rfl ⟨⟨_, rfl⟩, Hend.out.1, Hend.out.2⟩
end Go.Proofs.Ytjpmiejgcnfiiaa
