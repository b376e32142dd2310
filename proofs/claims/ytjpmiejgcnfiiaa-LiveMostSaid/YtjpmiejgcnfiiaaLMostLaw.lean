/-
  The law on Most: what it is given, opened; its walk.
-/
import Derived.Test.YtjpmiejgcnfiiaaLAlive
import Derived.Test.YtjpmiejgcnfiiaaLFew
import Derived.Test.YtjpmiejgcnfiiaaOpenW
set_option linter.unusedVariables false
set_option linter.unusedSimpArgs false
namespace Go.Proofs.Ytjpmiejgcnfiiaa
open Go Go.ChangeShapes Go.WideShapes Go.ChangeAt Go.RowKit

/-- A struct's fields, with their weights. -/
theorem opensW_struct {P : Program} {w : World} {t : TypeId} {α : Type} {fs : Array Field} (ht : P.underlying t = some (.struct fs)) {g : α → List Value} {ok : α → Prop}
    (h : ∀ cs : List Value, cs.length = P.cellsOf t → (∀ (i : Nat) (f : Field), fs[i]? = some f → ∃ (H : Type) (enc : TypeId × Value → H) (n : Nat) (y : DataW H × List MemPlace), DataW.trod enc P w 0 (fun _ => true) true n f.type ((cs.drop f.offset).take (P.cellsOf f.type)) = some y ∧ ∀ m ∈ y.1.weights P f.type, m ≤ reachBytes) → ∃ x, cs = g x ∧ ok x) : OpensW P w t g ok := fun H enc n cs y hy hw => by
  obtain ⟨xs, m, _, rfl, hl, hlen, hf⟩ := DataW.trod_struct ht hy
  simp only [DataW.weights, ht] at hw
  refine h cs hl fun i f hi => ?_
  obtain ⟨lt, _⟩ := Array.getElem?_eq_some_iff.1 hi
  obtain ⟨y0, e0⟩ : ∃ y0, xs[i]? = some y0 := ⟨_, List.getElem?_eq_getElem (by rw [hlen]; exact lt)⟩
  refine ⟨H, enc, m, y0, (hf i f hi).trans e0, fun q hq => hw q (DataW.weights_mem_each (j := i) (t := f.type) (d := y0.1) ?_ ?_ q hq)⟩
  · rw [List.getElem?_map, Array.getElem?_toList, hi]; rfl
  · rw [List.getElem?_map, e0]; rfl
theorem own : ownKnob Try.prog.godebug = none := by kernel_rfl
set_option maxRecDepth 100000 in
theorem opens_rng (w : World) : Opens Try.prog w 50 rngC (fun _ => True) :=
  opens_to (opens_two Try.underlying50 rfl (by kernel_rfl) (by kernel_rfl) (opens_int Try.underlying3) (opens_int Try.underlying3)) (fun x => ((x.1, x.2) : Lv.Rng)) (fun _ => rfl) (fun _ _ => trivial)
set_option maxRecDepth 100000 in
theorem opensW_live (w : World) : OpensW Try.prog w 28 lvC (fun x => LvOk w x ∧ x.l.length ≤ 17592186044416) :=
  opensW_struct Try.underlying28 fun cs hl hf => by
    have hc : Try.prog.cellsOf 28 = 2 := by kernel_rfl
    have hci : Try.prog.cellsOf 3 = 1 := by kernel_rfl
    have hcs : Try.prog.cellsOf 26 = 1 := by kernel_rfl
    have hb : Try.prog.bytesOf 50 = 16 := by kernel_rfl
    rw [hc] at hl
    obtain ⟨H0, enc0, n0, y0, t0, _⟩ := hf 0 _ rfl
    obtain ⟨H1, enc1, n1, y1, t1, w1⟩ := hf 1 _ rfl
    obtain ⟨m0, e0, _⟩ := opens_int (w := w) Try.underlying3 H0 enc0 _ _ _ t0
    obtain ⟨x1, e1, h1, h2, h3, h4, h5⟩ := opensW_slice (w := w) (s := 2) (f := rngC) Try.underlying26 (by kernel_rfl) (fun _ => rfl) (opens_rng w).light H1 enc1 _ _ _ t1 w1
    rw [hb] at h5
    unfold reachBytes at h5
    refine ⟨⟨m0, x1.1, x1.2.1, x1.2.2⟩, ?_, ⟨h1, Nat.le_trans h3 h4⟩, by show x1.2.1.length ≤ _; omega⟩
    match cs, hl with
    | [a, b], _ =>
      simp only [hci, hcs, List.drop_zero, List.drop_succ_cons, List.take_succ_cons, List.take_zero] at e0 e1
      have e0' : a = _ := (List.cons.inj e0).1
      have e1' : b = _ := (List.cons.inj e1).1
      rw [e0', e1']; rfl
set_option maxRecDepth 100000 in
/-- Live range lists that came in. -/
theorem open_lives {w : World} {b0 : Nat} {r : Reach} {v : Value} {H : Type} {enc : TypeId × Value → H} {d : DataW H} {ps : List MemPlace} (hv : Value.okWide Try.prog w r b0 22 v) (h : DataW.Trod enc Try.prog w 0 (fun _ => true) true 22 v d ps) (hw : ∀ m ∈ d.weights Try.prog 22, m ≤ reachBytes) :
    ∃ (A : Option Addr) (ls : List LvD) (c : Nat), v = .slice A ls.length c ∧ Lives w A ls ∧ ls.length ≤ 17592186044416 ∧ ∀ x ∈ ls, x.l.length ≤ 17592186044416 := by
  obtain ⟨A, l, c, rfl, h1, h2, h3, h4, h5⟩ := openW_list (s := 2) (f := lvC) Try.underlying22 (by kernel_rfl) (fun _ => rfl) (opensW_live w) hv h hw
  have hb : Try.prog.bytesOf 28 = 32 := by kernel_rfl
  rw [hb] at h5
  unfold reachBytes at h5
  exact ⟨A, l, c, rfl, ⟨h1, fun x hx => (h2 x hx).1⟩, by omega, fun x hx => (h2 x hx).2⟩

theorem lens_ge {ls : List LvD} {k : Nat} (hk : k ≤ 200) : ∀ n, n ≤ 200 → k ≤ n → lens ls k ≤ lens ls n := fun n hn hkn => by
  induction n with
  | zero => have : k = 0 := by omega
            subst this; exact Nat.le_refl _
  | succ n ih =>
    rcases Nat.lt_or_ge n k with h | h
    · have : k = n + 1 := by omega
      subst this; exact Nat.le_refl _
    · refine Nat.le_trans (ih (by omega) h) ?_
      cases hx : ls[n]? with
      | some x => rw [lens_succ hx]; omega
      | none =>
        have := List.getElem?_eq_none_iff.1 hx
        unfold lens; rw [List.take_of_length_le (by omega), List.take_of_length_le (by omega)]; exact Nat.le_refl _
theorem fewB_all {ls : List LvD} (h : fewB ls = true) : ls.length ≤ 80 ∧ ∀ x ∈ ls, x.l.length ≤ 160 := by
  unfold fewB at h
  rw [Bool.and_eq_true, decide_eq_true_eq, decide_eq_true_eq] at h
  refine ⟨h.1, fun x hx => ?_⟩
  obtain ⟨i, hi, e⟩ := List.getElem_of_mem hx
  have h1 : ls[i]? = some x := by rw [List.getElem?_eq_getElem hi, e]
  have h2 := lens_succ h1
  have h3 := lens_ge (ls := ls) (k := i + 1) (by omega) 200 (Nat.le_refl _) (by omega)
  omega

set_option maxHeartbeats 1000000 in
theorem liveMost_walk (ls : List LvD) (A : Option Addr) (c : Nat) (w : World) (h : Lives w A ls) (hn : ls.length ≤ 17592186044416) (hb : ∀ x ∈ ls, x.l.length ≤ 17592186044416) :
    Calls Try.prog 3 #[.slice A ls.length c] w fun e w' => e = .returned (.bool true) ∧ Keep w w' := by
  have hfew := few_calls ls A c w h (by omega) hb
  cases hf : fewB ls with
  | false =>
    rw [hf] at hfew
    have Hfew := Lib.hid hfew
    have Hal := Lib.hid (alive_calls w)
    clear hfew h hn hb hf
    go_enter Try.func3, Try.ntmps3
    go_wp2_with fail
    refine Hfew.out.mono ?_
    clear Hfew
    rintro e w' ⟨rfl, rfl⟩
    go_wp2_with fail
    refine Hal.out.mono ?_
    clear Hal
    rintro e w1 ⟨rfl, hk⟩
    have Hk := Lib.hid hk
    clear hk
    go_wp2
    go_ret
    exact ⟨rfl, Hk.out⟩
  | true =>
    rw [hf] at hfew
    obtain ⟨f1, f2⟩ := fewB_all hf
    have Hfew := Lib.hid hfew
    have hm := most_calls ls A c w h (by omega) (fun x hx => by have := f2 x hx; omega)
    have Hm := Lib.hid hm
    have Hl := Lib.hid h
    have Hf1 := Lib.hid f1
    clear hfew h hn hb hf hm f1 f2
    go_enter Try.func3, Try.ntmps3
    go_wp2_with fail
    refine Hfew.out.mono ?_
    clear Hfew
    rintro e w' ⟨rfl, rfl⟩
    go_wp2_with fail
    refine Hm.out.mono ?_
    clear Hm
    rintro e w1 ⟨m, rfl, hm1, hk1⟩
    have hr := refMost_calls A ls c w1 (Hl.out.keep hk1) (by have := Hf1.out; omega)
    have Hr := Lib.hid hr
    have Hm1 := Lib.hid hm1
    have Hk1 := Lib.hid hk1
    clear hr hm1 hk1
    go_wp2_with fail
    refine Hr.out.mono ?_
    clear Hr
    rintro e w2 ⟨⟨m2, rfl, hm2⟩, hk2⟩
    obtain rfl := Hm1.out m2 hm2
    have hmm : (m == m) = true := by simp
    have Hal := Lib.hid (alive_calls w2)
    have Hk2 := Lib.hid (Hk1.out.trans hk2)
    clear hm2 hk2 Hm1
    go_wp2_with fail
    refine Hal.out.mono ?_
    clear Hal
    rintro e w3 ⟨rfl, hk3⟩
    have Hk3 := Lib.hid (Hk2.out.trans hk3)
    clear hk3
    go_wp2
    go_ret
    exact ⟨rfl, Hk3.out⟩
end Go.Proofs.Ytjpmiejgcnfiiaa
