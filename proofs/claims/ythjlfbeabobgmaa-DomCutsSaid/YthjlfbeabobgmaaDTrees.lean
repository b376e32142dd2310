/-
  The law DomTrees returns true.
-/
import Derived.Test.YthjlfbeabobgmaaDAlive
import Derived.Test.YthjlfbeabobgmaaDRefChild
import Derived.Test.YthjlfbeabobgmaaDDepth
namespace Go.Proofs.Ythjlfbeabobgmaa
open Go Go.RowKit

theorem quiet_same {P : Program} {f : FuncId} {args : Array Value} {w : World} {n : Nat} {v : Value}
    (h : Calls P f args (w.drewN n) fun e w' => e = .returned v ∧ w.drewN n = w') : Calls P f args (w.drewN n) fun e w'' => e = .returned v ∧ ∃ m, w'' = w.drewN m :=
  h.mono fun _ _ ⟨he, hm⟩ => ⟨he, n, hm.symm⟩

/-- Two slices of slices with the same rows. -/
structure Twins (w : World) (A B : Option Addr) (n : Nat) (L : Nat → List Int) : Prop where
  get : ∀ i, i < n → ∃ bo oo bp op x1 c1 x2 c2, A = some ⟨bo, oo, none⟩ ∧ B = some ⟨bp, op, none⟩ ∧ w.cell? ⟨bo, oo + i, none⟩ = some (.slice x1 (L i).length c1) ∧ w.cell? ⟨bp, op + i, none⟩ = some (.slice x2 (L i).length c2) ∧
    Seg w x1 ((L i).flatMap intC) ∧ Seg w x2 ((L i).flatMap intC)
theorem twins_of {w : World} {A B : Option Addr} {ra rb : List Row} {LL : List (List Int)} (ha : ra.map (·.l) = LL) (hb : rb.map (·.l) = LL) (hA : Seg w A (ra.flatMap rowC)) (hB : Seg w B (rb.flatMap rowC)) (ra' : ∀ x ∈ ra, Seg w x.a (x.l.flatMap intC)) (rb' : ∀ x ∈ rb, Seg w x.a (x.l.flatMap intC)) :
    Twins w A B LL.length (fun i => LL.getD i []) := ⟨fun i hi => by
  have hla : i < ra.length := by have := congrArg List.length ha; simp at this; omega
  have hlb : i < rb.length := by have := congrArg List.length hb; simp at this; omega
  have ea : ra[i].l = LL.getD i [] := by
    have e := congrArg (fun l => l[i]?) ha
    simp [hla, hi] at e
    simp [hi, e]
  have eb : rb[i].l = LL.getD i [] := by
    have e := congrArg (fun l => l[i]?) hb
    simp [hlb, hi] at e
    simp [hi, e]
  obtain ⟨bo, oo, e1, _, q1⟩ := row_at hA (Keep.refl _) hla
  obtain ⟨bp, op, e2, _, q2⟩ := row_at hB (Keep.refl _) hlb
  have s1 := ra' _ (List.getElem_mem hla)
  have s2 := rb' _ (List.getElem_mem hlb)
  rw [ea] at q1 s1
  rw [eb] at q2 s2
  exact ⟨bo, oo, bp, op, _, _, _, _, e1, e2, q1, q2, s1, s2⟩⟩
theorem Twins.keep {w w' : World} {A B : Option Addr} {n : Nat} {L : Nat → List Int} (h : Twins w A B n L) (hk : Keep w w') : Twins w' A B n L := ⟨fun i hi => by
  obtain ⟨bo, oo, bp, op, x1, c1, x2, c2, e1, e2, q1, q2, s1, s2⟩ := h.get i hi
  exact ⟨bo, oo, bp, op, x1, c1, x2, c2, e1, e2, hk.cell q1, hk.cell q2, s1.keep hk, s2.keep hk⟩⟩

set_option maxHeartbeats 2000000 in
set_option maxRecDepth 100000 in
theorem domTrees_walk (l : List Int) (A : Option Addr) (c : Nat) (a b : Int) (w : World) (hs : Seg w A (l.flatMap intC)) (hm : l.length ≤ maxLen) :
    Calls Try.prog 6 #[.slice A l.length c, .int .i64 a, .int .i64 b] w fun e w' => e = .returned (.bool true) ∧ Keep w w' := by
  unfold maxLen at hm
  by_cases hn : 100 < l.length
  · have dn : decide (100 < (l.length : Int)) = true := decide_eq_true (by omega)
    have dn' : decide (100 < l.length) = true := decide_eq_true hn
    have Ha := Lib.hid (alive_calls w)
    clear hs
    go_enter Try.func6, Try.ntmps6
    go_wp2_with fail
    refine Ha.out.mono ?_
    rintro e w1 ⟨rfl, hk⟩
    go_wp2_with fail
    go_ret
    exact ⟨rfl, hk⟩
  · have dn : decide (100 < (l.length : Int)) = false := decide_eq_false (by omega)
    have dn' : decide (100 < l.length) = false := decide_eq_false hn
    have Hc := Lib.hid (children_calls l A c w hs (by omega))
    have Hr := Lib.hid (fun (wx : World) (hk : Keep w wx) => refChildren_calls l A c wx (hs.keep hk) (by omega))
    have Ho := Lib.hid (fun (wx : World) (hk : Keep w wx) => over_calls l A c wx (hs.keep hk) (by omega) a b)
    have Hro := Lib.hid (fun (wx : World) (hk : Keep w wx) => refOver_calls l A c wx (hs.keep hk) (by omega) a b)
    have Hd := Lib.hid (fun (wx : World) (hk : Keep w wx) => depth_calls l A c wx (hs.keep hk) (by omega) a)
    have Hrd := Lib.hid (fun (wx : World) (hk : Keep w wx) => refDepth_calls l A c wx (hs.keep hk) (by omega) a)
    have Hcl := Lib.hid (childTo_len l l.length)
    have Hds := Lib.hid (Dom.depth_same l a)
    clear hs
    go_enter Try.func6, Try.ntmps6
    go_wp2_with fail
    refine Hc.out.mono ?_
    rintro e w1 ⟨rfl, hrows, hk1⟩
    go_wp2_with fail
    refine (Hr.out w1 hk1).mono ?_
    rintro e w2 ⟨v, rfl, hout, hk2⟩
    obtain ⟨ra, e1, h1, h2, _, _, _⟩ := (hrows.keep hk2).read
    obtain ⟨rb, B, d, e2, hv, h3, h4, _, _⟩ := hout.read
    have hlb : rb.length = l.length := by have := congrArg List.length e2; rw [List.length_map, childTo_len] at this; exact this
    rw [hlb] at hv
    subst hv
    have Htw := Lib.hid (show Twins w2 (some ⟨w.heap.size, 0, none⟩) B l.length (fun i => (childTo l l.length).getD i []) by
      have := twins_of e1 e2 h1 h3 h2 h4
      rw [childTo_len] at this; exact this)
    have Hk := Lib.hid (hk1.trans hk2)
    have dll : ((l.length : Int) != (l.length : Int)) = false := by simp
    clear hrows hk1 hk2 hout e1 e2 h1 h2 h3 h4 hlb Hc Hr
    go_wp2_with fail
    go_loopw [9] (fun i wr => ∃ k : Nat, k ≤ l.length ∧ i = .int .i64 (k : Int) ∧ ∃ nq, wr = w2.drewN nq) (fun i _ => l.length - (intOf i).toNat)
    case atStart => exact ⟨0, Nat.zero_le _, rfl, 0, rfl⟩
    case round =>
      obtain ⟨k, hk, rfl, nw, hnw⟩ := hrel
      have hkw : Keep w2 wr := by rw [hnw]; exact (Keep.refl _).drewN _
      have Hwq := Lib.hid hnw
      clear hnw
      by_cases hlk : k < l.length
      · have hkk : (k : Int) < (l.length : Int) := by omega
        have k0 : (0 : Int) ≤ (k : Int) := by omega
        obtain ⟨bo, oo, bp, op, x1, c1, x2, c2, e1, rfl, q1, q2, s1, s2⟩ := (Htw.out.keep hkw).get k hlk
        cases e1
        obtain ⟨L, hL⟩ : ∃ L, L = (childTo l l.length).getD k [] := ⟨_, rfl⟩
        have hLl : L.length ≤ 1000000 := by
          rw [hL, List.getD_eq_getElem?_getD, List.getElem?_eq_getElem (by rw [Hcl.out]; exact hlk)]
          show ((childTo l l.length)[k]'(by rw [Hcl.out]; exact hlk)).length ≤ _
          rw [childTo_get]; have := childF_le l l.length k; omega
        rw [← hL] at q1 q2 s1 s2
        have q1' : wr.cell? ⟨w.heap.size, k, none⟩ = some (.slice x1 L.length c1) := by simpa using q1
        have Hin := Lib.hid (fun n => refInts_drew L x1 x2 c1 c2 (wr.drewN n) (s1.keep ((Keep.refl _).drewN _)) (s2.keep ((Keep.refl _).drewN _)) hLl)
        clear hL s1 s2 q1
        clear hkw
        go_wp2_with fail
        go_quiet ((go_at_call 11; exact Calls.quiet_of (Hin.out _)))
        go_wp2_with fail
        go_roundw
        case rel => exact ⟨k + 1, hlk, by go_num, _, by rw [Hwq.out, World.drewN_drewN]⟩
        case measure => simp [intOf] <;> omega
      · have hge : ¬ (k : Int) < (l.length : Int) := by omega
        have Hkw := Lib.hid (Hk.out.trans hkw)
        clear hkw
        obtain ⟨wq, rfl⟩ : ∃ wq, wq = wr := ⟨_, rfl⟩
        have Hro' := Lib.hid (Hro.out wq Hkw.out)
        have Hrd' := Lib.hid (Hrd.out wq Hkw.out)
        rw [← Hds.out] at Hrd'
        have doo : ∀ x : Bool, (x == x) = true := fun x => by simp
        have ddd : ∀ x : Int, (x == x) = true := fun x => by simp
        go_wp2_with fail
        refine (Ho.out wq Hkw.out).mono ?_
        rintro e w' ⟨rfl, rfl⟩
        go_wp2_with fail
        refine Hro'.out.mono ?_
        rintro e w' ⟨rfl, rfl⟩
        go_wp2_with fail
        refine (Hd.out wq Hkw.out).mono ?_
        rintro e w' ⟨rfl, rfl⟩
        go_wp2_with fail
        refine Hrd'.out.mono ?_
        rintro e w' ⟨rfl, rfl⟩
        go_wp2_with fail
        refine (alive_calls wq).mono ?_
        rintro e w3 ⟨rfl, hk3⟩
        go_wp2_with fail
        go_ret
        exact ⟨rfl, Hkw.out.trans hk3⟩
end Go.Proofs.Ythjlfbeabobgmaa
