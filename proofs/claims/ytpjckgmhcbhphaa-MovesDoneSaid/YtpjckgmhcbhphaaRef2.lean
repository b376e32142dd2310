/-
  The reference: without, Same.
-/
import Derived.Test.YtpjckgmhcbhphaaRef1
import Derived.Test.YtpjckgmhcbhphaaRegion
namespace Go.Proofs.Ytpjckgmhcbhphaa
open Go Go.RowKit

theorem Own.empty {α : Type} (f : α → List Value) (s : Nat) (e : TypeId) (w : World) {base : Nat} (hb : base ≤ w.heap.size) : Own f s e (w.alloc (.cells #[] e)) base (.slice (some ⟨w.heap.size, 0, none⟩) 0 0) [] := by
  show World.ownsRow _ base e s _ 0 []
  exact World.ownsRow_made w #[] 0 hb (by simp [maxLen]) (by simp)

theorem Seg.cut {α : Type} {f : α → List Value} {s : Nat} (hf : ∀ x, (f x).length = s) {w : World} {A : Option Addr} {l : List α} (h : Seg w A (l.flatMap f)) (k : Nat) : Seg w (A.map (·.add (k * s))) ((l.drop k).flatMap f) := by
  rw [← flat_drop f s hf]; exact h.drop _

theorem refWithout_calls (l : List Mv) (A : Option Addr) (c i : Nat) (w : World) (hs : Seg w A (l.flatMap mvC)) (hn : l.length ≤ 1000000) (hc : l.length ≤ c) (hi : i < l.length) :
    Calls Try.prog 26 #[.slice A l.length c, .int .i64 (i : Int)] w fun e w' => ∃ v, e = .returned v ∧ Own mvC 4 32 w' w.heap.size v (l.eraseIdx i) ∧ Keep w w' := by
  have h0 : (0 : Int) ≤ (i : Int) := by omega
  have h1 : (i : Int) ≤ (c : Int) := by omega
  have h2 : (0 : Int) ≤ (i : Int) + 1 := by omega
  have h3 : (i : Int) + 1 ≤ (l.length : Int) := by omega
  have h4 : IntKind.i64.wrap ((i : Int) + 1) = (i : Int) + 1 := IntWalk.i64_in _ (by omega)
  have h5 : ((i : Int) + 1).toNat = i + 1 := by omega
  have hc0 : ¬ c = 0 := by omega
  obtain ⟨i0, z0, hinf, _⟩ := elMv.info
  have hlt : (l.take i).length = i := by simp; omega
  have hld : (l.drop (i + 1)).length = l.length - (i + 1) := by simp
  have hs1 : Seg w A ((l.take i).flatMap mvC) := by rw [← flat_take mvC 4 (fun _ => rfl)]; exact hs.take _
  have hfin : l.take i ++ l.drop (i + 1) = l.eraseIdx i := (List.eraseIdx_eq_take_drop_succ l i).symm
  by_cases hce : c = i + 1
  · have hs2 : Seg w A ((l.drop (i + 1)).flatMap mvC) := by
      have : l.drop (i + 1) = [] := List.drop_eq_nil_of_le (by omega)
      rw [this]; exact Seg.nil _ _
    have Hlt := Lib.hid hlt
    have Hld := Lib.hid hld
    have Hfin := Lib.hid hfin
    have Hinf := Lib.hid hinf
    clear hlt hld hfin hinf
    go_enter Try.func26, Try.ntmps26
    go_wp2_with fail
    refine region_begin (S := fun w' => ∃ x : KW w, w' = x.val) (by kernel_rfl) ?_
    refine region_take [1, 2, 3, 5, 6, 7, 8] [] 4 (by kernel_rfl) (by kernel_rfl) (InK.mk' (Keep.drew (Keep.refl _))) ?_
    show wpQuiet _ _ _ _ (_ :: _ :: _ :: _ :: _ :: _ :: _ :: []) _
    repeat (go_big_quiet_step (fail))
    refine wpQuiet_nil ?_
    have hk0 : Keep w w.drew := Keep.drew (Keep.refl _)
    obtain ⟨v1, w1, ha1, ho1, hg1, hb1⟩ := append_run (ys := l.take i) elMv (Own.empty mvC 4 32 w.drew (Nat.le_refl _)) (hs1.keep (hk0.alloc _)) c 22 (by rw [Hlt.out]; simp [maxLen]; omega) (by rw [Hlt.out]; simp; omega) (by simp)
    have hk1 : Keep w w1 := (hk0.alloc _).grown hg1 (fun j hj => by simp [Value.ownBlock] at hj; subst hj; exact Nat.le_refl _)
    obtain ⟨v2, w2, ha2, ho2, hg2, hb2⟩ := append_run (ys := l.drop (i + 1)) elMv ho1 (hs2.keep hk1) 0 22 (by rw [List.nil_append, Hlt.out, Hld.out]; simp [maxLen]; omega) (by rw [List.nil_append, Hlt.out, Hld.out]; omega) hk1.size
    have hk2 : Keep w w2 := hk1.grown hg2 (fun j hj => (ho1.lt j hj).1)
    rw [Hlt.out] at ha1
    rw [Hld.out] at ha2
    refine region_fixU (i := 0) (fuel := 3) rfl rfl (by kernel_rfl) (fun K hK => ?_)
    refine wp_buildSlice0 22 32 rfl Try.underlying22 Hinf.out ?_
    refine hK _ _ (InK.mk' (hk0.alloc _)) ?_
    clear hK K
    refine region_fixU (i := 4) (fuel := 2) rfl rfl (by kernel_rfl) (fun K hK => ?_)
    subst hce
    refine wp_append_eq _ _ _ rfl _ _ rfl rfl _ _ ha1 ?_
    refine hK _ _ (InK.mk' hk1) ?_
    clear hK K
    refine region_fixU (i := 9) (fuel := 1) rfl rfl (by kernel_rfl) (fun K hK => ?_)
    refine wp_append_eq _ _ _ rfl _ _ rfl rfl _ _ ha2 ?_
    refine hK _ _ (InK.mk' hk2) ?_
    clear hK K
    simp only [Act.put, List.setIfInBounds_toArray, List.set_cons_succ, List.set_cons_zero]
    refine region_take [10] _ 0 (by kernel_rfl) (by kernel_rfl) (InK.mk' hk2) ?_
    show wpQuiet _ _ _ _ (_ :: []) _
    repeat (go_big_quiet_step (fail))
    refine wpQuiet_nil ?_
    refine region_done (by kernel_rfl) ?_
    go_wp2
    go_ret
    exact ⟨v2, rfl, by rw [← Hfin.out]; exact ho2, hk2⟩
  · have hs2 : Seg w (A.map (·.add ((i + 1) * 4))) ((l.drop (i + 1)).flatMap mvC) := Seg.cut (f := mvC) (s := 4) (fun _ => rfl) hs _
    have Hlt := Lib.hid hlt
    have Hld := Lib.hid hld
    have Hfin := Lib.hid hfin
    have Hinf := Lib.hid hinf
    clear hlt hld hfin hinf
    go_enter Try.func26, Try.ntmps26
    go_wp2_with fail
    refine region_begin (S := fun w' => ∃ x : KW w, w' = x.val) (by kernel_rfl) ?_
    refine region_take [1, 2, 3, 5, 6, 7, 8] [] 4 (by kernel_rfl) (by kernel_rfl) (InK.mk' (Keep.drew (Keep.refl _))) ?_
    show wpQuiet _ _ _ _ (_ :: _ :: _ :: _ :: _ :: _ :: _ :: []) _
    repeat (go_big_quiet_step (fail))
    refine wpQuiet_nil ?_
    have hk0 : Keep w w.drew := Keep.drew (Keep.refl _)
    obtain ⟨v1, w1, ha1, ho1, hg1, hb1⟩ := append_run (ys := l.take i) elMv (Own.empty mvC 4 32 w.drew (Nat.le_refl _)) (hs1.keep (hk0.alloc _)) c 22 (by rw [Hlt.out]; simp [maxLen]; omega) (by rw [Hlt.out]; simp; omega) (by simp)
    have hk1 : Keep w w1 := (hk0.alloc _).grown hg1 (fun j hj => by simp [Value.ownBlock] at hj; subst hj; exact Nat.le_refl _)
    obtain ⟨v2, w2, ha2, ho2, hg2, hb2⟩ := append_run (ys := l.drop (i + 1)) elMv ho1 (hs2.keep hk1) (c - (i + 1)) 22 (by rw [List.nil_append, Hlt.out, Hld.out]; simp [maxLen]; omega) (by rw [List.nil_append, Hlt.out, Hld.out]; omega) hk1.size
    have hk2 : Keep w w2 := hk1.grown hg2 (fun j hj => (ho1.lt j hj).1)
    rw [Hlt.out] at ha1
    rw [Hld.out] at ha2
    refine region_fixU (i := 0) (fuel := 3) rfl rfl (by kernel_rfl) (fun K hK => ?_)
    refine wp_buildSlice0 22 32 rfl Try.underlying22 Hinf.out ?_
    refine hK _ _ (InK.mk' (hk0.alloc _)) ?_
    clear hK K
    refine region_fixU (i := 4) (fuel := 2) rfl rfl (by kernel_rfl) (fun K hK => ?_)
    refine wp_append_eq _ _ _ rfl _ _ rfl rfl _ _ ha1 ?_
    refine hK _ _ (InK.mk' hk1) ?_
    clear hK K
    refine region_fixU (i := 9) (fuel := 1) rfl rfl (by kernel_rfl) (fun K hK => ?_)
    refine wp_append_eq _ _ _ rfl _ _ rfl rfl _ _ ha2 ?_
    refine hK _ _ (InK.mk' hk2) ?_
    clear hK K
    simp only [Act.put, List.setIfInBounds_toArray, List.set_cons_succ, List.set_cons_zero]
    refine region_take [10] _ 0 (by kernel_rfl) (by kernel_rfl) (InK.mk' hk2) ?_
    show wpQuiet _ _ _ _ (_ :: []) _
    repeat (go_big_quiet_step (fail))
    refine wpQuiet_nil ?_
    refine region_done (by kernel_rfl) ?_
    go_wp2
    go_ret
    exact ⟨v2, rfl, by rw [← Hfin.out]; exact ho2, hk2⟩

/-! ### Same -/
def mvEq (m n : Mv) : Bool := decide (m = n)
theorem eql_four {P : Program} {t : TypeId} {f0 f1 g0 g1 : Field} (hu : P.underlying t = some (.struct #[f0, f1])) (hp : P.stoodInHeld t = false) (hf : f0.type = f1.type) (hu1 : P.underlying f0.type = some (.struct #[g0, g1])) (hp1 : P.stoodInHeld f0.type = false)
    (hsz : (P.info? f0.type).map (·.size) = some 2) (h0 : P.underlying g0.type = some .bool) (h1 : P.underlying g1.type = some (.int .i64))
    (ho0 : f0.offset = 0) (ho1 : f1.offset = 2) (hn0 : f0.name ≠ "_") (hn1 : f1.name ≠ "_") (go0 : g0.offset = 0) (go1 : g1.offset = 1) (gn0 : g0.name ≠ "_") (gn1 : g1.name ≠ "_") (m n : Mv) (w : World) :
    (binOp .eql t (.agg #[.bool m.1.1, .int .i64 m.1.2, .bool m.2.1, .int .i64 m.2.2]) (.agg #[.bool n.1.1, .int .i64 n.1.2, .bool n.2.1, .int .i64 n.2.2])).run P w = .ok (.bool (mvEq m n)) w := by
  have hff : P.fieldsOf t = #[f0, f1] := by simp [Program.fieldsOf, hu]
  have hfg : P.fieldsOf f0.type = #[g0, g1] := by simp [Program.fieldsOf, hu1]
  cases hi0 : P.info? f0.type with
  | none => simp [hi0] at hsz
  | some i0 =>
  have z0 : i0.size = 2 := by simpa [hi0] using hsz
  have inner : ∀ (d : Nat) (a b : Bool) (x y : Int), (Op.equalIn (d + 2) f0.type (.agg #[.bool a, .int .i64 x]) (.agg #[.bool b, .int .i64 y])).run P w = .ok (decide (a = b ∧ x = y)) w := by
    intro d a b x y
    rw [run_equalIn_struct (P := P) w _ f0.type _ _ (by rw [hfg]; exact hu1) hp1, hfg]
    by_cases hab : a = b <;> by_cases hmn : x = y <;>
      simp [Op.eqFields, gn0, gn1, go0, go1, part, isAgg, run_underlying h0, run_underlying h1, run_equalIn_bool' w _ _ _ _ h0, run_equalIn_int w _ _ _ _ _ _ h1, hab, hmn, Result.andThen]
  simp only [binOp, Op.equal, Op.maxDepth, Sem.run_bind]
  rw [run_equalIn_struct (P := P) w _ t _ _ (by rw [hff]; exact hu) hp, hff]
  have e : mvEq m n = (decide (m.1.1 = n.1.1 ∧ m.1.2 = n.1.2) && decide (m.2.1 = n.2.1 ∧ m.2.2 = n.2.2)) := by
    rw [Bool.eq_iff_iff]; simp [mvEq, Prod.ext_iff]
  have hx0 := inner 9997 m.1.1 n.1.1 m.1.2 n.1.2
  have hx1 := inner 9997 m.2.1 n.2.1 m.2.2 n.2.2
  rw [e]
  cases hc0 : decide (m.1.1 = n.1.1 ∧ m.1.2 = n.1.2) <;> cases hc1 : decide (m.2.1 = n.2.1 ∧ m.2.2 = n.2.2) <;> rw [hc0] at hx0 <;> rw [hc1] at hx1 <;>
    simp [Op.eqFields, hn0, hn1, ho0, ho1, ← hf, part, isAgg, run_underlying hu1, sizeOf, typeInfo, hi0, z0, hx0, hx1, Result.andThen]

theorem mv_neq (m n : Mv) (w : World) : (binOp .neq 32 (.agg #[.bool m.1.1, .int .i64 m.1.2, .bool m.2.1, .int .i64 m.2.2]) (.agg #[.bool n.1.1, .int .i64 n.1.2, .bool n.2.1, .int .i64 n.2.2])).run Try.prog w = .ok (.bool (!mvEq m n)) w :=
  neq_of_eql (eql_four Try.underlying32 (by kernel_rfl) rfl Try.underlying24 (by kernel_rfl) (by kernel_rfl) Try.underlying4 Try.underlying3 rfl rfl (by decide) (by decide) rfl rfl (by decide) (by decide) m n w)

theorem refSame_calls (a b : List Mv) (A B : Option Addr) (c d : Nat) (w : World) (ha : Seg w A (a.flatMap mvC)) (hb : Seg w B (b.flatMap mvC)) (hn : a.length ≤ 1000000) (hm : b.length ≤ 1000000) :
    Calls Try.prog 12 #[.slice A a.length c, .slice B b.length d] w fun e w' => e = .returned (.bool (decide (a = b))) ∧ Keep w w' := by
  by_cases hl : a.length = b.length
  rotate_left
  · have Hf := Lib.hid (show decide (a = b) = false from decide_eq_false fun e => hl (by rw [e]))
    have hne : ((a.length : Int) != (b.length : Int)) = true := bne_iff_ne.2 (by omega)
    clear hl
    go_enter Try.func12, Try.ntmps12
    go_wp2
    go_ret
    exact ⟨by rw [Hf.out]; rfl, Keep.refl _⟩
  · have hne : ((a.length : Int) != (b.length : Int)) = false := by simp; omega
    have Hl := Lib.hid hl
    clear hl
    go_enter Try.func12, Try.ntmps12
    go_wp2
    go_loopw [5] (fun i wr => ∃ k : Nat, k ≤ a.length ∧ i = .int .i64 k ∧ a.take k = b.take k ∧ Keep w wr) (fun i _ => a.length - (intOf i).toNat)
    case atStart => exact ⟨0, Nat.zero_le _, rfl, by simp, Keep.refl _⟩
    case round =>
      obtain ⟨k, hk, rfl, heq0, hkeep⟩ := hrel
      have Heq := Lib.hid heq0
      clear heq0
      by_cases hlt : k < a.length
      · have hltb : k < b.length := by rw [← Hl.out]; exact hlt
        obtain ⟨ba, offa, rfl, _, c0, c1, c2, c3⟩ := mv_at ha hkeep hlt
        obtain ⟨bb, offb, rfl, _, d0, d1, d2, d3⟩ := mv_at hb hkeep hltb
        have hk0 : (0 : Int) ≤ (k : Int) := by omega
        have hka : (k : Int) < (a.length : Int) := by omega
        have hkb : (k : Int) < (b.length : Int) := by omega
        have hmn := mv_neq
        by_cases hq : a[k] = b[k]
        · have hd : mvEq a[k] b[k] = true := decide_eq_true hq
          have Hf := Lib.hid (show a.take (k + 1) = b.take (k + 1) by rw [take_snoc a hlt, take_snoc b hltb, Heq.out, hq])
          clear hq
          go_wp2_with fail
          go_quiet (fail)
          go_wp2
          go_roundw
          case rel => exact ⟨k + 1, hlt, by go_num, Hf.out, hkeep.drewN _⟩
          case measure => simp [intOf]; omega
        · have hd : mvEq a[k] b[k] = false := decide_eq_false hq
          have Hf := Lib.hid (show decide (a = b) = false from decide_eq_false fun e => hq (by subst e; rfl))
          clear hq
          go_wp2_with fail
          go_quiet (fail)
          go_wp2
          go_ret
          exact ⟨by rw [Hf.out]; rfl, hkeep.drewN _⟩
      · have Hf := Lib.hid (show decide (a = b) = true from decide_eq_true (by
          have h1 := Heq.out
          have h2 := Hl.out
          rwa [List.take_of_length_le (by omega), List.take_of_length_le (by omega)] at h1))
        go_wp2
        go_ret
        exact ⟨by rw [Hf.out]; rfl, hkeep⟩
end Go.Proofs.Ytpjckgmhcbhphaa
