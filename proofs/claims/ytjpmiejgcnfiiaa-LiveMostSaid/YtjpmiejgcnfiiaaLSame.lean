/-
  The reference's Same, of equal lists: two ranges that are equal.
-/
import Derived.Test.YtjpmiejgcnfiiaaLLives
set_option linter.unusedVariables false
set_option linter.unusedSimpArgs false
namespace Go.Proofs.Ytjpmiejgcnfiiaa
open Go Go.RowKit

theorem eql_ints {P : Program} {t : TypeId} {f0 f1 : Field} (hu : P.underlying t = some (.struct #[f0, f1])) (hp : P.stoodInHeld t = false)
    (h0 : P.underlying f0.type = some (.int .i64)) (h1 : P.underlying f1.type = some (.int .i64))
    (ho0 : f0.offset = 0) (ho1 : f1.offset = 1) (hn0 : f0.name ≠ "_") (hn1 : f1.name ≠ "_") (a b m n : Int) (w : World) :
    (binOp .eql t (.agg #[.int .i64 a, .int .i64 m]) (.agg #[.int .i64 b, .int .i64 n])).run P w = .ok (.bool (decide (((a, m) : Int × Int) = (b, n)))) w := by
  have hf : P.fieldsOf t = #[f0, f1] := by simp [Program.fieldsOf, hu]
  simp only [binOp, Op.equal, Op.maxDepth, Sem.run_bind]
  rw [run_equalIn_struct (P := P) w _ t _ _ (by rw [hf]; exact hu) hp, hf]
  by_cases hab : a = b <;> by_cases hmn : m = n <;>
    simp [Op.eqFields, hn0, hn1, ho0, ho1, part, isAgg, run_underlying h0, run_underlying h1, run_equalIn_int w _ _ _ _ _ _ h0, run_equalIn_int w _ _ _ _ _ _ h1, hab, hmn, Result.andThen]
theorem rngNe (r : Lv.Rng) (w : World) : (binOp .neq 50 (.agg #[.int .i64 r.1, .int .i64 r.2]) (.agg #[.int .i64 r.1, .int .i64 r.2])).run Try.prog w = .ok (.bool false) w := by
  have h := eql_ints Try.underlying50 (by kernel_rfl) Try.underlying3 Try.underlying3 rfl rfl (by decide) (by decide) r.1 r.1 r.2 r.2 w
  rw [decide_eq_true rfl] at h
  exact neq_of_eql h

set_option maxHeartbeats 4000000 in
theorem same_calls (ls ks : List LvD) (A B : Option Addr) (c d : Nat) (w : World) (ha : Lives w A ls) (hb : Lives w B ks) (he : ls.map (fun x => (x.val, x.l)) = ks.map (fun x => (x.val, x.l))) (hn : ls.length ≤ 1000000) :
    Calls Try.prog 10 #[.slice A ls.length c, .slice B ks.length d] w fun e w' => e = .returned (.bool true) ∧ Keep w w' := by
  have hlen : ks.length = ls.length := by have := congrArg List.length he; simpa using this.symm
  have HG := Lib.hid (show ∀ (i : Nat) (x : LvD), ls[i]? = some x → ∃ y, ks[i]? = some y ∧ y.val = x.val ∧ y.l = x.l from fun i x hx => by
    have h1 := congrArg (·[i]?) he
    simp only [List.getElem?_map, hx, Option.map_some] at h1
    cases hy : ks[i]? with
    | none => rw [hy] at h1; cases h1
    | some y =>
      rw [hy] at h1
      have h2 := Option.some.inj h1
      exact ⟨y, rfl, (congrArg Prod.fst h2).symm, (congrArg Prod.snd h2).symm⟩)
  rw [hlen]
  have Ha := Lib.hid ha
  have Hb := Lib.hid hb
  clear he hlen ha hb
  go_enter Try.func10, Try.ntmps10
  go_wp2_with fail
  go_loopw [5] (fun vi wr => ∃ i : Nat, i ≤ ls.length ∧ vi = .int .i64 i ∧ Hid (Keep w wr)) (fun vi _ => ls.length - (intOf vi).toNat)
  case atStart => exact ⟨0, Nat.zero_le _, rfl, Lib.hid (Keep.refl _)⟩
  case round =>
    obtain ⟨i, hi, rfl, hkeep⟩ := hrel
    by_cases hin : i < ls.length
    · obtain ⟨x, hx⟩ := get_some hin
      obtain ⟨y, hy, e1, e2⟩ := HG.out i x hx
      obtain ⟨xv, xa, xl, xc⟩ := x
      obtain ⟨yv, ya, yl, yc⟩ := y
      replace e1 : yv = xv := e1
      replace e2 : yl = xl := e2
      subst e1
      subst e2
      obtain ⟨bA, offA, hA, hbA, x0, x1, xok⟩ := Ha.out.get hkeep.out hx
      obtain ⟨bB, offB, hB, hbB, y0, y1, yok⟩ := Hb.out.get hkeep.out hy
      subst hA
      subst hB
      replace x0 : wr.cell? ⟨bA, offA + i * 2, none⟩ = some (.int .i64 yv) := x0
      replace x1 : wr.cell? ⟨bA, offA + i * 2 + 1, none⟩ = some (.slice xa yl.length xc) := x1
      replace y0 : wr.cell? ⟨bB, offB + i * 2, none⟩ = some (.int .i64 yv) := y0
      replace y1 : wr.cell? ⟨bB, offB + i * 2 + 1, none⟩ = some (.slice ya yl.length yc) := y1
      have hlm : yl.length ≤ maxLen := xok.len
      unfold maxLen at hlm
      have hbAl := Nat.lt_of_lt_of_le hbA hkeep.out.size
      have hbBl := Nat.lt_of_lt_of_le hbB hkeep.out.size
      have hii : (i : Int) < (ls.length : Int) := by omega
      have hi0 : (0 : Int) ≤ (i : Int) := by omega
      have hd : Keep wr wr.drew := (Keep.refl _).drew
      have kx0 := fun z : KW wr => z.cell x0
      have kx1 := fun z : KW wr => z.cell x1
      have ky0 := fun z : KW wr => z.cell y0
      have ky1 := fun z : KW wr => z.cell y1
      have Hx := Lib.hid hx
      have Hy := Lib.hid hy
      have Hkd := Lib.hid (hkeep.out.trans hd)
      clear hx hy xok yok
      go_wp2_with fail
      refine region_begin (S := fun w' => ∃ z : KW wr, w' = z.val) (by kernel_rfl) ?_
      refine region_take [0, 1, 2, 3, 4, 5, 6, 7, 8, 9, 10, 11, 12, 13, 14, 15, 16, 17, 18, 19, 20, 21, 22, 23, 24, 25] [] 0 (by kernel_rfl) (by kernel_rfl) (InK.mk' hd) ?_
      show wpQuiet _ _ _ _ [_, _, _, _, _, _, _, _, _, _, _, _, _, _, _, _, _, _, _, _, _, _, _, _, _, _] _
      repeat (go_big_quiet_step (fail))
      refine wpQuiet_nil ?_
      refine region_done (by kernel_rfl) ?_
      clear kx0 kx1 ky0 ky1 x0 x1 y0 y1 hbAl hbBl
      go_wp2_with fail
      go_loopw [6] (fun vk wr => ∃ k : Nat, k ≤ yl.length ∧ vk = .int .i64 k ∧ Hid (Keep w wr)) (fun vk _ => yl.length - (intOf vk).toNat)
      case atStart => exact ⟨0, Nat.zero_le _, rfl, Hkd⟩
      case round =>
        clear hkeep Hkd
        obtain ⟨k, hk, rfl, hkeep⟩ := hrel
        obtain ⟨_, _, e1, _, x0, x1, xok⟩ := Ha.out.get hkeep.out Hx.out
        cases e1
        obtain ⟨_, _, e1, _, y0, y1, yok⟩ := Hb.out.get hkeep.out Hy.out
        cases e1
        replace x1 : wr.cell? ⟨bA, offA + i * 2 + 1, none⟩ = some (.slice xa yl.length xc) := x1
        replace y1 : wr.cell? ⟨bB, offB + i * 2 + 1, none⟩ = some (.slice ya yl.length yc) := y1
        have hbAl := Nat.lt_of_lt_of_le hbA hkeep.out.size
        have hbBl := Nat.lt_of_lt_of_le hbB hkeep.out.size
        by_cases hkn : k < yl.length
        · obtain ⟨r, hr⟩ := get_some hkn
          obtain ⟨bR, offR, hR, hbR, r0, r1⟩ := rng_get xok.seg (Keep.refl _) hr
          obtain ⟨bQ, offQ, hQ, hbQ, q0, q1⟩ := rng_get yok.seg (Keep.refl _) hr
          replace hR : xa = some ⟨bR, offR, none⟩ := hR
          replace hQ : ya = some ⟨bQ, offQ, none⟩ := hQ
          subst hR
          subst hQ
          have hkk : (k : Int) < (yl.length : Int) := by omega
          have hk0 : (0 : Int) ≤ (k : Int) := by omega
          have hd : Keep wr wr.drew := (Keep.refl _).drew
          have kx1 := fun z : KW wr => z.cell x1
          have ky1 := fun z : KW wr => z.cell y1
          have kr0 := fun z : KW wr => z.cell r0
          have kr1 := fun z : KW wr => z.cell r1
          have kq0 := fun z : KW wr => z.cell q0
          have kq1 := fun z : KW wr => z.cell q1
          have eqv : ∀ z : KW wr, (binOp .neq 50 (.agg #[.int .i64 r.1, .int .i64 r.2]) (.agg #[.int .i64 r.1, .int .i64 r.2])).run Try.prog z.val = .ok (.bool false) z.val := fun z => rngNe r z.val
          have hmg : Try.prog.eqGuardType Try.prog.depth 50 = false := by kernel_rfl
          have Hrel := Lib.hid (hkeep.out.trans hd)
          clear xok yok hr r0 r1 q0 q1
          go_wp2_with fail
          refine region_begin (S := fun w' => ∃ z : KW wr, w' = z.val) (by kernel_rfl) ?_
          refine region_take [0, 1, 2, 3, 4, 5, 6, 7, 8, 9, 10, 11, 12, 13, 14, 15, 16] [] 0 (by kernel_rfl) (by kernel_rfl) (InK.mk' hd) ?_
          show wpQuiet _ _ _ _ [_, _, _, _, _, _, _, _, _, _, _, _, _, _, _, _, _] _
          repeat (go_big_quiet_step (fail))
          refine wpQuiet_nil ?_
          refine region_done (by kernel_rfl) ?_
          clear kx1 ky1 kr0 kr1 kq0 kq1 eqv x0 x1 y0 y1
          go_wp2
          go_roundw
          case rel => exact ⟨k + 1, hkn, by go_num, Hrel⟩
          case measure => simp [intOf]; omega
        · go_wp2
          go_roundw
          case rel => exact ⟨i + 1, hin, by go_num, hkeep⟩
          case measure => simp [intOf]; omega
    · go_wp2
      go_ret
      exact ⟨rfl, hkeep.out⟩
end Go.Proofs.Ytjpmiejgcnfiiaa
