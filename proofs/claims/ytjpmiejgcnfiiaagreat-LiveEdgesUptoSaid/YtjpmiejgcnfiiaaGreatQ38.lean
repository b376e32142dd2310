import Derived.Test.YtjpmiejgcnfiiaaGreatQ11
import Derived.Test.YtjpmiejgcnfiiaaGreatQ3
import Derived.Shelf.SlSortCmp.WholeK
import Derived.Shelf.SlGeneric
set_option linter.unusedVariables false
set_option linter.unusedSimpArgs false
namespace Go.Proofs.YtjpmiejgcnfiiaaGreat
open Go Go.RowKit

theorem eql_ints {P : Program} {t : TypeId} {f0 f1 : Field} (hu : P.underlying t = some (.struct #[f0, f1])) (hp : P.stoodInHeld t = false)
  (h0 : P.underlying f0.type = some (.int .i64)) (h1 : P.underlying f1.type = some (.int .i64))
  (ho0 : f0.offset = 0) (ho1 : f1.offset = 1) (hn0 : f0.name ≠ "_") (hn1 : f1.name ≠ "_") (a b m n : Int) (w : World) :
  (binOp .eql t (.agg #[.int .i64 a, .int .i64 m]) (.agg #[.int .i64 b, .int .i64 n])).run P w = .ok (.bool (decide (((a, m) : Int × Int) = (b, n)))) w := by
 have hf : P.fieldsOf t = #[f0, f1] := by simp [Program.fieldsOf, hu]
 simp only [binOp, Op.equal, Op.maxDepth, Sem.run_bind]
 rw [run_equalIn_struct (P := P) w _ t _ _ (by rw [hf]; exact hu) hp, hf]
 by_cases hab : a = b <;> by_cases hmn : m = n <;>
  simp [Op.eqFields, hn0, hn1, ho0, ho1, part, isAgg, run_underlying h0, run_underlying h1, run_equalIn_int w _ _ _ _ _ _ h0, run_equalIn_int w _ _ _ _ _ _ h1, hab, hmn, Result.andThen]
theorem rngNe (r : Lv.Rng) (w : World) : (binOp .neq 70 (.agg #[.int .i64 r.1, .int .i64 r.2]) (.agg #[.int .i64 r.1, .int .i64 r.2])).run Tryz.prog w = .ok (.bool false) w := by
 have h := eql_ints Tryz.underlying70 (by kernel_rfl) Tryz.underlying3 Tryz.underlying3 rfl rfl (by decide) (by decide) r.1 r.1 r.2 r.2 w
 rw [decide_eq_true rfl] at h
 exact neq_of_eql h

set_option maxHeartbeats 4000000 in
theorem same_calls (ls ks : List LvD) (A B : Option Addr) (c d : Nat) (w : World) (ha : Lives w A ls) (hb : Lives w B ks) (he : ls.map (fun x => (x.val, x.l)) = ks.map (fun x => (x.val, x.l))) (hn : ls.length ≤ 1000000) :
  Calls Tryz.prog 15 #[.slice A ls.length c, .slice B ks.length d] w fun e w' => e = .returned (.bool true) ∧ Keep w w' := by
 have hlen : ks.length = ls.length := by have := congrArg List.length he; simpa using this.symm
 have HG := Lib.hid (show ∀ (i : Nat) (x : LvD), ls[i]? = some x → ∃ y, ks[i]? = some y ∧ y.val = x.val ∧ y.l = x.l from fun i x hx => by
  have h1 := congrArg (·[i]?) he
  simp only [List.getElem?_map, hx, Option.map_some] at h1
  cases hy : ks[i]? with
  | none => rw [hy] at h1; cases h1
  | some y =>
   rw [hy] at h1
   have h2 := Option.some.inj h1
   exact ⟨y, rfl, (congrArg Prod.fst h2).symm, (congrArg Prod.snd h2).symm⟩)
 rw [hlen]
 have Ha := Lib.hid ha
 have Hb := Lib.hid hb
 clear he hlen ha hb
 go_enter Tryz.func15, Tryz.ntmps15
 go_wp2_with fail
 go_loopw [5] (fun vi wr => ∃ i : Nat, i ≤ ls.length ∧ vi = .int .i64 i ∧ Hid (Keep w wr)) (fun vi _ => ls.length - (intOf vi).toNat)
 case atStart => exact ⟨0, Nat.zero_le _, rfl, Lib.hid (Keep.refl _)⟩
 case round =>
  obtain ⟨i, hi, rfl, hkeep⟩ := hrel
  by_cases hin : i < ls.length
  ·obtain ⟨x, hx⟩ := get_some hin
   obtain ⟨y, hy, e1, e2⟩ := HG.out i x hx
   obtain ⟨xv, xa, xl, xc⟩ := x
   obtain ⟨yv, ya, yl, yc⟩ := y
   replace e1 : yv = xv := e1
   replace e2 : yl = xl := e2
   subst e1
   subst e2
   obtain ⟨bA, offA, hA, hbA, x0, x1, xok⟩ := Ha.out.get hkeep.out hx
   obtain ⟨bB, offB, hB, hbB, y0, y1, yok⟩ := Hb.out.get hkeep.out hy
   subst hA
   subst hB
   replace x0 : wr.cell? ⟨bA, offA + i * 2, none⟩ = some (.int .i64 yv) := x0
   replace x1 : wr.cell? ⟨bA, offA + i * 2 + 1, none⟩ = some (.slice xa yl.length xc) := x1
   replace y0 : wr.cell? ⟨bB, offB + i * 2, none⟩ = some (.int .i64 yv) := y0
   replace y1 : wr.cell? ⟨bB, offB + i * 2 + 1, none⟩ = some (.slice ya yl.length yc) := y1
   have hlm : yl.length ≤ maxLen := xok.len
   unfold maxLen at hlm
   have hbAl := Nat.lt_of_lt_of_le hbA hkeep.out.size
   have hbBl := Nat.lt_of_lt_of_le hbB hkeep.out.size
   have hii : (i : Int) < (ls.length : Int) := by omega
   have hi0 : (0 : Int) ≤ (i : Int) := by omega
   have hd : Keep wr wr.drew := (Keep.refl _).drew
   have kx0 := fun z : KW wr => z.cell x0
   have kx1 := fun z : KW wr => z.cell x1
   have ky0 := fun z : KW wr => z.cell y0
   have ky1 := fun z : KW wr => z.cell y1
   have Hx := Lib.hid hx
   have Hy := Lib.hid hy
   have Hkd := Lib.hid (hkeep.out.trans hd)
   clear hx hy xok yok
   go_wp2_with fail
   refine region_begin (S := fun w' => ∃ z : KW wr, w' = z.val) (by kernel_rfl) ?_
   refine region_take [0, 1, 2, 3, 4, 5, 6, 7, 8, 9, 10, 11, 12, 13, 14, 15, 16, 17, 18, 19, 20, 21, 22, 23, 24, 25] [] 0 (by kernel_rfl) (by kernel_rfl) (InK.mk' hd) ?_
   show wpQuiet _ _ _ _ [_, _, _, _, _, _, _, _, _, _, _, _, _, _, _, _, _, _, _, _, _, _, _, _, _, _] _
   repeat (go_big_quiet_step (fail))
   refine wpQuiet_nil ?_
   refine region_done (by kernel_rfl) ?_
   clear kx0 kx1 ky0 ky1 x0 x1 y0 y1 hbAl hbBl
   go_wp2_with fail
   go_loopw [6] (fun vk wr => ∃ k : Nat, k ≤ yl.length ∧ vk = .int .i64 k ∧ Hid (Keep w wr)) (fun vk _ => yl.length - (intOf vk).toNat)
   case atStart => exact ⟨0, Nat.zero_le _, rfl, Hkd⟩
   case round =>
    clear hkeep Hkd
    obtain ⟨k, hk, rfl, hkeep⟩ := hrel
    obtain ⟨_, _, e1, _, x0, x1, xok⟩ := Ha.out.get hkeep.out Hx.out
    cases e1
    obtain ⟨_, _, e1, _, y0, y1, yok⟩ := Hb.out.get hkeep.out Hy.out
    cases e1
    replace x1 : wr.cell? ⟨bA, offA + i * 2 + 1, none⟩ = some (.slice xa yl.length xc) := x1
    replace y1 : wr.cell? ⟨bB, offB + i * 2 + 1, none⟩ = some (.slice ya yl.length yc) := y1
    have hbAl := Nat.lt_of_lt_of_le hbA hkeep.out.size
    have hbBl := Nat.lt_of_lt_of_le hbB hkeep.out.size
    by_cases hkn : k < yl.length
    ·obtain ⟨r, hr⟩ := get_some hkn
     obtain ⟨bR, offR, hR, hbR, r0, r1⟩ := rng_get xok.seg (Keep.refl _) hr
     obtain ⟨bQ, offQ, hQ, hbQ, q0, q1⟩ := rng_get yok.seg (Keep.refl _) hr
     replace hR : xa = some ⟨bR, offR, none⟩ := hR
     replace hQ : ya = some ⟨bQ, offQ, none⟩ := hQ
     subst hR
     subst hQ
     have hkk : (k : Int) < (yl.length : Int) := by omega
     have hk0 : (0 : Int) ≤ (k : Int) := by omega
     have hd : Keep wr wr.drew := (Keep.refl _).drew
     have kx1 := fun z : KW wr => z.cell x1
     have ky1 := fun z : KW wr => z.cell y1
     have kr0 := fun z : KW wr => z.cell r0
     have kr1 := fun z : KW wr => z.cell r1
     have kq0 := fun z : KW wr => z.cell q0
     have kq1 := fun z : KW wr => z.cell q1
     have eqv : ∀ z : KW wr, (binOp .neq 70 (.agg #[.int .i64 r.1, .int .i64 r.2]) (.agg #[.int .i64 r.1, .int .i64 r.2])).run Tryz.prog z.val = .ok (.bool false) z.val := fun z => rngNe r z.val
     have hmg : Tryz.prog.eqGuardType Tryz.prog.depth 70 = false := by kernel_rfl
     have Hrel := Lib.hid (hkeep.out.trans hd)
     clear xok yok hr r0 r1 q0 q1
     go_wp2_with fail
     refine region_begin (S := fun w' => ∃ z : KW wr, w' = z.val) (by kernel_rfl) ?_
     refine region_take [0, 1, 2, 3, 4, 5, 6, 7, 8, 9, 10, 11, 12, 13, 14, 15, 16] [] 0 (by kernel_rfl) (by kernel_rfl) (InK.mk' hd) ?_
     show wpQuiet _ _ _ _ [_, _, _, _, _, _, _, _, _, _, _, _, _, _, _, _, _] _
     repeat (go_big_quiet_step (fail))
     refine wpQuiet_nil ?_
     refine region_done (by kernel_rfl) ?_
     clear kx1 ky1 kr0 kr1 kq0 kq1 eqv x0 x1 y0 y1
     go_wp2
     go_roundw
     case rel => exact ⟨k + 1, hkn, by go_num, Hrel⟩
     case measure => simp [intOf]; omega
    ·go_wp2
     go_roundw
     case rel => exact ⟨i + 1, hin, by go_num, hkeep⟩
     case measure => simp [intOf]; omega
  ·go_wp2
   go_ret
   exact ⟨rfl, hkeep.out⟩
end Go.Proofs.YtjpmiejgcnfiiaaGreat
namespace Go.Proofs.YtjpmiejgcnfiiaaGreat
open Go Go.RowKit

theorem refInts_drew (l : List Int) (A B : Option Addr) (c d : Nat) (w : World) (hs : Seg w A (l.flatMap intC)) (ht : Seg w B (l.flatMap intC)) (hn : l.length ≤ 1000000) :
  Calls Tryz.prog 10 #[.slice A l.length c, .slice B l.length d] w fun e w' => e = .returned (.bool true) ∧ ∃ nq, w' = w.drewN nq := by
 have hll : ((l.length : Int) != (l.length : Int)) = false := by simp
 go_enter Tryz.func10, Tryz.ntmps10
 go_wp2
 go_loopw [5] (fun i wr => ∃ k : Nat, k ≤ l.length ∧ i = .int .i64 k ∧ ∃ nq, wr = w.drewN nq) (fun i _ => l.length - (intOf i).toNat)
 case atStart => exact ⟨0, Nat.zero_le _, rfl, 0, rfl⟩
 case round =>
  obtain ⟨k, hk, rfl, nw, hnw⟩ := hrel
  have hkeep : Keep w wr := by rw [hnw]; exact (Keep.refl _).drewN _
  have Hnw := Lib.hid hnw
  clear hnw
  by_cases hlt : k < l.length
  ·have hkk : (k : Int) < (l.length : Int) := by omega
   have hk0 : (0 : Int) ≤ (k : Int) := by omega
   obtain ⟨b, off, rfl, hb, c0⟩ := int_at hs hkeep hlt
   obtain ⟨b', off', rfl, hb', d0⟩ := int_at ht hkeep hlt
   have hne : (l[k] != l[k]) = false := by simp
   go_wp2_with fail
   go_quiet (fail)
   go_wp2
   go_roundw
   case rel => exact ⟨k + 1, hlt, by go_num, _, by rw [Hnw.out, World.drewN_drewN]⟩
   case measure => simp [intOf]; omega
  ·go_wp2
   go_ret
   exact ⟨rfl, nw, Hnw.out⟩

theorem refInts_calls (l : List Int) (A B : Option Addr) (c d : Nat) (w : World) (hs : Seg w A (l.flatMap intC)) (ht : Seg w B (l.flatMap intC)) (hn : l.length ≤ 1000000) :
  Calls Tryz.prog 10 #[.slice A l.length c, .slice B l.length d] w fun e w' => e = .returned (.bool true) ∧ Keep w w' :=
 (refInts_drew l A B c d w hs ht hn).mono fun e w' ⟨h1, nq, h2⟩ => ⟨h1, by rw [h2]; exact (Keep.refl _).drewN _⟩
end Go.Proofs.YtjpmiejgcnfiiaaGreat
namespace Go.Proofs.YtjpmiejgcnfiiaaGreat
open Go Go.RowKit Go.Shelf Go.Proofs
def sortRng_ren : Go.Shelf.Ren := ⟨fun | 6 => 66 | 15 => 70 | 14 => 78 | 28 => 88 | 29 => 89 | 20 => 102 | 21 => 103 | 22 => 104 | 23 => 105 | 24 => 106 | 25 => 107 | 26 => 108 | 27 => 109 | 46 => 126 | 47 => 111 | 48 => 112 | 49 => 127 | 50 => 128 | 57 => 140 | n => n, fun | 22 => 66 | 24 => 70 | 25 => 137 | 3 => 3 | 39 => 140 | 0 => 0 | 53 => 162 | 55 => 61 | 4 => 4 | 46 => 155 | 45 => 154 | 50 => 159 | 5 => 5 | 9 => 9 | 66 => 178 | 70 => 182 | 76 => 199 | 77 => 200 | n => n, fun | n => n⟩
theorem sortRng : Go.Proofs.SlLaysF0.n6 Tryz.prog sortRng_ren := {
 mixed := by kernel_rfl
 f6 := ⟨Tryz.f66.name, by decide, Tryz.func66.trans (congrArg some (by kernel_rfl))⟩
 f14 := ⟨Tryz.f78.name, by decide, Tryz.func78.trans (congrArg some (by kernel_rfl))⟩
 f15 := Tryz.func70.trans (congrArg some (by kernel_rfl))
 f20 := ⟨Tryz.f102.name, by decide, Tryz.func102.trans (congrArg some (by kernel_rfl))⟩
 f21 := ⟨Tryz.f103.name, by decide, Tryz.func103.trans (congrArg some (by kernel_rfl))⟩
 f22 := ⟨Tryz.f104.name, by decide, Tryz.func104.trans (congrArg some (by kernel_rfl))⟩
 f23 := ⟨Tryz.f105.name, by decide, Tryz.func105.trans (congrArg some (by kernel_rfl))⟩
 f24 := ⟨Tryz.f106.name, by decide, Tryz.func106.trans (congrArg some (by kernel_rfl))⟩
 f25 := ⟨Tryz.f107.name, by decide, Tryz.func107.trans (congrArg some (by kernel_rfl))⟩
 f26 := ⟨Tryz.f108.name, by decide, Tryz.func108.trans (congrArg some (by kernel_rfl))⟩
 f27 := ⟨Tryz.f109.name, by decide, Tryz.func109.trans (congrArg some (by kernel_rfl))⟩
 f28 := Tryz.func88.trans (congrArg some (by kernel_rfl))
 f29 := Tryz.func89.trans (congrArg some (by kernel_rfl))
 f46 := ⟨Tryz.f126.name, by decide, Tryz.func126.trans (congrArg some (by kernel_rfl))⟩
 f47 := Tryz.func111.trans (congrArg some (by kernel_rfl))
 f48 := Tryz.func112.trans (congrArg some (by kernel_rfl))
 f49 := ⟨Tryz.f127.name, by decide, Tryz.func127.trans (congrArg some (by kernel_rfl))⟩
 f50 := ⟨Tryz.f128.name, by decide, Tryz.func128.trans (congrArg some (by kernel_rfl))⟩
 f57 := ⟨Tryz.f140.name, by decide, Tryz.func140.trans (congrArg some (by kernel_rfl))⟩
 t0 := Tryz.underlying0
 a0 := Tryz.isAgg0
 z0 := Tryz.sizeOf0
 v0 := Tryz.zeroValue0
 t3 := Tryz.underlying3
 a3 := Tryz.isAgg3
 z3 := Tryz.sizeOf3
 v3 := Tryz.zeroValue3
 t4 := Tryz.underlying4
 a4 := Tryz.isAgg4
 z4 := Tryz.sizeOf4
 v4 := Tryz.zeroValue4
 t5 := Tryz.underlying5
 a5 := Tryz.isAgg5
 z5 := Tryz.sizeOf5
 v5 := Tryz.zeroValue5
 t9 := Tryz.underlying9
 a9 := Tryz.isAgg9
 z9 := Tryz.sizeOf9
 v9 := Tryz.zeroValue9
 t22 := Tryz.underlying66
 a22 := Tryz.isAgg66
 z22 := Tryz.sizeOf66
 v22 := Tryz.zeroValue66
 t25 := Tryz.underlying137
 a25 := Tryz.isAgg137
 z25 := Tryz.sizeOf137
 v25 := Tryz.zeroValue137
 t39 := Tryz.underlying140
 a39 := Tryz.isAgg140
 z39 := Tryz.sizeOf140
 v39 := Tryz.zeroValue140
 t45 := Tryz.underlying154
 a45 := Tryz.isAgg154
 z45 := Tryz.sizeOf154
 v45 := Tryz.zeroValue154
 t46 := Tryz.underlying155
 a46 := Tryz.isAgg155
 z46 := Tryz.sizeOf155
 v46 := Tryz.zeroValue155
 t50 := Tryz.underlying159
 a50 := Tryz.isAgg159
 z50 := Tryz.sizeOf159
 v50 := Tryz.zeroValue159
 t53 := Tryz.underlying162
 a53 := Tryz.isAgg162
 z53 := Tryz.sizeOf162
 v53 := Tryz.zeroValue162
 t55 := Tryz.underlying61
 a55 := Tryz.isAgg61
 z55 := Tryz.sizeOf61
 v55 := Tryz.zeroValue61
 t66 := Tryz.underlying178
 a66 := Tryz.isAgg178
 z66 := Tryz.sizeOf178
 v66 := Tryz.zeroValue178
 t70 := Tryz.underlying182
 a70 := Tryz.isAgg182
 z70 := Tryz.sizeOf182
 v70 := Tryz.zeroValue182
 t76 := Tryz.underlying199
 a76 := Tryz.isAgg199
 z76 := Tryz.sizeOf199
 v76 := Tryz.zeroValue199
 t77 := Tryz.underlying200
 a77 := Tryz.isAgg200
 z77 := Tryz.sizeOf200
 v77 := Tryz.zeroValue200 }
def sortTurn_ren : Go.Shelf.Ren := ⟨fun | 6 => 43 | 15 => 70 | 14 => 69 | 28 => 88 | 29 => 89 | 20 => 80 | 21 => 81 | 22 => 82 | 23 => 83 | 24 => 84 | 25 => 85 | 26 => 86 | 27 => 87 | 46 => 110 | 47 => 111 | 48 => 112 | 49 => 113 | 50 => 114 | 57 => 129 | n => n, fun | 22 => 110 | 24 => 113 | 25 => 115 | 3 => 3 | 39 => 140 | 0 => 0 | 53 => 162 | 55 => 61 | 4 => 4 | 46 => 155 | 45 => 154 | 50 => 159 | 5 => 5 | 9 => 9 | 66 => 178 | 70 => 182 | 76 => 199 | 77 => 200 | n => n, fun | n => n⟩
theorem sortTurn : Go.Proofs.SlLaysF0.n6 Tryz.prog sortTurn_ren := {
 mixed := by kernel_rfl
 f6 := ⟨Tryz.f43.name, by decide, Tryz.func43.trans (congrArg some (by kernel_rfl))⟩
 f14 := ⟨Tryz.f69.name, by decide, Tryz.func69.trans (congrArg some (by kernel_rfl))⟩
 f15 := Tryz.func70.trans (congrArg some (by kernel_rfl))
 f20 := ⟨Tryz.f80.name, by decide, Tryz.func80.trans (congrArg some (by kernel_rfl))⟩
 f21 := ⟨Tryz.f81.name, by decide, Tryz.func81.trans (congrArg some (by kernel_rfl))⟩
 f22 := ⟨Tryz.f82.name, by decide, Tryz.func82.trans (congrArg some (by kernel_rfl))⟩
 f23 := ⟨Tryz.f83.name, by decide, Tryz.func83.trans (congrArg some (by kernel_rfl))⟩
 f24 := ⟨Tryz.f84.name, by decide, Tryz.func84.trans (congrArg some (by kernel_rfl))⟩
 f25 := ⟨Tryz.f85.name, by decide, Tryz.func85.trans (congrArg some (by kernel_rfl))⟩
 f26 := ⟨Tryz.f86.name, by decide, Tryz.func86.trans (congrArg some (by kernel_rfl))⟩
 f27 := ⟨Tryz.f87.name, by decide, Tryz.func87.trans (congrArg some (by kernel_rfl))⟩
 f28 := Tryz.func88.trans (congrArg some (by kernel_rfl))
 f29 := Tryz.func89.trans (congrArg some (by kernel_rfl))
 f46 := ⟨Tryz.f110.name, by decide, Tryz.func110.trans (congrArg some (by kernel_rfl))⟩
 f47 := Tryz.func111.trans (congrArg some (by kernel_rfl))
 f48 := Tryz.func112.trans (congrArg some (by kernel_rfl))
 f49 := ⟨Tryz.f113.name, by decide, Tryz.func113.trans (congrArg some (by kernel_rfl))⟩
 f50 := ⟨Tryz.f114.name, by decide, Tryz.func114.trans (congrArg some (by kernel_rfl))⟩
 f57 := ⟨Tryz.f129.name, by decide, Tryz.func129.trans (congrArg some (by kernel_rfl))⟩
 t0 := Tryz.underlying0
 a0 := Tryz.isAgg0
 z0 := Tryz.sizeOf0
 v0 := Tryz.zeroValue0
 t3 := Tryz.underlying3
 a3 := Tryz.isAgg3
 z3 := Tryz.sizeOf3
 v3 := Tryz.zeroValue3
 t4 := Tryz.underlying4
 a4 := Tryz.isAgg4
 z4 := Tryz.sizeOf4
 v4 := Tryz.zeroValue4
 t5 := Tryz.underlying5
 a5 := Tryz.isAgg5
 z5 := Tryz.sizeOf5
 v5 := Tryz.zeroValue5
 t9 := Tryz.underlying9
 a9 := Tryz.isAgg9
 z9 := Tryz.sizeOf9
 v9 := Tryz.zeroValue9
 t22 := Tryz.underlying110
 a22 := Tryz.isAgg110
 z22 := Tryz.sizeOf110
 v22 := Tryz.zeroValue110
 t25 := Tryz.underlying115
 a25 := Tryz.isAgg115
 z25 := Tryz.sizeOf115
 v25 := Tryz.zeroValue115
 t39 := Tryz.underlying140
 a39 := Tryz.isAgg140
 z39 := Tryz.sizeOf140
 v39 := Tryz.zeroValue140
 t45 := Tryz.underlying154
 a45 := Tryz.isAgg154
 z45 := Tryz.sizeOf154
 v45 := Tryz.zeroValue154
 t46 := Tryz.underlying155
 a46 := Tryz.isAgg155
 z46 := Tryz.sizeOf155
 v46 := Tryz.zeroValue155
 t50 := Tryz.underlying159
 a50 := Tryz.isAgg159
 z50 := Tryz.sizeOf159
 v50 := Tryz.zeroValue159
 t53 := Tryz.underlying162
 a53 := Tryz.isAgg162
 z53 := Tryz.sizeOf162
 v53 := Tryz.zeroValue162
 t55 := Tryz.underlying61
 a55 := Tryz.isAgg61
 z55 := Tryz.sizeOf61
 v55 := Tryz.zeroValue61
 t66 := Tryz.underlying178
 a66 := Tryz.isAgg178
 z66 := Tryz.sizeOf178
 v66 := Tryz.zeroValue178
 t70 := Tryz.underlying182
 a70 := Tryz.isAgg182
 z70 := Tryz.sizeOf182
 v70 := Tryz.zeroValue182
 t76 := Tryz.underlying199
 a76 := Tryz.isAgg199
 z76 := Tryz.sizeOf199
 v76 := Tryz.zeroValue199
 t77 := Tryz.underlying200
 a77 := Tryz.isAgg200
 z77 := Tryz.sizeOf200
 v77 := Tryz.zeroValue200 }
end Go.Proofs.YtjpmiejgcnfiiaaGreat
