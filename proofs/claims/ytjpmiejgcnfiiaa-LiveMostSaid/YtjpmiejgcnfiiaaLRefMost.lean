/-
  The reference's Most.
-/
import Derived.Test.YtjpmiejgcnfiiaaLLives
set_option linter.unusedVariables false
set_option linter.unusedSimpArgs false
namespace Go.Proofs.Ytjpmiejgcnfiiaa
open Go Go.RowKit

/-- Where the reference's count stands. -/
structure RMAt (L : List (List Lv.Rng)) (i k : Nat) (m : Int) : Prop where
  zero : 0 ≤ m
  le : m ≤ (L.length : Int)
  up : ∀ i' x k' r, L[i']? = some x → x[k']? = some r → (i' < i ∨ (i' = i ∧ k' < k)) → Lv.cntL L r.1 ≤ m
  at_ : m = 0 ∨ ∃ x ∈ L, ∃ r ∈ x, m = Lv.cntL L r.1
theorem cntL_le (L : List (List Lv.Rng)) (p : Int) : 0 ≤ Lv.cntL L p ∧ Lv.cntL L p ≤ (L.length : Int) := by
  unfold Lv.cntL
  have := List.length_filter_le (fun x => Lv.cov x p) L
  omega
theorem RMAt.start (L : List (List Lv.Rng)) : RMAt L 0 0 0 := ⟨by omega, by omega, fun i' x k' r _ _ h => by omega, .inl rfl⟩
theorem RMAt.one {L : List (List Lv.Rng)} {i k : Nat} {m n m' : Int} (h : RMAt L i k m) {x : List Lv.Rng} {r : Lv.Rng} (hx : L[i]? = some x) (hr : x[k]? = some r) (hn : Lv.cntL L r.1 = n) (hm : m' = if m < n then n else m) : RMAt L i (k + 1) m' := by
  have h1 := cntL_le L r.1
  refine ⟨?_, ?_, fun i' x' k' r' e1 e2 e3 => ?_, ?_⟩
  · have := h.zero; rw [hm]; split <;> omega
  · have := h.le; rw [hm]; split <;> omega
  · by_cases e : i' = i ∧ k' = k
    · rw [e.1, hx] at e1
      cases e1
      rw [e.2, hr] at e2
      cases e2
      rw [hm, hn]; split <;> omega
    · have := h.up i' x' k' r' e1 e2 (by omega)
      rw [hm]; split <;> omega
  · rw [hm]
    split
    · exact .inr ⟨x, List.mem_of_getElem? hx, r, List.mem_of_getElem? hr, hn.symm⟩
    · exact h.at_
theorem RMAt.row {L : List (List Lv.Rng)} {i k : Nat} {m : Int} (h : RMAt L i k m) {x : List Lv.Rng} (hx : L[i]? = some x) (hk : x.length ≤ k) : RMAt L (i + 1) 0 m :=
  ⟨h.zero, h.le, fun i' x' k' r' e1 e2 e3 => h.up i' x' k' r' e1 e2 (by
    by_cases e : i' = i
    · right
      rw [e, hx] at e1
      cases e1
      have := (List.getElem?_eq_some_iff.1 e2).1
      exact ⟨e, by omega⟩
    · omega), h.at_⟩
theorem RMAt.end_ {L : List (List Lv.Rng)} {i k : Nat} {m : Int} (h : RMAt L i k m) (hi : L.length ≤ i) : Lv.RefM L m :=
  ⟨h.zero, fun x hx r hr => by
    obtain ⟨i', hi', e⟩ := List.getElem_of_mem hx
    obtain ⟨k', hk', e'⟩ := List.getElem_of_mem hr
    exact h.up i' x k' r (by rw [← e]; exact List.getElem?_eq_getElem hi') (by rw [← e']; exact List.getElem?_eq_getElem hk') (.inl (by omega)), h.at_⟩
def cntN (L : List (List Lv.Rng)) (p : Int) (j : Nat) : Nat := ((L.take j).filter fun x => Lv.cov x p).length
theorem cntN_succ {L : List (List Lv.Rng)} {p : Int} {j : Nat} {x : List Lv.Rng} (h : L[j]? = some x) : cntN L p (j + 1) = cntN L p j + (if Lv.cov x p then 1 else 0) := by
  unfold cntN
  rw [List.take_add_one, h, List.filter_append]
  cases hc : Lv.cov x p <;> simp [hc]
theorem cntN_le (L : List (List Lv.Rng)) (p : Int) (j : Nat) : cntN L p j ≤ j := by
  unfold cntN
  have := List.length_filter_le (fun x => Lv.cov x p) (L.take j)
  rw [List.length_take] at this
  omega

set_option maxHeartbeats 4000000 in
theorem refMost_calls (A : Option Addr) (ls : List LvD) (c : Nat) (w : World) (h : Lives w A ls) (hn : ls.length ≤ 1000000) :
    Calls Try.prog 7 #[.slice A ls.length c] w fun e w' => (∃ m, e = .returned (.int .i64 m) ∧ Lv.RefM (ls.map (·.l)) m) ∧ Keep w w' := by
  obtain ⟨L, hL⟩ : ∃ L, ls.map (·.l) = L := ⟨_, rfl⟩
  have HLl := Lib.hid (show L.length = ls.length by rw [← hL]; simp)
  have HLg := Lib.hid (show ∀ (i : Nat) (x : LvD), ls[i]? = some x → L[i]? = some x.l from fun i x hx => by rw [← hL, List.getElem?_map, hx]; rfl)
  rw [hL]
  clear hL
  have Hl := Lib.hid h
  clear h
  go_enter Try.func7, Try.ntmps7
  go_wp2_with fail
  go_loopw [3, 4] (fun vm vi wr => ∃ (i : Nat) (m : Int), i ≤ ls.length ∧ vi = .int .i64 i ∧ vm = .int .i64 m ∧ Hid (RMAt L i 0 m) ∧ Hid (Keep w wr)) (fun _ vi _ => ls.length - (intOf vi).toNat)
  case atStart => exact ⟨0, 0, Nat.zero_le _, rfl, rfl, Lib.hid (RMAt.start L), Lib.hid (Keep.refl _)⟩
  case round =>
    obtain ⟨i, m, hi, rfl, rfl, hm, hkeep⟩ := hrel
    by_cases hin : i < ls.length
    · obtain ⟨x, hx⟩ := get_some hin
      obtain ⟨xv, xa, xl, xc⟩ := x
      have Hx := Lib.hid hx
      have HxL := Lib.hid (HLg.out i _ hx)
      have hxlen : xl.length ≤ maxLen := (Hl.out.ok _ (List.mem_of_getElem? hx)).len
      unfold maxLen at hxlen
      have hii : (i : Int) < (ls.length : Int) := by omega
      have hi0 : (0 : Int) ≤ (i : Int) := by omega
      clear hx
      go_wp2_with fail
      go_loopw [3, 5] (fun vm vk wr => ∃ (k : Nat) (m : Int), k ≤ xl.length ∧ vk = .int .i64 k ∧ vm = .int .i64 m ∧ Hid (RMAt L i k m) ∧ Hid (Keep w wr)) (fun _ vk _ => xl.length - (intOf vk).toNat)
      case atStart => exact ⟨0, m, Nat.zero_le _, rfl, rfl, hm, hkeep⟩
      case round =>
        clear hm hkeep
        obtain ⟨k, m, hk, rfl, rfl, hm, hkeep⟩ := hrel
        obtain ⟨bA, offA, hA, hbA, x0, x1, xok⟩ := Hl.out.get hkeep.out Hx.out
        subst hA
        have hbl := Nat.lt_of_lt_of_le hbA hkeep.out.size
        replace x1 : wr.cell? ⟨bA, offA + i * 2 + 1, none⟩ = some (.slice xa xl.length xc) := x1
        by_cases hkn : k < xl.length
        · obtain ⟨r, hr⟩ := get_some hkn
          have Hr := Lib.hid hr
          have hkk : (k : Int) < (xl.length : Int) := by omega
          have hk0 : (0 : Int) ≤ (k : Int) := by omega
          clear hr
          go_wp2_with fail
          go_loopw [6, 7] (fun vn vj wr => ∃ (j n : Nat), j ≤ ls.length ∧ vj = .int .i64 j ∧ vn = .int .i64 n ∧ Hid (cntN L r.1 j = n ∧ n ≤ j) ∧ Hid (Keep w wr)) (fun _ vj _ => ls.length - (intOf vj).toNat)
          case atStart => exact ⟨0, 0, Nat.zero_le _, rfl, rfl, Lib.hid ⟨rfl, Nat.le_refl _⟩, hkeep⟩
          case round =>
            clear hkeep x0 x1 xok hbl
            obtain ⟨j, n, hj, rfl, rfl, hcn, hkeep⟩ := hrel
            by_cases hjn : j < ls.length
            · obtain ⟨y, hy⟩ := get_some hjn
              obtain ⟨_, _, e1, _, x0, x1, xok⟩ := Hl.out.get hkeep.out Hx.out
              cases e1
              obtain ⟨_, _, e1, _, y0, y1, yok⟩ := Hl.out.get hkeep.out hy
              cases e1
              obtain ⟨bR, offR, hR, hbR, r0, _⟩ := rng_get xok.seg (Keep.refl _) Hr.out
              replace hR : xa = some ⟨bR, offR, none⟩ := hR
              subst hR
              replace x1 : wr.cell? ⟨bA, offA + i * 2 + 1, none⟩ = some (.slice (some ⟨bR, offR, none⟩) xl.length xc) := x1
              have hbl := Nat.lt_of_lt_of_le hbA hkeep.out.size
              have hjj : (j : Int) < (ls.length : Int) := by omega
              have hj0 : (0 : Int) ≤ (j : Int) := by omega
              have hd : Keep wr wr.drew := (Keep.refl _).drew
              have HLv := Lib.hid (fun (wz : World) (hz : Keep wr wz) => lives_calls y r.1 wz (yok.keep hz))
              have Hs := Lib.hid (cntN_succ (p := r.1) (HLg.out j y hy))
              have kx1 := fun z : KW wr => z.cell x1
              have ky0 := fun z : KW wr => z.cell y0
              have ky1 := fun z : KW wr => z.cell y1
              have kr0 := fun z : KW wr => z.cell r0
              have s1 : IntKind.i64.wrap ((n : Int) + 1) = ((n + 1 : Nat) : Int) := by rw [show (n : Int) + 1 = ((n + 1 : Nat) : Int) by omega]; exact IntWalk.i64_in _ (by have := hcn.out.2; omega)
              clear xok yok hy x0 x1 y0 y1 r0
              go_wp2_with fail
              refine region_begin (S := fun w' => ∃ z : KW wr, w' = z.val) (by kernel_rfl) ?_
              refine region_take [0, 1, 2, 3, 4, 5, 6, 7, 8, 9, 10, 11, 12] [] 1 (by kernel_rfl) (by kernel_rfl) (InK.mk' hd) ?_
              show wpQuiet _ _ _ _ [_, _, _, _, _, _, _, _, _, _, _, _, _] _
              repeat (go_big_quiet_step (fail))
              refine wpQuiet_nil ?_
              refine region_fix (i := 13) (fuel := 0) rfl (by kernel_rfl) (fun K hK => ?_)
              go_simp
              refine (HLv.out _ hd).mono ?_
              rintro e w1 ⟨rfl, k1'⟩
              have k1 := hd.trans k1'
              refine hK _ _ (InK.mk' k1) ?_
              clear hK K
              refine region_done (by kernel_rfl) ?_
              clear kx1 ky0 ky1 kr0 HLv
              have Hk1 := Lib.hid (hkeep.out.trans k1)
              cases hc : Lv.cov y.l r.1 with
              | false =>
                have Hn := Lib.hid (show cntN L r.1 (j + 1) = n ∧ n ≤ j + 1 from by rw [Hs.out, hc, hcn.out.1]; exact ⟨by simp, by have := hcn.out.2; omega⟩)
                go_wp2
                go_roundw
                case rel => exact ⟨j + 1, n, hjn, by go_num, rfl, Hn, Hk1⟩
                case measure => simp [intOf]; omega
              | true =>
                have Hn := Lib.hid (show cntN L r.1 (j + 1) = n + 1 ∧ n + 1 ≤ j + 1 from by rw [Hs.out, hc, hcn.out.1]; exact ⟨by simp, by have := hcn.out.2; omega⟩)
                go_wp2
                go_roundw
                case rel => exact ⟨j + 1, n + 1, hjn, by go_num, by go_num, Hn, Hk1⟩
                case measure => simp [intOf]; omega
            · obtain ⟨nz, hnz⟩ : ∃ z : Int, (n : Int) = z := ⟨_, rfl⟩
              have hcl : Lv.cntL L r.1 = nz := by
                rw [← hnz]
                unfold Lv.cntL
                have h1 := hcn.out.1
                unfold cntN at h1
                rw [List.take_of_length_le (by rw [HLl.out]; omega)] at h1
                rw [h1]
              obtain ⟨mz, hmz⟩ : ∃ z : Int, (if m < nz then nz else m) = z := ⟨_, rfl⟩
              have Hm2 := Lib.hid (hm.out.one HxL.out Hr.out hcl hmz.symm)
              rw [hnz]
              by_cases g : m < nz
              · rw [if_pos g] at hmz
                subst hmz
                clear hcl hnz hcn
                go_wp2
                go_roundw
                case rel => exact ⟨k + 1, nz, hkn, by go_num, by simp [g], Hm2, hkeep⟩
                case measure => simp [intOf]; omega
              · rw [if_neg g] at hmz
                subst hmz
                have g' : nz ≤ m := by omega
                clear hcl hnz hcn
                go_wp2
                go_roundw
                case rel => exact ⟨k + 1, m, hkn, by go_num, by simp [g, g'], Hm2, hkeep⟩
                case measure => simp [intOf]; omega
        · have Hm2 := Lib.hid (hm.out.row HxL.out (by omega))
          go_wp2
          go_roundw
          case rel => exact ⟨i + 1, m, hin, by go_num, rfl, Hm2, hkeep⟩
          case measure => simp [intOf]; omega
    · have Hr := Lib.hid (hm.out.end_ (by rw [HLl.out]; omega))
      go_wp2
      go_ret
      exact ⟨⟨m, rfl, Hr.out⟩, hkeep.out⟩
end Go.Proofs.Ytjpmiejgcnfiiaa
