/-
  Live ranges in memory; the small functions of the program.
-/
import Derived.Test.YtigidchignlpmaaMem
import Derived.Test.YtigidchignlpmaaRegion
import Derived.Test.YtigidchignlpmaaTail
import Derived.Test.YtigidchignlpmaaRPlain
import Derived.Test.YtigidchignlpmaaRows
import Derived.WalkKit
import Derived.WalkSpells
import Derived.Deep.DeepMust
import Derived.Deep.QuietTactic
import Derived.BigQuiet
import Derived.Outline
import Derived.IntWalk
namespace Go.Proofs.Ytigidchignlpmaa
open Go Go.RowKit Rg

theorem laidOut : laidOutB Try.prog = true := by kernel_rfl

/-- A live range list in memory. -/
structure LvD where
  val : Int
  a : Option Addr
  l : List Rng
  c : Nat
def rngC (r : Rng) : List Value := [.int .i64 r.1, .int .i64 r.2]
def lvC (x : LvD) : List Value := [.int .i64 x.val, .slice x.a x.l.length x.c]
structure LvOk (w : World) (x : LvD) : Prop where
  seg : Seg w x.a (x.l.flatMap rngC)
  len : x.l.length ≤ maxLen
  w64 : ∀ r ∈ x.l, W64 r.1 ∧ W64 r.2
theorem LvOk.keep {w w' : World} {x : LvD} (h : LvOk w x) (hk : Keep w w') : LvOk w' x := ⟨h.seg.keep hk, h.len, h.w64⟩

theorem rng_get {w wr : World} {A : Option Addr} {l : List Rng} {k : Nat} {r : Rng} (h : Seg w A (l.flatMap rngC)) (hkeep : Keep w wr) (hr : l[k]? = some r) :
    ∃ b off, A = some ⟨b, off, none⟩ ∧ b < w.heap.size ∧ wr.cell? ⟨b, off + k * 2, none⟩ = some (.int .i64 r.1) ∧ wr.cell? ⟨b, off + k * 2 + 1, none⟩ = some (.int .i64 r.2) := by
  obtain ⟨hk, e⟩ := List.getElem?_eq_some_iff.1 hr
  obtain ⟨b, off, e', hb, hc⟩ := h.elem 2 (fun _ => rfl) (by omega) hk
  rw [e] at hc
  exact ⟨b, off, e', hb, by have := hkeep.cell (hc 0 _ rfl); simpa using this, by have := hkeep.cell (hc 1 _ rfl); rwa [← Nat.add_assoc] at this⟩
theorem get_some {α : Type} {l : List α} {k : Nat} (h : k < l.length) : ∃ r, l[k]? = some r := ⟨l[k], List.getElem?_eq_getElem h⟩

theorem w64_lt {n : Int} (h : W64 n) : -9223372036854775808 ≤ n ∧ n ≤ 9223372036854775807 := by
  simp [W64, Lit.wf] at h
  have h1 : IntKind.i64.min = -9223372036854775808 := by decide
  have h2 : IntKind.i64.max = 9223372036854775807 := by decide
  omega

/-! ### begin, end, may -/

theorem begin_calls (val : Int) (A : Option Addr) (l : List Rng) (c : Nat) (w : World) (hs : Seg w A (l.flatMap rngC)) (h0 : 0 < l.length) :
    Calls Try.prog 28 #[.agg #[.int .i64 val, .slice A l.length c]] w fun e w' => e = .returned (.int .i64 (bgn l)) ∧ Keep w w' := by
  obtain ⟨r, hr⟩ := get_some h0
  obtain ⟨b, off, rfl, hb, c0, _⟩ := rng_get hs ((Keep.refl w).alloc (.cells #[.int .i64 val, .slice A l.length c] 45)) hr
  have Hb := Lib.hid (bgn_get hr)
  rw [Hb.out]
  have hi : (0 : Int) < (l.length : Int) := by omega
  simp only [Nat.zero_mul, Nat.add_zero] at c0
  clear hs h0 hr
  go_enter Try.func28, Try.ntmps28
  go_wp2
  go_ret
  exact ⟨rfl, (Keep.refl _).alloc _⟩

theorem end_calls (val : Int) (A : Option Addr) (l : List Rng) (c : Nat) (w : World) (hs : Seg w A (l.flatMap rngC)) (h0 : 0 < l.length) (hm : l.length ≤ maxLen) :
    Calls Try.prog 38 #[.agg #[.int .i64 val, .slice A l.length c]] w fun e w' => e = .returned (.int .i64 (fin l)) ∧ Keep w w' := by
  unfold maxLen at hm
  obtain ⟨k, hk⟩ : ∃ k, k + 1 = l.length := ⟨l.length - 1, by omega⟩
  obtain ⟨r, hr⟩ := get_some (l := l) (k := k) (by omega)
  obtain ⟨b, off, rfl, hb, _, c0⟩ := rng_get hs ((Keep.refl w).alloc (.cells #[.int .i64 val, .slice A l.length c] 45)) hr
  have Hb := Lib.hid (fin_get hr hk)
  rw [Hb.out]
  have hm1 : (l.length : Int) - 1 = (k : Int) := by omega
  have hw : IntKind.i64.wrap ((l.length : Int) - 1) = (k : Int) := by rw [hm1]; exact IntWalk.i64_in _ (by omega)
  have k0 : (0 : Int) ≤ (k : Int) := by omega
  have k1 : (k : Int) < (l.length : Int) := by omega
  clear hs h0 hr hm1 hk hm
  go_enter Try.func38, Try.ntmps38
  go_wp2
  go_ret
  exact ⟨rfl, (Keep.refl _).alloc _⟩

/-- Where the first k ranges end. -/
def endK (l : List Rng) (k : Nat) : Int := ((l.take k).getLastD (0, 0)).2
theorem endK_zero (l : List Rng) : endK l 0 = 0 := rfl
theorem endK_succ {l : List Rng} {k : Nat} {r : Rng} (h : l[k]? = some r) : endK l (k + 1) = r.2 := by
  unfold endK
  rw [List.take_add_one, h]; simp
theorem mayL_take : ∀ {l : List Rng} {k : Nat} {a : Int} {r : Rng}, l[k]? = some r → mayL a (l.take (k + 1)) = (mayL a (l.take k) && !(decide (r.1 < if k = 0 then a else endK l k) || decide (r.2 ≤ r.1)))
  | [], k, a, r, h => by simp at h
  | s :: l, 0, a, r, h => by simp at h; subst h; simp [mayL]
  | s :: l, k + 1, a, r, h => by
    have h' : l[k]? = some r := by simpa using h
    simp only [List.take_succ_cons, mayL]
    have := mayL_take (a := s.2) h'
    rw [this, Bool.and_assoc]
    have e : (if k = 0 then s.2 else endK l k) = (if k + 1 = 0 then a else endK (s :: l) (k + 1)) := by
      rw [if_neg (show ¬ k + 1 = 0 by omega)]
      by_cases hk : k = 0
      · subst hk; rw [if_pos rfl]; simp [endK]
      · rw [if_neg hk]
        obtain ⟨j, rfl⟩ : ∃ j, k = j + 1 := ⟨k - 1, by omega⟩
        have hj : j < l.length := by have := (List.getElem?_eq_some_iff.1 h').1; omega
        rw [endK_succ (List.getElem?_eq_getElem hj), endK_succ (l := s :: l) (k := j + 1) (by simp; exact List.getElem?_eq_getElem hj)]
    rw [e]
theorem mayL_take' {l : List Rng} {k : Nat} {r : Rng} (h : l[k]? = some r) : mayL 0 (l.take (k + 1)) = (mayL 0 (l.take k) && !(decide (r.1 < endK l k) || decide (r.2 ≤ r.1))) := by
  rw [mayL_take h]
  by_cases hk : k = 0
  · subst hk; rw [if_pos rfl, endK_zero]
  · rw [if_neg hk]
theorem mayL_pre : ∀ {l : List Rng} {k : Nat} {a : Int}, mayL a (l.take k) = false → mayL a l = false
  | [], k, a, h => by simpa using h
  | s :: l, 0, a, h => by simp [mayL] at h
  | s :: l, k + 1, a, h => by
    simp only [List.take_succ_cons, mayL, Bool.and_eq_false_iff] at h ⊢
    rcases h with h | h
    · exact .inl h
    · exact .inr (mayL_pre h)
set_option maxHeartbeats 1000000 in
theorem may_calls (val : Int) (A : Option Addr) (l : List Rng) (c : Nat) (w : World) (hs : Seg w A (l.flatMap rngC)) (hm : l.length ≤ maxLen) :
    Calls Try.prog 24 #[.agg #[.int .i64 val, .slice A l.length c]] w fun e w' => e = .returned (.bool (may l)) ∧ Keep w w' := by
  unfold maxLen at hm
  obtain ⟨wa, hwa⟩ : ∃ wa : World, wa = w.alloc (.cells #[.int .i64 val, .slice A l.length c] 45) := ⟨_, rfl⟩
  have hka : Keep w wa := by rw [hwa]; exact (Keep.refl _).alloc _
  have ba : Blk wa w.heap.size 45 [.int .i64 val, .slice A l.length c] := by rw [hwa]; exact Blk.new w _ _
  have c1 : wa.cell? ⟨w.heap.size, 1, none⟩ = some (.slice A l.length c) := ba.cell 1
  have lt := ba.lt
  go_enter Try.func24, Try.ntmps24
  go_wp2
  rw [← hwa]
  clear hwa
  go_loopw [3, 9] (fun a i wr => ∃ k : Nat, k ≤ l.length ∧ i = .int .i64 k ∧ a = .int .i64 (endK l k) ∧ mayL 0 (l.take k) = true ∧ Keep wa wr) (fun _ i _ => l.length - (intOf i).toNat)
  case atStart => exact ⟨0, Nat.zero_le _, rfl, rfl, rfl, Keep.refl _⟩
  case round =>
    obtain ⟨k, hk, rfl, rfl, hmay, hkeep⟩ := hrel
    by_cases hlt : k < l.length
    · obtain ⟨r, hr⟩ := get_some hlt
      obtain ⟨b, off, rfl, hb, c0, c1⟩ := rng_get hs (hka.trans hkeep) hr
      have hkk : (k : Int) < (l.length : Int) := by omega
      have hk0 : (0 : Int) ≤ (k : Int) := by omega
      have Hn := Lib.hid (mayL_take' hr)
      have He := Lib.hid (endK_succ hr)
      have Hmay := Lib.hid hmay
      have Hbad : decide (r.1 < endK l k) = true ∨ decide (r.2 ≤ r.1) = true → Hid (may l = false) := fun h => Lib.hid (by
        unfold may
        rw [Bool.and_eq_false_iff]; left
        refine mayL_pre (k := k + 1) ?_
        rw [Hn.out]
        rcases h with h | h <;> simp [h])
      clear hmay hr hs
      cases d1 : decide (r.1 < endK l k)
      rotate_left
      · have Hb := Hbad (.inl d1)
        go_wp2
        go_ret
        exact ⟨by rw [Hb.out]; rfl, hka.trans (hkeep.alloc _)⟩
      · cases d2 : decide (r.2 ≤ r.1)
        rotate_left
        · have Hb := Hbad (.inr d2)
          go_wp2
          go_ret
          exact ⟨by rw [Hb.out]; rfl, hka.trans (hkeep.alloc _)⟩
        · have Hy := Lib.hid (show mayL 0 (l.take (k + 1)) = true by rw [Hn.out, Hmay.out, d1, d2]; rfl)
          go_wp2
          go_roundw
          case rel => exact ⟨k + 1, hlt, by go_num, by rw [He.out], Hy.out, hkeep.alloc _⟩
          case measure => simp [intOf]; omega
    · have hkl : k = l.length := by omega
      have Hy := Lib.hid (show may l = decide (0 < l.length) by
        rw [hkl, List.take_length] at hmay
        unfold may; rw [hmay]; rfl)
      have d0 := hkeep.cell c1
      have lt' := (Blk.keep ba hkeep).lt
      clear hkl hmay hs
      go_wp2
      go_ret
      refine ⟨?_, hka.trans hkeep⟩
      rw [Hy.out]
      refine congrArg (fun b => Ending.returned (Value.bool b)) (decide_eq_decide.2 ?_)
      omega
end Go.Proofs.Ytigidchignlpmaa
