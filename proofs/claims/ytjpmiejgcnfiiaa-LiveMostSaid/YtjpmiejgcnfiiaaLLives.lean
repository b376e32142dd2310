/-
  Live ranges in memory; the reference's lives.
-/
import Derived.Test.YtjpmiejgcnfiiaaLNext
import Derived.Test.YtjpmiejgcnfiiaaLMostP
set_option linter.unusedVariables false
set_option linter.unusedSimpArgs false
namespace Go.Proofs.Ytjpmiejgcnfiiaa
open Go Go.RowKit

/-- A live range list in memory. -/
structure LvD where
  val : Int
  a : Option Addr
  l : List Lv.Rng
  c : Nat
def rngC (r : Lv.Rng) : List Value := [.int .i64 r.1, .int .i64 r.2]
def lvC (x : LvD) : List Value := [.int .i64 x.val, .slice x.a x.l.length x.c]
structure LvOk (w : World) (x : LvD) : Prop where
  seg : Seg w x.a (x.l.flatMap rngC)
  len : x.l.length ≤ maxLen
theorem LvOk.keep {w w' : World} {x : LvD} (h : LvOk w x) (hk : Keep w w') : LvOk w' x := ⟨h.seg.keep hk, h.len⟩
theorem rng_get {w wr : World} {A : Option Addr} {l : List Lv.Rng} {k : Nat} {r : Lv.Rng} (h : Seg w A (l.flatMap rngC)) (hkeep : Keep w wr) (hr : l[k]? = some r) :
    ∃ b off, A = some ⟨b, off, none⟩ ∧ b < w.heap.size ∧ wr.cell? ⟨b, off + k * 2, none⟩ = some (.int .i64 r.1) ∧ wr.cell? ⟨b, off + k * 2 + 1, none⟩ = some (.int .i64 r.2) := by
  obtain ⟨hk, e⟩ := List.getElem?_eq_some_iff.1 hr
  obtain ⟨b, off, e', hb, hc⟩ := h.elem 2 (fun _ => rfl) (by omega) hk
  rw [e] at hc
  exact ⟨b, off, e', hb, by have := hkeep.cell (hc 0 _ rfl); simpa using this, by have := hkeep.cell (hc 1 _ rfl); rwa [← Nat.add_assoc] at this⟩
structure Lives (w : World) (A : Option Addr) (ls : List LvD) : Prop where
  seg : Seg w A (ls.flatMap lvC)
  ok : ∀ x ∈ ls, LvOk w x
theorem Lives.keep {w w' : World} {A : Option Addr} {ls : List LvD} (h : Lives w A ls) (hk : Keep w w') : Lives w' A ls := ⟨h.seg.keep hk, fun x hx => (h.ok x hx).keep hk⟩
theorem Lives.get {w wr : World} {A : Option Addr} {ls : List LvD} {k : Nat} {x : LvD} (h : Lives w A ls) (hkeep : Keep w wr) (hx : ls[k]? = some x) :
    ∃ b off, A = some ⟨b, off, none⟩ ∧ b < w.heap.size ∧ wr.cell? ⟨b, off + k * 2, none⟩ = some (.int .i64 x.val) ∧ wr.cell? ⟨b, off + k * 2 + 1, none⟩ = some (.slice x.a x.l.length x.c) ∧ LvOk wr x := by
  obtain ⟨hk, e⟩ := List.getElem?_eq_some_iff.1 hx
  obtain ⟨b, off, e', hb, hc⟩ := h.seg.elem 2 (fun _ => rfl) (by omega) hk
  rw [e] at hc
  exact ⟨b, off, e', hb, by have := hkeep.cell (hc 0 _ rfl); simpa using this, by have := hkeep.cell (hc 1 _ rfl); rwa [← Nat.add_assoc] at this, (h.ok x (List.mem_of_getElem? hx)).keep hkeep⟩

set_option maxHeartbeats 2000000 in
theorem lives_calls (x : LvD) (p : Int) (w : World) (h : LvOk w x) :
    Calls Try.prog 16 #[.agg #[.int .i64 x.val, .slice x.a x.l.length x.c], .int .i64 p] w fun e w' => e = .returned (.bool (Lv.cov x.l p)) ∧ Keep w w' := by
  obtain ⟨xv, xa, xl, xc⟩ := x
  have hlm : xl.length ≤ maxLen := h.len
  unfold maxLen at hlm
  have hs : Seg w xa (xl.flatMap rngC) := h.seg
  obtain ⟨wa, hwa⟩ : ∃ wa : World, w.alloc (.cells #[.int .i64 xv, .slice xa xl.length xc] 28) = wa := ⟨_, rfl⟩
  have hka : Keep w wa := by rw [← hwa]; exact (Keep.refl _).alloc _
  have bx : Blk wa w.heap.size 28 [.int .i64 xv, .slice xa xl.length xc] := by rw [← hwa]; exact Blk.new w _ _
  have c1 : wa.cell? ⟨w.heap.size, 1, none⟩ = some (.slice xa xl.length xc) := bx.cell 1
  have lt := bx.lt
  clear bx h
  show Calls Try.prog 16 #[.agg #[.int .i64 xv, .slice xa xl.length xc], .int .i64 p] w fun e w' => e = .returned (.bool (Lv.cov xl p)) ∧ Keep w w'
  go_enter Try.func16, Try.ntmps16
  go_wp2_with fail
  clear hwa
  go_loopw [5] (fun vi wr => ∃ k : Nat, k ≤ xl.length ∧ vi = .int .i64 k ∧ Hid (Lv.cov (xl.take k) p = false) ∧ Hid (Keep wa wr)) (fun i _ => xl.length - (intOf i).toNat)
  case atStart => exact ⟨0, Nat.zero_le _, rfl, Lib.hid rfl, Lib.hid (Keep.refl _)⟩
  case round =>
    obtain ⟨k, hk, rfl, hc, hkeep⟩ := hrel
    have c1r := hkeep.out.cell c1
    have ltr := Nat.lt_of_lt_of_le lt hkeep.out.size
    by_cases hin : k < xl.length
    · obtain ⟨r, hr⟩ := get_some hin
      obtain ⟨b, off, rfl, hb, r0, r1⟩ := rng_get hs (hka.trans hkeep.out) hr
      have hbl := Nat.lt_of_lt_of_le hb (hka.trans hkeep.out).size
      have hkk : (k : Int) < (xl.length : Int) := by omega
      have hk0 : (0 : Int) ≤ (k : Int) := by omega
      have Hn := Lib.hid (show Lv.cov (xl.take (k + 1)) p = Lv.hit p r by
        rw [List.take_add_one, hr, Lv.cov_append, hc.out]; simp [Lv.cov])
      have Hy := Lib.hid (show Lv.hit p r = true → Lv.cov xl p = true from fun e => List.any_eq_true.2 ⟨r, List.mem_of_getElem? hr, e⟩)
      clear hr hc
      by_cases g1 : r.1 ≤ p
      · by_cases g2 : p < r.2
        · have hh := Hy.out (Lv.hit_iff.2 ⟨g1, g2⟩)
          have Hh := Lib.hid hh
          clear hh
          go_wp2
          go_ret
          exact ⟨by rw [Hh.out]; rfl, hka.trans hkeep.out⟩
        · have Hf := Lib.hid (show Lv.cov (xl.take (k + 1)) p = false by rw [Hn.out, ← Bool.not_eq_true, Lv.hit_iff]; omega)
          have g2d : decide (p < r.2) = false := decide_eq_false g2
          go_wp2
          go_roundw
          case rel => exact ⟨k + 1, hin, by go_num, Hf, hkeep⟩
          case measure => simp [intOf]; omega
      · have Hf := Lib.hid (show Lv.cov (xl.take (k + 1)) p = false by rw [Hn.out, ← Bool.not_eq_true, Lv.hit_iff]; omega)
        have g1d : decide (r.1 ≤ p) = false := decide_eq_false g1
        go_wp2
        go_roundw
        case rel => exact ⟨k + 1, hin, by go_num, Hf, hkeep⟩
        case measure => simp [intOf]; omega
    · have Hf := Lib.hid (show Lv.cov xl p = false by
        have := hc.out
        rwa [List.take_of_length_le (by omega)] at this)
      clear hs hc
      go_wp2
      go_ret
      exact ⟨by rw [Hf.out]; rfl, hka.trans hkeep.out⟩
end Go.Proofs.Ytjpmiejgcnfiiaa
