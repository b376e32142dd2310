/-
  The reference's stack: a value with three lists.
-/
import Derived.Test.YtkeefajfndmpeaaPush
import Derived.Test.YtkeefajfndmpeaaRegion
namespace Go.Proofs.Ytkeefajfndmpeaa
open Go Go.RowKit

def markC (p : Part) : List Value := [.int .i64 (p.1 : Int)]
def looseC (p : Part) : List Value := [.bool p.2]

theorem elM : ElT Try.prog 28 3 1 8 markC where
  slice := Try.underlying28
  info := info_of (z := .int .i64 0) (by kernel_rfl) rfl
  pos := by omega
  len := fun _ => rfl
  one := fun x u hu => by simp [markC] at hu; subst hu; rfl
theorem elL : ElT Try.prog 29 4 1 1 looseC where
  slice := Try.underlying29
  info := info_of (z := .bool false) (by kernel_rfl) rfl
  pos := by omega
  len := fun _ => rfl
  one := fun x u hu => by simp [looseC] at hu; subst hu; rfl

/-- A row that is not empty lies in a block of G. -/
def InG (G : Nat → Prop) (A : Option Addr) (n : Nat) : Prop := 0 < n → ∀ ad, A = some ad → G ad.block
/-- G and all new blocks. -/
def Grow (G : Nat → Prop) (w : World) : Nat → Prop := fun k => G k ∨ w.heap.size ≤ k
theorem InG.grow {G : Nat → Prop} {A : Option Addr} {n : Nat} (h : InG G A n) (w : World) : InG (Grow G w) A n := fun hn ad ha => .inl (h hn ad ha)
theorem InG.less {G : Nat → Prop} {A : Option Addr} {n m : Nat} (h : InG G A n) (hm : m ≤ n) : InG G A m := fun hn ad ha => h (by omega) ad ha
theorem InG.own {α : Type} {f : α → List Value} {s : Nat} {e : TypeId} {w : World} {base n c : Nat} {A : Option Addr} {xs : List α} (h : Own f s e w base (.slice A n c) xs) (G : Nat → Prop) {w0 : World} (hb : w0.heap.size ≤ base) (m : Nat) : InG (Grow G w0) A m := fun _ ad ha => by
  subst ha
  exact .inr (Nat.le_trans hb (h.lt ad.block rfl).1)

/-- The reference's stack as a value; its rows lie in blocks of G. -/
def RefAt (G : Nat → Prop) (w : World) (v : Value) (s : Stk) : Prop :=
  ∃ (A1 A2 A3 : Option Addr) (c1 c2 c3 most : Nat), v = .agg #[.slice A1 s.T.length c1, .slice A2 s.P.length c2, .slice A3 s.P.length c3, .int .i64 (most : Int)] ∧ Seg w A1 (s.T.flatMap valC) ∧ Seg w A2 (s.P.flatMap markC) ∧ Seg w A3 (s.P.flatMap looseC) ∧
    s.over = decide (256 < most) ∧ s.T.length ≤ c1 ∧ s.P.length ≤ c2 ∧ s.P.length ≤ c3 ∧ most ≤ 1000000 ∧ InG G A1 s.T.length ∧ InG G A2 s.P.length ∧ InG G A3 s.P.length
theorem RefAt.keep {G : Nat → Prop} {w w' : World} {v : Value} {s : Stk} (h : RefAt G w v s) (hk : Keep w w') : RefAt G w' v s := by
  obtain ⟨A1, A2, A3, c1, c2, c3, most, e, s1, s2, s3, r⟩ := h
  exact ⟨A1, A2, A3, c1, c2, c3, most, e, s1.keep hk, s2.keep hk, s3.keep hk, r⟩

theorem mark_at {w wr : World} {A : Option Addr} {l : List Part} (h : Seg w A (l.flatMap markC)) (hkeep : Keep w wr) {k : Nat} (hk : k < l.length) :
    ∃ b off, A = some ⟨b, off, none⟩ ∧ b < w.heap.size ∧ wr.cell? ⟨b, off + k, none⟩ = some (.int .i64 (l[k].1 : Int)) := by
  obtain ⟨b, off, e, hb, hc⟩ := h.elem 1 (fun _ => rfl) (by omega) hk
  exact ⟨b, off, e, hb, by have := hkeep.cell (hc 0 _ rfl); simpa using this⟩
theorem loose_at {w wr : World} {A : Option Addr} {l : List Part} (h : Seg w A (l.flatMap looseC)) (hkeep : Keep w wr) {k : Nat} (hk : k < l.length) :
    ∃ b off, A = some ⟨b, off, none⟩ ∧ b < w.heap.size ∧ wr.cell? ⟨b, off + k, none⟩ = some (.bool l[k].2) := by
  obtain ⟨b, off, e, hb, hc⟩ := h.elem 1 (fun _ => rfl) (by omega) hk
  exact ⟨b, off, e, hb, by have := hkeep.cell (hc 0 _ rfl); simpa using this⟩

theorem refLen_calls {G : Nat → Prop} {w : World} {v : Value} {s : Stk} (h : RefAt G w v s) :
    Calls Try.prog 28 #[v] w fun e w' => e = .returned (.int .i64 (s.T.length : Int)) ∧ Keep w w' := by
  obtain ⟨A1, A2, A3, c1, c2, c3, most, rfl, s1, s2, s3, _⟩ := h
  go_enter Try.func28, Try.ntmps28
  go_wp2
  go_ret
  exact ⟨rfl, (Keep.refl _).alloc _⟩

theorem refOver_calls {G : Nat → Prop} {w : World} {v : Value} {s : Stk} (h : RefAt G w v s) :
    Calls Try.prog 31 #[v] w fun e w' => e = .returned (.bool s.over) ∧ Keep w w' := by
  obtain ⟨A1, A2, A3, c1, c2, c3, most, rfl, s1, s2, s3, ho, _⟩ := h
  have Ho := Lib.hid ho
  clear ho
  go_enter Try.func31, Try.ntmps31
  go_wp2
  go_ret
  refine ⟨?_, (Keep.refl _).alloc _⟩
  rw [Ho.out]
  show Ending.returned (Value.bool (decide ((256 : Int) < (most : Int)))) = _
  rw [show decide ((256 : Int) < (most : Int)) = decide (256 < most) from decide_eq_decide.2 ⟨fun h => by omega, fun h => by omega⟩]

theorem refMark_calls {G : Nat → Prop} {w : World} {v : Value} {s : Stk} (h : RefAt G w v s) (hm : s.P.length ≤ 1000000) :
    Calls Try.prog 29 #[v] w fun e w' => e = .returned (.int .i64 (s.at_ : Int)) ∧ Keep w w' := by
  obtain ⟨A1, A2, A3, c1, c2, c3, most, rfl, s1, s2, s3, _⟩ := h
  have hpl := s.P_len
  obtain ⟨b, off, rfl, hb, hc⟩ := mark_at s2 ((Keep.refl w).alloc (.cells #[.slice A1 s.T.length c1, .slice A2 s.P.length c2, .slice A3 s.P.length c3, .int .i64 (most : Int)] 31)) (k := s.B.length) (by omega)
  rw [s.P_last] at hc
  have hpi : (s.P.length : Int) - 1 = (s.B.length : Int) := by omega
  have hp0 : (0 : Int) ≤ (s.B.length : Int) := by omega
  have hp1 : (s.B.length : Int) < (s.P.length : Int) := by omega
  have hw : IntKind.i64.wrap ((s.P.length : Int) - 1) = (s.B.length : Int) := by rw [hpi]; exact IntWalk.i64_in _ (by omega)
  clear hpl hpi
  go_enter Try.func29, Try.ntmps29
  go_wp2
  go_ret
  exact ⟨rfl, (Keep.refl _).alloc _⟩

theorem refLoose1_calls {G : Nat → Prop} {w : World} {v : Value} {s : Stk} (h : RefAt G w v s) (hm : s.P.length ≤ 1000000) :
    Calls Try.prog 73 #[v] w fun e w' => e = .returned (.bool s.loose) ∧ Keep w w' := by
  obtain ⟨A1, A2, A3, c1, c2, c3, most, rfl, s1, s2, s3, _⟩ := h
  have hpl := s.P_len
  obtain ⟨b, off, rfl, hb, hc⟩ := loose_at s3 ((Keep.refl w).alloc (.cells #[.slice A1 s.T.length c1, .slice A2 s.P.length c2, .slice A3 s.P.length c3, .int .i64 (most : Int)] 31)) (k := s.B.length) (by omega)
  rw [s.P_last] at hc
  have hpi : (s.P.length : Int) - 1 = (s.B.length : Int) := by omega
  have hp0 : (0 : Int) ≤ (s.B.length : Int) := by omega
  have hp1 : (s.B.length : Int) < (s.P.length : Int) := by omega
  have hw : IntKind.i64.wrap ((s.P.length : Int) - 1) = (s.B.length : Int) := by rw [hpi]; exact IntWalk.i64_in _ (by omega)
  clear hpl hpi
  go_enter Try.func73, Try.ntmps73
  go_wp2
  go_ret
  exact ⟨rfl, (Keep.refl _).alloc _⟩

theorem refNew_calls (w : World) : Calls Try.prog 16 #[] w fun e w' => ∃ v, e = .returned v ∧ RefAt (fun k => w.heap.size ≤ k) w' v Stk.fresh ∧ Keep w w' := by
  go_enter Try.func16, Try.ntmps16
  go_wp2
  refine bodyPost_ret (v := .agg #[.slice none 0 0, .slice (some ⟨w.heap.size + 1, 0, none⟩) 1 1, .slice (some ⟨w.heap.size + 1 + 1, 0, none⟩) 1 1, .int .i64 0]) (by simp [results, Try.results16, go_sem]) rfl ⟨_, rfl, ?_, (((Keep.refl _).alloc _).alloc _).alloc _⟩
  refine ⟨none, some ⟨w.heap.size + 1, 0, none⟩, some ⟨w.heap.size + 1 + 1, 0, none⟩, 0, 1, 1, 0, rfl, Seg.nil _ _, ?_, ?_, rfl, Nat.le_refl _, Nat.le_refl _, Nat.le_refl _, by omega, fun h => absurd h (by decide), fun _ ad ha => by cases ha; simp, fun _ ad ha => by cases ha; simp; omega⟩
  · refine Seg.of_blk (t := 3) (cs := [.int .i64 0]) ?_
    have := (Blk.new (w.alloc (.cells #[.slice none 0 0, .slice (some ⟨w.heap.size + 1, 0, none⟩) 1 1, .slice (some ⟨w.heap.size + 1 + 1, 0, none⟩) 1 1, .int .i64 0] 31)) 3 [.int .i64 0]).keep ((Keep.refl _).alloc (.cells #[.bool false] 4))
    simpa using this
  · refine Seg.of_blk (t := 4) (cs := [.bool false]) ?_
    have := Blk.new ((w.alloc (.cells #[.slice none 0 0, .slice (some ⟨w.heap.size + 1, 0, none⟩) 1 1, .slice (some ⟨w.heap.size + 1 + 1, 0, none⟩) 1 1, .int .i64 0] 31)).alloc (.cells #[.int .i64 0] 3)) 4 [.bool false]
    simpa using this

theorem refSame_calls (l : List Int) (A B : Option Addr) (c d : Nat) (w : World) (hs : Seg w A (l.flatMap valC)) (ht : Seg w B (l.flatMap valC)) (hn : l.length ≤ 1000000) :
    Calls Try.prog 23 #[.slice A l.length c, .slice B l.length d] w fun e w' => e = .returned (.bool true) ∧ Keep w w' := by
  have hll : ((l.length : Int) != (l.length : Int)) = false := by simp
  go_enter Try.func23, Try.ntmps23
  go_wp2
  go_loopw [5] (fun i wr => ∃ k : Nat, k ≤ l.length ∧ i = .int .i64 k ∧ Keep w wr) (fun i _ => l.length - (intOf i).toNat)
  case atStart => exact ⟨0, Nat.zero_le _, rfl, Keep.refl _⟩
  case round =>
    obtain ⟨k, hk, rfl, hkeep⟩ := hrel
    by_cases hlt : k < l.length
    · have hkk : (k : Int) < (l.length : Int) := by omega
      have hk0 : (0 : Int) ≤ (k : Int) := by omega
      obtain ⟨b, off, rfl, hb, c0⟩ := val_at hs hkeep hlt
      obtain ⟨b', off', rfl, hb', d0⟩ := val_at ht hkeep hlt
      have hne : (l[k] != l[k]) = false := by simp
      go_wp2_with fail
      go_quiet (fail)
      go_wp2
      go_roundw
      case rel => exact ⟨k + 1, hlt, by go_num, hkeep.drewN _⟩
      case measure => simp [intOf]; omega
    · go_wp2
      go_ret
      exact ⟨rfl, hkeep⟩
end Go.Proofs.Ytkeefajfndmpeaa
