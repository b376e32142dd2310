/-
  few: whether the operations are few and short; an operation that came in.
-/
import Derived.Test.YtkeefajfndmpeaaCFrame
namespace Go.Proofs.Ytkeefajfndmpeaa
open Go Go.ChangeShapes Go.WideShapes Go.ChangeAt Go.RowKit

/-- An operation. -/
structure AD where
  kind : Int
  op : Int
  p : LD
  q : LD
  n : Int
  l : LD
def adC (a : AD) : List Value := [.int .u8 a.kind, .int .i64 a.op, a.p.v, a.q.v, .int .i64 a.n, a.l.v]
structure AOk (w : World) (a : AD) : Prop where
  kind : (Lit.int .u8 a.kind).wf = true
  op : (Lit.int .i64 a.op).wf = true
  n : (Lit.int .i64 a.n).wf = true
  p : LOk w a.p
  q : LOk w a.q
  l : LOk w a.l
theorem AOk.keep {w w' : World} {a : AD} (h : AOk w a) (hk : Keep w w') : AOk w' a := ⟨h.kind, h.op, h.n, ⟨h.p.seg.keep hk, h.p.len⟩, ⟨h.q.seg.keep hk, h.q.len⟩, ⟨h.l.seg.keep hk, h.l.len⟩⟩

def smallB (a : AD) : Bool := decide (a.l.l.length ≤ 20) && (decide (a.p.l.length ≤ 20) && decide (a.q.l.length ≤ 20))
theorem small_iff (a : AD) : smallB a = true ↔ a.l.l.length ≤ 20 ∧ a.p.l.length ≤ 20 ∧ a.q.l.length ≤ 20 := by simp [smallB]
def cfewB (L : List AD) : Bool := decide (L.length ≤ 60) && L.all smallB

theorem ad_at {w wr : World} {A : Option Addr} {L : List AD} (h : Seg w A (L.flatMap adC)) (hkeep : Keep w wr) {k : Nat} (hk : k < L.length) :
    ∃ b off, A = some ⟨b, off, none⟩ ∧ b < w.heap.size ∧ ∀ j u, (adC L[k])[j]? = some u → wr.cell? ⟨b, off + (k * 6 + j), none⟩ = some u := by
  obtain ⟨b, off, e, hb, hc⟩ := h.elem 6 (fun _ => rfl) (by omega) hk
  exact ⟨b, off, e, hb, fun j u hu => hkeep.cell (hc j u hu)⟩

set_option maxHeartbeats 1000000 in
theorem cfew_calls (L : List AD) (A : Option Addr) (c : Nat) (w : World) (hs : Seg w A (L.flatMap adC)) (hL : ∀ a ∈ L, AOk w a) (hm : L.length ≤ maxLen) :
    Calls Try.prog 45 #[.slice A L.length c] w fun e w' => e = .returned (.bool (cfewB L)) ∧ w = w' := by
  unfold maxLen at hm
  by_cases h60 : L.length ≤ 60
  rotate_left
  · have Hf := Lib.hid (show cfewB L = false by unfold cfewB; simp [h60])
    have hgt : (60 : Int) < (L.length : Int) := by omega
    clear h60 hL
    go_enter Try.func45, Try.ntmps45
    go_wp2
    go_ret
    exact ⟨by rw [Hf.out]; rfl, rfl⟩
  · have hgt : ¬ (60 : Int) < (L.length : Int) := by omega
    go_enter Try.func45, Try.ntmps45
    go_wp2
    go_loopw [3] (fun i wr => ∃ k : Nat, k ≤ L.length ∧ i = .int .i64 k ∧ (L.take k).all smallB = true ∧ wr = w) (fun i _ => L.length - (intOf i).toNat)
    case atStart => exact ⟨0, Nat.zero_le _, rfl, by simp, rfl⟩
    case round =>
      obtain ⟨k, hk, rfl, hall, rfl⟩ := hrel
      by_cases hlt : k < L.length
      · obtain ⟨b, off, rfl, hb, hc⟩ := ad_at hs (Keep.refl _) hlt
        have hkk : (k : Int) < (L.length : Int) := by omega
        have hk0 : (0 : Int) ≤ (k : Int) := by omega
        have c2 : wr.cell? ⟨b, off + k * 6 + 2, none⟩ = some (.slice L[k].p.a L[k].p.l.length L[k].p.c) := hc 2 _ rfl
        have c3 : wr.cell? ⟨b, off + k * 6 + 2 + 1, none⟩ = some (.slice L[k].q.a L[k].q.l.length L[k].q.c) := hc 3 _ rfl
        have c5 : wr.cell? ⟨b, off + k * 6 + 5, none⟩ = some (.slice L[k].l.a L[k].l.l.length L[k].l.c) := hc 5 _ rfl
        have hok := hL L[k] (List.getElem_mem hlt)
        have n1 := hok.p.len
        have n2 := hok.q.len
        have n3 := hok.l.len
        unfold maxLen at n1 n2 n3
        have hnx : (L.take (k + 1)).all smallB = smallB L[k] := by
          rw [take_snoc L hlt, List.all_append, hall]; simp
        have hno : smallB L[k] = false → cfewB L = false := fun h => by
          unfold cfewB
          rw [Bool.and_eq_false_iff]
          right
          rw [List.all_eq_false]
          exact ⟨_, List.getElem_mem hlt, by simp [h]⟩
        have Hno := Lib.hid hno
        have Hnx := Lib.hid hnx
        have Hsm := Lib.hid (small_iff L[k])
        clear hnx hall hok hL hc hno
        by_cases s1 : L[k].l.l.length ≤ 20
        rotate_left
        · have g1 : (20 : Int) < (L[k].l.l.length : Int) := by omega
          have Hf := Lib.hid (Hno.out (by cases h : smallB L[k] with | false => rfl | true => exact absurd (Hsm.out.1 h).1 s1))
          go_wp2
          go_ret
          exact ⟨by rw [Hf.out]; rfl, rfl⟩
        have g1 : ¬ (20 : Int) < (L[k].l.l.length : Int) := by omega
        by_cases s2 : L[k].p.l.length ≤ 20
        rotate_left
        · have g2 : (20 : Int) < (L[k].p.l.length : Int) := by omega
          have Hf := Lib.hid (Hno.out (by cases h : smallB L[k] with | false => rfl | true => exact absurd (Hsm.out.1 h).2.1 s2))
          go_wp2
          go_ret
          exact ⟨by rw [Hf.out]; rfl, rfl⟩
        have g2 : ¬ (20 : Int) < (L[k].p.l.length : Int) := by omega
        by_cases s3 : L[k].q.l.length ≤ 20
        rotate_left
        · have g3 : (20 : Int) < (L[k].q.l.length : Int) := by omega
          have Hf := Lib.hid (Hno.out (by cases h : smallB L[k] with | false => rfl | true => exact absurd (Hsm.out.1 h).2.2 s3))
          go_wp2
          go_ret
          exact ⟨by rw [Hf.out]; rfl, rfl⟩
        have g3 : ¬ (20 : Int) < (L[k].q.l.length : Int) := by omega
        have Hy := Lib.hid (show (L.take (k + 1)).all smallB = true by rw [Hnx.out]; exact Hsm.out.2 ⟨s1, s2, s3⟩)
        go_wp2
        go_roundw
        case rel => exact ⟨k + 1, hlt, by go_num, Hy.out, trivial⟩
        case measure => simp [intOf]; omega
      · have Hf := Lib.hid (show cfewB L = true by
          have hkl : k = L.length := by omega
          subst hkl
          rw [List.take_length] at hall
          unfold cfewB
          rw [hall]; simp [h60])
        clear hall hL
        go_wp2
        go_ret
        exact ⟨by rw [Hf.out]; rfl, rfl⟩

theorem cfew_all {L : List AD} (h : cfewB L = true) : L.length ≤ 60 ∧ ∀ a ∈ L, a.l.l.length ≤ 20 ∧ a.p.l.length ≤ 20 ∧ a.q.l.length ≤ 20 := by
  unfold cfewB at h
  rw [Bool.and_eq_true] at h
  exact ⟨of_decide_eq_true h.1, fun a ha => (small_iff a).1 (List.all_eq_true.1 h.2 a ha)⟩

set_option maxRecDepth 100000 in
theorem opens_ad (w : World) : Opens Try.prog w 79 adC (AOk w) := by
  refine opens_struct Try.underlying79 fun cs hl hf => ?_
  have hl6 : cs.length = 6 := hl.trans (by kernel_rfl)
  obtain ⟨H0, e0, n0, y0, t0⟩ := hf 0 _ rfl
  obtain ⟨H1, e1, n1, y1, t1⟩ := hf 1 _ rfl
  obtain ⟨H2, e2, n2, y2, t2⟩ := hf 2 _ rfl
  obtain ⟨H3, e3, n3, y3, t3⟩ := hf 3 _ rfl
  obtain ⟨H4, e4, n4, y4, t4⟩ := hf 4 _ rfl
  obtain ⟨k, q0, w0⟩ := opens_int (w := w) Try.underlying5 H0 e0 n0 _ y0 t0
  obtain ⟨o, q1, w1⟩ := opens_int (w := w) Try.underlying60 H1 e1 n1 _ y1 t1
  obtain ⟨t, q2, w2⟩ := opens_fn w H2 e2 n2 _ y2 t2
  obtain ⟨n, q3, w3⟩ := opens_int (w := w) Try.underlying3 H3 e3 n3 _ y3 t3
  obtain ⟨l, q4, w4⟩ := opens_list w H4 e4 n4 _ y4 t4
  match cs, hl6 with
  | [a0, a1, a2, a3, a4, a5], _ =>
    refine ⟨⟨k, o, t.1, t.2, n, l⟩, ?_, ⟨w0, w1, w3, w2.1, w2.2, w4⟩⟩
    have r0 : [a0] = [Value.int .u8 k] := q0
    have r1 : [a1] = [Value.int .i64 o] := q1
    have r2 : [a2, a3] = [t.1.v, t.2.v] := q2
    have r3 : [a4] = [Value.int .i64 n] := q3
    have r4 : [a5] = [l.v] := q4
    simp only [List.cons.injEq, and_true] at r0 r1 r2 r3 r4
    simp [adC, r0, r1, r2, r3, r4]
end Go.Proofs.Ytkeefajfndmpeaa
