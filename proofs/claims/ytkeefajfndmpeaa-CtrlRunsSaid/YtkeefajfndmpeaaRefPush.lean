/-
  The reference: Push, Pop.
-/
import Derived.Test.YtkeefajfndmpeaaRef
import Derived.Test.YtkeefajfndmpeaaPop
namespace Go.Proofs.Ytkeefajfndmpeaa
open Go Go.RowKit

/-- Only the blocks n and n + 1 have changed, none has come. -/
structure Only (n : Nat) (w W : World) : Prop where
  block : ∀ k, k < n ∨ n + 1 < k → W.heap[k]? = w.heap[k]?
  size : W.heap.size = w.heap.size
  os : W.os = w.os
  tape : W.tape = w.tape
  output : W.output = w.output
theorem Only.refl (n : Nat) (w : World) : Only n w w := ⟨fun _ _ => rfl, rfl, rfl, rfl, rfl⟩
theorem Only.drew {n : Nat} {w W : World} (h : Only n w W) : Only n w W.drew := ⟨h.block, h.size, h.os, h.tape, h.output⟩
theorem Only.set0 {n : Nat} {w W : World} (h : Only n w W) (i : Nat) (u : Value) : Only n w (W.setCell ⟨n, i, none⟩ u) :=
  ⟨fun k hk => (Below.heap_setCell W ⟨n, i, none⟩ u k (by show k ≠ n; omega)).trans (h.block k hk), by simpa [World.setCell] using h.size, h.os, h.tape, h.output⟩
theorem Only.set1 {n : Nat} {w W : World} (h : Only n w W) (i : Nat) (u : Value) : Only n w (W.setCell ⟨n + 1, i, none⟩ u) :=
  ⟨fun k hk => (Below.heap_setCell W ⟨n + 1, i, none⟩ u k (by show k ≠ n + 1; omega)).trans (h.block k hk), by simpa [World.setCell] using h.size, h.os, h.tape, h.output⟩
theorem Only.keep {w w2 W : World} (h : Only w.heap.size w2 W) (hk : Keep w w2) : Keep w W :=
  ⟨h.os.trans hk.os, h.tape.trans hk.tape, h.output.trans hk.output, by rw [h.size]; exact hk.size, fun k hk' => (h.block k (.inl hk')).trans (hk.block k hk')⟩
theorem Own.only {α : Type} {f : α → List Value} {s : Nat} {e : TypeId} {n base : Nat} {w W : World} {v : Value} {xs : List α} (h : Own f s e w base v xs) (ho : Only n w W) (hb : n + 1 < base) : Own f s e W base v xs := by
  refine ⟨h.1, ?_⟩
  rcases h.2 with h0 | ⟨g, cap, cur, hv, hg, hh, r⟩
  · exact .inl h0
  · exact .inr ⟨g, cap, cur, hv, hg, (ho.block g (.inr (by omega))).trans hh, r⟩

theorem refPush_calls {G : Nat → Prop} {w : World} {v : Value} {s : Stk} (h : RefAt G w v s) (l : List Int) (A : Option Addr) (c : Nat) (hs : Seg w A (l.flatMap valC)) (hn : s.T.length + l.length ≤ 1000000) :
    Calls Try.prog 48 #[v, .slice A l.length c] w fun e w' => ∃ v', e = .returned v' ∧ RefAt (Grow G w) w' v' (s.push l) ∧ Keep w w' := by
  obtain ⟨A1, A2, A3, c1, c2, c3, most, rfl, s1, s2, s3, ho, hc1, hc2, hc3, hmost, g1, g2, g3⟩ := h
  obtain ⟨wa, hwa⟩ : ∃ wa : World, wa = (w.alloc (.cells #[.slice A1 s.T.length c1, .slice A2 s.P.length c2, .slice A3 s.P.length c3, .int .i64 (most : Int)] 31)).alloc (.cells #[.slice none 0 0, .slice none 0 0, .slice none 0 0, .int .i64 0] 31) := ⟨_, rfl⟩
  have hka : Keep w wa := by rw [hwa]; exact ((Keep.refl _).alloc _).alloc _
  have ba : Blk wa w.heap.size 31 [.slice A1 s.T.length c1, .slice A2 s.P.length c2, .slice A3 s.P.length c3, .int .i64 (most : Int)] := by rw [hwa]; exact (Blk.new w _ _).keep ((Keep.refl _).alloc _)
  have bb : Blk wa (w.heap.size + 1) 31 [.slice none 0 0, .slice none 0 0, .slice none 0 0, .int .i64 0] := by
    rw [hwa]
    have := Blk.new (w.alloc (.cells #[.slice A1 s.T.length c1, .slice A2 s.P.length c2, .slice A3 s.P.length c3, .int .i64 (most : Int)] 31)) 31 [.slice none 0 0, .slice none 0 0, .slice none 0 0, .int .i64 0]
    simpa using this
  obtain ⟨v1, w1, ha1, ho1, hg1, _⟩ := append_run (ys := s.T) elV (Own.nil valC 1 45 wa wa.heap.size) (s1.keep hka) c1 23 (by simp [maxLen]; omega) (by simp; omega) (Nat.le_refl _)
  have hk1 : Keep wa w1 := (Keep.refl wa).grown hg1 (fun j hj => by cases hj)
  rw [List.nil_append] at ho1
  obtain ⟨B1, d1, rfl, _⟩ := ho1.form
  obtain ⟨v2, w2, ha2, ho2, hg2, _⟩ := append_run (ys := l) elV ho1 (hs.keep (hka.trans hk1)) c 23 (by simp [maxLen]; omega) (by omega) hk1.size
  have hk2 : Keep wa w2 := hk1.grown hg2 (fun j hj => (ho1.lt j hj).1)
  obtain ⟨B2, d2, rfl, hd2, _⟩ := ho2.form
  have ba2 := ba.keep hk2
  have bb2 := bb.keep hk2
  have hz : w.heap.size + 1 < wa.heap.size := by rw [hwa]; simp
  have x0 : w2.cell? ⟨w.heap.size, 0, none⟩ = some (.slice A1 s.T.length c1) := ba2.cell 0
  have x1 : w2.cell? ⟨w.heap.size, 1, none⟩ = some (.slice A2 s.P.length c2) := ba2.cell 1
  have x2 : w2.cell? ⟨w.heap.size, 2, none⟩ = some (.slice A3 s.P.length c3) := ba2.cell 2
  have x3 : w2.cell? ⟨w.heap.size, 3, none⟩ = some (.int .i64 (most : Int)) := ba2.cell 3
  have y0 : w2.cell? ⟨w.heap.size + 1, 0, none⟩ = some (.slice none 0 0) := bb2.cell 0
  have y1 : w2.cell? ⟨w.heap.size + 1, 1, none⟩ = some (.slice none 0 0) := bb2.cell 1
  have y2 : w2.cell? ⟨w.heap.size + 1, 2, none⟩ = some (.slice none 0 0) := bb2.cell 2
  have y3 : w2.cell? ⟨w.heap.size + 1, 3, none⟩ = some (.int .i64 0) := bb2.cell 3
  have fx := ba2.frozen
  have fy := bb2.frozen
  have lx := ba2.lt
  have ly := bb2.lt
  have hll : (s.T ++ l).length = s.T.length + l.length := by simp
  have ha1' : (Builtin.append_ #[23, 23] 23 #[.slice none 0 0, .slice A1 s.T.length c1]).run Try.prog ((w.alloc (.cells #[.slice A1 s.T.length c1, .slice A2 s.P.length c2, .slice A3 s.P.length c3, .int .i64 (most : Int)] 31)).alloc (.cells #[.slice none 0 0, .slice none 0 0, .slice none 0 0, .int .i64 0] 31)) = .ok (.slice B1 s.T.length d1) w1 := by rw [← hwa]; exact ha1
  rw [hll] at ha2
  have hwal : w.heap.size + 1 < w2.heap.size := ly
  have hfin : ∀ m : Nat, m = max most (s.T.length + l.length) → ∀ W : World, Only w.heap.size w2 W → RefAt (Grow G w) W (.agg #[.slice B2 (s.T.length + l.length) d2, .slice A2 s.P.length c2, .slice A3 s.P.length c3, .int .i64 (m : Int)]) (s.push l) ∧ Keep w W := by
    intro m hm W hW
    have hk : Keep w W := hW.keep (hka.trans hk2)
    refine ⟨⟨B2, A2, A3, d2, c2, c3, m, by rw [← hll]; rfl, (ho2.only hW hz).seg, s2.keep hk, s3.keep hk, ?_, ?_, hc2, hc3, by omega, InG.own ho2 G hka.size _, g2.grow w, g3.grow w⟩, hk⟩
    · show (s.over || decide (256 < s.T.length + l.length)) = _
      rw [ho, ← Bool.decide_or]
      refine decide_eq_decide.2 ⟨fun h => ?_, fun h => ?_⟩
      · rw [hm]; omega
      · rw [hm] at h; omega
    · show (s.T ++ l).length ≤ d2; exact hd2
  have Hfin := Lib.hid hfin
  clear hfin ho1 ho2 hg1 hg2 hz ba bb ba2 bb2 ha1 hll hwa ho hd2 hwal
  go_enter Try.func48, Try.ntmps48
  go_wp2_with (at_builtin; first | (refine wpList_append_eq rfl _ _ _ rfl _ _ rfl rfl _ _ ha1' ?_; clear ha1') | (refine wpList_append_eq rfl _ _ _ rfl _ _ rfl rfl _ _ ha2 ?_; clear ha2))
  · rename_i h
    refine bodyPost_ret (v := .agg #[.slice B2 (s.T.length + l.length) d2, .slice A2 s.P.length c2, .slice A3 s.P.length c3, .int .i64 ((s.T.length + l.length : Nat) : Int)]) (by simp [results, Try.results48, go_sem, x0, x1, x2, x3, y0, y1, y2, y3]) rfl ⟨_, rfl, Hfin.out _ (by omega) _ ?_⟩
    exact (((((Only.refl _ _).set0 _ _).set0 _ _).set1 _ _).set1 _ _).set1 _ _ |>.set1 _ _
  · rename_i h
    refine bodyPost_ret (v := .agg #[.slice B2 (s.T.length + l.length) d2, .slice A2 s.P.length c2, .slice A3 s.P.length c3, .int .i64 (most : Int)]) (by simp [results, Try.results48, go_sem, x0, x1, x2, x3, y0, y1, y2, y3]) rfl ⟨_, rfl, Hfin.out _ (by omega) _ ?_⟩
    exact (((((Only.refl _ _).set0 _ _).set0 _ _).set1 _ _).set1 _ _).set1 _ _ |>.set1 _ _
end Go.Proofs.Ytkeefajfndmpeaa
