/-
  left: how many types remain when the given ones are taken off.
-/
import Derived.Test.YtkeefajfndmpeaaIter
import Derived.Test.YtkeefajfndmpeaaTail
import Derived.Test.YtkeefajfndmpeaaPush
namespace Go.Proofs.Ytkeefajfndmpeaa
open Go Go.RowKit Go.Shelf

attribute [local go_sem] Oper.semAt_some

theorem ko_set {W V : World} (h : KeepsOthers W V) (p : Addr) (u : Value) : KeepsOthers W (V.setCell p u) := h.trans (KeepsOthers.setCell _ _ _)
theorem ko_drew {W V : World} (h : KeepsOthers W V) : KeepsOthers W V.drew := h.trans (KeepsOthers.drew _)
theorem cell_set_ne {W : World} {p q : Addr} (hne : q.block ≠ p.block) (u : Value) : (W.setCell p u).cell? q = W.cell? q := World.cell?_of_block (Below.heap_setCell W p u q.block hne)
theorem cell_set_eq {W : World} {p : Addr} {x : Value} (h : W.cell? p = some x) (u : Value) : (W.setCell p u).cell? p = some u := World.cell?_setCell_same' W p u (by rw [h]; rfl)

/-- What the loop's own cells hold when the wanted types r have been taken off. -/
def LInv (s : Stk) (w : World) (b g b6 b7 : Nat) (r : List Int) (W : World) : Prop :=
  ∃ n, s.steps r s.T.length = .ok n ∧ W.cell? ⟨b6, 0, none⟩ = some (.int .i64 (n : Int)) ∧ W.frozen? ⟨b6, 0, none⟩ = false ∧ W.cell? ⟨b7, 0, none⟩ = some (topAddr g s) ∧ W.cell? ⟨w.heap.size, 0, none⟩ = some (.pointer (some ⟨b, 0, none⟩))
    ∧ (∃ u, W.cell? ⟨w.heap.size + 1, 0, none⟩ = some u) ∧ W.frozen? ⟨w.heap.size + 1, 0, none⟩ = false ∧ (∃ u, W.cell? ⟨w.heap.size + 1 + 1, 0, none⟩ = some u) ∧ W.frozen? ⟨w.heap.size + 1 + 1, 0, none⟩ = false
/-- What they hold when the loop has been left. -/
def LOut (s : Stk) (w : World) (c : Code) (r : List Int) (W : World) : Prop :=
  c = .ret ∧ ∃ e, s.steps r s.T.length = .error e ∧ W.cell? ⟨w.heap.size + 1, 0, none⟩ = some (.int .i64 0) ∧ W.cell? ⟨w.heap.size + 1 + 1, 0, none⟩ = some (.int .i64 e)

theorem two_new (w : World) (u v : Value) (t t' : TypeId) : Blk ((w.alloc (.cells #[u] t)).alloc (.cells #[v] t')) w.heap.size t [u] ∧ Blk ((w.alloc (.cells #[u] t)).alloc (.cells #[v] t')) (w.heap.size + 1) t' [v] := by
  refine ⟨(Blk.new w t [u]).keep ((Keep.refl _).alloc _), ?_⟩
  have := Blk.new (w.alloc (.cells #[u] t)) t' [v]
  simpa using this

set_option maxRecDepth 100000 in
set_option maxHeartbeats 2000000 in
theorem left_calls {F : Nat → Prop} {b : Nat} {s : Stk} {w : World} (h : At F w b s) (hok : s.Ok) (l : List Int) (A : Option Addr) (c : Nat) (hs : Seg w A (l.flatMap valC)) (hn : s.T.length ≤ 1000000) (hm : s.P.length ≤ 1000000) (hl : l.length ≤ 1000000) :
    Calls Try.prog 57 #[.pointer (some ⟨b, 0, none⟩), .slice A l.length c] w fun e w' => e = .returned (.tuple #[.int .i64 ((s.left l).1 : Int), .int .i64 (s.left l).2]) ∧ Keep w w' := by
  obtain ⟨vt, vp, hb, ht, hp, _, _⟩ := h.body
  obtain ⟨g, cp, rfl, hg, p0, p1⟩ := part_at hp (k := s.B.length) (by rw [s.P_len]; omega)
  rw [s.P_last] at p0 p1
  obtain ⟨At, ct, rfl, hct, hcm⟩ := ht.form
  refine (callsIn_wide (n := 3)).1 (callsIn_of_wp_marks Try.func57 rfl trivial ?_ rfl)
  simp only [Try.ntmps57, List.size_toArray, List.length_cons, List.length_nil, Nat.reduceAdd, Nat.reduceSub, Array.replicate_succ, Array.replicate_zero, List.push_toArray, List.append_toArray, List.nil_append, List.cons_append]
  refine wpIn_wide.2 ?_
  go_wp2_with fail
  obtain ⟨w3, hw3⟩ : ∃ w3 : World, w3 = ((w.alloc (.cells #[.pointer (some ⟨b, 0, none⟩)] 26)).alloc (.cells #[.int .i64 0] 3)).alloc (.cells #[.int .i64 0] 40) := ⟨_, rfl⟩
  have hk3 : Keep w w3 := by rw [hw3]; exact (((Keep.refl _).alloc _).alloc _).alloc _
  have hz3 : w3.heap.size = w.heap.size + 1 + 1 + 1 := by rw [hw3]; simp
  have b2 : Blk w3 w.heap.size 26 [.pointer (some ⟨b, 0, none⟩)] := by rw [hw3]; exact (Blk.new w _ _).keep (((Keep.refl _).alloc _).alloc _)
  have b4 : Blk w3 (w.heap.size + 1) 3 [.int .i64 0] := by
    rw [hw3]
    have := (Blk.new (w.alloc (.cells #[.pointer (some ⟨b, 0, none⟩)] 26)) 3 [.int .i64 0]).keep ((Keep.refl _).alloc (.cells #[.int .i64 0] 40))
    simpa using this
  have b5 : Blk w3 (w.heap.size + 1 + 1) 40 [.int .i64 0] := by
    rw [hw3]
    have := Blk.new ((w.alloc (.cells #[.pointer (some ⟨b, 0, none⟩)] 26)).alloc (.cells #[.int .i64 0] 3)) 40 [.int .i64 0]
    simpa using this
  rw [← hw3]
  clear hw3
  have hb3 := hb.keep hk3
  have x2 := fun x : KW w3 => x.cell (v := .pointer (some ⟨b, 0, none⟩)) (b2.cell 0)
  have x0 := fun x : KW w3 => x.cell (v := .slice At s.T.length ct) (hb3.cell 0)
  have hkd : Keep w3 w3.drew := Keep.drew (Keep.refl _)
  have Htop := Lib.hid (fun (wx : World) (hx : Keep w3 wx) => top_calls' (hb3.keep hx) hm)
  have Hz3 := Lib.hid hz3
  clear hz3
  refine Code.wp_mono (Q := fun e a' w' => e = .normal ∧ ∃ b6 b7 : Nat, a' = { tmps := #[.pointer (some ⟨b, 0, none⟩), .slice A l.length c, .pointer (some ⟨w.heap.size, 0, none⟩), undef, .pointer (some ⟨w.heap.size + 1, 0, none⟩), .pointer (some ⟨w.heap.size + 1 + 1, 0, none⟩), .pointer (some ⟨b6, 0, none⟩), .pointer (some ⟨b7, 0, none⟩), undef, undef, undef, .pointer (some ⟨b, 0, none⟩), .pointer (some ⟨b, 0, none⟩), .pointer (some ⟨b, 0, none⟩), .slice At s.T.length ct, .int .i64 (s.T.length : Int), .pointer (some ⟨b, 0, none⟩), topAddr g s, undef, undef, undef, undef, undef, undef, undef, undef, undef, undef, undef, undef, undef, undef, undef, undef, undef, undef, undef, undef, undef, undef, undef, undef, undef, undef, undef, undef, undef, undef, undef, undef, undef, undef, undef, undef], defers := [] } ∧ Keep w3 w' ∧ Blk w' b6 3 [.int .i64 (s.T.length : Int)] ∧ Blk w' b7 95 [topAddr g s] ∧ w3.heap.size ≤ b6 ∧ w3.heap.size ≤ b7 ∧ b6 ≠ b7) ?_ ?_
  rotate_left
  · refine region_begin (S := fun w' => ∃ x : KW w3, w' = x.val) (by kernel_rfl) ?_
    refine region_take [0, 1, 2, 3, 4, 5] [] 5 (by kernel_rfl) (by kernel_rfl) (InK.mk' hkd) ?_
    show wpQuiet _ _ _ _ (_ :: _ :: _ :: _ :: _ :: _ :: []) _
    repeat (go_big_quiet_step (fail))
    refine wpQuiet_nil ?_
    refine region_any (fuel := 4) (is := [6, 7, 8]) (by kernel_rfl) (by simp) (mem3 ?_ ?_ ?_)
    · refine ⟨_, rfl, fun K hK => ?_⟩
      go_simp
      refine (Htop.out _ (by repeat (first | exact Keep.refl _ | apply Keep.alloc | apply Keep.drewN | apply Keep.drew))).mono ?_
      rintro e wx ⟨rfl, nx, rfl⟩
      refine hK _ _ (InK.mk' (by repeat (first | exact Keep.refl _ | apply Keep.alloc | apply Keep.drewN | apply Keep.drew))) ?_
      clear hK K
      refine region_any (fuel := 3) (is := [7, 8]) (by kernel_rfl) (by simp) (mem2 ?_ ?_)
      · refine ⟨_, rfl, fun K hK => ?_⟩
        go_simp
        refine hK _ _ (InK.mk' (by repeat (first | exact Keep.refl _ | apply Keep.alloc | apply Keep.drewN | apply Keep.drew))) ?_
        clear hK K
        refine region_fix (i := 8) (fuel := 2) rfl (by kernel_rfl) (fun K hK => ?_)
        go_simp
        refine hK _ _ (InK.mk' (by repeat (first | exact Keep.refl _ | apply Keep.alloc | apply Keep.drewN | apply Keep.drew))) ?_
        clear hK K
        refine gen_wpAnyH (fun W => Keep w3 W ∧ Blk W (w3.heap.size) 3 [.int .i64 0] ∧ Blk W (w3.heap.size + 1) 95 [.pointer none]) ⟨(by repeat (first | exact Keep.refl _ | apply Keep.alloc | apply Keep.drewN | apply Keep.drew)), (two_new w3 _ _ _ _).1, (two_new w3 _ _ _ _).2⟩ ?_
        rintro W ⟨hkW, B6, B7⟩
        have c6 : W.cell? ⟨w3.heap.size, 0, none⟩ = some (.int .i64 0) := B6.cell 0
        have c7 : W.cell? ⟨w3.heap.size + 1, 0, none⟩ = some (.pointer none) := B7.cell 0
        have l6 := B6.lt
        have l7 := B7.lt
        have f6 := B6.frozen 0
        have f7 := B7.frozen 0
        have hk6 := hkW.setCell (p := ⟨w3.heap.size, 0, none⟩) (by show w3.heap.size ≤ w3.heap.size; omega) (.int .i64 (s.T.length : Int))
        have hk7 := hk6.setCell (p := ⟨w3.heap.size + 1, 0, none⟩) (by show w3.heap.size ≤ w3.heap.size + 1; omega) (topAddr g s)
        have B6' := (B6.set_ 0 (.int .i64 (s.T.length : Int))).far (p := ⟨w3.heap.size + 1, 0, none⟩) (by show w3.heap.size ≠ w3.heap.size + 1; omega) (topAddr g s)
        have B7' := (B7.far (p := ⟨w3.heap.size, 0, none⟩) (by show w3.heap.size + 1 ≠ w3.heap.size; omega) (.int .i64 (s.T.length : Int))).set_ 0 (topAddr g s)
        clear B6 B7
        refine region_fix (i := 9) (fuel := 1) rfl (by kernel_rfl) (fun K hK => ?_)
        go_simp
        refine hK _ _ (InK.mk' hk6) ?_
        clear hK K
        refine region_fix (i := 10) (fuel := 0) rfl (by kernel_rfl) (fun K hK => ?_)
        unfold topAddr at hk7 B6' B7' ⊢
        go_simp
        refine hK _ _ (InK.mk' hk7) ?_
        clear hK K
        refine region_done (by kernel_rfl) ?_
        exact ⟨rfl, w3.heap.size, w3.heap.size + 1, rfl, hk7, B6', B7', by omega, by omega, by omega⟩
      · refine ⟨_, rfl, fun K hK => ?_⟩
        go_simp
        refine hK _ _ (InK.mk' (by repeat (first | exact Keep.refl _ | apply Keep.alloc | apply Keep.drewN | apply Keep.drew))) ?_
        clear hK K
        refine region_fix (i := 7) (fuel := 2) rfl (by kernel_rfl) (fun K hK => ?_)
        go_simp
        refine hK _ _ (InK.mk' (by repeat (first | exact Keep.refl _ | apply Keep.alloc | apply Keep.drewN | apply Keep.drew))) ?_
        clear hK K
        refine gen_wpAnyH (fun W => Keep w3 W ∧ Blk W (w3.heap.size + 1) 3 [.int .i64 0] ∧ Blk W (w3.heap.size) 95 [.pointer none]) ⟨(by repeat (first | exact Keep.refl _ | apply Keep.alloc | apply Keep.drewN | apply Keep.drew)), (two_new w3 _ _ _ _).2, (two_new w3 _ _ _ _).1⟩ ?_
        rintro W ⟨hkW, B6, B7⟩
        have c6 : W.cell? ⟨w3.heap.size + 1, 0, none⟩ = some (.int .i64 0) := B6.cell 0
        have c7 : W.cell? ⟨w3.heap.size, 0, none⟩ = some (.pointer none) := B7.cell 0
        have l6 := B6.lt
        have l7 := B7.lt
        have f6 := B6.frozen 0
        have f7 := B7.frozen 0
        have hk6 := hkW.setCell (p := ⟨w3.heap.size + 1, 0, none⟩) (by show w3.heap.size ≤ w3.heap.size + 1; omega) (.int .i64 (s.T.length : Int))
        have hk7 := hk6.setCell (p := ⟨w3.heap.size, 0, none⟩) (by show w3.heap.size ≤ w3.heap.size; omega) (topAddr g s)
        have B6' := (B6.set_ 0 (.int .i64 (s.T.length : Int))).far (p := ⟨w3.heap.size, 0, none⟩) (by show w3.heap.size + 1 ≠ w3.heap.size; omega) (topAddr g s)
        have B7' := (B7.far (p := ⟨w3.heap.size + 1, 0, none⟩) (by show w3.heap.size ≠ w3.heap.size + 1; omega) (.int .i64 (s.T.length : Int))).set_ 0 (topAddr g s)
        clear B6 B7
        refine region_fix (i := 9) (fuel := 1) rfl (by kernel_rfl) (fun K hK => ?_)
        go_simp
        refine hK _ _ (InK.mk' hk6) ?_
        clear hK K
        refine region_fix (i := 10) (fuel := 0) rfl (by kernel_rfl) (fun K hK => ?_)
        unfold topAddr at hk7 B6' B7' ⊢
        go_simp
        refine hK _ _ (InK.mk' hk7) ?_
        clear hK K
        refine region_done (by kernel_rfl) ?_
        exact ⟨rfl, w3.heap.size + 1, w3.heap.size, rfl, hk7, B6', B7', by omega, by omega, by omega⟩
    · refine ⟨_, rfl, fun K hK => ?_⟩
      go_simp
      refine hK _ _ (InK.mk' (by repeat (first | exact Keep.refl _ | apply Keep.alloc | apply Keep.drewN | apply Keep.drew))) ?_
      clear hK K
      refine region_any (fuel := 3) (is := [6, 8]) (by kernel_rfl) (by simp) (mem2 ?_ ?_)
      · refine ⟨_, rfl, fun K hK => ?_⟩
        go_simp
        refine (Htop.out _ (by repeat (first | exact Keep.refl _ | apply Keep.alloc | apply Keep.drewN | apply Keep.drew))).mono ?_
        rintro e wx ⟨rfl, nx, rfl⟩
        refine hK _ _ (InK.mk' (by repeat (first | exact Keep.refl _ | apply Keep.alloc | apply Keep.drewN | apply Keep.drew))) ?_
        clear hK K
        refine region_fix (i := 8) (fuel := 2) rfl (by kernel_rfl) (fun K hK => ?_)
        go_simp
        refine hK _ _ (InK.mk' (by repeat (first | exact Keep.refl _ | apply Keep.alloc | apply Keep.drewN | apply Keep.drew))) ?_
        clear hK K
        refine gen_wpAnyH (fun W => Keep w3 W ∧ Blk W (w3.heap.size) 3 [.int .i64 0] ∧ Blk W (w3.heap.size + 1) 95 [.pointer none]) ⟨(by repeat (first | exact Keep.refl _ | apply Keep.alloc | apply Keep.drewN | apply Keep.drew)), (two_new w3 _ _ _ _).1, (two_new w3 _ _ _ _).2⟩ ?_
        rintro W ⟨hkW, B6, B7⟩
        have c6 : W.cell? ⟨w3.heap.size, 0, none⟩ = some (.int .i64 0) := B6.cell 0
        have c7 : W.cell? ⟨w3.heap.size + 1, 0, none⟩ = some (.pointer none) := B7.cell 0
        have l6 := B6.lt
        have l7 := B7.lt
        have f6 := B6.frozen 0
        have f7 := B7.frozen 0
        have hk6 := hkW.setCell (p := ⟨w3.heap.size, 0, none⟩) (by show w3.heap.size ≤ w3.heap.size; omega) (.int .i64 (s.T.length : Int))
        have hk7 := hk6.setCell (p := ⟨w3.heap.size + 1, 0, none⟩) (by show w3.heap.size ≤ w3.heap.size + 1; omega) (topAddr g s)
        have B6' := (B6.set_ 0 (.int .i64 (s.T.length : Int))).far (p := ⟨w3.heap.size + 1, 0, none⟩) (by show w3.heap.size ≠ w3.heap.size + 1; omega) (topAddr g s)
        have B7' := (B7.far (p := ⟨w3.heap.size, 0, none⟩) (by show w3.heap.size + 1 ≠ w3.heap.size; omega) (.int .i64 (s.T.length : Int))).set_ 0 (topAddr g s)
        clear B6 B7
        refine region_fix (i := 9) (fuel := 1) rfl (by kernel_rfl) (fun K hK => ?_)
        go_simp
        refine hK _ _ (InK.mk' hk6) ?_
        clear hK K
        refine region_fix (i := 10) (fuel := 0) rfl (by kernel_rfl) (fun K hK => ?_)
        unfold topAddr at hk7 B6' B7' ⊢
        go_simp
        refine hK _ _ (InK.mk' hk7) ?_
        clear hK K
        refine region_done (by kernel_rfl) ?_
        exact ⟨rfl, w3.heap.size, w3.heap.size + 1, rfl, hk7, B6', B7', by omega, by omega, by omega⟩
      · refine ⟨_, rfl, fun K hK => ?_⟩
        go_simp
        refine hK _ _ (InK.mk' (by repeat (first | exact Keep.refl _ | apply Keep.alloc | apply Keep.drewN | apply Keep.drew))) ?_
        clear hK K
        refine region_fix (i := 6) (fuel := 2) rfl (by kernel_rfl) (fun K hK => ?_)
        go_simp
        refine (Htop.out _ (by repeat (first | exact Keep.refl _ | apply Keep.alloc | apply Keep.drewN | apply Keep.drew))).mono ?_
        rintro e wx ⟨rfl, nx, rfl⟩
        refine hK _ _ (InK.mk' (by repeat (first | exact Keep.refl _ | apply Keep.alloc | apply Keep.drewN | apply Keep.drew))) ?_
        clear hK K
        refine gen_wpAnyH (fun W => Keep w3 W ∧ Blk W (w3.heap.size) 3 [.int .i64 0] ∧ Blk W (w3.heap.size + 1) 95 [.pointer none]) ⟨(by repeat (first | exact Keep.refl _ | apply Keep.alloc | apply Keep.drewN | apply Keep.drew)), (two_new w3 _ _ _ _).1, (two_new w3 _ _ _ _).2⟩ ?_
        rintro W ⟨hkW, B6, B7⟩
        have c6 : W.cell? ⟨w3.heap.size, 0, none⟩ = some (.int .i64 0) := B6.cell 0
        have c7 : W.cell? ⟨w3.heap.size + 1, 0, none⟩ = some (.pointer none) := B7.cell 0
        have l6 := B6.lt
        have l7 := B7.lt
        have f6 := B6.frozen 0
        have f7 := B7.frozen 0
        have hk6 := hkW.setCell (p := ⟨w3.heap.size, 0, none⟩) (by show w3.heap.size ≤ w3.heap.size; omega) (.int .i64 (s.T.length : Int))
        have hk7 := hk6.setCell (p := ⟨w3.heap.size + 1, 0, none⟩) (by show w3.heap.size ≤ w3.heap.size + 1; omega) (topAddr g s)
        have B6' := (B6.set_ 0 (.int .i64 (s.T.length : Int))).far (p := ⟨w3.heap.size + 1, 0, none⟩) (by show w3.heap.size ≠ w3.heap.size + 1; omega) (topAddr g s)
        have B7' := (B7.far (p := ⟨w3.heap.size, 0, none⟩) (by show w3.heap.size + 1 ≠ w3.heap.size; omega) (.int .i64 (s.T.length : Int))).set_ 0 (topAddr g s)
        clear B6 B7
        refine region_fix (i := 9) (fuel := 1) rfl (by kernel_rfl) (fun K hK => ?_)
        go_simp
        refine hK _ _ (InK.mk' hk6) ?_
        clear hK K
        refine region_fix (i := 10) (fuel := 0) rfl (by kernel_rfl) (fun K hK => ?_)
        unfold topAddr at hk7 B6' B7' ⊢
        go_simp
        refine hK _ _ (InK.mk' hk7) ?_
        clear hK K
        refine region_done (by kernel_rfl) ?_
        exact ⟨rfl, w3.heap.size, w3.heap.size + 1, rfl, hk7, B6', B7', by omega, by omega, by omega⟩
    · refine ⟨_, rfl, fun K hK => ?_⟩
      go_simp
      refine hK _ _ (InK.mk' (by repeat (first | exact Keep.refl _ | apply Keep.alloc | apply Keep.drewN | apply Keep.drew))) ?_
      clear hK K
      refine region_any (fuel := 3) (is := [6, 7]) (by kernel_rfl) (by simp) (mem2 ?_ ?_)
      · refine ⟨_, rfl, fun K hK => ?_⟩
        go_simp
        refine (Htop.out _ (by repeat (first | exact Keep.refl _ | apply Keep.alloc | apply Keep.drewN | apply Keep.drew))).mono ?_
        rintro e wx ⟨rfl, nx, rfl⟩
        refine hK _ _ (InK.mk' (by repeat (first | exact Keep.refl _ | apply Keep.alloc | apply Keep.drewN | apply Keep.drew))) ?_
        clear hK K
        refine region_fix (i := 7) (fuel := 2) rfl (by kernel_rfl) (fun K hK => ?_)
        go_simp
        refine hK _ _ (InK.mk' (by repeat (first | exact Keep.refl _ | apply Keep.alloc | apply Keep.drewN | apply Keep.drew))) ?_
        clear hK K
        refine gen_wpAnyH (fun W => Keep w3 W ∧ Blk W (w3.heap.size + 1) 3 [.int .i64 0] ∧ Blk W (w3.heap.size) 95 [.pointer none]) ⟨(by repeat (first | exact Keep.refl _ | apply Keep.alloc | apply Keep.drewN | apply Keep.drew)), (two_new w3 _ _ _ _).2, (two_new w3 _ _ _ _).1⟩ ?_
        rintro W ⟨hkW, B6, B7⟩
        have c6 : W.cell? ⟨w3.heap.size + 1, 0, none⟩ = some (.int .i64 0) := B6.cell 0
        have c7 : W.cell? ⟨w3.heap.size, 0, none⟩ = some (.pointer none) := B7.cell 0
        have l6 := B6.lt
        have l7 := B7.lt
        have f6 := B6.frozen 0
        have f7 := B7.frozen 0
        have hk6 := hkW.setCell (p := ⟨w3.heap.size + 1, 0, none⟩) (by show w3.heap.size ≤ w3.heap.size + 1; omega) (.int .i64 (s.T.length : Int))
        have hk7 := hk6.setCell (p := ⟨w3.heap.size, 0, none⟩) (by show w3.heap.size ≤ w3.heap.size; omega) (topAddr g s)
        have B6' := (B6.set_ 0 (.int .i64 (s.T.length : Int))).far (p := ⟨w3.heap.size, 0, none⟩) (by show w3.heap.size + 1 ≠ w3.heap.size; omega) (topAddr g s)
        have B7' := (B7.far (p := ⟨w3.heap.size + 1, 0, none⟩) (by show w3.heap.size ≠ w3.heap.size + 1; omega) (.int .i64 (s.T.length : Int))).set_ 0 (topAddr g s)
        clear B6 B7
        refine region_fix (i := 9) (fuel := 1) rfl (by kernel_rfl) (fun K hK => ?_)
        go_simp
        refine hK _ _ (InK.mk' hk6) ?_
        clear hK K
        refine region_fix (i := 10) (fuel := 0) rfl (by kernel_rfl) (fun K hK => ?_)
        unfold topAddr at hk7 B6' B7' ⊢
        go_simp
        refine hK _ _ (InK.mk' hk7) ?_
        clear hK K
        refine region_done (by kernel_rfl) ?_
        exact ⟨rfl, w3.heap.size + 1, w3.heap.size, rfl, hk7, B6', B7', by omega, by omega, by omega⟩
      · refine ⟨_, rfl, fun K hK => ?_⟩
        go_simp
        refine hK _ _ (InK.mk' (by repeat (first | exact Keep.refl _ | apply Keep.alloc | apply Keep.drewN | apply Keep.drew))) ?_
        clear hK K
        refine region_fix (i := 6) (fuel := 2) rfl (by kernel_rfl) (fun K hK => ?_)
        go_simp
        refine (Htop.out _ (by repeat (first | exact Keep.refl _ | apply Keep.alloc | apply Keep.drewN | apply Keep.drew))).mono ?_
        rintro e wx ⟨rfl, nx, rfl⟩
        refine hK _ _ (InK.mk' (by repeat (first | exact Keep.refl _ | apply Keep.alloc | apply Keep.drewN | apply Keep.drew))) ?_
        clear hK K
        refine gen_wpAnyH (fun W => Keep w3 W ∧ Blk W (w3.heap.size + 1) 3 [.int .i64 0] ∧ Blk W (w3.heap.size) 95 [.pointer none]) ⟨(by repeat (first | exact Keep.refl _ | apply Keep.alloc | apply Keep.drewN | apply Keep.drew)), (two_new w3 _ _ _ _).2, (two_new w3 _ _ _ _).1⟩ ?_
        rintro W ⟨hkW, B6, B7⟩
        have c6 : W.cell? ⟨w3.heap.size + 1, 0, none⟩ = some (.int .i64 0) := B6.cell 0
        have c7 : W.cell? ⟨w3.heap.size, 0, none⟩ = some (.pointer none) := B7.cell 0
        have l6 := B6.lt
        have l7 := B7.lt
        have f6 := B6.frozen 0
        have f7 := B7.frozen 0
        have hk6 := hkW.setCell (p := ⟨w3.heap.size + 1, 0, none⟩) (by show w3.heap.size ≤ w3.heap.size + 1; omega) (.int .i64 (s.T.length : Int))
        have hk7 := hk6.setCell (p := ⟨w3.heap.size, 0, none⟩) (by show w3.heap.size ≤ w3.heap.size; omega) (topAddr g s)
        have B6' := (B6.set_ 0 (.int .i64 (s.T.length : Int))).far (p := ⟨w3.heap.size, 0, none⟩) (by show w3.heap.size + 1 ≠ w3.heap.size; omega) (topAddr g s)
        have B7' := (B7.far (p := ⟨w3.heap.size + 1, 0, none⟩) (by show w3.heap.size ≠ w3.heap.size + 1; omega) (.int .i64 (s.T.length : Int))).set_ 0 (topAddr g s)
        clear B6 B7
        refine region_fix (i := 9) (fuel := 1) rfl (by kernel_rfl) (fun K hK => ?_)
        go_simp
        refine hK _ _ (InK.mk' hk6) ?_
        clear hK K
        refine region_fix (i := 10) (fuel := 0) rfl (by kernel_rfl) (fun K hK => ?_)
        unfold topAddr at hk7 B6' B7' ⊢
        go_simp
        refine hK _ _ (InK.mk' hk7) ?_
        clear hK K
        refine region_done (by kernel_rfl) ?_
        exact ⟨rfl, w3.heap.size + 1, w3.heap.size, rfl, hk7, B6', B7', by omega, by omega, by omega⟩
  · rintro e a' w5 ⟨rfl, b6, b7, rfl, hk5, B6, B7, hb6, hb7, hne⟩
    have hz := Hz3.out
    clear Htop x0 x2
    have Hbw := Lib.hid (fun wx => backward_calls A l.length c wx)
    go_wp2_with fail
    refine (Hbw.out w5).mono ?_
    rintro e w6 ⟨rfl, hw6⟩
    clear Hbw
    have hk6 : Keep w5 w6 := by rw [hw6]; exact (Keep.refl _).alloc _
    have hz6 : w6.heap.size = w5.heap.size + 1 := by rw [hw6]; simp
    have B8 : Blk w6 w5.heap.size 23 [.slice A l.length c] := by rw [hw6]; exact Blk.new _ _ _
    clear hw6
    have hk36 : Keep w3 w6 := hk5.trans hk6
    have hk06 : Keep w w6 := hk3.trans hk36
    have hlt6 : b6 < w5.heap.size := B6.lt
    have hlt7 : b7 < w5.heap.size := B7.lt
    have hlb : b < w.heap.size := hb.lt
    have HK : ∀ k, (k < w.heap.size ∨ k = w5.heap.size) → k < w6.heap.size := by
      have := hk06.size
      rintro k (hk | rfl) <;> omega
    have C0 : w.cell? ⟨b, 0, none⟩ = some (.slice At s.T.length ct) := hb.cell 0
    have c2 : w6.cell? ⟨w.heap.size, 0, none⟩ = some (.pointer (some ⟨b, 0, none⟩)) := (b2.keep hk36).cell 0
    have c4 : w6.cell? ⟨w.heap.size + 1, 0, none⟩ = some (.int .i64 0) := (b4.keep hk36).cell 0
    have f4 : w6.frozen? ⟨w.heap.size + 1, 0, none⟩ = false := (b4.keep hk36).frozen 0
    have c5 : w6.cell? ⟨w.heap.size + 1 + 1, 0, none⟩ = some (.int .i64 0) := (b5.keep hk36).cell 0
    have f5 : w6.frozen? ⟨w.heap.size + 1 + 1, 0, none⟩ = false := (b5.keep hk36).frozen 0
    have c6 : w6.cell? ⟨b6, 0, none⟩ = some (.int .i64 (s.T.length : Int)) := (B6.keep hk6).cell 0
    have f6 : w6.frozen? ⟨b6, 0, none⟩ = false := (B6.keep hk6).frozen 0
    have c7 : w6.cell? ⟨b7, 0, none⟩ = some (topAddr g s) := (B7.keep hk6).cell 0
    have c8 : w6.cell? ⟨w5.heap.size, 0, none⟩ = some (.slice A l.length c) := B8.cell 0
    have hA : 0 < l.length → ∀ a, A = some a → a.block < w.heap.size ∨ a.block = w5.heap.size := by
      intro hl0 a ha
      obtain ⟨b', off', e', hb', _⟩ := val_at hs (Keep.refl _) hl0
      rw [ha] at e'
      cases e'
      exact .inl hb'
    have hst := backward_stops Fence.wide (3 - 1) trivial rfl (by omega) w5.heap.size (fun k => k < w.heap.size ∨ k = w5.heap.size) A c l hl w6 HK c8 (.inr rfl) hA (hs.keep hk06)
    have Hst := Lib.hid hst
    have hszs : w.heap.size + 1 + 1 + 1 ≤ b6 ∧ w.heap.size + 1 + 1 + 1 ≤ b7 := by omega
    have htseg := Lib.hid ht.seg
    clear hst b2 b4 b5 B6 B7 B8 hb hb3 ht hp hz hb6 hb7
    go_wp2_with fail
    refine (wpIn_wide (n := 3)).1 ?_
    refine wpIn_rangeFunc_ownF (F := Fence.wide) rfl (by omega) (gf := 79) (lb := #[.pointer (some ⟨w5.heap.size, 0, none⟩)]) rfl trivial (enters_of Try.func79 (by kernel_rfl) rfl)
      Hst.out KeepOn.trans (KeepOn.put HK) (Below.refl _ _) (fun _ => rfl)
      (fun pre W => LInv s w b g b6 b7 (pre.map Prod.snd) W ∧ Below w.heap.size w W)
      (fun c pre W => LOut s w c (pre.map Prod.snd) W ∧ Below w.heap.size w W)
      (OwnFrom.and (Own.from (fun s A B row hs hg hr => by
        obtain ⟨n, h1, h2, h3, h4, h5, ⟨u1, h6⟩, h7, ⟨u2, h8⟩, h9⟩ := hs
        exact ⟨n, h1, cell_kept h2 hg hr, (frozen_kept h2 hg hr).trans h3, cell_kept h4 hg hr, cell_kept h5 hg hr, ⟨u1, cell_kept h6 hg hr⟩, (frozen_kept h6 hg hr).trans h7, ⟨u2, cell_kept h8 hg hr⟩, (frozen_kept h8 hg hr).trans h9⟩) _) (ownFrom_below (Nat.le_refl _) (by have := hk06.size; omega)))
      (fun c => OwnFrom.and (Own.from (fun s A B row hs hg hr => by
        obtain ⟨h0, e, h1, h2, h3⟩ := hs
        exact ⟨h0, e, h1, cell_kept h2 hg hr, cell_kept h3 hg hr⟩) _) (ownFrom_below (Nat.le_refl _) (by have := hk06.size; omega)))
      ⟨⟨s.T.length, rfl, c6, f6, c7, c2, ⟨_, c4⟩, f4, ⟨_, c5⟩, f5⟩, hk06⟩
      (fun x => { tmps := #[.pointer (some ⟨b, 0, none⟩), .slice A l.length c, .pointer (some ⟨w.heap.size, 0, none⟩), undef, .pointer (some ⟨w.heap.size + 1, 0, none⟩), .pointer (some ⟨w.heap.size + 1 + 1, 0, none⟩), .pointer (some ⟨b6, 0, none⟩), .pointer (some ⟨b7, 0, none⟩), undef, .int .i64 x.2, undef, .pointer (some ⟨b, 0, none⟩), .pointer (some ⟨b, 0, none⟩), .pointer (some ⟨b, 0, none⟩), .slice At s.T.length ct, .int .i64 (s.T.length : Int), .pointer (some ⟨b, 0, none⟩), topAddr g s, .slice A l.length c, .func (.func 79) #[] #[.pointer (some ⟨w5.heap.size, 0, none⟩)], .int .i64 x.1, .int .i64 x.2, undef, undef, undef, undef, undef, undef, undef, undef, undef, undef, undef, undef, undef, undef, undef, undef, undef, undef, undef, undef, undef, undef, undef, undef, undef, undef, undef, undef, undef, undef, undef, undef], defers := [] }) ?assign ?body ?done ?stop
    case assign =>
      intro l x W K hK
      unfold encs
      gi_wp2
      exact hK
    case body =>
      rintro lb pre x W ⟨⟨n, hst, hc6, hf6, hc7, hc2, ⟨u1, hc4⟩, hf4, ⟨u2, hc5⟩, hf5⟩, hB⟩ _
      obtain ⟨hn1, hn2⟩ := Stk.steps_le hst hok.le
      have q0 : W.cell? ⟨g, s.B.length * 2, none⟩ = some (.int .i64 (s.at_ : Int)) := (hB.cell (p := ⟨g, s.B.length * 2, none⟩) hg).trans p0
      have q1 : W.cell? ⟨g, s.B.length * 2 + 1, none⟩ = some (.bool s.loose) := (hB.cell (p := ⟨g, s.B.length * 2 + 1, none⟩) hg).trans p1
      have r0 : W.cell? ⟨b, 0, none⟩ = some (.slice At s.T.length ct) := (hB.cell (p := ⟨b, 0, none⟩) hlb).trans C0
      have hsn : s.steps ((pre ++ [x]).map Prod.snd) s.T.length = s.step x.2 n := by
        rw [List.map_append, List.map_singleton, Stk.steps_snoc, hst]
      have Hgn : g < W.heap.size := Nat.lt_of_lt_of_le hg hB.size
      have Hbn : b < W.heap.size := Nat.lt_of_lt_of_le hlb hB.size
      have hmx : Try.prog.follows .mixedOrders = true := by kernel_rfl
      have hc7' := hc7
      unfold topAddr at hc7'
      have Hc7 := Lib.hid hc7
      clear hc7
      by_cases hna : n = s.at_
      · have heq : ((n : Int) == (s.at_ : Int)) = true := by rw [hna]; simp
        cases hlo : s.loose
        · rw [hlo] at q1
          have Hs := Lib.hid (show s.steps ((pre ++ [x]).map Prod.snd) s.T.length = .error 13 by rw [hsn]; unfold Stk.step; rw [if_pos hna, hlo]; rfl)
          clear hsn hna hlo Hst
          gi_wp2
          gi_region_with_o (fail)
          all_goals gi_wp2
          all_goals exact ⟨ko_drew (ko_set (ko_set (KeepsOthers.refl _) _ _) _ _), ⟨rfl, 13, Hs.out, (cell_set_ne (q := ⟨w.heap.size + 1, 0, none⟩) (by show w.heap.size + 1 ≠ w.heap.size + 1 + 1; omega) _).trans (cell_set_eq hc4 _), cell_set_eq ((cell_set_ne (q := ⟨w.heap.size + 1 + 1, 0, none⟩) (by show w.heap.size + 1 + 1 ≠ w.heap.size + 1; omega) _).trans hc5) _⟩, ((hB.setCell (p := ⟨w.heap.size + 1, 0, none⟩) (by show w.heap.size ≤ w.heap.size + 1; omega) _).setCell (p := ⟨w.heap.size + 1 + 1, 0, none⟩) (by show w.heap.size ≤ w.heap.size + 1 + 1; omega) _).drew⟩
        · rw [hlo] at q1
          have Hs := Lib.hid (show s.steps ((pre ++ [x]).map Prod.snd) s.T.length = .ok n by rw [hsn]; unfold Stk.step; rw [if_pos hna, hlo]; rfl)
          clear hsn hna hlo Hst
          gi_wp2
          gi_region_with_o (fail)
          all_goals gi_wp2
          all_goals exact ⟨ko_drew (KeepsOthers.refl _), (KeepOn.refl _ _).drew, ⟨n, Hs.out, hc6, hf6, Hc7.out, hc2, ⟨u1, hc4⟩, hf4, ⟨u2, hc5⟩, hf5⟩, hB.drew⟩
      · have heq : ((n : Int) == (s.at_ : Int)) = false := by simp; omega
        obtain ⟨m, hmm⟩ : ∃ m, m = n - 1 := ⟨_, rfl⟩
        have hi1 : (n : Int) - 1 = (m : Int) := by omega
        have hw : IntKind.i64.wrap ((n : Int) - 1) = (m : Int) := by rw [hi1]; exact IntWalk.i64_in _ (by omega)
        have hml : m < s.T.length := by omega
        have hm0 : (0 : Int) ≤ (m : Int) := by omega
        have hm1 : (m : Int) < (s.T.length : Int) := by omega
        obtain ⟨ga, off, rfl, hga, hcell⟩ := val_at htseg.out (Keep.refl _) hml
        have hgd : s.T.getD (n - 1) 0 = s.T[m] := by rw [← hmm, List.getD_eq_getElem?_getD, List.getElem?_eq_getElem hml]; rfl
        obtain ⟨t, htt⟩ : ∃ t, t = s.T[m] := ⟨_, rfl⟩
        rw [← htt] at hcell hgd
        have ht0 : W.cell? ⟨ga, off + m, none⟩ = some (.int .i64 t) := (hB.cell (p := ⟨ga, off + m, none⟩) hga).trans hcell
        have hgaW : ga < W.heap.size := Nat.lt_of_lt_of_le hga hB.size
        have hstep : s.step x.2 n = if t ≠ x.2 ∧ t ≠ 0 ∧ x.2 ≠ 0 then .error 12 else .ok m := by unfold Stk.step; rw [if_neg hna, hgd, ← hmm]
        rw [hstep] at hsn
        have hnot : ¬ (b6 < w.heap.size ∨ b6 = w5.heap.size) := by omega
        obtain ⟨W', hW'⟩ : ∃ W', W' = (W.setCell ⟨b6, 0, none⟩ (.int .i64 (m : Int))).drew.drew := ⟨_, rfl⟩
        have hgo : s.steps ((pre ++ [x]).map Prod.snd) s.T.length = .ok m → (KeepsOthers W W' ∧ KeepOn (fun k => k < w.heap.size ∨ k = w5.heap.size) W W' ∧ LInv s w b g b6 b7 ((pre ++ [x]).map Prod.snd) W' ∧ Below w.heap.size w W') := fun hs' => by
          rw [hW']
          refine ⟨ko_drew (ko_drew (ko_set (KeepsOthers.refl _) _ _)), ((KeepOn.refl _ _).set_ (p := ⟨b6, 0, none⟩) hnot _).drew.drew, ⟨m, hs', cell_set_eq hc6 _, ?_, (cell_set_ne (q := ⟨b7, 0, none⟩) (p := ⟨b6, 0, none⟩) (fun e => hne e.symm) _).trans Hc7.out, (cell_set_ne (q := ⟨w.heap.size, 0, none⟩) (p := ⟨b6, 0, none⟩) (by show w.heap.size ≠ b6; omega) _).trans hc2,
              ⟨u1, (cell_set_ne (q := ⟨w.heap.size + 1, 0, none⟩) (p := ⟨b6, 0, none⟩) (by show w.heap.size + 1 ≠ b6; omega) _).trans hc4⟩, ?_, ⟨u2, (cell_set_ne (q := ⟨w.heap.size + 1 + 1, 0, none⟩) (p := ⟨b6, 0, none⟩) (by show w.heap.size + 1 + 1 ≠ b6; omega) _).trans hc5⟩, ?_⟩, (hB.setCell (p := ⟨b6, 0, none⟩) (by show w.heap.size ≤ b6; omega) _).drew.drew⟩
          · rw [frozen_drew_own, frozen_drew_own, World.frozen?_setCell]; exact hf6
          · rw [frozen_drew_own, frozen_drew_own, World.frozen?_setCell]; exact hf4
          · rw [frozen_drew_own, frozen_drew_own, World.frozen?_setCell]; exact hf5
        have herr : s.steps ((pre ++ [x]).map Prod.snd) s.T.length = .error 12 → ∀ W2, W2 = ((W'.setCell ⟨w.heap.size + 1, 0, none⟩ (.int .i64 0)).setCell ⟨w.heap.size + 1 + 1, 0, none⟩ (.int .i64 12)) → (KeepsOthers W W2 ∧ LOut s w .ret ((pre ++ [x]).map Prod.snd) W2 ∧ Below w.heap.size w W2) := fun hs' W2 hW2 => by
          have d4 : W'.cell? ⟨w.heap.size + 1, 0, none⟩ = some u1 := by rw [hW']; exact (cell_set_ne (q := ⟨w.heap.size + 1, 0, none⟩) (p := ⟨b6, 0, none⟩) (by show w.heap.size + 1 ≠ b6; omega) _).trans hc4
          have d5 : W'.cell? ⟨w.heap.size + 1 + 1, 0, none⟩ = some u2 := by rw [hW']; exact (cell_set_ne (q := ⟨w.heap.size + 1 + 1, 0, none⟩) (p := ⟨b6, 0, none⟩) (by show w.heap.size + 1 + 1 ≠ b6; omega) _).trans hc5
          have k0 : KeepsOthers W W' := by rw [hW']; exact ko_drew (ko_drew (ko_set (KeepsOthers.refl _) _ _))
          have k1 : Below w.heap.size w W' := by rw [hW']; exact (hB.setCell (p := ⟨b6, 0, none⟩) (by show w.heap.size ≤ b6; omega) _).drew.drew
          rw [hW2]
          exact ⟨ko_set (ko_set k0 _ _) _ _, ⟨rfl, 12, hs', (cell_set_ne (q := ⟨w.heap.size + 1, 0, none⟩) (by show w.heap.size + 1 ≠ w.heap.size + 1 + 1; omega) _).trans (cell_set_eq d4 _), cell_set_eq ((cell_set_ne (q := ⟨w.heap.size + 1 + 1, 0, none⟩) (by show w.heap.size + 1 + 1 ≠ w.heap.size + 1; omega) _).trans d5) _⟩,
            (k1.setCell (p := ⟨w.heap.size + 1, 0, none⟩) (by show w.heap.size ≤ w.heap.size + 1; omega) _).setCell (p := ⟨w.heap.size + 1 + 1, 0, none⟩) (by show w.heap.size ≤ w.heap.size + 1 + 1; omega) _⟩
        have Herr := Lib.hid herr
        have HW := Lib.hid hW'
        have Hgo := Lib.hid hgo
        clear hgo herr hW' hgd htt hstep hmm hi1 hcell
        by_cases ht1 : t = x.2
        · have e1 : (t != x.2) = false := by simp [ht1]
          have Hs := Lib.hid (show s.steps ((pre ++ [x]).map Prod.snd) s.T.length = .ok m by rw [hsn, if_neg (fun h => h.1 ht1)])
          clear hsn ht1 Hst hna Herr
          gi_wp2
          gi_region_with_o (fail)
          all_goals gi_wp2
          all_goals gi_region_with_o (fail)
          all_goals gi_wp2
          all_goals (have := Hgo.out Hs.out; rw [HW.out] at this; exact this)
        · have e1 : (t != x.2) = true := by simp [ht1]
          by_cases ht2 : t = 0
          · have e2 : (t != 0) = false := by simp [ht2]
            have Hs := Lib.hid (show s.steps ((pre ++ [x]).map Prod.snd) s.T.length = .ok m by rw [hsn, if_neg (fun h => h.2.1 ht2)])
            clear hsn ht1 ht2 Hst hna Herr
            gi_wp2
            gi_region_with_o (fail)
            all_goals gi_wp2
            all_goals gi_region_with_o (fail)
            all_goals gi_wp2
            all_goals (have := Hgo.out Hs.out; rw [HW.out] at this; exact this)
          · have e2 : (t != 0) = true := by simp [ht2]
            by_cases ht3 : x.2 = 0
            · have e3 : (x.2 != 0) = false := by simp [ht3]
              have Hs := Lib.hid (show s.steps ((pre ++ [x]).map Prod.snd) s.T.length = .ok m by rw [hsn, if_neg (fun h => h.2.2 ht3)])
              clear hsn ht1 ht2 ht3 Hst hna Herr
              gi_wp2
              gi_region_with_o (fail)
              all_goals gi_wp2
              all_goals gi_region_with_o (fail)
              all_goals gi_wp2
              all_goals (have := Hgo.out Hs.out; rw [HW.out] at this; exact this)
            · have e3 : (x.2 != 0) = true := by simp [ht3]
              have Hs := Lib.hid (show s.steps ((pre ++ [x]).map Prod.snd) s.T.length = .error 12 by rw [hsn, if_pos ⟨ht1, ht2, ht3⟩])
              clear hsn ht1 ht2 ht3 Hst hna Hgo
              gi_wp2
              gi_region_with_o (fail)
              all_goals gi_wp2
              all_goals gi_region_with_o (fail)
              all_goals gi_wp2
              all_goals (have := Herr.out Hs.out _ rfl; rw [HW.out] at this; exact this)
    case done =>
      rintro D ys W hD hys ⟨⟨n, hst, hc6, hf6, hc7, hc2, ⟨u1, hc4⟩, hf4, ⟨u2, hc5⟩, hf5⟩, hB⟩ hK
      rw [hys] at hst
      have Hl := Lib.hid (show s.left l = (n, 0) by unfold Stk.left; rw [hst])
      clear hst hys Hst
      go_wp2
      have hB2 : Below w.heap.size w ((W.setCell ⟨w.heap.size + 1, 0, none⟩ (.int .i64 (n : Int))).setCell ⟨w.heap.size + 1 + 1, 0, none⟩ (.int .i64 0)) :=
        (hB.setCell (p := ⟨w.heap.size + 1, 0, none⟩) (by show w.heap.size ≤ w.heap.size + 1; omega) _).setCell (p := ⟨w.heap.size + 1 + 1, 0, none⟩) (by show w.heap.size ≤ w.heap.size + 1 + 1; omega) _
      have hK' := (ko_set (ko_set (KeepsOthers.refl W) ⟨w.heap.size + 1, 0, none⟩ (.int .i64 (n : Int))) ⟨w.heap.size + 1 + 1, 0, none⟩ (.int .i64 0)).same D _ hK rfl
      have hA1 := cell_kept ((cell_set_ne (q := ⟨w.heap.size + 1, 0, none⟩) (p := ⟨w.heap.size + 1 + 1, 0, none⟩) (by show w.heap.size + 1 ≠ w.heap.size + 1 + 1; omega) (.int .i64 0)).trans (cell_set_eq hc4 (.int .i64 (n : Int)))) (grownBy_putObj' _ D (.deferred none)) (fun r e => by cases e; exact ⟨_, hK', rfl⟩)
      have hA2 := cell_kept (cell_set_eq ((cell_set_ne (q := ⟨w.heap.size + 1 + 1, 0, none⟩) (p := ⟨w.heap.size + 1, 0, none⟩) (by show w.heap.size + 1 + 1 ≠ w.heap.size + 1; omega) (.int .i64 (n : Int))).trans hc5) (.int .i64 0)) (grownBy_putObj' _ D (.deferred none)) (fun r e => by cases e; exact ⟨_, hK', rfl⟩)
      have hD' : w.heap.size ≤ D := Nat.le_trans hk06.size hD
      refine ⟨by simp, .inl ⟨_, _, rfl, run_takeDeferred hK', ?_⟩⟩
      refine ⟨.tuple #[.int .i64 (n : Int), .int .i64 0], ?_, by rw [Hl.out], hB2.trans (belowK_b (w := w) (Nat.le_refl _) _ D _ _ hD' hK' rfl rfl)⟩
      simp [results, Try.f57, go_sem, hA1, hA2]
    case stop =>
      rintro D c pre W hD hpre ⟨⟨rfl, e, hst, hc4, hc5⟩, hB⟩ hK
      have Hl := Lib.hid (show s.left l = (0, e) by
        obtain ⟨t, ht⟩ := hpre
        unfold Stk.left
        rw [← ht, Stk.steps_pre hst])
      clear hst hpre Hst
      gi_wp2
      have hA1 := cell_kept hc4 (grownBy_putObj' _ D (.deferred none)) (fun r e => by cases e; exact ⟨_, hK, rfl⟩)
      have hA2 := cell_kept hc5 (grownBy_putObj' _ D (.deferred none)) (fun r e => by cases e; exact ⟨_, hK, rfl⟩)
      have hD' : w.heap.size ≤ D := Nat.le_trans hk06.size hD
      refine ⟨by simp, .inl ⟨_, _, rfl, run_takeDeferred hK, ?_⟩⟩
      refine ⟨.tuple #[.int .i64 0, .int .i64 e], ?_, by rw [Hl.out]; rfl, hB.trans (belowK_b (w := w) (Nat.le_refl _) _ D _ _ hD' hK rfl rfl)⟩
      simp [results, Try.f57, go_sem, hA1, hA2]
end Go.Proofs.Ytkeefajfndmpeaa
