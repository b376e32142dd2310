/-
  Looking for a slot: what spill hands out, and the search over the spilled.
-/
import Derived.Test.YtigidchignlpmaaRScan1
namespace Go.Proofs.Ytigidchignlpmaa
open Go Go.RowKit Rg

theorem SX.AtV.place {X : SX} {s : Sc} {m : Nat} {ov : Value} {w : World} (h : X.AtV s m ov w) {y : Nat} {p : Bool × Nat} (hp : s.pl[y]? = some p) :
    w.cell? ⟨X.gb, y * 2, none⟩ = some (.bool p.1) ∧ w.cell? ⟨X.gb, y * 2 + 1, none⟩ = some (.int .i64 (p.2 : Int)) := by
  obtain ⟨hy, e⟩ := List.getElem?_eq_some_iff.1 hp
  have h0 := flat_get plC 2 (fun _ => rfl) s.pl y 0 hy (by omega)
  have h1 := flat_get plC 2 (fun _ => rfl) s.pl y 1 hy (by omega)
  rw [e] at h0 h1
  exact ⟨by rw [h.bg.cell]; exact h0, by rw [h.bg.cell]; exact h1⟩

/-- What spill's closure is made of. -/
structure Caps (X : SX) (w : World) (bs bn bx : Nat) (nn x : Nat) : Prop where
  s : w.cell? ⟨bs, 0, none⟩ = some (.pointer (some ⟨X.q, 0, none⟩))
  n : w.cell? ⟨bn, 0, none⟩ = some (.int .i64 (nn : Int))
  x : w.cell? ⟨bx, 0, none⟩ = some (.int .i64 (x : Int))

set_option maxHeartbeats 2000000 in
set_option maxRecDepth 100000 in
theorem takes_calls (X : SX) (hX : X.Ok) (s : Sc) (m : Nat) (ov : Value) (w : World) (h : X.AtV s m ov w) (bs bn bx nn x y : Nat) (hc : Caps X w bs bn bx nn x) (hx : x < X.ls.length) (hy : y < X.ls.length) :
    Calls Try.prog 45 #[.int .i64 (y : Int), .pointer (some ⟨bs, 0, none⟩), .pointer (some ⟨bn, 0, none⟩), .pointer (some ⟨bx, 0, none⟩)] w fun e w' => e = .returned (.bool (s.takes X.B X.E x nn y)) ∧ Keep w w' := by
  obtain ⟨xl, hxl⟩ := get_some hx
  obtain ⟨yl, hyl⟩ := get_some hy
  obtain ⟨p, hp⟩ := get_some (l := s.pl) (k := y) (by rw [h.lp]; exact hy)
  obtain ⟨b, off, hA, hb1, x0, x1, xok⟩ := hX.lives.get h.keep hxl
  obtain ⟨b2, off2, e2, _, y0, y1, yok⟩ := hX.lives.get h.keep hyl
  rw [hA] at e2
  cases e2
  obtain ⟨p0, p1⟩ := h.place hp
  have hb := Nat.lt_of_lt_of_le hb1 h.keep.size
  have n60 := hX.n60
  have q0 : w.cell? ⟨X.q, 0, none⟩ = some (.slice X.A X.ls.length X.c) := h.bq.cell 0
  have q2 : w.cell? ⟨X.q, 2, none⟩ = some (.slice (some ⟨X.gb, 0, none⟩) X.ls.length X.ls.length) := h.bq.cell 2
  rw [hA] at q0
  have lq := h.bq.lt
  have lg := h.bg.lt
  have hyy : (y : Int) < (X.ls.length : Int) := by omega
  have hy0 : (0 : Int) ≤ (y : Int) := by omega
  have hxx : (x : Int) < (X.ls.length : Int) := by omega
  have hx0 : (0 : Int) ≤ (x : Int) := by omega
  have HL := Lib.hid (fun (wz : World) (hk : Keep w wz) => laps_calls xl.val yl.val xl.a yl.a xl.l yl.l xl.c yl.c wz (xok.keep hk).seg (yok.keep hk).seg (hX.ne xl (List.mem_of_getElem? hxl)) (hX.ne yl (List.mem_of_getElem? hyl)) xok.len yok.len)
  have Ht := Lib.hid (show s.takes X.B X.E x nn y = (decide (p.2 = nn) && lapsB (bgn xl.l) (fin xl.l) (bgn yl.l) (fin yl.l)) by
    unfold Sc.takes laps
    simp only [SX.B, SX.E, BL_get hxl, EL_get hxl, BL_get hyl, EL_get hyl]
    rw [List.getD_eq_getElem?_getD, hp]; rfl)
  have kx0 := fun y : KW w => y.cell x0
  have kx1 := fun y : KW w => y.cell x1
  have ky0 := fun y : KW w => y.cell y0
  have ky1 := fun y : KW w => y.cell y1
  have kq0 := fun y : KW w => y.cell q0
  have kq2 := fun y : KW w => y.cell q2
  have kp1 := fun y : KW w => y.cell p1
  have ks := fun y : KW w => y.cell hc.s
  have kn := fun y : KW w => y.cell hc.n
  have kx := fun y : KW w => y.cell hc.x
  have hd : Keep w w.drew := (Keep.refl _).drew
  rw [Ht.out]
  clear Ht xok yok h hc hxl hyl hp p0
  by_cases hn : p.2 = nn
  · have hnz : (p.2 : Int) = (nn : Int) := by omega
    have hnb : ((p.2 : Int) == (nn : Int)) = true := by rw [beq_iff_eq]; exact hnz
    have D := Lib.hid (decide_eq_true hn)
    rw [D.out]
    clear hn D
    go_enter Try.func45, Try.ntmps45
    go_wp2_with fail
    refine region_begin (S := fun w' => ∃ y : KW w, w' = y.val) (by kernel_rfl) ?_
    refine region_take [0, 1, 2, 3, 4, 5, 6, 7, 8, 9, 10, 11, 12, 13, 14, 15, 16, 17, 18, 19, 20, 21, 22, 23, 24, 25] [] 3 (by kernel_rfl) (by kernel_rfl) (InK.mk' hd) ?_
    show wpQuiet _ _ _ _ [_, _, _, _, _, _, _, _, _, _, _, _, _, _, _, _, _, _, _, _, _, _, _, _, _, _] _
    repeat (go_big_quiet_step (fail))
    refine wpQuiet_nil ?_
    refine region_fix (i := 26) (fuel := 2) rfl (by kernel_rfl) (fun K hK => ?_)
    go_simp
    refine (HL.out _ hd).mono ?_
    rintro e w1 ⟨rfl, k1'⟩
    have k1 := hd.trans k1'
    refine hK _ _ (InK.mk' k1) ?_
    clear hK K
    refine region_take [27, 28] [0, 1, 2, 3, 4, 5, 6, 7, 8, 9, 10, 11, 12, 13, 14, 15, 16, 17, 18, 19, 20, 21, 22, 23, 24, 25, 26] 0 (by kernel_rfl) (by kernel_rfl) (InK.mk' k1) ?_
    show wpQuiet _ _ _ _ [_, _] _
    repeat (go_big_quiet_step (fail))
    refine wpQuiet_nil ?_
    refine region_done (by kernel_rfl) ?_
    go_wp2
    go_ret
    exact ⟨rfl, k1⟩
  · have hnz : ¬ (p.2 : Int) = (nn : Int) := by omega
    have hnb : ((p.2 : Int) == (nn : Int)) = false := by rw [beq_eq_false_iff_ne]; exact hnz
    have D := Lib.hid (decide_eq_false hn)
    rw [D.out]
    clear hn D
    go_enter Try.func45, Try.ntmps45
    go_wp2_with fail
    refine region_begin (S := fun w' => ∃ y : KW w, w' = y.val) (by kernel_rfl) ?_
    refine region_take [0, 1, 2, 3, 4, 5, 6, 7, 8, 9, 10, 11, 12, 13, 14, 15, 16, 17, 18, 19, 20, 21, 22, 23, 24, 25] [] 3 (by kernel_rfl) (by kernel_rfl) (InK.mk' hd) ?_
    show wpQuiet _ _ _ _ [_, _, _, _, _, _, _, _, _, _, _, _, _, _, _, _, _, _, _, _, _, _, _, _, _, _] _
    repeat (go_big_quiet_step (fail))
    refine wpQuiet_nil ?_
    refine region_fix (i := 26) (fuel := 2) rfl (by kernel_rfl) (fun K hK => ?_)
    go_simp
    refine hK _ _ (InK.mk' hd) ?_
    clear hK K
    refine region_take [27, 28] [0, 1, 2, 3, 4, 5, 6, 7, 8, 9, 10, 11, 12, 13, 14, 15, 16, 17, 18, 19, 20, 21, 22, 23, 24, 25, 26] 0 (by kernel_rfl) (by kernel_rfl) (InK.mk' hd) ?_
    show wpQuiet _ _ _ _ [_, _] _
    repeat (go_big_quiet_step (fail))
    refine wpQuiet_nil ?_
    refine region_done (by kernel_rfl) ?_
    go_wp2
    go_ret
    exact ⟨rfl, hd⟩

theorem nat_at {w wr : World} {A : Option Addr} {l : List Nat} {k y : Nat} (h : Seg w A (l.flatMap natF)) (hkeep : Keep w wr) (hy : l[k]? = some y) :
    ∃ b off, A = some ⟨b, off, none⟩ ∧ b < w.heap.size ∧ wr.cell? ⟨b, off + k, none⟩ = some (.int .i64 (y : Int)) := by
  obtain ⟨hk, e⟩ := List.getElem?_eq_some_iff.1 hy
  obtain ⟨b, off, e', hb, hc⟩ := h.elem 1 (fun _ => rfl) (by omega) hk
  rw [e] at hc
  exact ⟨b, off, e', hb, by have := hkeep.cell (hc 0 _ rfl); simpa using this⟩

set_option maxHeartbeats 1000000 in
theorem indexInt_calls (A : Option Addr) (l : List Nat) (c : Nat) (p : Nat → Bool) (v1 v2 v3 : Value) (w : World) (h : Seg w A (l.flatMap natF)) (hm : l.length ≤ 1000000)
    (H : ∀ wx y, Keep w wx → y ∈ l → Calls Try.prog 45 #[.int .i64 (y : Int), v1, v2, v3] wx fun e w' => e = .returned (.bool (p y)) ∧ Keep wx w') :
    Calls Try.prog 50 #[.slice A l.length c, .func (.func 45) #[] #[v1, v2, v3]] w fun e w' => (∃ r : Int, e = .returned (.int .i64 r) ∧ decide (r ≥ 0) = l.any p) ∧ Keep w w' := by
  have HH := Lib.hid H
  clear H
  go_enter Try.func50, Try.ntmps50
  go_wp2
  go_loopw [8] (fun i wr => ∃ k : Nat, k ≤ l.length ∧ i = .int .i64 k ∧ Hid ((l.take k).any p = false) ∧ Keep w wr) (fun i _ => l.length - (intOf i).toNat)
  case atStart => exact ⟨0, Nat.zero_le _, rfl, Lib.hid rfl, Keep.refl _⟩
  case round =>
    obtain ⟨k, hk, rfl, hany, hkeep⟩ := hrel
    by_cases hlt : k < l.length
    · obtain ⟨y, hy⟩ := get_some hlt
      obtain ⟨b, off, rfl, hb, c0⟩ := nat_at h hkeep hy
      have hkk : (k : Int) < (l.length : Int) := by omega
      have hk0 : (0 : Int) ≤ (k : Int) := by omega
      have Hn := Lib.hid (show (l.take (k + 1)).any p = p y by
        rw [List.take_add_one, hy, List.any_append, hany.out]; simp)
      have Hm := Lib.hid (show p y = true → l.any p = true from fun e => List.any_eq_true.2 ⟨y, List.mem_of_getElem? hy, e⟩)
      have Hs := Lib.hid (HH.out wr y hkeep (List.mem_of_getElem? hy))
      clear hy h hany
      go_wp2_with fail
      refine Hs.out.mono ?_
      rintro e w1 ⟨rfl, k1⟩
      cases d : p y
      · go_wp2
        go_roundw
        case rel => exact ⟨k + 1, hlt, by go_num, Lib.hid (by rw [Hn.out, d]), hkeep.trans k1⟩
        case measure => simp [intOf]; omega
      · go_wp2
        go_ret
        exact ⟨⟨_, rfl, by rw [Hm.out d]; exact decide_eq_true hk0⟩, hkeep.trans k1⟩
    · have hkl : k = l.length := by omega
      have Hy := Lib.hid (show l.any p = false by
        have := hany.out
        rwa [hkl, List.take_length] at this)
      clear hkl hany h
      go_wp2
      go_ret
      exact ⟨⟨_, rfl, by rw [Hy.out]; rfl⟩, hkeep⟩

theorem anyInt_calls (A : Option Addr) (l : List Nat) (c : Nat) (p : Nat → Bool) (v1 v2 v3 : Value) (w : World) (h : Seg w A (l.flatMap natF)) (hm : l.length ≤ 1000000)
    (H : ∀ wx y, Keep w wx → y ∈ l → Calls Try.prog 45 #[.int .i64 (y : Int), v1, v2, v3] wx fun e w' => e = .returned (.bool (p y)) ∧ Keep wx w') :
    Calls Try.prog 47 #[.slice A l.length c, .func (.func 45) #[] #[v1, v2, v3]] w fun e w' => e = .returned (.bool (l.any p)) ∧ Keep w w' := by
  have HI := Lib.hid (indexInt_calls A l c p v1 v2 v3 w h hm H)
  clear h H
  go_enter Try.func47, Try.ntmps47
  go_wp2_with fail
  refine HI.out.mono ?_
  rintro e w1 ⟨⟨r, rfl, hr⟩, k1⟩
  have Hr := Lib.hid hr
  clear hr
  go_wp2
  go_ret
  exact ⟨by rw [← Hr.out]; rfl, k1⟩
end Go.Proofs.Ytigidchignlpmaa
