/-
  Lists of live range lists in memory; the functions that Scan hands out; the search for one that may not be.
-/
import Derived.Test.YtigidchignlpmaaRSort5
namespace Go.Proofs.Ytigidchignlpmaa
open Go Go.RowKit Rg

instance : Inhabited LvD := ⟨⟨0, none, [], 0⟩⟩
/-- The live range lists, at A. -/
structure Lives (w : World) (A : Option Addr) (ls : List LvD) : Prop where
  seg : Seg w A (ls.flatMap lvC)
  ok : ∀ x ∈ ls, LvOk w x
theorem Lives.keep {w w' : World} {A : Option Addr} {ls : List LvD} (h : Lives w A ls) (hk : Keep w w') : Lives w' A ls := ⟨h.seg.keep hk, fun x hx => (h.ok x hx).keep hk⟩
theorem Lives.get {w wr : World} {A : Option Addr} {ls : List LvD} {k : Nat} {x : LvD} (h : Lives w A ls) (hkeep : Keep w wr) (hx : ls[k]? = some x) :
    ∃ b off, A = some ⟨b, off, none⟩ ∧ b < w.heap.size ∧ wr.cell? ⟨b, off + k * 2, none⟩ = some (.int .i64 x.val) ∧ wr.cell? ⟨b, off + k * 2 + 1, none⟩ = some (.slice x.a x.l.length x.c) ∧ LvOk wr x := by
  obtain ⟨hk, e⟩ := List.getElem?_eq_some_iff.1 hx
  obtain ⟨b, off, e', hb, hc⟩ := h.seg.elem 2 (fun _ => rfl) (by omega) hk
  rw [e] at hc
  exact ⟨b, off, e', hb, by have := hkeep.cell (hc 0 _ rfl); simpa using this, by have := hkeep.cell (hc 1 _ rfl); rwa [← Nat.add_assoc] at this, (h.ok x (List.mem_of_getElem? hx)).keep hkeep⟩
/-- Where the live ranges begin and end. -/
def BL (ls : List LvD) (i : Nat) : Int := bgn (ls.getD i default).l
def EL (ls : List LvD) (i : Nat) : Int := fin (ls.getD i default).l
theorem BL_get {ls : List LvD} {k : Nat} {x : LvD} (h : ls[k]? = some x) : BL ls k = bgn x.l := by unfold BL; rw [List.getD_eq_getElem?_getD, h]; rfl
theorem EL_get {ls : List LvD} {k : Nat} {x : LvD} (h : ls[k]? = some x) : EL ls k = fin x.l := by unfold EL; rw [List.getD_eq_getElem?_getD, h]; rfl

theorem scan1_calls (x : LvD) (w : World) (h : LvOk w x) : Calls Try.prog 23 #[.agg #[.int .i64 x.val, .slice x.a x.l.length x.c]] w fun e w' => e = .returned (.bool (!may x.l)) ∧ Keep w w' := by
  obtain ⟨wa, hwa⟩ : ∃ wa : World, wa = w.alloc (.cells #[.int .i64 x.val, .slice x.a x.l.length x.c] 45) := ⟨_, rfl⟩
  have hka : Keep w wa := by rw [hwa]; exact (Keep.refl _).alloc _
  have ba : Blk wa w.heap.size 45 [.int .i64 x.val, .slice x.a x.l.length x.c] := by rw [hwa]; exact Blk.new w _ _
  have c0 : wa.cell? ⟨w.heap.size, 0, none⟩ = some (.int .i64 x.val) := ba.cell 0
  have c1 : wa.cell? ⟨w.heap.size, 1, none⟩ = some (.slice x.a x.l.length x.c) := ba.cell 1
  have lt := ba.lt
  have Hm := Lib.hid (may_calls x.val x.a x.l x.c wa (h.keep hka).seg h.len)
  clear h ba
  go_enter Try.func23, Try.ntmps23
  go_wp2_with fail
  rw [← hwa]
  clear hwa
  go_wp2_with fail
  refine Hm.out.mono ?_
  rintro e w1 ⟨rfl, k1⟩
  go_wp2
  go_ret
  exact ⟨rfl, hka.trans k1⟩

set_option maxHeartbeats 1000000 in
theorem indexLive_calls (A : Option Addr) (ls : List LvD) (c : Nat) (w : World) (h : Lives w A ls) (hm : ls.length ≤ 1000000) :
    Calls Try.prog 35 #[.slice A ls.length c, .func (.func 23) #[] #[]] w fun e w' => (∃ r : Int, e = .returned (.int .i64 r) ∧ decide (r ≥ 0) = ls.any (fun x => !may x.l)) ∧ Keep w w' := by
  go_enter Try.func35, Try.ntmps35
  go_wp2
  go_loopw [8] (fun i wr => ∃ k : Nat, k ≤ ls.length ∧ i = .int .i64 k ∧ Hid ((ls.take k).any (fun x => !may x.l) = false) ∧ Keep w wr) (fun i _ => ls.length - (intOf i).toNat)
  case atStart => exact ⟨0, Nat.zero_le _, rfl, Lib.hid rfl, Keep.refl _⟩
  case round =>
    obtain ⟨k, hk, rfl, hany, hkeep⟩ := hrel
    by_cases hlt : k < ls.length
    · obtain ⟨x, hx⟩ := get_some hlt
      obtain ⟨b, off, rfl, hb, c0, c1, hok⟩ := h.get hkeep hx
      have hkk : (k : Int) < (ls.length : Int) := by omega
      have hk0 : (0 : Int) ≤ (k : Int) := by omega
      have Hn := Lib.hid (show (ls.take (k + 1)).any (fun x => !may x.l) = (!may x.l) by
        rw [List.take_add_one, hx, List.any_append, hany.out]; simp)
      have Hm := Lib.hid (show (!may x.l) = true → ls.any (fun x => !may x.l) = true from fun e => List.any_eq_true.2 ⟨x, List.mem_of_getElem? hx, e⟩)
      have Hs := Lib.hid (scan1_calls x wr hok)
      clear hok hx h hany
      go_wp2_with fail
      refine Hs.out.mono ?_
      rintro e w1 ⟨rfl, k1⟩
      cases d : (!may x.l)
      · go_wp2
        go_roundw
        case rel => exact ⟨k + 1, hlt, by go_num, Lib.hid (by rw [Hn.out, d]), hkeep.trans k1⟩
        case measure => simp [intOf]; omega
      · go_wp2
        go_ret
        exact ⟨⟨_, rfl, by rw [Hm.out d]; exact decide_eq_true hk0⟩, hkeep.trans k1⟩
    · have hkl : k = ls.length := by omega
      have Hy := Lib.hid (show ls.any (fun x => !may x.l) = false by
        have := hany.out
        rwa [hkl, List.take_length] at this)
      clear hkl hany h
      go_wp2
      go_ret
      exact ⟨⟨_, rfl, by rw [Hy.out]; rfl⟩, hkeep⟩

theorem anyLive_calls (A : Option Addr) (ls : List LvD) (c : Nat) (w : World) (h : Lives w A ls) (hm : ls.length ≤ 1000000) :
    Calls Try.prog 22 #[.slice A ls.length c, .func (.func 23) #[] #[]] w fun e w' => e = .returned (.bool (ls.any (fun x => !may x.l))) ∧ Keep w w' := by
  have H := Lib.hid (indexLive_calls A ls c w h hm)
  clear h
  go_enter Try.func22, Try.ntmps22
  go_wp2_with fail
  refine H.out.mono ?_
  rintro e w1 ⟨⟨r, rfl, hr⟩, k1⟩
  have Hr := Lib.hid hr
  clear hr
  go_wp2
  go_ret
  exact ⟨by rw [← Hr.out]; rfl, k1⟩

/-- The closure that compares keeps its word. -/
theorem scan2_ok (w00 w0 : World) (g : Nat) (A : Option Addr) (ls : List LvD) (c : Nat) (p : Addr) (hk0 : Keep w00 w0) (hg : w00.heap.size ≤ g) (h : Lives w00 A ls) (hp : w00.cell? p = some (.slice A ls.length c)) (hne : ∀ x ∈ ls, 0 < x.l.length) :
    CmpOk w0 g ls.length (BL ls) (some p) := by
  intro wx x y hext hx hy
  have hkx : Keep w00 wx := Below.trans hk0 (hext.below hk0.size (fun k hk e => by omega))
  obtain ⟨X, hX⟩ := get_some hx
  obtain ⟨Y, hY⟩ := get_some hy
  obtain ⟨b, off, rfl, hb, x0, x1, xok⟩ := h.get hkx hX
  obtain ⟨b', off', e', hb', y0, y1, yok⟩ := h.get hkx hY
  cases e'
  have pc := hkx.cell hp
  have hb := Nat.lt_of_lt_of_le hb hkx.size
  have hxx : (x : Int) < (ls.length : Int) := by omega
  have hyy : (y : Int) < (ls.length : Int) := by omega
  have hx0 : (0 : Int) ≤ (x : Int) := by omega
  have hy0 : (0 : Int) ≤ (y : Int) := by omega
  have Hx := Lib.hid (fun (wz : World) (hk : Keep wx wz) => begin_calls X.val X.a X.l X.c wz (xok.keep hk).seg (hne X (List.mem_of_getElem? hX)))
  have Hy := Lib.hid (fun (wz : World) (hk : Keep wx wz) => begin_calls Y.val Y.a Y.l Y.c wz (yok.keep hk).seg (hne Y (List.mem_of_getElem? hY)))
  have Ex := Lib.hid (BL_get hX)
  have Ey := Lib.hid (BL_get hY)
  rw [Ex.out, Ey.out]
  have x0 := fun y : KW wx => y.cell x0
  have x1 := fun y : KW wx => y.cell x1
  have y0 := fun y : KW wx => y.cell y0
  have y1 := fun y : KW wx => y.cell y1
  have pc := fun y : KW wx => y.cell pc
  have hd : Keep wx wx.drew := (Keep.refl _).drew
  clear hX hY xok yok h hp hne hext hkx hk0 hb' hx hy
  go_enter Try.func26, Try.ntmps26
  go_wp2_with fail
  refine region_begin (S := fun w' => ∃ y : KW wx, w' = y.val) (by kernel_rfl) ?_
  refine region_take [0, 1, 2, 3, 5, 6, 7, 8] [] 4 (by kernel_rfl) (by kernel_rfl) (InK.mk' hd) ?_
  show wpQuiet _ _ _ _ [_, _, _, _, _, _, _, _] _
  repeat (go_big_quiet_step (fail))
  refine wpQuiet_nil ?_
  refine region_fix (i := 4) (fuel := 3) rfl (by kernel_rfl) (fun K hK => ?_)
  go_simp
  refine (Hx.out _ hd).mono ?_
  rintro e w1 ⟨rfl, k1'⟩
  have k1 := hd.trans k1'
  refine hK _ _ (InK.mk' k1) ?_
  clear hK K
  refine region_fix (i := 9) (fuel := 2) rfl (by kernel_rfl) (fun K hK => ?_)
  go_simp
  refine (Hy.out _ k1).mono ?_
  rintro e w2 ⟨rfl, k2'⟩
  have k2 := k1.trans k2'
  refine hK _ _ (InK.mk' k2) ?_
  clear hK K
  refine region_fix (i := 10) (fuel := 1) rfl (by kernel_rfl) (fun K hK => ?_)
  go_simp
  refine (compare_calls (bgn X.l) (bgn Y.l) _).mono ?_
  rintro e w3 ⟨rfl, rfl⟩
  refine hK _ _ (InK.mk' k2) ?_
  clear hK K
  refine region_take [11] [0, 1, 2, 3, 5, 6, 7, 8, 4, 9, 10] 0 (by kernel_rfl) (by kernel_rfl) (InK.mk' k2) ?_
  show wpQuiet _ _ _ _ [_] _
  repeat (go_big_quiet_step (fail))
  refine wpQuiet_nil ?_
  refine region_done (by kernel_rfl) ?_
  go_wp2
  go_ret
  exact ⟨rfl, k2⟩
end Go.Proofs.Ytigidchignlpmaa
