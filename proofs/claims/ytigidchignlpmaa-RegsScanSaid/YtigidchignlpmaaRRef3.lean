/-
  The reference's order.
-/
import Derived.Test.YtigidchignlpmaaRRef2
import Derived.Test.YtigidchignlpmaaRScan3
namespace Go.Proofs.Ytigidchignlpmaa
open Go Go.RowKit Rg

/-- One step of putting i into place. -/
def ordStep (B : Nat → Int) (i : Nat) (a : List Nat × Bool) (x : Nat) : List Nat × Bool := if !a.2 && decide (B i < B x) then (a.1 ++ [i, x], true) else (a.1 ++ [x], a.2)
theorem ordStep_true (B : Nat → Int) (i : Nat) : ∀ (l acc : List Nat), l.foldl (ordStep B i) (acc, true) = (acc ++ l, true)
  | [], acc => by simp
  | x :: l, acc => by
    rw [List.foldl_cons]
    have : ordStep B i (acc, true) x = (acc ++ [x], true) := by simp [ordStep]
    rw [this, ordStep_true B i l]; simp
theorem ordStep_ins (B : Nat → Int) (i : Nat) : ∀ (l acc : List Nat), (let r := l.foldl (ordStep B i) (acc, false); if r.2 then r.1 else r.1 ++ [i]) = acc ++ ins B l i
  | [], acc => by simp [ins]
  | x :: l, acc => by
    rw [List.foldl_cons]
    by_cases h : B i < B x
    · have e : ordStep B i (acc, false) x = (acc ++ [i, x], true) := by simp [ordStep, h]
      rw [e, ordStep_true]
      have hd : decide (B x ≤ B i) = false := decide_eq_false (by omega)
      simp [ins, List.takeWhile_cons, List.dropWhile_cons, hd]
    · have e : ordStep B i (acc, false) x = (acc ++ [x], false) := by simp [ordStep, h]
      rw [e]
      have := ordStep_ins B i l (acc ++ [x])
      rw [this]
      have hd : decide (B x ≤ B i) = true := decide_eq_true (by omega)
      simp [ins, List.takeWhile_cons, List.dropWhile_cons, hd]
theorem ord_succ (B : Nat → Int) (n : Nat) : ord B (n + 1) = ins B (ord B n) n := by unfold ord; rw [List.range_succ, List.foldl_append]; rfl
theorem ord_len (B : Nat → Int) (n : Nat) : (ord B n).length = n := by rw [(ord_ok B n).1.length_eq]; simp
theorem ord_mem {B : Nat → Int} {n y : Nat} (h : y ∈ ord B n) : y < n := by simpa using (ord_ok B n).1.subset h

theorem natPush {w : World} {base : Nat} {v : Value} {xs : List Nat} (h : Own natF 1 3 w base v xs) (x : Nat) (hn : xs.length < 1000000) (hb : base ≤ w.heap.size) :
    ∃ A c, v = .slice A xs.length c ∧ ∃ A' c' w2, (Builtin.append_ #[59, 59] 59 #[v, .slice (some ⟨w.heap.size, 0, none⟩) 1 1]).run Try.prog (w.alloc (.cells #[.int .i64 (x : Int)] 3)) = .ok (.slice A' (xs.length + 1) c') w2 ∧
      Own natF 1 3 w2 base (.slice A' (xs.length + 1) c') (xs ++ [x]) ∧ Ext (fun k => v.ownBlock = some k) w w2 ∧ ((Value.slice A' (xs.length + 1) c').ownBlock = v.ownBlock ∨ ∃ k, (Value.slice A' (xs.length + 1) c').ownBlock = some k ∧ w.heap.size ≤ k) := by
  obtain ⟨A, c, hform, _⟩ := h.form
  have hka : Keep w (w.alloc (.cells #[.int .i64 (x : Int)] 3)) := (Keep.refl _).alloc _
  have hseg : Seg (w.alloc (.cells #[.int .i64 (x : Int)] 3)) (some ⟨w.heap.size, 0, none⟩) (([x] : List Nat).flatMap natF) := Seg.of_blk (Blk.new w 3 [.int .i64 (x : Int)])
  obtain ⟨v', w2, hrun, hown, hg, hbl⟩ := append_run (ys := [x]) elN (h.keep hka) hseg 1 59 (by simp [maxLen]; omega) (by simp; omega) (Nat.le_trans hb hka.size)
  obtain ⟨A', c', rfl, _⟩ := hown.form
  have e : (xs ++ [x]).length = xs.length + 1 := by simp
  rw [e] at hrun hown hbl
  exact ⟨A, c, hform, A', c', w2, hrun, hown, (hka.ext _).grown hg (fun k hk _ => hk), hbl.imp id (fun h => ⟨_, h, hka.size⟩)⟩

/-- Two rows of a call's own, apart. -/
structure TwoRows (w0 w : World) (vo vn : Value) (out nx : List Nat) : Prop where
  o : Own natF 1 3 w w0.heap.size vo out
  n : Own natF 1 3 w w0.heap.size vn nx
  ap : ∀ k, vn.ownBlock = some k → vo.ownBlock ≠ some k
  keep : Keep w0 w
theorem TwoRows.keepy {w0 w w' : World} {vo vn : Value} {out nx : List Nat} (h : TwoRows w0 w vo vn out nx) (hk : Keep w w') : TwoRows w0 w' vo vn out nx := ⟨h.o.keep hk, h.n.keep hk, h.ap, h.keep.trans hk⟩
theorem TwoRows.push {w0 w : World} {vo vn : Value} {out nx : List Nat} (h : TwoRows w0 w vo vn out nx) (x : Nat) (hn : nx.length < 1000000) :
    ∃ A c, vn = .slice A nx.length c ∧ ∃ A' c' w2, (Builtin.append_ #[59, 59] 59 #[.slice A nx.length c, .slice (some ⟨w.heap.size, 0, none⟩) 1 1]).run Try.prog (w.alloc (.cells #[.int .i64 (x : Int)] 3)) = .ok (.slice A' (nx.length + 1) c') w2 ∧ TwoRows w0 w2 vo (.slice A' (nx.length + 1) c') out (nx ++ [x]) := by
  obtain ⟨A, c, hv, A', c', w2, hrun, hown, hE, hb⟩ := natPush h.n x hn h.keep.size
  rw [hv] at hrun
  refine ⟨A, c, hv, A', c', w2, hrun, ⟨h.o.ext hE (fun k hk e => h.ap k e hk), hown, fun k hk e => ?_, Below.trans h.keep (hE.below h.keep.size (fun k hk e => by have := (h.n.lt k e).1; omega))⟩⟩
  rcases hb with hb | ⟨k', hk', hge⟩
  · exact h.ap k (hb.symm.trans hk) e
  · rw [hk] at hk'; cases hk'
    have := (h.o.lt k e).2
    omega

set_option maxHeartbeats 8000000 in
set_option maxRecDepth 100000 in
theorem order_calls (A : Option Addr) (ls : List LvD) (c : Nat) (w : World) (hl : Lives w A ls) (hn : ls.length ≤ 60) (hne : ∀ x ∈ ls, 0 < x.l.length) :
    Calls Try.prog 31 #[.slice A ls.length c] w fun e w' => ∃ v, e = .returned v ∧ Own natF 1 3 w' w.heap.size v (ord (BL ls) ls.length) ∧ Keep w w' := by
  have Hl := Lib.hid hl
  have Hne := Lib.hid hne
  clear hl hne
  go_enter Try.func31, Try.ntmps31
  go_wp2
  go_loopw [3, 4] (fun vo vi wr => ∃ i : Nat, i ≤ ls.length ∧ vi = .int .i64 i ∧ Own natF 1 3 wr w.heap.size vo (ord (BL ls) i) ∧ Keep w wr) (fun _ i _ => ls.length - (intOf i).toNat)
  case atStart => exact ⟨0, Nat.zero_le _, rfl, Own.nil _ _ _ _ _, Keep.refl _⟩
  case round =>
    obtain ⟨i, hi, rfl, hown, hkeep⟩ := hrel
    obtain ⟨A1, c1, rfl, _, _⟩ := hown.form
    have hol := ord_len (BL ls) i
    by_cases hin : i < ls.length
    · have hii : (i : Int) < (ls.length : Int) := by omega
      have hi0 : (0 : Int) ≤ (i : Int) := by omega
      have HT := Lib.hid (show TwoRows w wr (.slice A1 (ord (BL ls) i).length c1) (.slice none 0 0) (ord (BL ls) i) [] from ⟨hown, Own.nil _ _ _ _ _, (fun k hk => by cases hk), hkeep⟩)
      obtain ⟨out, hout⟩ : ∃ out, ord (BL ls) i = out := ⟨_, rfl⟩
      rw [hout] at HT hol
      rw [hout]
      have Hout := Lib.hid hout
      have Hol := Lib.hid hol
      clear hout hown hkeep hol
      go_wp2_with fail
      go_loopw [5, 6, 7] (fun vn vp vk wr => ∃ (k : Nat) (nx : List Nat) (pt : Bool), k ≤ out.length ∧ vk = .int .i64 k ∧ vp = .bool pt ∧ Hid ((out.take k).foldl (ordStep (BL ls) i) ([], false) = (nx, pt) ∧ nx.length ≤ k + 1 ∧ (pt = false → nx.length ≤ k)) ∧ TwoRows w wr (.slice A1 out.length c1) vn out nx) (fun _ _ k _ => out.length - (intOf k).toNat)
      case atStart => exact ⟨0, [], false, Nat.zero_le _, rfl, rfl, Lib.hid ⟨rfl, by simp, by simp⟩, HT.out⟩
      case round =>
        clear HT
        obtain ⟨k, nx, pt, hk, rfl, rfl, Hf, hT⟩ := hrel
        by_cases hkl : k < out.length
        · obtain ⟨x, hx⟩ := get_some hkl
          obtain ⟨b, off, rfl, hb, c0⟩ := nat_at hT.o.seg (Keep.refl _) hx
          have hxi : x < i := by
            have := List.mem_of_getElem? hx
            rw [← Hout.out] at this
            exact ord_mem this
          have hkk : (k : Int) < (out.length : Int) := by omega
          have hk0 : (0 : Int) ≤ (k : Int) := by omega
          have Hstep := Lib.hid (show (out.take (k + 1)).foldl (ordStep (BL ls) i) ([], false) = ordStep (BL ls) i (nx, pt) x by
            rw [List.take_add_one, hx, List.foldl_append, Hf.out.1]; rfl)
          have hlen := Hf.out.2.1
          have hlenf := Lib.hid Hf.out.2.2
          have hob := Hol.out
          have hob2 : out.length ≤ 60 := by omega
          clear hob
          obtain ⟨wd, hwd⟩ : ∃ wd, wr.drew = wd := ⟨_, rfl⟩
          have hd : Keep wr wd := by rw [← hwd]; exact (Keep.refl _).drew
          cases pt with
          | true =>
            have hTd := hT.keepy hd
            obtain ⟨A2, c2, rfl, A3, c3, w2, hrun, hT2⟩ := hTd.push x (by omega)
            have c0d := hd.cell c0
            have hbd := Nat.lt_of_lt_of_le hb hd.size
            have HT2 := Lib.hid hT2
            have Hs2 := Lib.hid (show (out.take (k + 1)).foldl (ordStep (BL ls) i) ([], false) = (nx ++ [x], true) ∧ (nx ++ [x]).length ≤ k + 1 + 1 ∧ (true = false → (nx ++ [x]).length ≤ k + 1) from ⟨by rw [Hstep.out]; simp [ordStep], by simp; omega, by simp⟩)
            have hnl : (nx ++ [x]).length = nx.length + 1 := by simp
            clear hT hTd hT2 hx Hstep Hf hnl
            go_wp2_with fail
            refine region_begin (S := fun w' => ∃ z : KW wr, w' = z.val) (by kernel_rfl) ?_
            rw [hwd]
            refine region_take [0, 1, 2, 3, 4, 5, 6, 7, 8, 9, 11, 12, 13, 14] [] 4 (by kernel_rfl) (by kernel_rfl) (InK.mk' hd) ?_
            show wpQuiet _ _ _ _ [_, _, _, _, _, _, _, _, _, _, _, _, _, _] _
            repeat (go_big_quiet_step (fail))
            refine wpQuiet_nil ?_
            refine region_fix (i := 10) (fuel := 3) rfl (by kernel_rfl) (fun K hK => ?_)
            go_simp
            refine hK _ _ (InK.mk' hd) ?_
            clear hK K
            refine region_fix (i := 15) (fuel := 2) rfl (by kernel_rfl) (fun K hK => ?_)
            go_simp
            refine hK _ _ (InK.mk' hd) ?_
            clear hK K
            refine region_take [16, 17] [0, 1, 2, 3, 4, 5, 6, 7, 8, 9, 11, 12, 13, 14, 10, 15] 0 (by kernel_rfl) (by kernel_rfl) (InK.mk' hd) ?_
            show wpQuiet _ _ _ _ [_, _] _
            repeat (go_big_quiet_step (fail))
            refine wpQuiet_nil ?_
            refine region_done (by kernel_rfl) ?_
            go_wp2_with (at_builtin; refine wpList_append_eq rfl _ _ _ rfl _ _ rfl rfl _ _ hrun ?_; clear hrun)
            go_roundw
            case rel => exact ⟨k + 1, nx ++ [x], true, hkl, by go_num, rfl, Hs2, HT2.out⟩
            case measure => simp [intOf]; omega
          | false =>
            obtain ⟨xl, hxl⟩ := get_some (l := ls) (k := x) (by omega)
            obtain ⟨il, hil⟩ := get_some (l := ls) (k := i) hin
            obtain ⟨bl, offl, rfl, hbl, x0, x1, xok⟩ := Hl.out.get hT.keep hxl
            obtain ⟨bl2, offl2, e2, _, i0, i1, iok⟩ := Hl.out.get hT.keep hil
            cases e2
            have hbl' := Nat.lt_of_lt_of_le hbl hT.keep.size
            have hxx : (x : Int) < (ls.length : Int) := by omega
            have hx0 : (0 : Int) ≤ (x : Int) := by omega
            have HX := Lib.hid (fun (wz : World) (hk : Keep wr wz) => rBegin_calls xl.val xl.a xl.l xl.c wz (xok.keep hk).seg (Hne.out xl (List.mem_of_getElem? hxl)))
            have HI := Lib.hid (fun (wz : World) (hk : Keep wr wz) => rBegin_calls il.val il.a il.l il.c wz (iok.keep hk).seg (Hne.out il (List.mem_of_getElem? hil)))
            have kc := fun z : KW wr => z.cell c0
            have kx0 := fun z : KW wr => z.cell x0
            have kx1 := fun z : KW wr => z.cell x1
            have ki0 := fun z : KW wr => z.cell i0
            have ki1 := fun z : KW wr => z.cell i1
            have Ex := Lib.hid (BL_get hxl)
            have Ei := Lib.hid (BL_get hil)
            obtain ⟨bx, hbx⟩ : ∃ bx, bgn xl.l = bx := ⟨_, rfl⟩
            obtain ⟨bi, hbi⟩ : ∃ bi, bgn il.l = bi := ⟨_, rfl⟩
            rw [hbx] at HX Ex
            rw [hbi] at HI Ei
            have HTT := Lib.hid hT
            have Hx := Lib.hid hx
            have Hc0 := Lib.hid c0
            clear hT hx hxl hil xok iok hbx hbi x0 x1 i0 i1 c0
            go_wp2_with fail
            refine region_begin (S := fun w' => ∃ z : KW wr, w' = z.val) (by kernel_rfl) ?_
            rw [hwd]
            refine region_take [0, 1, 2, 3, 4, 5, 6, 7, 8, 9, 11, 12, 13, 14] [] 4 (by kernel_rfl) (by kernel_rfl) (InK.mk' hd) ?_
            show wpQuiet _ _ _ _ [_, _, _, _, _, _, _, _, _, _, _, _, _, _] _
            repeat (go_big_quiet_step (fail))
            refine wpQuiet_nil ?_
            refine region_fix (i := 10) (fuel := 3) rfl (by kernel_rfl) (fun K hK => ?_)
            go_simp
            refine (HX.out _ hd).mono ?_
            rintro e w1 ⟨rfl, k1'⟩
            have k1 := hd.trans k1'
            refine hK _ _ (InK.mk' k1) ?_
            clear hK K
            refine region_fix (i := 15) (fuel := 2) rfl (by kernel_rfl) (fun K hK => ?_)
            go_simp
            refine (HI.out _ k1).mono ?_
            rintro e w2 ⟨rfl, k2'⟩
            have k2 := k1.trans k2'
            refine hK _ _ (InK.mk' k2) ?_
            clear hK K
            refine region_take [16, 17] [0, 1, 2, 3, 4, 5, 6, 7, 8, 9, 11, 12, 13, 14, 10, 15] 0 (by kernel_rfl) (by kernel_rfl) (InK.mk' k2) ?_
            show wpQuiet _ _ _ _ [_, _] _
            repeat (go_big_quiet_step (fail))
            refine wpQuiet_nil ?_
            refine region_done (by kernel_rfl) ?_
            clear kc kx0 kx1 ki0 ki1 HX HI
            have hT2 := HTT.out.keepy k2
            have c02 := k2.cell Hc0.out
            have hb2 := Nat.lt_of_lt_of_le hb k2.size
            have hl0 : nx.length ≤ k := hlenf.out trivial
            by_cases g : bi < bx
            · have Hs2 := Lib.hid (show (out.take (k + 1)).foldl (ordStep (BL ls) i) ([], false) = (nx ++ [i] ++ [x], true) ∧ (nx ++ [i] ++ [x]).length ≤ k + 1 + 1 ∧ (true = false → (nx ++ [i] ++ [x]).length ≤ k + 1) from ⟨by rw [Hstep.out]; simp [ordStep, Ex.out, Ei.out, g], by simp; omega, by simp⟩)
              obtain ⟨A2, c2, rfl, A3, c3, w3, hrun, hT3⟩ := hT2.push i (by omega)
              obtain ⟨A4, c4, e4, A5, c5, w4, hrun2, hT4⟩ := hT3.push x (by simp; omega)
              rw [← e4] at hrun2
              have hnl : (nx ++ [i]).length = nx.length + 1 := by simp
              rw [hnl] at hrun2 hT4
              obtain ⟨n1, hn1⟩ : ∃ n1, nx.length + 1 = n1 := ⟨_, rfl⟩
              rw [hn1] at hrun hrun2 hT4
              obtain ⟨n2, hn2⟩ : ∃ n2, n1 + 1 = n2 := ⟨_, rfl⟩
              rw [hn2] at hrun2 hT4
              have c03 : w3.cell? ⟨b, off + k, none⟩ = some (.int .i64 (x : Int)) := by
                obtain ⟨_, _, e9, _, h9⟩ := nat_at hT3.o.seg (Keep.refl _) Hx.out
                cases e9; exact h9
              have hb3 : b < w3.heap.size := by
                obtain ⟨_, _, e9, h9, _⟩ := nat_at hT3.o.seg (Keep.refl _) Hx.out
                cases e9; exact h9
              have HT4 := Lib.hid hT4
              clear hT2 hT3 hT4 hnl hn1 hn2 e4 Hstep Hf HTT hl0 hlen hlenf Hx c02
              go_wp2_with (at_builtin; first | (refine wpList_append_eq rfl _ _ _ rfl _ _ rfl rfl _ _ hrun ?_; clear hrun) | (refine wpList_append_eq rfl _ _ _ rfl _ _ rfl rfl _ _ hrun2 ?_; clear hrun2))
              go_roundw
              case rel => exact ⟨k + 1, nx ++ [i] ++ [x], true, hkl, by go_num, rfl, Hs2, HT4.out⟩
              case measure => simp [intOf]; omega
            · have Hs2 := Lib.hid (show (out.take (k + 1)).foldl (ordStep (BL ls) i) ([], false) = (nx ++ [x], false) ∧ (nx ++ [x]).length ≤ k + 1 + 1 ∧ (false = false → (nx ++ [x]).length ≤ k + 1) from ⟨by rw [Hstep.out]; simp [ordStep, Ex.out, Ei.out, g], by simp; omega, fun _ => by simp; omega⟩)
              have g1 : decide (bi < bx) = false := decide_eq_false g
              obtain ⟨A2, c2, rfl, A3, c3, w3, hrun, hT3⟩ := hT2.push x (by omega)
              have HT3 := Lib.hid hT3
              clear hT2 hT3 Hstep Hf HTT hl0 hlen hlenf Hx
              go_wp2_with (at_builtin; refine wpList_append_eq rfl _ _ _ rfl _ _ rfl rfl _ _ hrun ?_; clear hrun)
              go_roundw
              case rel => exact ⟨k + 1, nx ++ [x], false, hkl, by go_num, rfl, Hs2, HT3.out⟩
              case measure => simp [intOf]; omega
        · have Hfin := Lib.hid (show ord (BL ls) (i + 1) = if pt then nx else nx ++ [i] by
            have h1 := ordStep_ins (BL ls) i out []
            have h2 := Hf.out.1
            rw [List.take_of_length_le (by omega)] at h2
            rw [h2] at h1
            rw [ord_succ, Hout.out]
            simpa using h1.symm)
          have hlen := Hf.out.2.1
          have hob := Hol.out
          have hob2 : nx.length ≤ 100 := by omega
          clear hob hlen
          cases pt with
          | true =>
            have HT := Lib.hid hT
            obtain ⟨A2, c2, rfl, _, _⟩ := hT.n.form
            clear hT Hf
            go_wp2
            go_roundw
            case rel => exact ⟨i + 1, hin, by go_num, by rw [Hfin.out]; exact HT.out.n, HT.out.keep⟩
            case measure => simp [intOf]; omega
          | false =>
            obtain ⟨A2, c2, rfl, A3, c3, w3, hrun, hT3⟩ := hT.push i (by omega)
            have HT3 := Lib.hid hT3
            clear hT hT3 Hf
            go_wp2_with (at_builtin; refine wpList_append_eq rfl _ _ _ rfl _ _ rfl rfl _ _ hrun ?_; clear hrun)
            go_roundw
            case rel => exact ⟨i + 1, hin, by go_num, by rw [Hfin.out]; exact HT3.out.n, HT3.out.keep⟩
            case measure => simp [intOf]; omega
    · have hil : i = ls.length := by omega
      subst hil
      have Hown := Lib.hid hown
      clear hown hol
      go_wp2
      go_ret
      exact ⟨_, rfl, Hown.out, hkeep⟩
end Go.Proofs.Ytigidchignlpmaa
