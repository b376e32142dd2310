/-
  The program's Clash and Spilled.
-/
import Derived.Test.YtigidchignlpmaaRMeet
namespace Go.Proofs.Ytigidchignlpmaa
open Go Go.RowKit Rg

def plI (p : Bool × Int) : List Value := [.bool p.1, .int .i64 p.2]
theorem pl_get {w wr : World} {P : Option Addr} {l : List (Bool × Int)} {k : Nat} {p : Bool × Int} (h : Seg w P (l.flatMap plI)) (hkeep : Keep w wr) (hp : l[k]? = some p) :
    ∃ b off, P = some ⟨b, off, none⟩ ∧ b < w.heap.size ∧ wr.cell? ⟨b, off + k * 2, none⟩ = some (.bool p.1) ∧ wr.cell? ⟨b, off + k * 2 + 1, none⟩ = some (.int .i64 p.2) := by
  obtain ⟨hk, e⟩ := List.getElem?_eq_some_iff.1 hp
  obtain ⟨b, off, e', hb, hc⟩ := h.elem 2 (fun _ => rfl) (by omega) hk
  rw [e] at hc
  exact ⟨b, off, e', hb, by have := hkeep.cell (hc 0 _ rfl); simpa using this, by have := hkeep.cell (hc 1 _ rfl); rwa [← Nat.add_assoc] at this⟩

/-- No pair ahead of (i, k). -/
def NoneBefore (C : Nat → Nat → Bool) (n i k : Nat) : Prop := ∀ i' k', i' < k' → k' < n → (i' < i ∨ (i' = i ∧ k' < k)) → C i' k' = false
theorem NoneBefore.more {C : Nat → Nat → Bool} {n i k : Nat} (h : NoneBefore C n i k) (hc : C i k = false) : NoneBefore C n i (k + 1) := fun i' k' h1 h2 h3 => by
  by_cases e : i' = i ∧ k' = k
  · rw [e.1, e.2]; exact hc
  · exact h i' k' h1 h2 (by omega)
theorem NoneBefore.next {C : Nat → Nat → Bool} {n i k : Nat} (h : NoneBefore C n i k) (hk : n ≤ k) : NoneBefore C n (i + 1) 0 := fun i' k' h1 h2 h3 => h i' k' h1 h2 (by omega)
/-- What Clash says. -/
def ClashRes (C : Nat → Nat → Bool) (n : Nat) (e : Ending) : Prop :=
  (∃ i k, i < k ∧ k < n ∧ C i k = true ∧ NoneBefore C n i k ∧ e = .returned (.tuple #[.int .i64 (i : Int), .int .i64 (k : Int), .bool true])) ∨ ((∀ i k, i < k → k < n → C i k = false) ∧ e = .returned (.tuple #[.int .i64 0, .int .i64 0, .bool false]))
theorem ClashRes.unique {C : Nat → Nat → Bool} {n : Nat} {e e' : Ending} (h : ClashRes C n e) (k : ClashRes C n e') : e = e' := by
  rcases h with ⟨i, j, h1, h2, h3, h4, rfl⟩ | ⟨h1, rfl⟩
  · rcases k with ⟨i', j', k1, k2, k3, k4, rfl⟩ | ⟨k1, rfl⟩
    · have a : ¬ (i' < i ∨ (i' = i ∧ j' < j)) := fun h => by rw [h4 i' j' k1 k2 h] at k3; cases k3
      have b : ¬ (i < i' ∨ (i = i' ∧ j < j')) := fun h => by rw [k4 i j h1 h2 h] at h3; cases h3
      have e1 : i = i' := by omega
      have e2 : j = j' := by omega
      rw [e1, e2]
    · rw [k1 i j h1 h2] at h3; cases h3
  · rcases k with ⟨i', j', k1, k2, k3, k4, rfl⟩ | ⟨k1, rfl⟩
    · rw [h1 i' j' k1 k2] at k3; cases k3
    · rfl

/-- Do i and k clash? -/
def clashB (ls : List LvD) (pl : List (Bool × Int)) (i k : Nat) : Bool := decide (pl.getD i (false, 0) = pl.getD k (false, 0)) && meets (ls.getD i default).l (ls.getD k default).l

theorem placeEq (p r : Bool × Int) (w : World) : (binOp .eql 47 (.agg #[.bool p.1, .int .i64 p.2]) (.agg #[.bool r.1, .int .i64 r.2])).run Try.prog w = .ok (.bool (decide (p = r))) w := by
  exact eql_two Try.underlying47 (by kernel_rfl) Try.underlying4 Try.underlying3 rfl rfl (by decide) (by decide) p.1 r.1 p.2 r.2 w

theorem quiet_eqlAgg {P : Program} {C : World → Prop} {K : Act → Prop} {o : Oper} {a : Act} (op : BinOp) (t u : TypeId) (x y : Operand) (xs ys : Array Value) (v : Value) (ho : o.op = .binOp op t x y u) (hg : P.eqGuardType P.depth t = false) (hx : a.eval x = .agg xs) (hy : a.eval y = .agg ys)
    (hr : ∀ w, C w → (binOp op t (.agg xs) (.agg ys)).run P w = .ok v w) (hk : K (a.put o.dst v)) : o.quiet P a C K :=
  ⟨v, fun w hw => by
    unfold Oper.quietAt execOp
    rw [ho]
    simp [hx, hy, run_eqGuard_agg (P := P) (w := w) op t x y xs ys hg, hr w hw, Result.andThen, Oper.quietUpon], hk⟩

set_option maxHeartbeats 4000000 in
set_option maxRecDepth 100000 in
theorem clash_calls (A : Option Addr) (ls : List LvD) (c : Nat) (P : Option Addr) (pl : List (Bool × Int)) (cp : Nat) (sl : Int) (w : World) (hl : Lives w A ls) (hp : Seg w P (pl.flatMap plI)) (hn : ls.length ≤ 1000000) (_hpn : pl.length ≤ maxLen) :
    Calls Try.prog 13 #[.slice A ls.length c, .agg #[.slice P pl.length cp, .int .i64 sl]] w fun e w' => ClashRes (clashB ls pl) (min ls.length pl.length) e ∧ Keep w w' := by
  obtain ⟨wa, hwa⟩ : ∃ wa : World, wa = w.alloc (.cells #[.slice P pl.length cp, .int .i64 sl] 27) := ⟨_, rfl⟩
  have hka : Keep w wa := by rw [hwa]; exact (Keep.refl _).alloc _
  have bg : Blk wa w.heap.size 27 [.slice P pl.length cp, .int .i64 sl] := by rw [hwa]; exact Blk.new w _ _
  have g0 : wa.cell? ⟨w.heap.size, 0, none⟩ = some (.slice P pl.length cp) := bg.cell 0
  have lg := bg.lt
  have Hl := Lib.hid (hl.keep hka)
  have Hp := Lib.hid (hp.keep hka)
  have HC := Lib.hid (show ∀ i k x y p r, ls[i]? = some x → ls[k]? = some y → pl[i]? = some p → pl[k]? = some r → clashB ls pl i k = (decide (p = r) && meets x.l y.l) from fun i k x y p r h1 h2 h3 h4 => by
    unfold clashB
    rw [List.getD_eq_getElem?_getD, List.getD_eq_getElem?_getD, List.getD_eq_getElem?_getD, List.getD_eq_getElem?_getD, h1, h2, h3, h4]; rfl)
  have hm : Try.prog.eqGuardType Try.prog.depth 47 = false := by kernel_rfl
  obtain ⟨C, hC⟩ : ∃ C, clashB ls pl = C := ⟨_, rfl⟩
  rw [hC] at HC ⊢
  clear hC hl hp bg
  by_cases hle : pl.length < ls.length
  · rw [Nat.min_eq_right (by omega)]
    go_enter Try.func13, Try.ntmps13
    go_wp2_with fail
    rw [← hwa]
    clear hwa
    go_wp2
    go_loopw [17] (fun vi wr => ∃ i : Nat, i ≤ pl.length ∧ vi = .int .i64 i ∧ NoneBefore C pl.length i 0 ∧ Keep wa wr) (fun i _ => pl.length - (intOf i).toNat)
    case atStart => exact ⟨0, Nat.zero_le _, rfl, fun i' k' h1 h2 h3 => by omega, Keep.refl _⟩
    case round =>
      obtain ⟨i, hi, rfl, hnb, hkeep⟩ := hrel
      by_cases hin : i < pl.length
      · have hii : (i : Int) < (pl.length : Int) := by omega
        have hi0 : (0 : Int) ≤ (i : Int) := by omega
        have Hnb := Lib.hid hnb
        have hkeepO := hkeep
        clear hnb hkeep
        go_wp2
        go_loopw [9] (fun vk wr => ∃ k : Nat, i < k ∧ k ≤ pl.length ∧ vk = .int .i64 k ∧ NoneBefore C pl.length i k ∧ Keep wa wr) (fun k _ => pl.length - (intOf k).toNat)
        case atStart => exact ⟨i + 1, by omega, hin, by go_num, fun i' k' h1 h2 h3 => Hnb.out i' k' h1 h2 (by omega), hkeepO⟩
        case round =>
          obtain ⟨k, hik, hk, rfl, hnb, hkeep⟩ := hrel
          by_cases hkn : k < pl.length
          · obtain ⟨x, hx⟩ := get_some (l := ls) (k := i) (by omega)
            obtain ⟨y, hy⟩ := get_some (l := ls) (k := k) (by omega)
            obtain ⟨p, hp⟩ := get_some (l := pl) (k := i) (by omega)
            obtain ⟨r, hr⟩ := get_some (l := pl) (k := k) (by omega)
            obtain ⟨b1, off1, hA, hb1, x0, x1, xok⟩ := Hl.out.get hkeep hx
            obtain ⟨b2, off2, e2, _, y0, y1, yok⟩ := Hl.out.get hkeep hy
            obtain ⟨b3, off3, hP, hb3, p0, p1⟩ := pl_get Hp.out hkeep hp
            obtain ⟨b4, off4, e4, _, r0, r1⟩ := pl_get Hp.out hkeep hr
            subst hA
            cases e2
            subst hP
            cases e4
            have hb := Nat.lt_of_lt_of_le hb1 hkeep.size
            have hbb := Nat.lt_of_lt_of_le hb3 hkeep.size
            have hkk : (k : Int) < (ls.length : Int) := by omega
            have hkp : (k : Int) < (pl.length : Int) := by omega
            have hil : (i : Int) < (ls.length : Int) := by omega
            have hip : (i : Int) < (pl.length : Int) := by omega
            have hk0 : (0 : Int) ≤ (k : Int) := by omega
            have kx0 := fun z : KW wr => z.cell x0
            have kx1 := fun z : KW wr => z.cell x1
            have ky0 := fun z : KW wr => z.cell y0
            have ky1 := fun z : KW wr => z.cell y1
            have kp0 := fun z : KW wr => z.cell p0
            have kp1 := fun z : KW wr => z.cell p1
            have kr0 := fun z : KW wr => z.cell r0
            have kr1 := fun z : KW wr => z.cell r1
            have kg := fun z : KW wr => z.cell (hkeep.cell g0)
            have lgr := Nat.lt_of_lt_of_le lg hkeep.size
            have HM := Lib.hid (fun (wz : World) (hk : Keep wr wz) => meet_calls x.val y.val x.a y.a x.l y.l x.c y.c wz (xok.keep hk).seg (yok.keep hk).seg xok.len yok.len)
            have hd : Keep wr wr.drew := (Keep.refl _).drew
            have Hc := Lib.hid (HC.out i k x y p r hx hy hp hr)
            have Hnb2 := Lib.hid hnb
            have eqv : ∀ z : KW wr, (binOp .eql 47 (.agg #[.bool p.1, .int .i64 p.2]) (.agg #[.bool r.1, .int .i64 r.2])).run Try.prog z.val = .ok (.bool (decide (p = r))) z.val := fun z => by
              rw [placeEq p r z.val]
            clear xok yok hx hy hp hr hnb x0 x1 y0 y1 p0 p1 r0 r1
            cases d : decide (p = r)
            · have Hno := Lib.hid (show NoneBefore C pl.length i (k + 1) from Hnb2.out.more (by rw [Hc.out, d]; rfl))
              rw [d] at eqv
              go_wp2_with fail
              refine region_begin (S := fun w' => ∃ z : KW wr, w' = z.val) (by kernel_rfl) ?_
              refine region_take [0, 1, 2, 3, 4, 5, 6, 7, 8, 9, 10, 11, 12, 13, 14, 15, 16, 17, 18, 19] [] 2 (by kernel_rfl) (by kernel_rfl) (InK.mk' hd) ?_
              show wpQuiet _ _ _ _ [_, _, _, _, _, _, _, _, _, _, _, _, _, _, _, _, _, _, _, _] _
              repeat (go_big_quiet_step (fail))
              go_big_quiet_want
              refine quiet_eqlAgg _ _ _ _ _ _ _ _ rfl hm rfl rfl (fun w' hw' => by obtain ⟨z, rfl⟩ := hw'; exact eqv z) ?_
              simp only [Act.put, List.setIfInBounds_toArray, List.set_cons_succ, List.set_cons_zero]
              go_big_quiet_on
              repeat (go_big_quiet_step (fail))
              refine wpQuiet_nil ?_
              refine region_fix (i := 20) (fuel := 1) rfl (by kernel_rfl) (fun K hK => ?_)
              go_simp
              refine hK _ _ (InK.mk' hd) ?_
              clear hK K
              refine region_take [21] [0, 1, 2, 3, 4, 5, 6, 7, 8, 9, 10, 11, 12, 13, 14, 15, 16, 17, 18, 19, 20] 0 (by kernel_rfl) (by kernel_rfl) (InK.mk' hd) ?_
              show wpQuiet _ _ _ _ [_] _
              repeat (go_big_quiet_step (fail))
              refine wpQuiet_nil ?_
              refine region_done (by kernel_rfl) ?_
              clear kx0 kx1 ky0 ky1 kp0 kp1 kr0 kr1 kg eqv HM
              go_wp2
              go_roundw
              case rel => exact ⟨k + 1, by omega, hkn, by go_num, Hno.out, hkeep.trans hd⟩
              case measure => simp [intOf]; omega
            · rw [d] at eqv
              go_wp2_with fail
              refine region_begin (S := fun w' => ∃ z : KW wr, w' = z.val) (by kernel_rfl) ?_
              refine region_take [0, 1, 2, 3, 4, 5, 6, 7, 8, 9, 10, 11, 12, 13, 14, 15, 16, 17, 18, 19] [] 2 (by kernel_rfl) (by kernel_rfl) (InK.mk' hd) ?_
              show wpQuiet _ _ _ _ [_, _, _, _, _, _, _, _, _, _, _, _, _, _, _, _, _, _, _, _] _
              repeat (go_big_quiet_step (fail))
              go_big_quiet_want
              refine quiet_eqlAgg _ _ _ _ _ _ _ _ rfl hm rfl rfl (fun w' hw' => by obtain ⟨z, rfl⟩ := hw'; exact eqv z) ?_
              simp only [Act.put, List.setIfInBounds_toArray, List.set_cons_succ, List.set_cons_zero]
              go_big_quiet_on
              repeat (go_big_quiet_step (fail))
              refine wpQuiet_nil ?_
              refine region_fix (i := 20) (fuel := 1) rfl (by kernel_rfl) (fun K hK => ?_)
              go_simp
              refine (HM.out _ hd).mono ?_
              rintro e w1 ⟨rfl, k1'⟩
              have k1 := hd.trans k1'
              refine hK _ _ (InK.mk' k1) ?_
              clear hK K
              refine region_take [21] [0, 1, 2, 3, 4, 5, 6, 7, 8, 9, 10, 11, 12, 13, 14, 15, 16, 17, 18, 19, 20] 0 (by kernel_rfl) (by kernel_rfl) (InK.mk' k1) ?_
              show wpQuiet _ _ _ _ [_] _
              repeat (go_big_quiet_step (fail))
              refine wpQuiet_nil ?_
              refine region_done (by kernel_rfl) ?_
              clear kx0 kx1 ky0 ky1 kp0 kp1 kr0 kr1 kg eqv HM
              cases dm : meets x.l y.l
              · have Hno := Lib.hid (show NoneBefore C pl.length i (k + 1) from Hnb2.out.more (by rw [Hc.out, dm]; simp))
                go_wp2
                go_roundw
                case rel => exact ⟨k + 1, by omega, hkn, by go_num, Hno.out, hkeep.trans k1⟩
                case measure => simp [intOf]; omega
              · have Hyes := Lib.hid (show ClashRes C pl.length (.returned (.tuple #[.int .i64 (i : Int), .int .i64 (k : Int), .bool true])) from .inl ⟨i, k, hik, hkn, by rw [Hc.out, d, dm]; rfl, Hnb2.out, rfl⟩)
                go_wp2
                exact bodyPost_ret (v := .tuple #[.int .i64 (i : Int), .int .i64 (k : Int), .bool true]) (by simp [results, Try.results13, go_sem]) rfl ⟨Hyes.out, hka.trans (hkeep.trans k1)⟩
          · have hkl : k = pl.length := by omega
            have Hno := Lib.hid (show NoneBefore C pl.length (i + 1) 0 from hnb.next (by omega))
            clear hnb
            go_wp2
            go_roundw
            case rel => exact ⟨i + 1, hin, by go_num, Hno.out, hkeep⟩
            case measure => simp [intOf]; omega
      · have Hno := Lib.hid (show ∀ i k, i < k → k < pl.length → C i k = false from fun i' k' h1 h2 => hnb i' k' h1 h2 (.inl (by omega)))
        clear hnb
        go_wp2
        exact bodyPost_ret (v := .tuple #[.int .i64 0, .int .i64 0, .bool false]) (by simp [results, Try.results13, go_sem]) rfl ⟨.inr ⟨Hno.out, rfl⟩, hka.trans hkeep⟩
  · rw [Nat.min_eq_left (by omega)]
    go_enter Try.func13, Try.ntmps13
    go_wp2_with fail
    rw [← hwa]
    clear hwa
    go_wp2
    go_loopw [17] (fun vi wr => ∃ i : Nat, i ≤ ls.length ∧ vi = .int .i64 i ∧ NoneBefore C ls.length i 0 ∧ Keep wa wr) (fun i _ => ls.length - (intOf i).toNat)
    case atStart => exact ⟨0, Nat.zero_le _, rfl, fun i' k' h1 h2 h3 => by omega, Keep.refl _⟩
    case round =>
      obtain ⟨i, hi, rfl, hnb, hkeep⟩ := hrel
      by_cases hin : i < ls.length
      · have hii : (i : Int) < (ls.length : Int) := by omega
        have hi0 : (0 : Int) ≤ (i : Int) := by omega
        have Hnb := Lib.hid hnb
        have hkeepO := hkeep
        clear hnb hkeep
        go_wp2
        go_loopw [9] (fun vk wr => ∃ k : Nat, i < k ∧ k ≤ ls.length ∧ vk = .int .i64 k ∧ NoneBefore C ls.length i k ∧ Keep wa wr) (fun k _ => ls.length - (intOf k).toNat)
        case atStart => exact ⟨i + 1, by omega, hin, by go_num, fun i' k' h1 h2 h3 => Hnb.out i' k' h1 h2 (by omega), hkeepO⟩
        case round =>
          obtain ⟨k, hik, hk, rfl, hnb, hkeep⟩ := hrel
          by_cases hkn : k < ls.length
          · obtain ⟨x, hx⟩ := get_some (l := ls) (k := i) (by omega)
            obtain ⟨y, hy⟩ := get_some (l := ls) (k := k) (by omega)
            obtain ⟨p, hp⟩ := get_some (l := pl) (k := i) (by omega)
            obtain ⟨r, hr⟩ := get_some (l := pl) (k := k) (by omega)
            obtain ⟨b1, off1, hA, hb1, x0, x1, xok⟩ := Hl.out.get hkeep hx
            obtain ⟨b2, off2, e2, _, y0, y1, yok⟩ := Hl.out.get hkeep hy
            obtain ⟨b3, off3, hP, hb3, p0, p1⟩ := pl_get Hp.out hkeep hp
            obtain ⟨b4, off4, e4, _, r0, r1⟩ := pl_get Hp.out hkeep hr
            subst hA
            cases e2
            subst hP
            cases e4
            have hb := Nat.lt_of_lt_of_le hb1 hkeep.size
            have hbb := Nat.lt_of_lt_of_le hb3 hkeep.size
            have hkk : (k : Int) < (ls.length : Int) := by omega
            have hkp : (k : Int) < (pl.length : Int) := by omega
            have hil : (i : Int) < (ls.length : Int) := by omega
            have hip : (i : Int) < (pl.length : Int) := by omega
            have hk0 : (0 : Int) ≤ (k : Int) := by omega
            have kx0 := fun z : KW wr => z.cell x0
            have kx1 := fun z : KW wr => z.cell x1
            have ky0 := fun z : KW wr => z.cell y0
            have ky1 := fun z : KW wr => z.cell y1
            have kp0 := fun z : KW wr => z.cell p0
            have kp1 := fun z : KW wr => z.cell p1
            have kr0 := fun z : KW wr => z.cell r0
            have kr1 := fun z : KW wr => z.cell r1
            have kg := fun z : KW wr => z.cell (hkeep.cell g0)
            have lgr := Nat.lt_of_lt_of_le lg hkeep.size
            have HM := Lib.hid (fun (wz : World) (hk : Keep wr wz) => meet_calls x.val y.val x.a y.a x.l y.l x.c y.c wz (xok.keep hk).seg (yok.keep hk).seg xok.len yok.len)
            have hd : Keep wr wr.drew := (Keep.refl _).drew
            have Hc := Lib.hid (HC.out i k x y p r hx hy hp hr)
            have Hnb2 := Lib.hid hnb
            have eqv : ∀ z : KW wr, (binOp .eql 47 (.agg #[.bool p.1, .int .i64 p.2]) (.agg #[.bool r.1, .int .i64 r.2])).run Try.prog z.val = .ok (.bool (decide (p = r))) z.val := fun z => by
              rw [placeEq p r z.val]
            clear xok yok hx hy hp hr hnb x0 x1 y0 y1 p0 p1 r0 r1
            cases d : decide (p = r)
            · have Hno := Lib.hid (show NoneBefore C ls.length i (k + 1) from Hnb2.out.more (by rw [Hc.out, d]; rfl))
              rw [d] at eqv
              go_wp2_with fail
              refine region_begin (S := fun w' => ∃ z : KW wr, w' = z.val) (by kernel_rfl) ?_
              refine region_take [0, 1, 2, 3, 4, 5, 6, 7, 8, 9, 10, 11, 12, 13, 14, 15, 16, 17, 18, 19] [] 2 (by kernel_rfl) (by kernel_rfl) (InK.mk' hd) ?_
              show wpQuiet _ _ _ _ [_, _, _, _, _, _, _, _, _, _, _, _, _, _, _, _, _, _, _, _] _
              repeat (go_big_quiet_step (fail))
              go_big_quiet_want
              refine quiet_eqlAgg _ _ _ _ _ _ _ _ rfl hm rfl rfl (fun w' hw' => by obtain ⟨z, rfl⟩ := hw'; exact eqv z) ?_
              simp only [Act.put, List.setIfInBounds_toArray, List.set_cons_succ, List.set_cons_zero]
              go_big_quiet_on
              repeat (go_big_quiet_step (fail))
              refine wpQuiet_nil ?_
              refine region_fix (i := 20) (fuel := 1) rfl (by kernel_rfl) (fun K hK => ?_)
              go_simp
              refine hK _ _ (InK.mk' hd) ?_
              clear hK K
              refine region_take [21] [0, 1, 2, 3, 4, 5, 6, 7, 8, 9, 10, 11, 12, 13, 14, 15, 16, 17, 18, 19, 20] 0 (by kernel_rfl) (by kernel_rfl) (InK.mk' hd) ?_
              show wpQuiet _ _ _ _ [_] _
              repeat (go_big_quiet_step (fail))
              refine wpQuiet_nil ?_
              refine region_done (by kernel_rfl) ?_
              clear kx0 kx1 ky0 ky1 kp0 kp1 kr0 kr1 kg eqv HM
              go_wp2
              go_roundw
              case rel => exact ⟨k + 1, by omega, hkn, by go_num, Hno.out, hkeep.trans hd⟩
              case measure => simp [intOf]; omega
            · rw [d] at eqv
              go_wp2_with fail
              refine region_begin (S := fun w' => ∃ z : KW wr, w' = z.val) (by kernel_rfl) ?_
              refine region_take [0, 1, 2, 3, 4, 5, 6, 7, 8, 9, 10, 11, 12, 13, 14, 15, 16, 17, 18, 19] [] 2 (by kernel_rfl) (by kernel_rfl) (InK.mk' hd) ?_
              show wpQuiet _ _ _ _ [_, _, _, _, _, _, _, _, _, _, _, _, _, _, _, _, _, _, _, _] _
              repeat (go_big_quiet_step (fail))
              go_big_quiet_want
              refine quiet_eqlAgg _ _ _ _ _ _ _ _ rfl hm rfl rfl (fun w' hw' => by obtain ⟨z, rfl⟩ := hw'; exact eqv z) ?_
              simp only [Act.put, List.setIfInBounds_toArray, List.set_cons_succ, List.set_cons_zero]
              go_big_quiet_on
              repeat (go_big_quiet_step (fail))
              refine wpQuiet_nil ?_
              refine region_fix (i := 20) (fuel := 1) rfl (by kernel_rfl) (fun K hK => ?_)
              go_simp
              refine (HM.out _ hd).mono ?_
              rintro e w1 ⟨rfl, k1'⟩
              have k1 := hd.trans k1'
              refine hK _ _ (InK.mk' k1) ?_
              clear hK K
              refine region_take [21] [0, 1, 2, 3, 4, 5, 6, 7, 8, 9, 10, 11, 12, 13, 14, 15, 16, 17, 18, 19, 20] 0 (by kernel_rfl) (by kernel_rfl) (InK.mk' k1) ?_
              show wpQuiet _ _ _ _ [_] _
              repeat (go_big_quiet_step (fail))
              refine wpQuiet_nil ?_
              refine region_done (by kernel_rfl) ?_
              clear kx0 kx1 ky0 ky1 kp0 kp1 kr0 kr1 kg eqv HM
              cases dm : meets x.l y.l
              · have Hno := Lib.hid (show NoneBefore C ls.length i (k + 1) from Hnb2.out.more (by rw [Hc.out, dm]; simp))
                go_wp2
                go_roundw
                case rel => exact ⟨k + 1, by omega, hkn, by go_num, Hno.out, hkeep.trans k1⟩
                case measure => simp [intOf]; omega
              · have Hyes := Lib.hid (show ClashRes C ls.length (.returned (.tuple #[.int .i64 (i : Int), .int .i64 (k : Int), .bool true])) from .inl ⟨i, k, hik, hkn, by rw [Hc.out, d, dm]; rfl, Hnb2.out, rfl⟩)
                go_wp2
                exact bodyPost_ret (v := .tuple #[.int .i64 (i : Int), .int .i64 (k : Int), .bool true]) (by simp [results, Try.results13, go_sem]) rfl ⟨Hyes.out, hka.trans (hkeep.trans k1)⟩
          · have hkl : k = ls.length := by omega
            have Hno := Lib.hid (show NoneBefore C ls.length (i + 1) 0 from hnb.next (by omega))
            clear hnb
            go_wp2
            go_roundw
            case rel => exact ⟨i + 1, hin, by go_num, Hno.out, hkeep⟩
            case measure => simp [intOf]; omega
      · have Hno := Lib.hid (show ∀ i k, i < k → k < ls.length → C i k = false from fun i' k' h1 h2 => hnb i' k' h1 h2 (.inl (by omega)))
        clear hnb
        go_wp2
        exact bodyPost_ret (v := .tuple #[.int .i64 0, .int .i64 0, .bool false]) (by simp [results, Try.results13, go_sem]) rfl ⟨.inr ⟨Hno.out, rfl⟩, hka.trans hkeep⟩
end Go.Proofs.Ytigidchignlpmaa
