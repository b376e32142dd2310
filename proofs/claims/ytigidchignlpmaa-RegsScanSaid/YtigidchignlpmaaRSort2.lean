/-
  The library's stable sort of numbers: the insertion.
-/
import Derived.Test.YtigidchignlpmaaRSort1
namespace Go.Proofs.Ytigidchignlpmaa
open Go Go.RowKit Rg

/-- The comparing that the program hands over. -/
def cmpV (p : Option Addr) : Value := .func (.func 26) #[] #[.pointer p]
/-- It compares where the numbers' live ranges begin. -/
def CmpOk (w0 : World) (g n : Nat) (B : Nat → Int) (p : Option Addr) : Prop := ∀ (wx : World) (x y : Nat), Ext (fun k => k = g) w0 wx → x < n → y < n →
  Calls Try.prog 26 #[.int .i64 (x : Int), .int .i64 (y : Int), .pointer p] wx fun e w' => e = .returned (.int .i64 (cmp3 (B x) (B y))) ∧ Keep wx w'
theorem cmp3_neg (x y : Int) : decide (cmp3 x y < 0) = decide (x < y) := by
  unfold cmp3
  rw [decide_eq_decide]
  split
  · constructor <;> intro _ <;> omega
  · split
    · constructor <;> intro h <;> omega
    · constructor <;> intro h <;> omega

set_option maxHeartbeats 4000000 in
set_option maxRecDepth 100000 in
theorem insertion_calls (w0 : World) (g N n : Nat) (B : Nat → Int) (p : Option Addr) (hcmp : CmpOk w0 g n B p) (d : Row) (w : World) (a b c : Nat) (h : StR w0 g N d w) (hab : a ≤ b) (hb : b ≤ N) (hN : N ≤ 1000000) (hid : ∀ x, a ≤ x → x < b → d x = x) (hn : ∀ x, x < N → d x < n) :
    Calls Try.prog 43 #[.slice (some ⟨g, 0, none⟩) N c, .int .i64 (a : Int), .int .i64 (b : Int), cmpV p] w fun e w' => (∃ v, e = .returned v) ∧ ∃ d', StR w0 g N d' w' ∧ Per N a b d d' ∧ Srt B d' a b := by
  have mixed : Try.prog.follows .mixedOrders = true := by kernel_rfl
  have s1 : IntKind.i64.wrap ((a : Int) + 1) = ((a + 1 : Nat) : Int) := by rw [show (a : Int) + 1 = ((a + 1 : Nat) : Int) by omega]; exact IntWalk.i64_in _ (by omega)
  have Hc := Lib.hid hcmp
  clear hcmp
  unfold cmpV
  go_enter Try.func43, Try.ntmps43
  go_wp2
  go_loopw [8] (fun vi wr => ∃ (i : Nat) (e : Row), vi = .int .i64 i ∧ a < i ∧ i ≤ b + 1 ∧ Per N a b d e ∧ Hid ((i ≤ b → Srt B e a i) ∧ (∀ x, a ≤ x → x < i → x < b → e x < i) ∧ (∀ x, i ≤ x → x < b → e x = x) ∧ (b < i → Srt B e a b)) ∧ StR w0 g N e wr) (fun vi _ => b + 1 - (intOf vi).toNat)
  case atStart => exact ⟨a + 1, d, rfl, by omega, by omega, Per.refl _ _ _ _, Lib.hid ⟨fun _ x y h1 h2 h3 => by omega, fun x h1 h2 h3 => by rw [hid x h1 h3]; omega, fun x h1 h2 => hid x (by omega) h2, fun _ x y h1 h2 h3 => by omega⟩, h⟩
  case round =>
    obtain ⟨i, e, rfl, hai, hib, hper, hprop, hst⟩ := hrel
    clear s1 h
    by_cases hlt : i < b
    · have hltz : (i : Int) < (b : Int) := by omega
      have s2 : IntKind.i64.wrap ((i : Int) + 1) = ((i + 1 : Nat) : Int) := by rw [show (i : Int) + 1 = ((i + 1 : Nat) : Int) by omega]; exact IntWalk.i64_in _ (by omega)
      have hstart := InsJ.start (hprop.out.1 (by omega)) (hprop.out.2.2.1 i (Nat.le_refl _) hlt) (fun x h1 h2 => hprop.out.2.1 x h1 h2 (by omega))
      have hrest := fun x h1 h2 => hprop.out.2.2.1 x h1 h2
      go_wp2
      go_loopw [9] (fun vj wr => ∃ (j : Nat) (f : Row), vj = .int .i64 j ∧ a ≤ j ∧ j ≤ i ∧ Hid (InsJ B f a i j) ∧ Per N a b d f ∧ Hid (∀ x, i + 1 ≤ x → x < b → f x = x) ∧ StR w0 g N f wr) (fun vj _ => (intOf vj).toNat)
      case atStart => exact ⟨i, e, rfl, by omega, Nat.le_refl _, Lib.hid hstart, hper, Lib.hid (fun x h1 h2 => hrest x (by omega) h2), hst⟩
      case round =>
        clear hst hper hprop hstart hrest
        obtain ⟨j, f, rfl, haj, hji, hins, hper, hfr, hst⟩ := hrel
        by_cases hja : a < j
        · obtain ⟨jp, hjp⟩ : ∃ q, q + 1 = j := ⟨j - 1, by omega⟩
          have hjaz : (a : Int) < (j : Int) := by omega
          have s3 : IntKind.i64.wrap ((j : Int) - 1) = (jp : Int) := by rw [show (j : Int) - 1 = (jp : Int) by omega]; exact IntWalk.i64_in _ (by omega)
          have k0 : (0 : Int) ≤ (j : Int) := by omega
          have k1 : (j : Int) < (N : Int) := by omega
          have k2 : (0 : Int) ≤ (jp : Int) := by omega
          have k3 : (jp : Int) < (N : Int) := by omega
          have c1 := fun y : KW wr => y.cell (hst.cell (i := j) (by omega))
          have c2 := fun y : KW wr => y.cell (hst.cell (i := jp) (by omega))
          have hd : Keep wr wr.drew := (Keep.refl _).drew
          have hcall := fun (wx : World) (hk : Keep wr wx) => Hc.out wx (f j) (f jp) (hst.1.keepTrans hk) (hper.lt hn hb j (by omega)) (hper.lt hn hb jp (by omega))
          have Hcall := Lib.hid hcall
          clear hcall
          have dneg := cmp3_neg (B (f j)) (B (f jp))
          obtain ⟨cv, hcv⟩ : ∃ cv, cmp3 (B (f j)) (B (f jp)) = cv := ⟨_, rfl⟩
          rw [hcv] at dneg Hcall
          have Hdneg := Lib.hid dneg
          clear hcv dneg
          go_wp2_with fail
          refine region_begin (S := fun w' => ∃ y : KW wr, w' = y.val) (by kernel_rfl) ?_
          refine region_take [0, 1, 2, 3, 4, 5, 6, 7, 8, 9, 10, 11, 12, 13] [] 3 (by kernel_rfl) (by kernel_rfl) (InK.mk' hd) ?_
          show wpQuiet _ _ _ _ [_, _, _, _, _, _, _, _, _, _, _, _, _, _] _
          repeat (go_big_quiet_step (fail))
          refine wpQuiet_nil ?_
          refine region_fix (i := 14) (fuel := 2) rfl (by kernel_rfl) (fun K hK => ?_)
          go_simp
          refine (Hcall.out _ hd).mono ?_
          rintro e1 w2 ⟨rfl, hk2'⟩
          have hk2 := hd.trans hk2'
          refine hK _ _ (InK.mk' hk2) ?_
          clear hK K hk2' Hcall c1 c2
          have hst2 := hst.keep hk2
          cases hv : decide (cv < 0)
          all_goals
            refine region_take [15, 16] _ 0 (by kernel_rfl) (by kernel_rfl) (InK.mk' hk2) ?_
            show wpQuiet _ _ _ _ [_, _] _
            repeat (go_big_quiet_step (fail))
            refine wpQuiet_nil ?_
            refine region_done (by kernel_rfl) ?_
            have dneg := Hdneg.out
            rw [hv] at dneg
          · have Hstop := Lib.hid (hins.out.stop ⟨haj, hji⟩ (.inr ⟨jp, hjp.symm, of_decide_eq_false dneg.symm⟩))
            have Hrest := Lib.hid hfr.out
            clear hins hfr dneg hst hk2
            go_wp2
            go_roundw
            case rel => exact ⟨i + 1, f, rfl, by omega, by omega, hper, Lib.hid ⟨fun _ => Hstop.out.1, fun x h1 h2 _ => Hstop.out.2 x h1 h2, fun x h1 h2 => Hrest.out x h1 h2, fun h1 => by omega⟩, hst2⟩
            case measure => simp [intOf]; omega
          · have Hlt := Lib.hid (of_decide_eq_true dneg.symm)
            have Hswap := Lib.hid (hst2.swap j jp)
            have Hins := Lib.hid (show InsJ B (sw f j jp) a i jp by
              have h1 := hins.out
              have h2 := Hlt.out
              subst hjp
              exact h1.step ⟨by omega, by omega⟩ h2)
            have Hfr := Lib.hid (show ∀ x, i + 1 ≤ x → x < b → sw f j jp x = x from fun x h1 h2 => by rw [sw_else f (by omega) (by omega)]; exact hfr.out x h1 h2)
            have Hper := Lib.hid (hper.trans (Per.sw (i := j) (j := jp) (d := f) ⟨by omega, by omega⟩ ⟨by omega, by omega⟩ hb))
            have c1 := hst2.cell (i := j) (by omega)
            have c2 := hst2.cell (i := jp) (by omega)
            have ff := hst2.2.frozen
            have ll := hst2.2.lt
            obtain ⟨u3, c3⟩ : ∃ v, (w2.setCell ⟨g, j, none⟩ (.int .i64 (f jp : Int))).cell? ⟨g, jp, none⟩ = some v := ⟨_, by
              rw [(hst2.2.set_ j (.int .i64 (f jp : Int))).cell jp, List.getElem?_set_ne (by omega), List.getElem?_map, rowL_get N f (by omega)]; rfl⟩
            clear hins hfr dneg hst hk2 hst2 hper
            go_wp2_with fail
            go_big_region_o
            clear c1 c2 c3 ff ll
            go_wp2
            go_roundw
            case rel => exact ⟨jp, sw f j jp, rfl, by omega, by omega, Hins, Hper.out, Hfr, Hswap.out.keep (Keep.refl _).drew⟩
            case measure => simp [intOf]; omega
        · have hjaz : ¬ (a : Int) < (j : Int) := by omega
          have Hstop := Lib.hid (hins.out.stop ⟨haj, hji⟩ (.inl (by omega)))
          have Hrest := Lib.hid hfr.out
          have hd : Keep wr wr.drew := (Keep.refl _).drew
          clear hins hfr
          go_wp2_with fail
          refine region_begin (S := fun w' => ∃ y : KW wr, w' = y.val) (by kernel_rfl) ?_
          refine region_take [0, 1, 2, 3, 4, 5, 6, 7, 8, 9, 10, 11, 12, 13] [] 3 (by kernel_rfl) (by kernel_rfl) (InK.mk' hd) ?_
          show wpQuiet _ _ _ _ [_, _, _, _, _, _, _, _, _, _, _, _, _, _] _
          repeat (go_big_quiet_step (fail))
          refine wpQuiet_nil ?_
          refine region_fix (i := 14) (fuel := 2) rfl (by kernel_rfl) (fun K hK => ?_)
          go_simp
          refine hK _ _ (InK.mk' hd) ?_
          clear hK K
          refine region_take [15, 16] _ 0 (by kernel_rfl) (by kernel_rfl) (InK.mk' hd) ?_
          show wpQuiet _ _ _ _ [_, _] _
          repeat (go_big_quiet_step (fail))
          refine wpQuiet_nil ?_
          refine region_done (by kernel_rfl) ?_
          go_wp2
          go_roundw
          case rel => exact ⟨i + 1, f, rfl, by omega, by omega, hper, Lib.hid ⟨fun _ => Hstop.out.1, fun x h1 h2 _ => Hstop.out.2 x h1 h2, fun x h1 h2 => Hrest.out x h1 h2, fun h1 => by omega⟩, hst.keep hd⟩
          case measure => simp [intOf]; omega
    · have hge : ¬ (i : Int) < (b : Int) := by omega
      have Hsrt := Lib.hid (show Srt B e a b by
        by_cases hi : i = b
        · rw [← hi]; exact hprop.out.1 (by omega)
        · exact hprop.out.2.2.2 (by omega))
      clear hprop
      go_wp2
      refine bodyPost_end (results_none rfl _ _ _) rfl ⟨⟨_, rfl⟩, e, hst, hper, Hsrt.out⟩
end Go.Proofs.Ytigidchignlpmaa
