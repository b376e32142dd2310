/-
  The library's stable sort of numbers: the merge.
-/
import Derived.Test.YtigidchignlpmaaRSort3
import Derived.Deep.DeepCutAuto
namespace Go.Proofs.Ytigidchignlpmaa
open Go Go.RowKit Rg

theorem rot_id (d : Row) {s m e : Nat} (h : s = m ∨ e = m ∨ e < m) (hs : s ≤ m := by omega) : rot d s m e = d := by
  funext x
  unfold rot rotI
  by_cases h1 : s ≤ x ∧ x < s + (e - m)
  · rw [if_pos h1]; congr 1; omega
  · rw [if_neg h1]
    by_cases h2 : s + (e - m) ≤ x ∧ x < e
    · rw [if_pos h2]; congr 1; omega
    · rw [if_neg h2]
/-- Behind a test. -/
def TestCut (C : Prop) [Decidable C] (W : World) (v : Value) (wx : World) : Prop := v = .bool (decide C) ∧ wx = W
/-- The merge of at most len numbers. -/
def MergeOk (w0 : World) (g N n : Nat) (B : Nat → Int) (p : Option Addr) (len : Nat) : Prop := ∀ (d : Row) (w : World) (a m b c : Nat), StR w0 g N d w → a < m → m < b → b ≤ N → b - a ≤ len → Two B d a m b → (∀ x, x < N → d x < n) →
  Calls Try.prog 44 #[.slice (some ⟨g, 0, none⟩) N c, .int .i64 (a : Int), .int .i64 (m : Int), .int .i64 (b : Int), .func (.func 26) #[] #[.pointer p]] w fun e w' => (∃ v, e = .returned v) ∧ ∃ d', StR w0 g N d' w' ∧ Per N a b d d' ∧ Srt B d' a b

set_option maxHeartbeats 16000000 in
set_option maxRecDepth 100000 in
theorem symMerge_genA (w0 : World) (g N n : Nat) (B : Nat → Int) (p : Option Addr) (hcmp : CmpOk w0 g n B p) (len : Nat) (ih : MergeOk w0 g N n B p len) (d : Row) (w : World) (a m b c : Nat) (h : StR w0 g N d w) (ham : a + 1 < m) (hmb : m + 1 < b) (hb : b ≤ N) (hN : N ≤ 1000000) (hlen : b - a ≤ len + 1) (h2 : Two B d a m b) (hn : ∀ x, x < N → d x < n) (hmm : (a + b) / 2 < m) :
    Calls Try.prog 44 #[.slice (some ⟨g, 0, none⟩) N c, .int .i64 (a : Int), .int .i64 (m : Int), .int .i64 (b : Int), cmpV p] w fun e w' => (∃ v, e = .returned v) ∧ ∃ d', StR w0 g N d' w' ∧ Per N a b d d' ∧ Srt B d' a b := by
  have mixed : Try.prog.follows .mixedOrders = true := by kernel_rfl
  have H2 := Lib.hid h2
  have Hih := Lib.hid ih
  have Hc := Lib.hid hcmp
  clear h2 ih hcmp
  obtain ⟨mid, hmid⟩ : ∃ mid, mid = (a + b) / 2 := ⟨_, rfl⟩
  rw [← hmid] at hmm
  have m1 : a + 1 < mid := by omega
  have m2 : mid + 1 < b := by omega
  have m3 : 2 * mid ≤ a + b := by omega
  have m4 : a + b ≤ 2 * mid + 1 := by omega
  have s1 : IntKind.i64.wrap ((m : Int) - (a : Int)) = (m : Int) - (a : Int) := IntWalk.i64_in _ (by omega)
  have t1 : ((m : Int) - (a : Int) == 1) = false := by rw [beq_eq_false_iff_ne]; omega
  have s2 : IntKind.i64.wrap ((b : Int) - (m : Int)) = (b : Int) - (m : Int) := IntWalk.i64_in _ (by omega)
  have t2 : ((b : Int) - (m : Int) == 1) = false := by rw [beq_eq_false_iff_ne]; omega
  have s3 : IntKind.i64.wrap ((a : Int) + (b : Int)) = (a : Int) + (b : Int) := IntWalk.i64_in _ (by omega)
  have k3 : (0 : Int) ≤ (a : Int) + (b : Int) := by omega
  have e3 : ((a : Int) + (b : Int)) / 2 = (mid : Int) := by omega
  obtain ⟨mn, hmn⟩ : ∃ mn, mn = mid + m := ⟨_, rfl⟩
  have s4 : IntKind.i64.wrap ((mid : Int) + (m : Int)) = (mn : Int) := by rw [show (mid : Int) + (m : Int) = (mn : Int) by omega]; exact IntWalk.i64_in _ (by omega)
  obtain ⟨pp, hpp⟩ : ∃ pp, pp + 1 = mn := ⟨mn - 1, by omega⟩
  have s5 : IntKind.i64.wrap ((mn : Int) - 1) = (pp : Int) := by rw [show (mn : Int) - 1 = (pp : Int) by omega]; exact IntWalk.i64_in _ (by omega)
  have tm : (mid : Int) < (m : Int) := by omega
  obtain ⟨s0, hs0⟩ : ∃ s0, s0 + b = mn := ⟨mn - b, by omega⟩
  have s6 : IntKind.i64.wrap ((mn : Int) - (b : Int)) = (s0 : Int) := by rw [show (mn : Int) - (b : Int) = (s0 : Int) by omega]; exact IntWalk.i64_in _ (by omega)
  have f1 : a ≤ s0 := by omega
  have f2 : s0 ≤ mid := by omega
  have f3 : s0 + b ≤ mid + m := by omega
  have f4 : mid + m ≤ s0 + b := by omega
  have g1 : mn ≤ mid + m := by omega
  have g2 : mid + m ≤ mn := by omega
  have g3 : pp + 1 ≤ mn := by omega
  have g4 : mn ≤ pp + 1 := by omega
  clear hmid hmn hpp hs0
  unfold cmpV
  go_enter Try.func44, Try.ntmps44
  go_wp2
  go_loopw [20, 21] (fun vs vr wr => ∃ (s r : Nat), vs = .int .i64 s ∧ vr = .int .i64 r ∧ s0 ≤ s ∧ s ≤ r ∧ r ≤ mid ∧ Hid ((∀ x, s0 ≤ x → x < s → Lt B (d x) (d (pp - x))) ∧ (∀ x, r ≤ x → x < mid → Lt B (d (pp - x)) (d x))) ∧ StR w0 g N d wr) (fun vs vr _ => (intOf vr).toNat - (intOf vs).toNat)
  case atStart => exact ⟨s0, mid, rfl, rfl, Nat.le_refl _, by omega, Nat.le_refl _, Lib.hid ⟨fun x h1 h2 => by omega, fun x h1 h2 => by omega⟩, h⟩
  case round =>
    clear h s1 s2 s3 s4 s5 e3 k3 t1 t2 tm s6
    obtain ⟨i, j, rfl, rfl, hmi, hij, hjb, hprop, hst⟩ := hrel
    by_cases hlt : i < j
    · have hltz : (i : Int) < (j : Int) := by omega
      have s2 : IntKind.i64.wrap ((i : Int) + (j : Int)) = (i : Int) + (j : Int) := IntWalk.i64_in _ (by omega)
      have k0 : (0 : Int) ≤ (i : Int) + (j : Int) := by omega
      obtain ⟨q, hq⟩ : ∃ q, q = (i + j) / 2 := ⟨_, rfl⟩
      have s3 : ((i : Int) + (j : Int)) / 2 = (q : Int) := by omega
      have s4 : IntKind.i64.wrap ((q : Int) + 1) = ((q + 1 : Nat) : Int) := by rw [show (q : Int) + 1 = ((q + 1 : Nat) : Int) by omega]; exact IntWalk.i64_in _ (by omega)
      have q1 : i ≤ q := by omega
      have q2 : q < j := by omega
      obtain ⟨pq, hpq⟩ : ∃ pq, pq + q = pp := ⟨pp - q, by omega⟩
      have s5 : IntKind.i64.wrap ((pp : Int) - (q : Int)) = (pq : Int) := by rw [show (pp : Int) - (q : Int) = (pq : Int) by omega]; exact IntWalk.i64_in _ (by omega)
      have epq : pp - q = pq := by omega
      have r1 : (0 : Int) ≤ (q : Int) := by omega
      have r2 : (q : Int) < (N : Int) := by omega
      have r3 : (0 : Int) ≤ (pq : Int) := by omega
      have r4 : (pq : Int) < (N : Int) := by omega
      have u1 : pq + q ≤ pp := by omega
      have u2 : pp ≤ pq + q := by omega
      have Epq := Lib.hid epq
      clear hq hpq epq
      have hd : Keep wr wr.drew := (Keep.refl _).drew
      have Hcall := Lib.hid (fun (wx : World) (hk : Keep wr wx) => Hc.out wx (d pq) (d q) (hst.1.keepTrans hk) (hn _ (by omega)) (hn _ (by omega)))
      have dneg := cmp3_neg (B (d pq)) (B (d q))
      obtain ⟨cv, hcv⟩ : ∃ cv, cmp3 (B (d pq)) (B (d q)) = cv := ⟨_, rfl⟩
      rw [hcv] at dneg Hcall
      have Hdneg := Lib.hid dneg
      have c1 := fun y : KW wr => y.cell (hst.cell (i := pq) (by omega))
      have c2 := fun y : KW wr => y.cell (hst.cell (i := q) (by omega))
      clear hcv dneg
      go_wp2_with fail
      refine region_begin (S := fun w' => ∃ y : KW wr, w' = y.val) (by kernel_rfl) ?_
      refine region_take [0, 1, 2, 3, 4, 5, 6, 7, 8, 9, 10] [] 3 (by kernel_rfl) (by kernel_rfl) (InK.mk' hd) ?_
      show wpQuiet _ _ _ _ [_, _, _, _, _, _, _, _, _, _, _] _
      repeat (go_big_quiet_step (fail))
      refine wpQuiet_nil ?_
      refine region_fix (i := 11) (fuel := 2) rfl (by kernel_rfl) (fun K hK => ?_)
      go_simp
      refine (Hcall.out _ hd).mono ?_
      rintro e1 w2 ⟨rfl, hk2'⟩
      have hk2 := hd.trans hk2'
      refine hK _ _ (InK.mk' hk2) ?_
      clear hK K hk2' Hcall c1 c2
      have hst2 := hst.keep hk2
      cases hv : decide (cv < 0)
      all_goals
        refine region_take [12, 13] _ 0 (by kernel_rfl) (by kernel_rfl) (InK.mk' hk2) ?_
        show wpQuiet _ _ _ _ [_, _] _
        repeat (go_big_quiet_step (fail))
        refine wpQuiet_nil ?_
        refine region_done (by kernel_rfl) ?_
        have dneg := Hdneg.out
        rw [hv] at dneg
        clear hst hk2
      · have Hnot := Lib.hid ((H2.out.not_less (i := q) (j := pq) ⟨by omega, by omega⟩ ⟨by omega, by omega⟩).1 (of_decide_eq_false dneg.symm))
        have Hp := Lib.hid (show (∀ x, s0 ≤ x → x < q + 1 → Lt B (d x) (d (pp - x))) ∧ (∀ x, j ≤ x → x < mid → Lt B (d (pp - x)) (d x)) from ⟨fun x h1 h2 => by
          by_cases hx : x = q
          · rw [hx, Epq.out]; exact Hnot.out
          · have y1 := H2.out.left x q (by omega) (by omega) (by omega)
            have y2 := H2.out.right pq (pp - x) (by omega) (by omega) (by omega)
            exact (y1.trans Hnot.out).trans y2, hprop.out.2⟩)
        clear dneg hprop
        go_wp2
        go_roundw
        case rel => exact ⟨q + 1, j, rfl, rfl, by omega, q2, hjb, Hp, hst2⟩
        case measure => simp [intOf]; omega
      · have Hyes := Lib.hid ((H2.out.less (i := q) (j := pq) ⟨by omega, by omega⟩ ⟨by omega, by omega⟩).1 (of_decide_eq_true dneg.symm))
        have Hp := Lib.hid (show (∀ x, s0 ≤ x → x < i → Lt B (d x) (d (pp - x))) ∧ (∀ x, q ≤ x → x < mid → Lt B (d (pp - x)) (d x)) from ⟨hprop.out.1, fun x h1 h2 => by
          by_cases hx : x = q
          · rw [hx, Epq.out]; exact Hyes.out
          · have y1 := H2.out.left q x (by omega) (by omega) (by omega)
            have y2 := H2.out.right (pp - x) pq (by omega) (by omega) (by omega)
            exact (y2.trans Hyes.out).trans y1⟩)
        clear dneg hprop
        go_wp2
        go_roundw
        case rel => exact ⟨i, q, rfl, rfl, hmi, q1, by omega, Hp, hst2⟩
        case measure => simp [intOf]; omega
    · have hge : ¬ (i : Int) < (j : Int) := by omega
      have hcutp : Cut B d a m b mid i := by
        refine ⟨⟨by omega, by omega⟩, ⟨by omega, by omega, by omega⟩, ⟨by omega, by omega⟩, fun x h1 h2 h3 => ?_, fun h1 h2 => ?_⟩
        · have := hprop.out.1 (i - 1) (by omega) (by omega)
          rwa [show pp - (i - 1) = mid + m - i by omega] at this
        · have := hprop.out.2 i (by omega) (by omega)
          rwa [show pp - i = mid + m - i - 1 by omega] at this
      obtain ⟨hT1, hT2, hX⟩ := hcutp.halves H2.out
      obtain ⟨en, hen⟩ : ∃ en, en = mid + m - i := ⟨_, rfl⟩
      have s7 : IntKind.i64.wrap ((mn : Int) - (i : Int)) = (en : Int) := by rw [show (mn : Int) - (i : Int) = (en : Int) by omega]; exact IntWalk.i64_in _ (by omega)
      rw [← hen] at hT1 hT2 hX
      have v1 : en + i ≤ mn := by omega
      have v2 : mn ≤ en + i := by omega
      have HT1 := Lib.hid hT1
      have HT2 := Lib.hid hT2
      have HX := Lib.hid hX
      have v3 : i ≤ m := by omega
      have v4 : i ≤ mid := by omega
      have v5 : a ≤ i := by omega
      have v6 : en ≤ b := by omega
      have v7 : m ≤ en := by omega
      clear hprop hcutp hT1 hT2 hX hen
      go_upto_region 39 with fail
      go_cut [185] from 178 to 185 (fun v wx => TestCut (i < m ∧ m < en) wr v wx)
      case first =>
        by_cases p1 : i < m
        · have p1z : (i : Int) < (m : Int) := by omega
          by_cases p2 : m < en
          · have p2z : (m : Int) < (en : Int) := by omega
            have Hx := Lib.hid (decide_eq_true (show i < m ∧ m < en from ⟨p1, p2⟩))
            go_wp2
            go_meet
            exact ⟨by rw [Hx.out], rfl⟩
          · have p2z : ¬ (m : Int) < (en : Int) := by omega
            have Hx := Lib.hid (decide_eq_false (show ¬ (i < m ∧ m < en) from fun h => p2 h.2))
            go_wp2
            go_meet
            exact ⟨by rw [Hx.out], rfl⟩
        · have p1z : ¬ (i : Int) < (m : Int) := by omega
          have Hx := Lib.hid (decide_eq_false (show ¬ (i < m ∧ m < en) from fun h => p1 h.1))
          go_wp2
          go_meet
          exact ⟨by rw [Hx.out], rfl⟩
      case rest =>
        obtain ⟨rfl, hw⟩ := hcut
        rw [hw]
        clear hw
        by_cases c1 : i < m ∧ m < en
        · rcases (show False ∨ True by first | (left; omega) | (right; trivial)) with hF | _
          · exact hF.elim
          have c1z : decide (i < m ∧ m < en) = true := decide_eq_true c1
          rw [c1z]
          clear c1z
          go_wp2_with fail
          refine (rotate_calls w0 g N d _ i m en c _ hst c1.1 c1.2 (by omega) hN).mono ?_
          rintro e w7 ⟨⟨u7, rfl⟩, hst1, hp1'⟩
          have hp1 : Per N a b d (rot d i m en) := hp1'.wide (by omega) (by omega)
          clear hst hp1'
          go_upto_region 41 with fail
          go_cut [199] from 192 to 199 (fun v wx => TestCut (a < i ∧ i < mid) w7 v wx)
          case first =>
            by_cases p1 : a < i
            · have p1z : (a : Int) < (i : Int) := by omega
              by_cases p2 : i < mid
              · have p2z : (i : Int) < (mid : Int) := by omega
                have Hx := Lib.hid (decide_eq_true (show a < i ∧ i < mid from ⟨p1, p2⟩))
                go_wp2
                go_meet
                exact ⟨by rw [Hx.out], rfl⟩
              · have p2z : ¬ (i : Int) < (mid : Int) := by omega
                have Hx := Lib.hid (decide_eq_false (show ¬ (a < i ∧ i < mid) from fun h => p2 h.2))
                go_wp2
                go_meet
                exact ⟨by rw [Hx.out], rfl⟩
            · have p1z : ¬ (a : Int) < (i : Int) := by omega
              have Hx := Lib.hid (decide_eq_false (show ¬ (a < i ∧ i < mid) from fun h => p1 h.1))
              go_wp2
              go_meet
              exact ⟨by rw [Hx.out], rfl⟩
          case rest =>
            obtain ⟨rfl, hw⟩ := hcut
            rw [hw]
            clear hw
            by_cases c2 : a < i ∧ i < mid
            · rcases (show False ∨ True by first | (left; omega) | (right; trivial)) with hF | _
              · exact hF.elim
              have c2z : decide (a < i ∧ i < mid) = true := decide_eq_true c2
              rw [c2z]
              clear c2z
              go_wp2_with fail
              refine (Hih.out (rot d i m en) _ a i mid c hst1 c2.1 c2.2 (by omega) (by omega) HT1.out (hp1.lt hn hb)).mono ?_
              rintro e w8 ⟨⟨u8, rfl⟩, d2, hst3, hp2, hsr2⟩
              clear hst1
              go_upto_region 43 with fail
              go_cut [213] from 206 to 213 (fun v wx => TestCut (mid < en ∧ en < b) w8 v wx)
              case first =>
                by_cases p1 : mid < en
                · have p1z : (mid : Int) < (en : Int) := by omega
                  by_cases p2 : en < b
                  · have p2z : (en : Int) < (b : Int) := by omega
                    have Hx := Lib.hid (decide_eq_true (show mid < en ∧ en < b from ⟨p1, p2⟩))
                    go_wp2
                    go_meet
                    exact ⟨by rw [Hx.out], rfl⟩
                  · have p2z : ¬ (en : Int) < (b : Int) := by omega
                    have Hx := Lib.hid (decide_eq_false (show ¬ (mid < en ∧ en < b) from fun h => p2 h.2))
                    go_wp2
                    go_meet
                    exact ⟨by rw [Hx.out], rfl⟩
                · have p1z : ¬ (mid : Int) < (en : Int) := by omega
                  have Hx := Lib.hid (decide_eq_false (show ¬ (mid < en ∧ en < b) from fun h => p1 h.1))
                  go_wp2
                  go_meet
                  exact ⟨by rw [Hx.out], rfl⟩
              case rest =>
                obtain ⟨rfl, hw⟩ := hcut
                rw [hw]
                clear hw
                by_cases c3 : mid < en ∧ en < b
                · rcases (show False ∨ True by first | (left; omega) | (right; trivial)) with hF | _
                  · exact hF.elim
                  have c3z : decide (mid < en ∧ en < b) = true := decide_eq_true c3
                  rw [c3z]
                  clear c3z
                  have hT2' : Two B (d2) mid en b := ⟨HT2.out.left.congr fun x _ _ => hp2.out x (.inr (by omega)), HT2.out.right.congr fun x _ _ => hp2.out x (.inr (by omega)), fun x y h1 h2 h3 h4 => by rw [hp2.out x (.inr (by omega)), hp2.out y (.inr (by omega))]; exact HT2.out.idx x y h1 h2 h3 h4⟩
                  go_wp2_with fail
                  refine (Hih.out (d2) _ mid en b c hst3 c3.1 c3.2 hb (by omega) hT2' ((hp1.trans (hp2.wide (Nat.le_refl _) (by omega))).lt hn (by omega))).mono ?_
                  rintro e w9 ⟨⟨u9, rfl⟩, d3, hst4, hp3, hsr3⟩
                  have Hend := Lib.hid (merge_end ⟨by omega, by omega⟩ HX.out hp2 hsr2 hp3 hsr3)
                  have Hpa := Lib.hid (hp1.trans Hend.out.2)
                  clear hp2 hsr2 hp3 hsr3 hT2'
                  go_wp2
                  refine bodyPost_end (results_none rfl _ _ _) rfl ⟨⟨_, rfl⟩, d3, hst4, Hpa.out, Hend.out.1⟩
                · rcases (show False ∨ True by first | (left; omega) | (right; trivial)) with hF | _
                  · exact hF.elim
                  have c3z : decide (mid < en ∧ en < b) = false := decide_eq_false c3
                  rw [c3z]
                  clear c3z
                  have hsr3 : Srt B (d2) mid b := by
                    have h9 : Srt B (rot d i m en) mid b := by
                      by_cases q9 : mid < en
                      · have e9 : en = b := by omega
                        have := HT2.out.left; rwa [e9] at this ⊢
                      · have e9 : en = mid := by omega
                        have := HT2.out.right; rwa [e9] at this ⊢
                    exact h9.congr fun x h1 _ => hp2.out x (.inr h1)
                  have Hend := Lib.hid (merge_end ⟨by omega, by omega⟩ HX.out hp2 hsr2 (Per.refl N mid b _) hsr3)
                  have Hpa := Lib.hid (hp1.trans Hend.out.2)
                  clear hp2 hsr2 hsr3
                  go_wp2
                  refine bodyPost_end (results_none rfl _ _ _) rfl ⟨⟨_, rfl⟩, _, hst3, Hpa.out, Hend.out.1⟩
            · rcases (show False ∨ True by first | (left; omega) | (right; trivial)) with hF | _
              · exact hF.elim
              have c2z : decide (a < i ∧ i < mid) = false := decide_eq_false c2
              rw [c2z]
              clear c2z
              have hp2 := Per.refl N a mid (rot d i m en)
              have hsr2 : Srt B (rot d i m en) a mid := by
                by_cases q9 : a < i
                · have e9 : i = mid := by omega
                  have := HT1.out.left; rwa [e9] at this ⊢
                · have e9 : i = a := by omega
                  have := HT1.out.right; rwa [e9] at this ⊢
              have hst3 := hst1
              go_upto_region 43 with fail
              go_cut [213] from 206 to 213 (fun v wx => TestCut (mid < en ∧ en < b) w7 v wx)
              case first =>
                by_cases p1 : mid < en
                · have p1z : (mid : Int) < (en : Int) := by omega
                  by_cases p2 : en < b
                  · have p2z : (en : Int) < (b : Int) := by omega
                    have Hx := Lib.hid (decide_eq_true (show mid < en ∧ en < b from ⟨p1, p2⟩))
                    go_wp2
                    go_meet
                    exact ⟨by rw [Hx.out], rfl⟩
                  · have p2z : ¬ (en : Int) < (b : Int) := by omega
                    have Hx := Lib.hid (decide_eq_false (show ¬ (mid < en ∧ en < b) from fun h => p2 h.2))
                    go_wp2
                    go_meet
                    exact ⟨by rw [Hx.out], rfl⟩
                · have p1z : ¬ (mid : Int) < (en : Int) := by omega
                  have Hx := Lib.hid (decide_eq_false (show ¬ (mid < en ∧ en < b) from fun h => p1 h.1))
                  go_wp2
                  go_meet
                  exact ⟨by rw [Hx.out], rfl⟩
              case rest =>
                obtain ⟨rfl, hw⟩ := hcut
                rw [hw]
                clear hw
                by_cases c3 : mid < en ∧ en < b
                · rcases (show False ∨ True by first | (left; omega) | (right; trivial)) with hF | _
                  · exact hF.elim
                  have c3z : decide (mid < en ∧ en < b) = true := decide_eq_true c3
                  rw [c3z]
                  clear c3z
                  have hT2' : Two B (rot d i m en) mid en b := ⟨HT2.out.left.congr fun x _ _ => hp2.out x (.inr (by omega)), HT2.out.right.congr fun x _ _ => hp2.out x (.inr (by omega)), fun x y h1 h2 h3 h4 => by rw [hp2.out x (.inr (by omega)), hp2.out y (.inr (by omega))]; exact HT2.out.idx x y h1 h2 h3 h4⟩
                  go_wp2_with fail
                  refine (Hih.out (rot d i m en) _ mid en b c hst3 c3.1 c3.2 hb (by omega) hT2' ((hp1.trans (hp2.wide (Nat.le_refl _) (by omega))).lt hn (by omega))).mono ?_
                  rintro e w9 ⟨⟨u9, rfl⟩, d3, hst4, hp3, hsr3⟩
                  have Hend := Lib.hid (merge_end ⟨by omega, by omega⟩ HX.out hp2 hsr2 hp3 hsr3)
                  have Hpa := Lib.hid (hp1.trans Hend.out.2)
                  clear hp2 hsr2 hp3 hsr3 hT2'
                  go_wp2
                  refine bodyPost_end (results_none rfl _ _ _) rfl ⟨⟨_, rfl⟩, d3, hst4, Hpa.out, Hend.out.1⟩
                · rcases (show False ∨ True by first | (left; omega) | (right; trivial)) with hF | _
                  · exact hF.elim
                  have c3z : decide (mid < en ∧ en < b) = false := decide_eq_false c3
                  rw [c3z]
                  clear c3z
                  have hsr3 : Srt B (rot d i m en) mid b := by
                    have h9 : Srt B (rot d i m en) mid b := by
                      by_cases q9 : mid < en
                      · have e9 : en = b := by omega
                        have := HT2.out.left; rwa [e9] at this ⊢
                      · have e9 : en = mid := by omega
                        have := HT2.out.right; rwa [e9] at this ⊢
                    exact h9.congr fun x h1 _ => hp2.out x (.inr h1)
                  have Hend := Lib.hid (merge_end ⟨by omega, by omega⟩ HX.out hp2 hsr2 (Per.refl N mid b _) hsr3)
                  have Hpa := Lib.hid (hp1.trans Hend.out.2)
                  clear hp2 hsr2 hsr3
                  go_wp2
                  refine bodyPost_end (results_none rfl _ _ _) rfl ⟨⟨_, rfl⟩, _, hst3, Hpa.out, Hend.out.1⟩
        · rcases (show False ∨ True by first | (left; omega) | (right; trivial)) with hF | _
          · exact hF.elim
          have c1z : decide (i < m ∧ m < en) = false := decide_eq_false c1
          rw [c1z]
          clear c1z
          have hid : rot d i m en = d := rot_id d (by omega)
          have hst1 : StR w0 g N (rot d i m en) wr := by rw [hid]; exact hst
          have hp1 : Per N a b d (rot d i m en) := by rw [hid]; exact Per.refl _ _ _ _
          clear hst hid
          go_upto_region 41 with fail
          go_cut [199] from 192 to 199 (fun v wx => TestCut (a < i ∧ i < mid) wr v wx)
          case first =>
            by_cases p1 : a < i
            · have p1z : (a : Int) < (i : Int) := by omega
              by_cases p2 : i < mid
              · have p2z : (i : Int) < (mid : Int) := by omega
                have Hx := Lib.hid (decide_eq_true (show a < i ∧ i < mid from ⟨p1, p2⟩))
                go_wp2
                go_meet
                exact ⟨by rw [Hx.out], rfl⟩
              · have p2z : ¬ (i : Int) < (mid : Int) := by omega
                have Hx := Lib.hid (decide_eq_false (show ¬ (a < i ∧ i < mid) from fun h => p2 h.2))
                go_wp2
                go_meet
                exact ⟨by rw [Hx.out], rfl⟩
            · have p1z : ¬ (a : Int) < (i : Int) := by omega
              have Hx := Lib.hid (decide_eq_false (show ¬ (a < i ∧ i < mid) from fun h => p1 h.1))
              go_wp2
              go_meet
              exact ⟨by rw [Hx.out], rfl⟩
          case rest =>
            obtain ⟨rfl, hw⟩ := hcut
            rw [hw]
            clear hw
            by_cases c2 : a < i ∧ i < mid
            · rcases (show False ∨ True by first | (left; omega) | (right; trivial)) with hF | _
              · exact hF.elim
              have c2z : decide (a < i ∧ i < mid) = true := decide_eq_true c2
              rw [c2z]
              clear c2z
              go_wp2_with fail
              refine (Hih.out (rot d i m en) _ a i mid c hst1 c2.1 c2.2 (by omega) (by omega) HT1.out (hp1.lt hn hb)).mono ?_
              rintro e w8 ⟨⟨u8, rfl⟩, d2, hst3, hp2, hsr2⟩
              clear hst1
              go_upto_region 43 with fail
              go_cut [213] from 206 to 213 (fun v wx => TestCut (mid < en ∧ en < b) w8 v wx)
              case first =>
                by_cases p1 : mid < en
                · have p1z : (mid : Int) < (en : Int) := by omega
                  by_cases p2 : en < b
                  · have p2z : (en : Int) < (b : Int) := by omega
                    have Hx := Lib.hid (decide_eq_true (show mid < en ∧ en < b from ⟨p1, p2⟩))
                    go_wp2
                    go_meet
                    exact ⟨by rw [Hx.out], rfl⟩
                  · have p2z : ¬ (en : Int) < (b : Int) := by omega
                    have Hx := Lib.hid (decide_eq_false (show ¬ (mid < en ∧ en < b) from fun h => p2 h.2))
                    go_wp2
                    go_meet
                    exact ⟨by rw [Hx.out], rfl⟩
                · have p1z : ¬ (mid : Int) < (en : Int) := by omega
                  have Hx := Lib.hid (decide_eq_false (show ¬ (mid < en ∧ en < b) from fun h => p1 h.1))
                  go_wp2
                  go_meet
                  exact ⟨by rw [Hx.out], rfl⟩
              case rest =>
                obtain ⟨rfl, hw⟩ := hcut
                rw [hw]
                clear hw
                by_cases c3 : mid < en ∧ en < b
                · rcases (show False ∨ True by first | (left; omega) | (right; trivial)) with hF | _
                  · exact hF.elim
                  have c3z : decide (mid < en ∧ en < b) = true := decide_eq_true c3
                  rw [c3z]
                  clear c3z
                  have hT2' : Two B (d2) mid en b := ⟨HT2.out.left.congr fun x _ _ => hp2.out x (.inr (by omega)), HT2.out.right.congr fun x _ _ => hp2.out x (.inr (by omega)), fun x y h1 h2 h3 h4 => by rw [hp2.out x (.inr (by omega)), hp2.out y (.inr (by omega))]; exact HT2.out.idx x y h1 h2 h3 h4⟩
                  go_wp2_with fail
                  refine (Hih.out (d2) _ mid en b c hst3 c3.1 c3.2 hb (by omega) hT2' ((hp1.trans (hp2.wide (Nat.le_refl _) (by omega))).lt hn (by omega))).mono ?_
                  rintro e w9 ⟨⟨u9, rfl⟩, d3, hst4, hp3, hsr3⟩
                  have Hend := Lib.hid (merge_end ⟨by omega, by omega⟩ HX.out hp2 hsr2 hp3 hsr3)
                  have Hpa := Lib.hid (hp1.trans Hend.out.2)
                  clear hp2 hsr2 hp3 hsr3 hT2'
                  go_wp2
                  refine bodyPost_end (results_none rfl _ _ _) rfl ⟨⟨_, rfl⟩, d3, hst4, Hpa.out, Hend.out.1⟩
                · rcases (show False ∨ True by first | (left; omega) | (right; trivial)) with hF | _
                  · exact hF.elim
                  have c3z : decide (mid < en ∧ en < b) = false := decide_eq_false c3
                  rw [c3z]
                  clear c3z
                  have hsr3 : Srt B (d2) mid b := by
                    have h9 : Srt B (rot d i m en) mid b := by
                      by_cases q9 : mid < en
                      · have e9 : en = b := by omega
                        have := HT2.out.left; rwa [e9] at this ⊢
                      · have e9 : en = mid := by omega
                        have := HT2.out.right; rwa [e9] at this ⊢
                    exact h9.congr fun x h1 _ => hp2.out x (.inr h1)
                  have Hend := Lib.hid (merge_end ⟨by omega, by omega⟩ HX.out hp2 hsr2 (Per.refl N mid b _) hsr3)
                  have Hpa := Lib.hid (hp1.trans Hend.out.2)
                  clear hp2 hsr2 hsr3
                  go_wp2
                  refine bodyPost_end (results_none rfl _ _ _) rfl ⟨⟨_, rfl⟩, _, hst3, Hpa.out, Hend.out.1⟩
            · rcases (show False ∨ True by first | (left; omega) | (right; trivial)) with hF | _
              · exact hF.elim
              have c2z : decide (a < i ∧ i < mid) = false := decide_eq_false c2
              rw [c2z]
              clear c2z
              have hp2 := Per.refl N a mid (rot d i m en)
              have hsr2 : Srt B (rot d i m en) a mid := by
                by_cases q9 : a < i
                · have e9 : i = mid := by omega
                  have := HT1.out.left; rwa [e9] at this ⊢
                · have e9 : i = a := by omega
                  have := HT1.out.right; rwa [e9] at this ⊢
              have hst3 := hst1
              go_upto_region 43 with fail
              go_cut [213] from 206 to 213 (fun v wx => TestCut (mid < en ∧ en < b) wr v wx)
              case first =>
                by_cases p1 : mid < en
                · have p1z : (mid : Int) < (en : Int) := by omega
                  by_cases p2 : en < b
                  · have p2z : (en : Int) < (b : Int) := by omega
                    have Hx := Lib.hid (decide_eq_true (show mid < en ∧ en < b from ⟨p1, p2⟩))
                    go_wp2
                    go_meet
                    exact ⟨by rw [Hx.out], rfl⟩
                  · have p2z : ¬ (en : Int) < (b : Int) := by omega
                    have Hx := Lib.hid (decide_eq_false (show ¬ (mid < en ∧ en < b) from fun h => p2 h.2))
                    go_wp2
                    go_meet
                    exact ⟨by rw [Hx.out], rfl⟩
                · have p1z : ¬ (mid : Int) < (en : Int) := by omega
                  have Hx := Lib.hid (decide_eq_false (show ¬ (mid < en ∧ en < b) from fun h => p1 h.1))
                  go_wp2
                  go_meet
                  exact ⟨by rw [Hx.out], rfl⟩
              case rest =>
                obtain ⟨rfl, hw⟩ := hcut
                rw [hw]
                clear hw
                by_cases c3 : mid < en ∧ en < b
                · rcases (show False ∨ True by first | (left; omega) | (right; trivial)) with hF | _
                  · exact hF.elim
                  have c3z : decide (mid < en ∧ en < b) = true := decide_eq_true c3
                  rw [c3z]
                  clear c3z
                  have hT2' : Two B (rot d i m en) mid en b := ⟨HT2.out.left.congr fun x _ _ => hp2.out x (.inr (by omega)), HT2.out.right.congr fun x _ _ => hp2.out x (.inr (by omega)), fun x y h1 h2 h3 h4 => by rw [hp2.out x (.inr (by omega)), hp2.out y (.inr (by omega))]; exact HT2.out.idx x y h1 h2 h3 h4⟩
                  go_wp2_with fail
                  refine (Hih.out (rot d i m en) _ mid en b c hst3 c3.1 c3.2 hb (by omega) hT2' ((hp1.trans (hp2.wide (Nat.le_refl _) (by omega))).lt hn (by omega))).mono ?_
                  rintro e w9 ⟨⟨u9, rfl⟩, d3, hst4, hp3, hsr3⟩
                  have Hend := Lib.hid (merge_end ⟨by omega, by omega⟩ HX.out hp2 hsr2 hp3 hsr3)
                  have Hpa := Lib.hid (hp1.trans Hend.out.2)
                  clear hp2 hsr2 hp3 hsr3 hT2'
                  go_wp2
                  refine bodyPost_end (results_none rfl _ _ _) rfl ⟨⟨_, rfl⟩, d3, hst4, Hpa.out, Hend.out.1⟩
                · rcases (show False ∨ True by first | (left; omega) | (right; trivial)) with hF | _
                  · exact hF.elim
                  have c3z : decide (mid < en ∧ en < b) = false := decide_eq_false c3
                  rw [c3z]
                  clear c3z
                  have hsr3 : Srt B (rot d i m en) mid b := by
                    have h9 : Srt B (rot d i m en) mid b := by
                      by_cases q9 : mid < en
                      · have e9 : en = b := by omega
                        have := HT2.out.left; rwa [e9] at this ⊢
                      · have e9 : en = mid := by omega
                        have := HT2.out.right; rwa [e9] at this ⊢
                    exact h9.congr fun x h1 _ => hp2.out x (.inr h1)
                  have Hend := Lib.hid (merge_end ⟨by omega, by omega⟩ HX.out hp2 hsr2 (Per.refl N mid b _) hsr3)
                  have Hpa := Lib.hid (hp1.trans Hend.out.2)
                  clear hp2 hsr2 hsr3
                  go_wp2
                  refine bodyPost_end (results_none rfl _ _ _) rfl ⟨⟨_, rfl⟩, _, hst3, Hpa.out, Hend.out.1⟩

set_option maxHeartbeats 16000000 in
set_option maxRecDepth 100000 in
theorem symMerge_genB (w0 : World) (g N n : Nat) (B : Nat → Int) (p : Option Addr) (hcmp : CmpOk w0 g n B p) (len : Nat) (ih : MergeOk w0 g N n B p len) (d : Row) (w : World) (a m b c : Nat) (h : StR w0 g N d w) (ham : a + 1 < m) (hmb : m + 1 < b) (hb : b ≤ N) (hN : N ≤ 1000000) (hlen : b - a ≤ len + 1) (h2 : Two B d a m b) (hn : ∀ x, x < N → d x < n) (hmm : ¬ (a + b) / 2 < m) :
    Calls Try.prog 44 #[.slice (some ⟨g, 0, none⟩) N c, .int .i64 (a : Int), .int .i64 (m : Int), .int .i64 (b : Int), cmpV p] w fun e w' => (∃ v, e = .returned v) ∧ ∃ d', StR w0 g N d' w' ∧ Per N a b d d' ∧ Srt B d' a b := by
  have mixed : Try.prog.follows .mixedOrders = true := by kernel_rfl
  have H2 := Lib.hid h2
  have Hih := Lib.hid ih
  have Hc := Lib.hid hcmp
  clear h2 ih hcmp
  obtain ⟨mid, hmid⟩ : ∃ mid, mid = (a + b) / 2 := ⟨_, rfl⟩
  rw [← hmid] at hmm
  have m1 : a + 1 < mid := by omega
  have m2 : mid + 1 < b := by omega
  have m3 : 2 * mid ≤ a + b := by omega
  have m4 : a + b ≤ 2 * mid + 1 := by omega
  have s1 : IntKind.i64.wrap ((m : Int) - (a : Int)) = (m : Int) - (a : Int) := IntWalk.i64_in _ (by omega)
  have t1 : ((m : Int) - (a : Int) == 1) = false := by rw [beq_eq_false_iff_ne]; omega
  have s2 : IntKind.i64.wrap ((b : Int) - (m : Int)) = (b : Int) - (m : Int) := IntWalk.i64_in _ (by omega)
  have t2 : ((b : Int) - (m : Int) == 1) = false := by rw [beq_eq_false_iff_ne]; omega
  have s3 : IntKind.i64.wrap ((a : Int) + (b : Int)) = (a : Int) + (b : Int) := IntWalk.i64_in _ (by omega)
  have k3 : (0 : Int) ≤ (a : Int) + (b : Int) := by omega
  have e3 : ((a : Int) + (b : Int)) / 2 = (mid : Int) := by omega
  obtain ⟨mn, hmn⟩ : ∃ mn, mn = mid + m := ⟨_, rfl⟩
  have s4 : IntKind.i64.wrap ((mid : Int) + (m : Int)) = (mn : Int) := by rw [show (mid : Int) + (m : Int) = (mn : Int) by omega]; exact IntWalk.i64_in _ (by omega)
  obtain ⟨pp, hpp⟩ : ∃ pp, pp + 1 = mn := ⟨mn - 1, by omega⟩
  have s5 : IntKind.i64.wrap ((mn : Int) - 1) = (pp : Int) := by rw [show (mn : Int) - 1 = (pp : Int) by omega]; exact IntWalk.i64_in _ (by omega)
  have tm : ¬ (mid : Int) < (m : Int) := by omega
  have g1 : mn ≤ mid + m := by omega
  have g2 : mid + m ≤ mn := by omega
  have g3 : pp + 1 ≤ mn := by omega
  have g4 : mn ≤ pp + 1 := by omega
  clear hmid hmn hpp
  unfold cmpV
  go_enter Try.func44, Try.ntmps44
  go_wp2
  go_loopw [20, 21] (fun vs vr wr => ∃ (s r : Nat), vs = .int .i64 s ∧ vr = .int .i64 r ∧ a ≤ s ∧ s ≤ r ∧ r ≤ m ∧ Hid ((∀ x, a ≤ x → x < s → Lt B (d x) (d (pp - x))) ∧ (∀ x, r ≤ x → x < m → Lt B (d (pp - x)) (d x))) ∧ StR w0 g N d wr) (fun vs vr _ => (intOf vr).toNat - (intOf vs).toNat)
  case atStart => exact ⟨a, m, rfl, rfl, Nat.le_refl _, by omega, Nat.le_refl _, Lib.hid ⟨fun x h1 h2 => by omega, fun x h1 h2 => by omega⟩, h⟩
  case round =>
    clear h s1 s2 s3 s4 s5 e3 k3 t1 t2 tm
    obtain ⟨i, j, rfl, rfl, hmi, hij, hjb, hprop, hst⟩ := hrel
    by_cases hlt : i < j
    · have hltz : (i : Int) < (j : Int) := by omega
      have s2 : IntKind.i64.wrap ((i : Int) + (j : Int)) = (i : Int) + (j : Int) := IntWalk.i64_in _ (by omega)
      have k0 : (0 : Int) ≤ (i : Int) + (j : Int) := by omega
      obtain ⟨q, hq⟩ : ∃ q, q = (i + j) / 2 := ⟨_, rfl⟩
      have s3 : ((i : Int) + (j : Int)) / 2 = (q : Int) := by omega
      have s4 : IntKind.i64.wrap ((q : Int) + 1) = ((q + 1 : Nat) : Int) := by rw [show (q : Int) + 1 = ((q + 1 : Nat) : Int) by omega]; exact IntWalk.i64_in _ (by omega)
      have q1 : i ≤ q := by omega
      have q2 : q < j := by omega
      obtain ⟨pq, hpq⟩ : ∃ pq, pq + q = pp := ⟨pp - q, by omega⟩
      have s5 : IntKind.i64.wrap ((pp : Int) - (q : Int)) = (pq : Int) := by rw [show (pp : Int) - (q : Int) = (pq : Int) by omega]; exact IntWalk.i64_in _ (by omega)
      have epq : pp - q = pq := by omega
      have r1 : (0 : Int) ≤ (q : Int) := by omega
      have r2 : (q : Int) < (N : Int) := by omega
      have r3 : (0 : Int) ≤ (pq : Int) := by omega
      have r4 : (pq : Int) < (N : Int) := by omega
      have u1 : pq + q ≤ pp := by omega
      have u2 : pp ≤ pq + q := by omega
      have Epq := Lib.hid epq
      clear hq hpq epq
      have hd : Keep wr wr.drew := (Keep.refl _).drew
      have Hcall := Lib.hid (fun (wx : World) (hk : Keep wr wx) => Hc.out wx (d pq) (d q) (hst.1.keepTrans hk) (hn _ (by omega)) (hn _ (by omega)))
      have dneg := cmp3_neg (B (d pq)) (B (d q))
      obtain ⟨cv, hcv⟩ : ∃ cv, cmp3 (B (d pq)) (B (d q)) = cv := ⟨_, rfl⟩
      rw [hcv] at dneg Hcall
      have Hdneg := Lib.hid dneg
      have c1 := fun y : KW wr => y.cell (hst.cell (i := pq) (by omega))
      have c2 := fun y : KW wr => y.cell (hst.cell (i := q) (by omega))
      clear hcv dneg
      go_wp2_with fail
      refine region_begin (S := fun w' => ∃ y : KW wr, w' = y.val) (by kernel_rfl) ?_
      refine region_take [0, 1, 2, 3, 4, 5, 6, 7, 8, 9, 10] [] 3 (by kernel_rfl) (by kernel_rfl) (InK.mk' hd) ?_
      show wpQuiet _ _ _ _ [_, _, _, _, _, _, _, _, _, _, _] _
      repeat (go_big_quiet_step (fail))
      refine wpQuiet_nil ?_
      refine region_fix (i := 11) (fuel := 2) rfl (by kernel_rfl) (fun K hK => ?_)
      go_simp
      refine (Hcall.out _ hd).mono ?_
      rintro e1 w2 ⟨rfl, hk2'⟩
      have hk2 := hd.trans hk2'
      refine hK _ _ (InK.mk' hk2) ?_
      clear hK K hk2' Hcall c1 c2
      have hst2 := hst.keep hk2
      cases hv : decide (cv < 0)
      all_goals
        refine region_take [12, 13] _ 0 (by kernel_rfl) (by kernel_rfl) (InK.mk' hk2) ?_
        show wpQuiet _ _ _ _ [_, _] _
        repeat (go_big_quiet_step (fail))
        refine wpQuiet_nil ?_
        refine region_done (by kernel_rfl) ?_
        have dneg := Hdneg.out
        rw [hv] at dneg
        clear hst hk2
      · have Hnot := Lib.hid ((H2.out.not_less (i := q) (j := pq) ⟨by omega, by omega⟩ ⟨by omega, by omega⟩).1 (of_decide_eq_false dneg.symm))
        have Hp := Lib.hid (show (∀ x, a ≤ x → x < q + 1 → Lt B (d x) (d (pp - x))) ∧ (∀ x, j ≤ x → x < m → Lt B (d (pp - x)) (d x)) from ⟨fun x h1 h2 => by
          by_cases hx : x = q
          · rw [hx, Epq.out]; exact Hnot.out
          · have y1 := H2.out.left x q (by omega) (by omega) (by omega)
            have y2 := H2.out.right pq (pp - x) (by omega) (by omega) (by omega)
            exact (y1.trans Hnot.out).trans y2, hprop.out.2⟩)
        clear dneg hprop
        go_wp2
        go_roundw
        case rel => exact ⟨q + 1, j, rfl, rfl, by omega, q2, hjb, Hp, hst2⟩
        case measure => simp [intOf]; omega
      · have Hyes := Lib.hid ((H2.out.less (i := q) (j := pq) ⟨by omega, by omega⟩ ⟨by omega, by omega⟩).1 (of_decide_eq_true dneg.symm))
        have Hp := Lib.hid (show (∀ x, a ≤ x → x < i → Lt B (d x) (d (pp - x))) ∧ (∀ x, q ≤ x → x < m → Lt B (d (pp - x)) (d x)) from ⟨hprop.out.1, fun x h1 h2 => by
          by_cases hx : x = q
          · rw [hx, Epq.out]; exact Hyes.out
          · have y1 := H2.out.left q x (by omega) (by omega) (by omega)
            have y2 := H2.out.right (pp - x) pq (by omega) (by omega) (by omega)
            exact (y2.trans Hyes.out).trans y1⟩)
        clear dneg hprop
        go_wp2
        go_roundw
        case rel => exact ⟨i, q, rfl, rfl, hmi, q1, by omega, Hp, hst2⟩
        case measure => simp [intOf]; omega
    · have hge : ¬ (i : Int) < (j : Int) := by omega
      have hcutp : Cut B d a m b mid i := by
        refine ⟨⟨by omega, by omega⟩, ⟨by omega, by omega, by omega⟩, ⟨by omega, by omega⟩, fun x h1 h2 h3 => ?_, fun h1 h2 => ?_⟩
        · have := hprop.out.1 (i - 1) (by omega) (by omega)
          rwa [show pp - (i - 1) = mid + m - i by omega] at this
        · have := hprop.out.2 i (by omega) (by omega)
          rwa [show pp - i = mid + m - i - 1 by omega] at this
      obtain ⟨hT1, hT2, hX⟩ := hcutp.halves H2.out
      obtain ⟨en, hen⟩ : ∃ en, en = mid + m - i := ⟨_, rfl⟩
      have s7 : IntKind.i64.wrap ((mn : Int) - (i : Int)) = (en : Int) := by rw [show (mn : Int) - (i : Int) = (en : Int) by omega]; exact IntWalk.i64_in _ (by omega)
      rw [← hen] at hT1 hT2 hX
      have v1 : en + i ≤ mn := by omega
      have v2 : mn ≤ en + i := by omega
      have HT1 := Lib.hid hT1
      have HT2 := Lib.hid hT2
      have HX := Lib.hid hX
      have v3 : i ≤ m := by omega
      have v4 : i ≤ mid := by omega
      have v5 : a ≤ i := by omega
      have v6 : en ≤ b := by omega
      have v7 : m ≤ en := by omega
      clear hprop hcutp hT1 hT2 hX hen
      go_upto_region 39 with fail
      go_cut [185] from 178 to 185 (fun v wx => TestCut (i < m ∧ m < en) wr v wx)
      case first =>
        by_cases p1 : i < m
        · have p1z : (i : Int) < (m : Int) := by omega
          by_cases p2 : m < en
          · have p2z : (m : Int) < (en : Int) := by omega
            have Hx := Lib.hid (decide_eq_true (show i < m ∧ m < en from ⟨p1, p2⟩))
            go_wp2
            go_meet
            exact ⟨by rw [Hx.out], rfl⟩
          · have p2z : ¬ (m : Int) < (en : Int) := by omega
            have Hx := Lib.hid (decide_eq_false (show ¬ (i < m ∧ m < en) from fun h => p2 h.2))
            go_wp2
            go_meet
            exact ⟨by rw [Hx.out], rfl⟩
        · have p1z : ¬ (i : Int) < (m : Int) := by omega
          have Hx := Lib.hid (decide_eq_false (show ¬ (i < m ∧ m < en) from fun h => p1 h.1))
          go_wp2
          go_meet
          exact ⟨by rw [Hx.out], rfl⟩
      case rest =>
        obtain ⟨rfl, hw⟩ := hcut
        rw [hw]
        clear hw
        by_cases c1 : i < m ∧ m < en
        · rcases (show False ∨ True by first | (left; omega) | (right; trivial)) with hF | _
          · exact hF.elim
          have c1z : decide (i < m ∧ m < en) = true := decide_eq_true c1
          rw [c1z]
          clear c1z
          go_wp2_with fail
          refine (rotate_calls w0 g N d _ i m en c _ hst c1.1 c1.2 (by omega) hN).mono ?_
          rintro e w7 ⟨⟨u7, rfl⟩, hst1, hp1'⟩
          have hp1 : Per N a b d (rot d i m en) := hp1'.wide (by omega) (by omega)
          clear hst hp1'
          go_upto_region 41 with fail
          go_cut [199] from 192 to 199 (fun v wx => TestCut (a < i ∧ i < mid) w7 v wx)
          case first =>
            by_cases p1 : a < i
            · have p1z : (a : Int) < (i : Int) := by omega
              by_cases p2 : i < mid
              · have p2z : (i : Int) < (mid : Int) := by omega
                have Hx := Lib.hid (decide_eq_true (show a < i ∧ i < mid from ⟨p1, p2⟩))
                go_wp2
                go_meet
                exact ⟨by rw [Hx.out], rfl⟩
              · have p2z : ¬ (i : Int) < (mid : Int) := by omega
                have Hx := Lib.hid (decide_eq_false (show ¬ (a < i ∧ i < mid) from fun h => p2 h.2))
                go_wp2
                go_meet
                exact ⟨by rw [Hx.out], rfl⟩
            · have p1z : ¬ (a : Int) < (i : Int) := by omega
              have Hx := Lib.hid (decide_eq_false (show ¬ (a < i ∧ i < mid) from fun h => p1 h.1))
              go_wp2
              go_meet
              exact ⟨by rw [Hx.out], rfl⟩
          case rest =>
            obtain ⟨rfl, hw⟩ := hcut
            rw [hw]
            clear hw
            by_cases c2 : a < i ∧ i < mid
            · rcases (show False ∨ True by first | (left; omega) | (right; trivial)) with hF | _
              · exact hF.elim
              have c2z : decide (a < i ∧ i < mid) = true := decide_eq_true c2
              rw [c2z]
              clear c2z
              go_wp2_with fail
              refine (Hih.out (rot d i m en) _ a i mid c hst1 c2.1 c2.2 (by omega) (by omega) HT1.out (hp1.lt hn hb)).mono ?_
              rintro e w8 ⟨⟨u8, rfl⟩, d2, hst3, hp2, hsr2⟩
              clear hst1
              go_upto_region 43 with fail
              go_cut [213] from 206 to 213 (fun v wx => TestCut (mid < en ∧ en < b) w8 v wx)
              case first =>
                by_cases p1 : mid < en
                · have p1z : (mid : Int) < (en : Int) := by omega
                  by_cases p2 : en < b
                  · have p2z : (en : Int) < (b : Int) := by omega
                    have Hx := Lib.hid (decide_eq_true (show mid < en ∧ en < b from ⟨p1, p2⟩))
                    go_wp2
                    go_meet
                    exact ⟨by rw [Hx.out], rfl⟩
                  · have p2z : ¬ (en : Int) < (b : Int) := by omega
                    have Hx := Lib.hid (decide_eq_false (show ¬ (mid < en ∧ en < b) from fun h => p2 h.2))
                    go_wp2
                    go_meet
                    exact ⟨by rw [Hx.out], rfl⟩
                · have p1z : ¬ (mid : Int) < (en : Int) := by omega
                  have Hx := Lib.hid (decide_eq_false (show ¬ (mid < en ∧ en < b) from fun h => p1 h.1))
                  go_wp2
                  go_meet
                  exact ⟨by rw [Hx.out], rfl⟩
              case rest =>
                obtain ⟨rfl, hw⟩ := hcut
                rw [hw]
                clear hw
                by_cases c3 : mid < en ∧ en < b
                · rcases (show False ∨ True by first | (left; omega) | (right; trivial)) with hF | _
                  · exact hF.elim
                  have c3z : decide (mid < en ∧ en < b) = true := decide_eq_true c3
                  rw [c3z]
                  clear c3z
                  have hT2' : Two B (d2) mid en b := ⟨HT2.out.left.congr fun x _ _ => hp2.out x (.inr (by omega)), HT2.out.right.congr fun x _ _ => hp2.out x (.inr (by omega)), fun x y h1 h2 h3 h4 => by rw [hp2.out x (.inr (by omega)), hp2.out y (.inr (by omega))]; exact HT2.out.idx x y h1 h2 h3 h4⟩
                  go_wp2_with fail
                  refine (Hih.out (d2) _ mid en b c hst3 c3.1 c3.2 hb (by omega) hT2' ((hp1.trans (hp2.wide (Nat.le_refl _) (by omega))).lt hn (by omega))).mono ?_
                  rintro e w9 ⟨⟨u9, rfl⟩, d3, hst4, hp3, hsr3⟩
                  have Hend := Lib.hid (merge_end ⟨by omega, by omega⟩ HX.out hp2 hsr2 hp3 hsr3)
                  have Hpa := Lib.hid (hp1.trans Hend.out.2)
                  clear hp2 hsr2 hp3 hsr3 hT2'
                  go_wp2
                  refine bodyPost_end (results_none rfl _ _ _) rfl ⟨⟨_, rfl⟩, d3, hst4, Hpa.out, Hend.out.1⟩
                · rcases (show False ∨ True by first | (left; omega) | (right; trivial)) with hF | _
                  · exact hF.elim
                  have c3z : decide (mid < en ∧ en < b) = false := decide_eq_false c3
                  rw [c3z]
                  clear c3z
                  have hsr3 : Srt B (d2) mid b := by
                    have h9 : Srt B (rot d i m en) mid b := by
                      by_cases q9 : mid < en
                      · have e9 : en = b := by omega
                        have := HT2.out.left; rwa [e9] at this ⊢
                      · have e9 : en = mid := by omega
                        have := HT2.out.right; rwa [e9] at this ⊢
                    exact h9.congr fun x h1 _ => hp2.out x (.inr h1)
                  have Hend := Lib.hid (merge_end ⟨by omega, by omega⟩ HX.out hp2 hsr2 (Per.refl N mid b _) hsr3)
                  have Hpa := Lib.hid (hp1.trans Hend.out.2)
                  clear hp2 hsr2 hsr3
                  go_wp2
                  refine bodyPost_end (results_none rfl _ _ _) rfl ⟨⟨_, rfl⟩, _, hst3, Hpa.out, Hend.out.1⟩
            · rcases (show False ∨ True by first | (left; omega) | (right; trivial)) with hF | _
              · exact hF.elim
              have c2z : decide (a < i ∧ i < mid) = false := decide_eq_false c2
              rw [c2z]
              clear c2z
              have hp2 := Per.refl N a mid (rot d i m en)
              have hsr2 : Srt B (rot d i m en) a mid := by
                by_cases q9 : a < i
                · have e9 : i = mid := by omega
                  have := HT1.out.left; rwa [e9] at this ⊢
                · have e9 : i = a := by omega
                  have := HT1.out.right; rwa [e9] at this ⊢
              have hst3 := hst1
              go_upto_region 43 with fail
              go_cut [213] from 206 to 213 (fun v wx => TestCut (mid < en ∧ en < b) w7 v wx)
              case first =>
                by_cases p1 : mid < en
                · have p1z : (mid : Int) < (en : Int) := by omega
                  by_cases p2 : en < b
                  · have p2z : (en : Int) < (b : Int) := by omega
                    have Hx := Lib.hid (decide_eq_true (show mid < en ∧ en < b from ⟨p1, p2⟩))
                    go_wp2
                    go_meet
                    exact ⟨by rw [Hx.out], rfl⟩
                  · have p2z : ¬ (en : Int) < (b : Int) := by omega
                    have Hx := Lib.hid (decide_eq_false (show ¬ (mid < en ∧ en < b) from fun h => p2 h.2))
                    go_wp2
                    go_meet
                    exact ⟨by rw [Hx.out], rfl⟩
                · have p1z : ¬ (mid : Int) < (en : Int) := by omega
                  have Hx := Lib.hid (decide_eq_false (show ¬ (mid < en ∧ en < b) from fun h => p1 h.1))
                  go_wp2
                  go_meet
                  exact ⟨by rw [Hx.out], rfl⟩
              case rest =>
                obtain ⟨rfl, hw⟩ := hcut
                rw [hw]
                clear hw
                by_cases c3 : mid < en ∧ en < b
                · rcases (show False ∨ True by first | (left; omega) | (right; trivial)) with hF | _
                  · exact hF.elim
                  have c3z : decide (mid < en ∧ en < b) = true := decide_eq_true c3
                  rw [c3z]
                  clear c3z
                  have hT2' : Two B (rot d i m en) mid en b := ⟨HT2.out.left.congr fun x _ _ => hp2.out x (.inr (by omega)), HT2.out.right.congr fun x _ _ => hp2.out x (.inr (by omega)), fun x y h1 h2 h3 h4 => by rw [hp2.out x (.inr (by omega)), hp2.out y (.inr (by omega))]; exact HT2.out.idx x y h1 h2 h3 h4⟩
                  go_wp2_with fail
                  refine (Hih.out (rot d i m en) _ mid en b c hst3 c3.1 c3.2 hb (by omega) hT2' ((hp1.trans (hp2.wide (Nat.le_refl _) (by omega))).lt hn (by omega))).mono ?_
                  rintro e w9 ⟨⟨u9, rfl⟩, d3, hst4, hp3, hsr3⟩
                  have Hend := Lib.hid (merge_end ⟨by omega, by omega⟩ HX.out hp2 hsr2 hp3 hsr3)
                  have Hpa := Lib.hid (hp1.trans Hend.out.2)
                  clear hp2 hsr2 hp3 hsr3 hT2'
                  go_wp2
                  refine bodyPost_end (results_none rfl _ _ _) rfl ⟨⟨_, rfl⟩, d3, hst4, Hpa.out, Hend.out.1⟩
                · rcases (show False ∨ True by first | (left; omega) | (right; trivial)) with hF | _
                  · exact hF.elim
                  have c3z : decide (mid < en ∧ en < b) = false := decide_eq_false c3
                  rw [c3z]
                  clear c3z
                  have hsr3 : Srt B (rot d i m en) mid b := by
                    have h9 : Srt B (rot d i m en) mid b := by
                      by_cases q9 : mid < en
                      · have e9 : en = b := by omega
                        have := HT2.out.left; rwa [e9] at this ⊢
                      · have e9 : en = mid := by omega
                        have := HT2.out.right; rwa [e9] at this ⊢
                    exact h9.congr fun x h1 _ => hp2.out x (.inr h1)
                  have Hend := Lib.hid (merge_end ⟨by omega, by omega⟩ HX.out hp2 hsr2 (Per.refl N mid b _) hsr3)
                  have Hpa := Lib.hid (hp1.trans Hend.out.2)
                  clear hp2 hsr2 hsr3
                  go_wp2
                  refine bodyPost_end (results_none rfl _ _ _) rfl ⟨⟨_, rfl⟩, _, hst3, Hpa.out, Hend.out.1⟩
        · rcases (show False ∨ True by first | (left; omega) | (right; trivial)) with hF | _
          · exact hF.elim
          have c1z : decide (i < m ∧ m < en) = false := decide_eq_false c1
          rw [c1z]
          clear c1z
          have hid : rot d i m en = d := rot_id d (by omega)
          have hst1 : StR w0 g N (rot d i m en) wr := by rw [hid]; exact hst
          have hp1 : Per N a b d (rot d i m en) := by rw [hid]; exact Per.refl _ _ _ _
          clear hst hid
          go_upto_region 41 with fail
          go_cut [199] from 192 to 199 (fun v wx => TestCut (a < i ∧ i < mid) wr v wx)
          case first =>
            by_cases p1 : a < i
            · have p1z : (a : Int) < (i : Int) := by omega
              by_cases p2 : i < mid
              · have p2z : (i : Int) < (mid : Int) := by omega
                have Hx := Lib.hid (decide_eq_true (show a < i ∧ i < mid from ⟨p1, p2⟩))
                go_wp2
                go_meet
                exact ⟨by rw [Hx.out], rfl⟩
              · have p2z : ¬ (i : Int) < (mid : Int) := by omega
                have Hx := Lib.hid (decide_eq_false (show ¬ (a < i ∧ i < mid) from fun h => p2 h.2))
                go_wp2
                go_meet
                exact ⟨by rw [Hx.out], rfl⟩
            · have p1z : ¬ (a : Int) < (i : Int) := by omega
              have Hx := Lib.hid (decide_eq_false (show ¬ (a < i ∧ i < mid) from fun h => p1 h.1))
              go_wp2
              go_meet
              exact ⟨by rw [Hx.out], rfl⟩
          case rest =>
            obtain ⟨rfl, hw⟩ := hcut
            rw [hw]
            clear hw
            by_cases c2 : a < i ∧ i < mid
            · rcases (show False ∨ True by first | (left; omega) | (right; trivial)) with hF | _
              · exact hF.elim
              have c2z : decide (a < i ∧ i < mid) = true := decide_eq_true c2
              rw [c2z]
              clear c2z
              go_wp2_with fail
              refine (Hih.out (rot d i m en) _ a i mid c hst1 c2.1 c2.2 (by omega) (by omega) HT1.out (hp1.lt hn hb)).mono ?_
              rintro e w8 ⟨⟨u8, rfl⟩, d2, hst3, hp2, hsr2⟩
              clear hst1
              go_upto_region 43 with fail
              go_cut [213] from 206 to 213 (fun v wx => TestCut (mid < en ∧ en < b) w8 v wx)
              case first =>
                by_cases p1 : mid < en
                · have p1z : (mid : Int) < (en : Int) := by omega
                  by_cases p2 : en < b
                  · have p2z : (en : Int) < (b : Int) := by omega
                    have Hx := Lib.hid (decide_eq_true (show mid < en ∧ en < b from ⟨p1, p2⟩))
                    go_wp2
                    go_meet
                    exact ⟨by rw [Hx.out], rfl⟩
                  · have p2z : ¬ (en : Int) < (b : Int) := by omega
                    have Hx := Lib.hid (decide_eq_false (show ¬ (mid < en ∧ en < b) from fun h => p2 h.2))
                    go_wp2
                    go_meet
                    exact ⟨by rw [Hx.out], rfl⟩
                · have p1z : ¬ (mid : Int) < (en : Int) := by omega
                  have Hx := Lib.hid (decide_eq_false (show ¬ (mid < en ∧ en < b) from fun h => p1 h.1))
                  go_wp2
                  go_meet
                  exact ⟨by rw [Hx.out], rfl⟩
              case rest =>
                obtain ⟨rfl, hw⟩ := hcut
                rw [hw]
                clear hw
                by_cases c3 : mid < en ∧ en < b
                · rcases (show False ∨ True by first | (left; omega) | (right; trivial)) with hF | _
                  · exact hF.elim
                  have c3z : decide (mid < en ∧ en < b) = true := decide_eq_true c3
                  rw [c3z]
                  clear c3z
                  have hT2' : Two B (d2) mid en b := ⟨HT2.out.left.congr fun x _ _ => hp2.out x (.inr (by omega)), HT2.out.right.congr fun x _ _ => hp2.out x (.inr (by omega)), fun x y h1 h2 h3 h4 => by rw [hp2.out x (.inr (by omega)), hp2.out y (.inr (by omega))]; exact HT2.out.idx x y h1 h2 h3 h4⟩
                  go_wp2_with fail
                  refine (Hih.out (d2) _ mid en b c hst3 c3.1 c3.2 hb (by omega) hT2' ((hp1.trans (hp2.wide (Nat.le_refl _) (by omega))).lt hn (by omega))).mono ?_
                  rintro e w9 ⟨⟨u9, rfl⟩, d3, hst4, hp3, hsr3⟩
                  have Hend := Lib.hid (merge_end ⟨by omega, by omega⟩ HX.out hp2 hsr2 hp3 hsr3)
                  have Hpa := Lib.hid (hp1.trans Hend.out.2)
                  clear hp2 hsr2 hp3 hsr3 hT2'
                  go_wp2
                  refine bodyPost_end (results_none rfl _ _ _) rfl ⟨⟨_, rfl⟩, d3, hst4, Hpa.out, Hend.out.1⟩
                · rcases (show False ∨ True by first | (left; omega) | (right; trivial)) with hF | _
                  · exact hF.elim
                  have c3z : decide (mid < en ∧ en < b) = false := decide_eq_false c3
                  rw [c3z]
                  clear c3z
                  have hsr3 : Srt B (d2) mid b := by
                    have h9 : Srt B (rot d i m en) mid b := by
                      by_cases q9 : mid < en
                      · have e9 : en = b := by omega
                        have := HT2.out.left; rwa [e9] at this ⊢
                      · have e9 : en = mid := by omega
                        have := HT2.out.right; rwa [e9] at this ⊢
                    exact h9.congr fun x h1 _ => hp2.out x (.inr h1)
                  have Hend := Lib.hid (merge_end ⟨by omega, by omega⟩ HX.out hp2 hsr2 (Per.refl N mid b _) hsr3)
                  have Hpa := Lib.hid (hp1.trans Hend.out.2)
                  clear hp2 hsr2 hsr3
                  go_wp2
                  refine bodyPost_end (results_none rfl _ _ _) rfl ⟨⟨_, rfl⟩, _, hst3, Hpa.out, Hend.out.1⟩
            · rcases (show False ∨ True by first | (left; omega) | (right; trivial)) with hF | _
              · exact hF.elim
              have c2z : decide (a < i ∧ i < mid) = false := decide_eq_false c2
              rw [c2z]
              clear c2z
              have hp2 := Per.refl N a mid (rot d i m en)
              have hsr2 : Srt B (rot d i m en) a mid := by
                by_cases q9 : a < i
                · have e9 : i = mid := by omega
                  have := HT1.out.left; rwa [e9] at this ⊢
                · have e9 : i = a := by omega
                  have := HT1.out.right; rwa [e9] at this ⊢
              have hst3 := hst1
              go_upto_region 43 with fail
              go_cut [213] from 206 to 213 (fun v wx => TestCut (mid < en ∧ en < b) wr v wx)
              case first =>
                by_cases p1 : mid < en
                · have p1z : (mid : Int) < (en : Int) := by omega
                  by_cases p2 : en < b
                  · have p2z : (en : Int) < (b : Int) := by omega
                    have Hx := Lib.hid (decide_eq_true (show mid < en ∧ en < b from ⟨p1, p2⟩))
                    go_wp2
                    go_meet
                    exact ⟨by rw [Hx.out], rfl⟩
                  · have p2z : ¬ (en : Int) < (b : Int) := by omega
                    have Hx := Lib.hid (decide_eq_false (show ¬ (mid < en ∧ en < b) from fun h => p2 h.2))
                    go_wp2
                    go_meet
                    exact ⟨by rw [Hx.out], rfl⟩
                · have p1z : ¬ (mid : Int) < (en : Int) := by omega
                  have Hx := Lib.hid (decide_eq_false (show ¬ (mid < en ∧ en < b) from fun h => p1 h.1))
                  go_wp2
                  go_meet
                  exact ⟨by rw [Hx.out], rfl⟩
              case rest =>
                obtain ⟨rfl, hw⟩ := hcut
                rw [hw]
                clear hw
                by_cases c3 : mid < en ∧ en < b
                · rcases (show False ∨ True by first | (left; omega) | (right; trivial)) with hF | _
                  · exact hF.elim
                  have c3z : decide (mid < en ∧ en < b) = true := decide_eq_true c3
                  rw [c3z]
                  clear c3z
                  have hT2' : Two B (rot d i m en) mid en b := ⟨HT2.out.left.congr fun x _ _ => hp2.out x (.inr (by omega)), HT2.out.right.congr fun x _ _ => hp2.out x (.inr (by omega)), fun x y h1 h2 h3 h4 => by rw [hp2.out x (.inr (by omega)), hp2.out y (.inr (by omega))]; exact HT2.out.idx x y h1 h2 h3 h4⟩
                  go_wp2_with fail
                  refine (Hih.out (rot d i m en) _ mid en b c hst3 c3.1 c3.2 hb (by omega) hT2' ((hp1.trans (hp2.wide (Nat.le_refl _) (by omega))).lt hn (by omega))).mono ?_
                  rintro e w9 ⟨⟨u9, rfl⟩, d3, hst4, hp3, hsr3⟩
                  have Hend := Lib.hid (merge_end ⟨by omega, by omega⟩ HX.out hp2 hsr2 hp3 hsr3)
                  have Hpa := Lib.hid (hp1.trans Hend.out.2)
                  clear hp2 hsr2 hp3 hsr3 hT2'
                  go_wp2
                  refine bodyPost_end (results_none rfl _ _ _) rfl ⟨⟨_, rfl⟩, d3, hst4, Hpa.out, Hend.out.1⟩
                · rcases (show False ∨ True by first | (left; omega) | (right; trivial)) with hF | _
                  · exact hF.elim
                  have c3z : decide (mid < en ∧ en < b) = false := decide_eq_false c3
                  rw [c3z]
                  clear c3z
                  have hsr3 : Srt B (rot d i m en) mid b := by
                    have h9 : Srt B (rot d i m en) mid b := by
                      by_cases q9 : mid < en
                      · have e9 : en = b := by omega
                        have := HT2.out.left; rwa [e9] at this ⊢
                      · have e9 : en = mid := by omega
                        have := HT2.out.right; rwa [e9] at this ⊢
                    exact h9.congr fun x h1 _ => hp2.out x (.inr h1)
                  have Hend := Lib.hid (merge_end ⟨by omega, by omega⟩ HX.out hp2 hsr2 (Per.refl N mid b _) hsr3)
                  have Hpa := Lib.hid (hp1.trans Hend.out.2)
                  clear hp2 hsr2 hsr3
                  go_wp2
                  refine bodyPost_end (results_none rfl _ _ _) rfl ⟨⟨_, rfl⟩, _, hst3, Hpa.out, Hend.out.1⟩

theorem merge_calls (w0 : World) (g N n : Nat) (B : Nat → Int) (p : Option Addr) (hcmp : CmpOk w0 g n B p) (hN : N ≤ 1000000) : ∀ len, MergeOk w0 g N n B p len
  | 0 => fun d w a m b c h h1 h2 h3 h4 _ _ => by omega
  | len + 1 => fun d w a m b c h h1 h2 h3 h4 h5 h6 => by
    have ih := merge_calls w0 g N n B p hcmp hN len
    by_cases e1 : m = a + 1
    · subst e1; exact symMerge_first w0 g N n B p hcmp d w a b c h h2 h3 hN h5 h6
    · by_cases e2 : b = m + 1
      · subst e2; exact symMerge_second w0 g N n B p hcmp d w a m c h (by omega) h3 hN h5 h6
      · by_cases e3 : (a + b) / 2 < m
        · exact symMerge_genA w0 g N n B p hcmp len ih d w a m b c h (by omega) (by omega) h3 hN h4 h5 h6 e3
        · exact symMerge_genB w0 g N n B p hcmp len ih d w a m b c h (by omega) (by omega) h3 hN h4 h5 h6 e3
end Go.Proofs.Ytigidchignlpmaa
