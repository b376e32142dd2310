/-
  The library's stable sort of numbers: the merge where one side has one number.
-/
import Derived.Test.YtigidchignlpmaaRSort2
namespace Go.Proofs.Ytigidchignlpmaa
open Go Go.RowKit Rg

theorem Per.carR {N a b : Nat} {d : Row} (hb : b ≤ N) : ∀ (k : Nat), a + k + 1 ≤ b → Per N a b d (carR d a (a + k + 1))
  | 0, _ => by rw [show a + 0 + 1 = a + 1 from rfl, carR_start]; exact Per.refl _ _ _ _
  | k + 1, h => by
    rw [show a + (k + 1) + 1 = (a + k) + 2 by omega, carR_step d (by omega)]
    exact (Per.carR hb k (by omega)).trans (Per.sw ⟨by omega, by omega⟩ ⟨by omega, by omega⟩ hb)
theorem Per.dwnR {N a b m : Nat} {d : Row} (hb : b ≤ N) (hm : m < b) : ∀ (k : Nat), k ≤ m → a ≤ m - k → Per N a b d (dwnR d (m - k) m)
  | 0, _, _ => by rw [show m - 0 = m from rfl, dwnR_start]; exact Per.refl _ _ _ _
  | k + 1, h, h' => by
    have e : m - k = m - (k + 1) + 1 := by omega
    have h1 := Per.dwnR (a := a) (d := d) hb hm k (by omega) (by omega)
    rw [dwnR_step d (k := m - (k + 1)) (by omega), ← e]
    rw [e]
    rw [e] at h1
    exact h1.trans (Per.sw ⟨by omega, by omega⟩ ⟨by omega, by omega⟩ hb)

set_option maxHeartbeats 4000000 in
set_option maxRecDepth 100000 in
theorem symMerge_first (w0 : World) (g N n : Nat) (B : Nat → Int) (p : Option Addr) (hcmp : CmpOk w0 g n B p) (d : Row) (w : World) (a b c : Nat) (h : StR w0 g N d w) (hab : a + 1 < b) (hb : b ≤ N) (hN : N ≤ 1000000) (h2 : Two B d a (a + 1) b) (hn : ∀ x, x < N → d x < n) :
    Calls Try.prog 44 #[.slice (some ⟨g, 0, none⟩) N c, .int .i64 (a : Int), .int .i64 ((a + 1 : Nat) : Int), .int .i64 (b : Int), cmpV p] w fun e w' => (∃ v, e = .returned v) ∧ ∃ d', StR w0 g N d' w' ∧ Per N a b d d' ∧ Srt B d' a b := by
  have mixed : Try.prog.follows .mixedOrders = true := by kernel_rfl
  have H2 := Lib.hid h2
  clear h2
  obtain ⟨m, hm⟩ : ∃ m, m = a + 1 := ⟨_, rfl⟩
  rw [← hm] at H2 ⊢
  have s1 : IntKind.i64.wrap ((m : Int) - (a : Int)) = 1 := by rw [show (m : Int) - (a : Int) = 1 by omega]; rfl
  have Hc := Lib.hid hcmp
  have Hm := Lib.hid hm
  have hma : m ≤ a + 1 := by omega
  have ham : a + 1 ≤ m := by omega
  clear hcmp hm
  unfold cmpV
  go_enter Try.func44, Try.ntmps44
  go_wp2
  go_loopw [10, 11] (fun vi vj wr => ∃ (i j : Nat), vi = .int .i64 i ∧ vj = .int .i64 j ∧ m ≤ i ∧ i ≤ j ∧ j ≤ b ∧ Hid ((∀ x, m ≤ x → x < i → Lt B (d x) (d a)) ∧ (∀ x, j ≤ x → x < b → Lt B (d a) (d x))) ∧ StR w0 g N d wr) (fun vi vj _ => (intOf vj).toNat - (intOf vi).toNat)
  case atStart => exact ⟨m, b, rfl, rfl, Nat.le_refl _, by omega, Nat.le_refl _, Lib.hid ⟨fun x h1 h2 => by omega, fun x h1 h2 => by omega⟩, h⟩
  case round =>
    clear h s1
    obtain ⟨i, j, rfl, rfl, hmi, hij, hjb, hprop, hst⟩ := hrel
    by_cases hlt : i < j
    · have hltz : (i : Int) < (j : Int) := by omega
      have s2 : IntKind.i64.wrap ((i : Int) + (j : Int)) = (i : Int) + (j : Int) := IntWalk.i64_in _ (by omega)
      have k0 : (0 : Int) ≤ (i : Int) + (j : Int) := by omega
      obtain ⟨q, hq⟩ : ∃ q, q = (i + j) / 2 := ⟨_, rfl⟩
      have s3 : ((i : Int) + (j : Int)) / 2 = (q : Int) := by omega
      have s4 : IntKind.i64.wrap ((q : Int) + 1) = ((q + 1 : Nat) : Int) := by rw [show (q : Int) + 1 = ((q + 1 : Nat) : Int) by omega]; exact IntWalk.i64_in _ (by omega)
      have q1 : i ≤ q := by omega
      have q2 : q < j := by omega
      have r1 : (0 : Int) ≤ (q : Int) := by omega
      have r2 : (q : Int) < (N : Int) := by omega
      have r3 : (0 : Int) ≤ (a : Int) := by omega
      have r4 : (a : Int) < (N : Int) := by omega
      clear hq
      have hd : Keep wr wr.drew := (Keep.refl _).drew
      have Hcall := Lib.hid (fun (wx : World) (hk : Keep wr wx) => Hc.out wx (d q) (d a) (hst.1.keepTrans hk) (hn _ (by omega)) (hn _ (by omega)))
      have dneg := cmp3_neg (B (d q)) (B (d a))
      obtain ⟨cv, hcv⟩ : ∃ cv, cmp3 (B (d q)) (B (d a)) = cv := ⟨_, rfl⟩
      rw [hcv] at dneg Hcall
      have Hdneg := Lib.hid dneg
      have c1 := fun y : KW wr => y.cell (hst.cell (i := q) (by omega))
      have c2 := fun y : KW wr => y.cell (hst.cell (i := a) (by omega))
      clear hcv dneg
      go_wp2_with fail
      refine region_begin (S := fun w' => ∃ y : KW wr, w' = y.val) (by kernel_rfl) ?_
      refine region_take [0, 1, 2, 3, 4, 5, 6, 7, 8] [] 2 (by kernel_rfl) (by kernel_rfl) (InK.mk' hd) ?_
      show wpQuiet _ _ _ _ [_, _, _, _, _, _, _, _, _] _
      repeat (go_big_quiet_step (fail))
      refine wpQuiet_nil ?_
      refine region_fix (i := 9) (fuel := 1) rfl (by kernel_rfl) (fun K hK => ?_)
      go_simp
      refine (Hcall.out _ hd).mono ?_
      rintro e1 w2 ⟨rfl, hk2'⟩
      have hk2 := hd.trans hk2'
      refine hK _ _ (InK.mk' hk2) ?_
      clear hK K hk2' Hcall c1 c2
      have hst2 := hst.keep hk2
      cases hv : decide (cv < 0)
      all_goals
        refine region_take [10] _ 0 (by kernel_rfl) (by kernel_rfl) (InK.mk' hk2) ?_
        show wpQuiet _ _ _ _ [_] _
        repeat (go_big_quiet_step (fail))
        refine wpQuiet_nil ?_
        refine region_done (by kernel_rfl) ?_
        have dneg := Hdneg.out
        rw [hv] at dneg
        clear hst hk2
      · have Hnot := Lib.hid ((H2.out.not_less (i := a) (j := q) ⟨Nat.le_refl _, by omega⟩ ⟨by omega, by omega⟩).1 (of_decide_eq_false dneg.symm))
        have Hp := Lib.hid (show (∀ x, m ≤ x → x < i → Lt B (d x) (d a)) ∧ (∀ x, q ≤ x → x < b → Lt B (d a) (d x)) from ⟨hprop.out.1, fun x h1 h2 => by
          by_cases hx : x = q
          · rw [hx]; exact Hnot.out
          · exact Hnot.out.trans (H2.out.right q x (by omega) (by omega) h2)⟩)
        clear dneg hprop
        go_wp2
        go_roundw
        case rel => exact ⟨i, q, rfl, rfl, hmi, q1, by omega, Hp, hst2⟩
        case measure => simp [intOf]; omega
      · have Hyes := Lib.hid ((H2.out.less (i := a) (j := q) ⟨Nat.le_refl _, by omega⟩ ⟨by omega, by omega⟩).1 (of_decide_eq_true dneg.symm))
        have Hp := Lib.hid (show (∀ x, m ≤ x → x < q + 1 → Lt B (d x) (d a)) ∧ (∀ x, j ≤ x → x < b → Lt B (d a) (d x)) from ⟨fun x h1 h2 => by
          by_cases hx : x = q
          · rw [hx]; exact Hyes.out
          · exact (H2.out.right x q h1 (by omega) (by omega)).trans Hyes.out, hprop.out.2⟩)
        clear dneg hprop
        go_wp2
        go_roundw
        case rel => exact ⟨q + 1, j, rfl, rfl, by omega, q2, hjb, Hp, hst2⟩
        case measure => simp [intOf]; omega
    · have hge : ¬ (i : Int) < (j : Int) := by omega
      obtain ⟨ip, hip⟩ : ∃ q, q + 1 = i := ⟨i - 1, by omega⟩
      have s5 : IntKind.i64.wrap ((i : Int) - 1) = (ip : Int) := by rw [show (i : Int) - 1 = (ip : Int) by omega]; exact IntWalk.i64_in _ (by omega)
      have Hfin := Lib.hid (show Srt B (carR d a i) a b ∧ Per N a b d (carR d a i) from ⟨by
        have h3 := H2.out
        rw [Hm.out] at h3
        exact h3.first (by omega) (fun x h1 h2 => hprop.out.1 x (by omega) h2) (fun x h1 h2 => hprop.out.2 x (by omega) h2), by
        have := Per.carR (a := a) (d := d) hb (i - 1 - a) (by omega)
        rwa [show a + (i - 1 - a) + 1 = i by omega] at this⟩)
      have hai : a ≤ ip := by omega
      have hibN : ip < b := by omega
      have hi1 : ip + 1 ≤ i := by omega
      have hi2 : i ≤ ip + 1 := by omega
      clear hprop hip
      go_wp2
      go_loopw [13] (fun vk wr => ∃ (k : Nat), vk = .int .i64 k ∧ a ≤ k ∧ k ≤ ip ∧ StR w0 g N (carR d a (k + 1)) wr) (fun vk _ => ip - (intOf vk).toNat)
      case atStart => exact ⟨a, rfl, Nat.le_refl _, hai, by rw [carR_start]; exact hst⟩
      case round =>
        clear hst
        obtain ⟨k, rfl, hak, hki, hst⟩ := hrel
        by_cases hlk : k < ip
        · have hlkz : (k : Int) < (ip : Int) := by omega
          have s6 : IntKind.i64.wrap ((k : Int) + 1) = ((k + 1 : Nat) : Int) := by rw [show (k : Int) + 1 = ((k + 1 : Nat) : Int) by omega]; exact IntWalk.i64_in _ (by omega)
          obtain ⟨f, hf⟩ : ∃ f, carR d a (k + 1) = f := ⟨_, rfl⟩
          have Hf := Lib.hid (show carR d a (k + 2) = sw f k (k + 1) by rw [carR_step d hak, hf])
          rw [hf] at hst
          obtain ⟨kp, hkp⟩ : ∃ kp, k + 1 = kp := ⟨_, rfl⟩
          have Hkp := Lib.hid hkp
          rw [hkp] at s6
          have e1 : kp ≤ k + 1 := by omega
          have e2 : k + 1 ≤ kp := by omega
          have r5 : (0 : Int) ≤ (k : Int) := by omega
          have r6 : (k : Int) < (N : Int) := by omega
          have r7 : (0 : Int) ≤ (kp : Int) := by omega
          have r8 : (kp : Int) < (N : Int) := by omega
          clear hf hkp
          have c1 := hst.cell (i := k) (by omega)
          have c2 := hst.cell (i := kp) (by omega)
          have ff := hst.2.frozen
          have ll := hst.2.lt
          obtain ⟨u3, c3⟩ : ∃ v, (wr.setCell ⟨g, k, none⟩ (.int .i64 (f (kp) : Int))).cell? ⟨g, kp, none⟩ = some v := ⟨_, by
            rw [(hst.2.set_ (k) (.int .i64 (f (kp) : Int))).cell (kp), List.getElem?_set_ne (by omega), List.getElem?_map, rowL_get N f (by omega)]; rfl⟩
          have Hswap := Lib.hid (hst.swap (k) (kp))
          clear hst
          go_wp2_with fail
          go_big_region_o
          clear c1 c2 c3 ff ll
          go_wp2
          go_roundw
          case rel => exact ⟨kp, rfl, by omega, by omega, by rw [← Hkp.out, Hf.out, Hkp.out]; exact Hswap.out.keep (Keep.refl _).drew⟩
          case measure => simp [intOf]; omega
        · have hgk : ¬ (k : Int) < (ip : Int) := by omega
          have hst' : StR w0 g N (carR d a i) wr := by rw [show i = k + 1 by omega]; exact hst
          clear hst
          go_wp2
          refine bodyPost_ret (results_none rfl _ _ _) rfl ⟨⟨_, rfl⟩, _, hst', Hfin.out.2, Hfin.out.1⟩

set_option maxHeartbeats 4000000 in
set_option maxRecDepth 100000 in
theorem symMerge_second (w0 : World) (g N n : Nat) (B : Nat → Int) (p : Option Addr) (hcmp : CmpOk w0 g n B p) (d : Row) (w : World) (a m c : Nat) (h : StR w0 g N d w) (hab : a + 1 < m) (hb : m + 1 ≤ N) (hN : N ≤ 1000000) (h2 : Two B d a m (m + 1)) (hn : ∀ x, x < N → d x < n) :
    Calls Try.prog 44 #[.slice (some ⟨g, 0, none⟩) N c, .int .i64 (a : Int), .int .i64 (m : Int), .int .i64 ((m + 1 : Nat) : Int), cmpV p] w fun e w' => (∃ v, e = .returned v) ∧ ∃ d', StR w0 g N d' w' ∧ Per N a (m + 1) d d' ∧ Srt B d' a (m + 1) := by
  have mixed : Try.prog.follows .mixedOrders = true := by kernel_rfl
  have H2 := Lib.hid h2
  clear h2
  obtain ⟨b, hbm⟩ : ∃ b, b = m + 1 := ⟨_, rfl⟩
  rw [← hbm] at H2 ⊢
  have s0 : IntKind.i64.wrap ((m : Int) - (a : Int)) = (m : Int) - (a : Int) := IntWalk.i64_in _ (by omega)
  have t0 : ((m : Int) - (a : Int) == 1) = false := by rw [beq_eq_false_iff_ne]; omega
  have s1 : IntKind.i64.wrap ((b : Int) - (m : Int)) = 1 := by rw [show (b : Int) - (m : Int) = 1 by omega]; rfl
  have Hc := Lib.hid hcmp
  have Hbm := Lib.hid hbm
  have e1 : b ≤ m + 1 := by omega
  have e2 : m + 1 ≤ b := by omega
  clear hcmp hbm
  unfold cmpV
  go_enter Try.func44, Try.ntmps44
  go_wp2
  go_loopw [14, 15] (fun vi vj wr => ∃ (i j : Nat), vi = .int .i64 i ∧ vj = .int .i64 j ∧ a ≤ i ∧ i ≤ j ∧ j ≤ m ∧ Hid ((∀ x, a ≤ x → x < i → Lt B (d x) (d m)) ∧ (∀ x, j ≤ x → x < m → Lt B (d m) (d x))) ∧ StR w0 g N d wr) (fun vi vj _ => (intOf vj).toNat - (intOf vi).toNat)
  case atStart => exact ⟨a, m, rfl, rfl, Nat.le_refl _, by omega, Nat.le_refl _, Lib.hid ⟨fun x h1 h2 => by omega, fun x h1 h2 => by omega⟩, h⟩
  case round =>
    clear h s1 s0 t0
    obtain ⟨i, j, rfl, rfl, hmi, hij, hjb, hprop, hst⟩ := hrel
    by_cases hlt : i < j
    · have hltz : (i : Int) < (j : Int) := by omega
      have s2 : IntKind.i64.wrap ((i : Int) + (j : Int)) = (i : Int) + (j : Int) := IntWalk.i64_in _ (by omega)
      have k0 : (0 : Int) ≤ (i : Int) + (j : Int) := by omega
      obtain ⟨q, hq⟩ : ∃ q, q = (i + j) / 2 := ⟨_, rfl⟩
      have s3 : ((i : Int) + (j : Int)) / 2 = (q : Int) := by omega
      have s4 : IntKind.i64.wrap ((q : Int) + 1) = ((q + 1 : Nat) : Int) := by rw [show (q : Int) + 1 = ((q + 1 : Nat) : Int) by omega]; exact IntWalk.i64_in _ (by omega)
      have q1 : i ≤ q := by omega
      have q2 : q < j := by omega
      have r1 : (0 : Int) ≤ (q : Int) := by omega
      have r2 : (q : Int) < (N : Int) := by omega
      have r3 : (0 : Int) ≤ (m : Int) := by omega
      have r4 : (m : Int) < (N : Int) := by omega
      clear hq
      have hd : Keep wr wr.drew := (Keep.refl _).drew
      have Hcall := Lib.hid (fun (wx : World) (hk : Keep wr wx) => Hc.out wx (d m) (d q) (hst.1.keepTrans hk) (hn _ (by omega)) (hn _ (by omega)))
      have dneg := cmp3_neg (B (d m)) (B (d q))
      obtain ⟨cv, hcv⟩ : ∃ cv, cmp3 (B (d m)) (B (d q)) = cv := ⟨_, rfl⟩
      rw [hcv] at dneg Hcall
      have Hdneg := Lib.hid dneg
      have c1 := fun y : KW wr => y.cell (hst.cell (i := m) (by omega))
      have c2 := fun y : KW wr => y.cell (hst.cell (i := q) (by omega))
      clear hcv dneg
      go_wp2_with fail
      refine region_begin (S := fun w' => ∃ y : KW wr, w' = y.val) (by kernel_rfl) ?_
      refine region_take [0, 1, 2, 3, 4, 5, 6, 7, 8] [] 3 (by kernel_rfl) (by kernel_rfl) (InK.mk' hd) ?_
      show wpQuiet _ _ _ _ [_, _, _, _, _, _, _, _, _] _
      repeat (go_big_quiet_step (fail))
      refine wpQuiet_nil ?_
      refine region_fix (i := 9) (fuel := 2) rfl (by kernel_rfl) (fun K hK => ?_)
      go_simp
      refine (Hcall.out _ hd).mono ?_
      rintro e1 w2 ⟨rfl, hk2'⟩
      have hk2 := hd.trans hk2'
      refine hK _ _ (InK.mk' hk2) ?_
      clear hK K hk2' Hcall c1 c2
      have hst2 := hst.keep hk2
      cases hv : decide (cv < 0)
      all_goals
        refine region_take [10, 11] _ 0 (by kernel_rfl) (by kernel_rfl) (InK.mk' hk2) ?_
        show wpQuiet _ _ _ _ [_, _] _
        repeat (go_big_quiet_step (fail))
        refine wpQuiet_nil ?_
        refine region_done (by kernel_rfl) ?_
        have dneg := Hdneg.out
        rw [hv] at dneg
        clear hst hk2
      · have Hnot := Lib.hid ((H2.out.not_less (i := q) (j := m) ⟨by omega, by omega⟩ ⟨Nat.le_refl _, by omega⟩).1 (of_decide_eq_false dneg.symm))
        have Hp := Lib.hid (show (∀ x, a ≤ x → x < q + 1 → Lt B (d x) (d m)) ∧ (∀ x, j ≤ x → x < m → Lt B (d m) (d x)) from ⟨fun x h1 h2 => by
          by_cases hx : x = q
          · rw [hx]; exact Hnot.out
          · exact (H2.out.left x q h1 (by omega) (by omega)).trans Hnot.out, hprop.out.2⟩)
        clear dneg hprop
        go_wp2
        go_roundw
        case rel => exact ⟨q + 1, j, rfl, rfl, by omega, q2, hjb, Hp, hst2⟩
        case measure => simp [intOf]; omega
      · have Hyes := Lib.hid ((H2.out.less (i := q) (j := m) ⟨by omega, by omega⟩ ⟨Nat.le_refl _, by omega⟩).1 (of_decide_eq_true dneg.symm))
        have Hp := Lib.hid (show (∀ x, a ≤ x → x < i → Lt B (d x) (d m)) ∧ (∀ x, q ≤ x → x < m → Lt B (d m) (d x)) from ⟨hprop.out.1, fun x h1 h2 => by
          by_cases hx : x = q
          · rw [hx]; exact Hyes.out
          · exact Hyes.out.trans (H2.out.left q x (by omega) (by omega) h2)⟩)
        clear dneg hprop
        go_wp2
        go_roundw
        case rel => exact ⟨i, q, rfl, rfl, hmi, q1, by omega, Hp, hst2⟩
        case measure => simp [intOf]; omega
    · have hge : ¬ (i : Int) < (j : Int) := by omega
      have Hfin := Lib.hid (show Srt B (dwnR d i m) a b ∧ Per N a b d (dwnR d i m) from ⟨by
        have h3 := H2.out
        rw [Hbm.out] at h3 ⊢
        exact h3.second (by omega) (fun x h1 h2 => hprop.out.1 x h1 h2) (fun x h1 h2 => hprop.out.2 x (by omega) h2), by
        have := Per.dwnR (d := d) (a := a) (b := b) (m := m) (N := N) (by omega) (by omega) (m - i) (by omega) (by omega)
        rwa [show m - (m - i) = i by omega] at this⟩)
      have him : i ≤ m := by omega
      clear hprop
      go_wp2
      go_loopw [17] (fun vk wr => ∃ (k : Nat), vk = .int .i64 k ∧ i ≤ k ∧ k ≤ m ∧ StR w0 g N (dwnR d k m) wr) (fun vk _ => (intOf vk).toNat)
      case atStart => exact ⟨m, rfl, him, Nat.le_refl _, by rw [dwnR_start]; exact hst⟩
      case round =>
        clear hst
        obtain ⟨k, rfl, hik, hkm, hst⟩ := hrel
        by_cases hlk : i < k
        · have hlkz : (i : Int) < (k : Int) := by omega
          obtain ⟨kp, hkp⟩ : ∃ kp, kp + 1 = k := ⟨k - 1, by omega⟩
          have s6 : IntKind.i64.wrap ((k : Int) - 1) = (kp : Int) := by rw [show (k : Int) - 1 = (kp : Int) by omega]; exact IntWalk.i64_in _ (by omega)
          obtain ⟨f, hf⟩ : ∃ f, dwnR d k m = f := ⟨_, rfl⟩
          have Hf := Lib.hid (show dwnR d kp m = sw f k kp by rw [dwnR_step d (by omega), hkp, hf])
          rw [hf] at hst
          have r5 : (0 : Int) ≤ (k : Int) := by omega
          have r6 : (k : Int) < (N : Int) := by omega
          have r7 : (0 : Int) ≤ (kp : Int) := by omega
          have r8 : (kp : Int) < (N : Int) := by omega
          have e3 : kp < k := by omega
          have e4 : i ≤ kp := by omega
          clear hf hkp
          have c1 := hst.cell (i := k) (by omega)
          have c2 := hst.cell (i := kp) (by omega)
          have ff := hst.2.frozen
          have ll := hst.2.lt
          obtain ⟨u3, c3⟩ : ∃ v, (wr.setCell ⟨g, k, none⟩ (.int .i64 (f (kp) : Int))).cell? ⟨g, kp, none⟩ = some v := ⟨_, by
            rw [(hst.2.set_ (k) (.int .i64 (f (kp) : Int))).cell (kp), List.getElem?_set_ne (by omega), List.getElem?_map, rowL_get N f (by omega)]; rfl⟩
          have Hswap := Lib.hid (hst.swap (k) (kp))
          clear hst
          go_wp2_with fail
          go_big_region_o
          clear c1 c2 c3 ff ll
          go_wp2
          go_roundw
          case rel => exact ⟨kp, rfl, e4, by omega, by rw [Hf.out]; exact Hswap.out.keep (Keep.refl _).drew⟩
          case measure => simp [intOf]; omega
        · have hgk : ¬ (i : Int) < (k : Int) := by omega
          have hst' : StR w0 g N (dwnR d i m) wr := by rw [show i = k by omega]; exact hst
          clear hst
          go_wp2
          refine bodyPost_ret (results_none rfl _ _ _) rfl ⟨⟨_, rfl⟩, _, hst', Hfin.out.2, Hfin.out.1⟩
end Go.Proofs.Ytigidchignlpmaa
