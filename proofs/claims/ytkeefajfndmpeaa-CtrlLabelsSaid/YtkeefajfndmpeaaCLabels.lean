/-
  The law CtrlLabels returns true.
-/
import Derived.Test.YtkeefajfndmpeaaCIfs
import Derived.Test.YtkeefajfndmpeaaCLabel
namespace Go.Proofs.Ytkeefajfndmpeaa
open Go Go.RowKit

/-- Does bit k of n say that block k is a loop? -/
def bitB (n : Int) (k : Nat) : Bool := bits .and .u32 (n / 2 ^ k) 1 == 1
abbrev FD := LD × LD
def fd0 : FD := (LD.none, LD.none)
def lblk (n : Int) (L : List FD) (i : Nat) : PB := ⟨if bitB n i then 3 else 2, (L.getD i fd0).1.l, (L.getD i fd0).2.l, false, true⟩
/-- The frames when k blocks are open. -/
def lbs (res : List Int) (n : Int) (L : List FD) (k : Nat) : List PB := [Bq res] ++ (List.range k).map (lblk n L)
theorem lbs_succ (res : List Int) (n : Int) (L : List FD) (k : Nat) : lbs res n L (k + 1) = lbs res n L k ++ [lblk n L k] := by simp [lbs, List.range_succ]
theorem lbs_len (res : List Int) (n : Int) (L : List FD) (k : Nat) : (lbs res n L k).length = k + 1 := by simp [lbs]
theorem lbs_ne (res : List Int) (n : Int) (L : List FD) (k : Nat) : lbs res n L k ≠ [] := by simp [lbs]
theorem lblk_at (n : Int) (L : List FD) (i : Nat) (hi : i < L.length) : lblk n L i = ⟨if bitB n i then 3 else 2, L[i].1.l, L[i].2.l, false, true⟩ := by
  unfold lblk
  rw [show L.getD i fd0 = L[i] by rw [List.getD_eq_getElem?_getD, List.getElem?_eq_getElem hi]; rfl]

def Short (L : List FD) (k : Nat) : Prop := ∀ i (h : i < L.length), i < k → L[i].1.l.length ≤ 20 ∧ L[i].2.l.length ≤ 20
theorem lbs_small {res : List Int} {n : Int} {L : List FD} {k : Nat} (hr : res.length ≤ 20) (hs : Short L k) (hk : k ≤ L.length) : ∀ x ∈ lbs res n L k, x.p.length ≤ 1000000 ∧ x.r.length ≤ 1000000 := by
  intro x hx
  rcases List.mem_append.1 hx with h | h
  · rw [List.mem_singleton.1 h]
    exact ⟨by simp [Bq], by show res.length ≤ _; omega⟩
  · obtain ⟨i, hi, rfl⟩ := List.mem_map.1 h
    have hik := List.mem_range.1 hi
    have h1 := hs i (by omega) hik
    rw [lblk_at n L i (by omega)]
    exact ⟨by show L[i].1.l.length ≤ _; omega, by show L[i].2.l.length ≤ _; omega⟩
/-- What holds at the head of each round of the first loop. -/
def LbInv (w : World) (b bst : Nat) (res : List Int) (n : Int) (L : List FD) (k : Nat) (wr : World) : Prop :=
  ∃ s, CLive w b bst ⟨s, lbs res n L k, res, true, 0⟩ wr ∧ s.Ok ∧ Sz s (20 * k) (k + 2) ∧ Short L k
theorem label_block (s : Stk) (res : List Int) (n : Int) (L : List FD) (i : Nat) (hi : i < L.length) :
    (Ctl.mk s (lbs res n L L.length) res true 0).label ((L.length : Int) - 1 - (i : Int)) = (if bitB n i then L[i].1.l else L[i].2.l, 0) := by
  unfold Ctl.label
  rw [if_neg (by simp), if_neg (by simp only [lbs_len]; omega)]
  simp only [lbs_len]
  have e : L.length + 1 - 1 - ((L.length : Int) - 1 - (i : Int)).toNat = i + 1 := by omega
  rw [e]
  have g : (lbs res n L L.length).getD (i + 1) ⟨0, [], [], false, false⟩ = lblk n L i := by
    unfold lbs
    rw [List.getD_eq_getElem?_getD, List.getElem?_append_right (by simp)]
    simp [hi]
  rw [g, lblk_at n L i hi]
  cases bitB n i <;> rfl
theorem label_body (s : Stk) (res : List Int) (n : Int) (L : List FD) : (Ctl.mk s (lbs res n L L.length) res true 0).label (L.length : Int) = (res, 0) := by
  unfold Ctl.label
  rw [if_neg (by simp), if_neg (by simp only [lbs_len]; omega)]
  simp only [lbs_len, Int.toNat_natCast]
  rw [show L.length + 1 - 1 - L.length = 0 by omega]
  rfl
theorem label_far (s : Stk) (res : List Int) (n : Int) (L : List FD) (i : Int) (hi : i < 0 ∨ (L.length : Int) + 1 ≤ i) : (Ctl.mk s (lbs res n L L.length) res true 0).label i = ([], 15) := by
  unfold Ctl.label
  rw [if_neg (by simp), if_pos (by simp only [lbs_len]; omega)]

theorem same_true_l (l : List Int) (A B : Option Addr) (c d : Nat) (w : World) (hs : Seg w A (l.flatMap valC)) (ht : Seg w B (l.flatMap valC)) (hl : l.length ≤ 1000000) :
    Calls Try.prog 39 #[.slice A l.length c, .slice B l.length d] w fun e w' => e = .returned (.bool true) ∧ Keep w w' :=
  (refSameVals_calls l l A B c d w hs ht hl hl).mono fun e w' ⟨h1, h2⟩ => ⟨by rw [h1, decide_eq_true rfl], h2⟩
theorem fn_at {w wr : World} {A : Option Addr} {L : List FD} (h : Seg w A (L.flatMap fnC)) (hkeep : Keep w wr) {k : Nat} (hk : k < L.length) :
    ∃ b off, A = some ⟨b, off, none⟩ ∧ b < w.heap.size ∧ wr.cell? ⟨b, off + k * 2, none⟩ = some (.slice L[k].1.a L[k].1.l.length L[k].1.c) ∧ wr.cell? ⟨b, off + k * 2 + 1, none⟩ = some (.slice L[k].2.a L[k].2.l.length L[k].2.c) := by
  obtain ⟨b, off, e, hb, hc⟩ := h.elem 2 (fun _ => rfl) (by omega) hk
  exact ⟨b, off, e, hb, hkeep.cell (hc 0 _ rfl), hkeep.cell (hc 1 _ rfl)⟩
theorem cnum (n : Int) (h : (Lit.int .u32 n).wf = true) : 0 ≤ n ∧ n ≤ 4294967295 := by
  simp [Lit.wf, IntKind.min, IntKind.max, IntKind.signed, IntKind.bits] at h
  omega

set_option maxHeartbeats 4000000 in
set_option maxRecDepth 100000 in
theorem ctrlLabels_walk (r : LD) (L : List FD) (A : Option Addr) (c : Nat) (n : Int) (w : World) (hr : LOk w r) (hs : Seg w A (L.flatMap fnC)) (hL : ∀ x ∈ L, FnOk w x) (hm : L.length ≤ maxLen) (hn : (Lit.int .u32 n).wf = true) :
    Calls Try.prog 9 #[.slice r.a r.l.length r.c, .slice A L.length c, .int .u32 n] w fun e w' => e = .returned (.bool true) ∧ Keep w w' := by
  have lr := hr.len
  unfold maxLen at lr hm
  have rS := hr.seg
  obtain ⟨hn0, hn1⟩ := cnum n hn
  clear hr hn
  by_cases hsm : L.length ≤ 20 ∧ r.l.length ≤ 20
  rotate_left
  · have Ha := Lib.hid (calive_calls w)
    by_cases g1 : (20 : Int) < L.length
    · clear hsm hL
      go_enter Try.func9, Try.ntmps9
      go_wp2_with fail
      refine Ha.out.mono ?_
      rintro e w2 ⟨rfl, hk⟩
      go_wp2
      go_ret
      exact ⟨rfl, hk⟩
    · have g2 : (20 : Int) < r.l.length := by omega
      clear hsm hL
      go_enter Try.func9, Try.ntmps9
      go_wp2_with fail
      refine Ha.out.mono ?_
      rintro e w2 ⟨rfl, hk⟩
      go_wp2
      go_ret
      exact ⟨rfl, hk⟩
  · obtain ⟨m1, m2⟩ := hsm
    have g1 : ¬ (20 : Int) < L.length := by omega
    have g2 : ¬ (20 : Int) < r.l.length := by omega
    have hpc := ptr_c
    have hps := ptr_s
    go_enter Try.func9, Try.ntmps9
    go_wp2_with fail
    refine (cnew_calls r.l r.a r.c w rS (by omega)).mono ?_
    rintro e w0 ⟨b, bst, F0, rfl, hc0, hk0, hF0⟩
    have h0 : CLive w b bst ⟨f0.ov false, [Bq r.l], r.l, true, 0⟩ w0 := ⟨F0, hk0, hc0, hF0⟩
    clear hc0 hF0
    go_wp2_with fail
    refine (h0.read fun F h => cs_stack h).mono ?_
    rintro e w1 ⟨rfl, rfl⟩
    have Hst := Lib.hid (show LbInv w b bst r.l n L 0 w0 from ⟨f0.ov false, h0, okf0.ov false, Sz.fresh.opened.ov, fun i h hi => absurd hi (Nat.not_lt_zero _)⟩)
    clear h0
    go_wp2_with fail
    go_loopw [8] (fun i wr => ∃ k : Nat, k ≤ L.length ∧ i = .int .i64 k ∧ LbInv w b bst r.l n L k wr) (fun i _ => L.length - (intOf i).toNat)
    case atStart => exact ⟨0, Nat.zero_le _, rfl, Hst.out⟩
    case round =>
      obtain ⟨k, hk, rfl, s, h1, hok, hsz, hsh⟩ := hrel
      clear Hst
      by_cases hlt : k < L.length
      · obtain ⟨ab, off, rfl, hab, q0, q1⟩ := fn_at hs (Keep.refl _) hlt
        have hkk : (k : Int) < (L.length : Int) := by omega
        have hk0 : (0 : Int) ≤ (k : Int) := by omega
        have hk32 : (k : Int) ≤ 32 := by omega
        have hLk := hL L[k] (List.getElem_mem hlt)
        have n1 := hLk.1.len
        have n2 := hLk.2.len
        unfold maxLen at n1 n2
        have r0 := h1.keep0.cell q0
        have r1 := h1.keep0.cell q1
        have lab : ab < wr.heap.size := Nat.lt_of_lt_of_le hab h1.keep0.size
        by_cases s1 : L[k].1.l.length ≤ 20
        rotate_left
        · have g3 : (20 : Int) < (L[k].1.l.length : Int) := by omega
          have Ha := Lib.hid (calive_calls wr)
          have Hk := Lib.hid h1.keep0
          clear h1 hsz hok hsh hLk
          go_wp2_with fail
          refine Ha.out.mono ?_
          rintro e w2 ⟨rfl, hk2⟩
          go_wp2
          go_ret
          exact ⟨rfl, Hk.out.trans hk2⟩
        have g3 : ¬ (20 : Int) < (L[k].1.l.length : Int) := by omega
        by_cases s2 : L[k].2.l.length ≤ 20
        rotate_left
        · have g4 : (20 : Int) < (L[k].2.l.length : Int) := by omega
          have Ha := Lib.hid (calive_calls wr)
          have Hk := Lib.hid h1.keep0
          clear h1 hsz hok hsh hLk
          go_wp2_with fail
          refine Ha.out.mono ?_
          rintro e w2 ⟨rfl, hk2⟩
          go_wp2
          go_ret
          exact ⟨rfl, Hk.out.trans hk2⟩
        have g4 : ¬ (20 : Int) < (L[k].2.l.length : Int) := by omega
        have pS := hLk.1.seg
        have qS := hLk.2.seg
        have hnx := lblk_at n L k hlt
        obtain ⟨p, hp⟩ : ∃ p, p = L[k].1 := ⟨_, rfl⟩
        obtain ⟨q, hq⟩ : ∃ q, q = L[k].2 := ⟨_, rfl⟩
        have Hsh := Lib.hid (show Short L (k + 1) from fun i hi hik => by
          rcases Nat.lt_or_ge i k with h2 | h2
          · exact hsh i hi h2
          · obtain rfl : i = k := by omega
            exact ⟨s1, s2⟩)
        rw [← hp] at pS q0 r0 s1 g3 n1
        rw [← hq] at qS q1 r1 s2 g4 n2
        rw [← hp, ← hq] at hnx
        have Hp := Lib.hid hp
        clear hp hq hLk hsh
        have x0 := fun y : KW w => y.cell q0
        obtain ⟨bt, hbt⟩ : ∃ bt, bt = bitB n k := ⟨_, rfl⟩
        rw [← hbt] at hnx
        unfold bitB at hbt
        have Hnx := Lib.hid hnx
        clear hnx
        have hbt' := hbt.symm
        clear hbt
        cases bt
        · go_wp2_with fail
          refine region_begin (S := fun w' => ∃ y : KW w, w' = y.val) (by kernel_rfl) ?_
          refine region_take [0, 2, 3, 4, 5, 6] [] 2 (by kernel_rfl) (by kernel_rfl) (InK.mk' h1.keep0.drew) ?_
          show wpQuiet _ _ _ _ [_, _, _, _, _, _] _
          repeat (go_big_quiet_step (fail))
          refine wpQuiet_nil ?_
          clear x0
          have h1d := h1.keep ((Keep.refl _).drew)
          refine region_fix (i := 1) (fuel := 1) rfl (by kernel_rfl) (fun K hK => ?_)
          go_simp
          refine (h1d.read fun F h => cs_stack h).mono ?_
          rintro e w2 ⟨rfl, rfl⟩
          refine hK _ _ (InK.mk' h1d.keep0) ?_
          clear hK K
          refine region_fix (i := 7) (fuel := 0) rfl (by kernel_rfl) (fun K hK => ?_)
          go_simp
          refine (h1d.call (R := fun e => ∃ v, e = .returned v) (c' := ⟨(s.push p.l).ov (s.push p.l).over, lbs r.l n L k, r.l, true, 0⟩) (fun F h hF => by exact cs_push h p.l p.a p.c (pS.keep h1d.keep0) (Sz.tl hsz (by omega)))).mono ?_
          rintro e w2 ⟨⟨u2, rfl⟩, h2⟩
          generalize (s.push p.l).over = o2 at h2
          clear h1 h1d r0 r1 lab
          refine hK _ _ (InK.mk' h2.keep0) ?_
          clear hK K
          refine region_done (by kernel_rfl) ?_
          have r0 := h2.keep0.cell q0
          have r1 := h2.keep0.cell q1
          have lab : ab < w2.heap.size := Nat.lt_of_lt_of_le hab h2.keep0.size
          go_wp2_with fail
          refine (h2.call (R := fun e => e = .returned (.int .i64 0)) (c' := ⟨(s.ov o2).opened.push p.l, lbs r.l n L k ++ [⟨2, p.l, q.l, false, true⟩], r.l, true, 0⟩) (fun F h hF => by have := enter_calls h ((hok.push p.l).ov o2) 2 p q (LD.Ok.old pS h2.keep0 hF) (LD.Ok.old qS h2.keep0 hF) (Sz.tl (hsz.push (l := p.l)).ov (by omega)) (Sz.p (hsz.push (l := p.l)).ov (by omega)) (by show (lbs r.l n L k).length ≤ _; rw [lbs_len]; omega) (by omega) (by omega); rw [Ctl.enter_pushed s o2 hok (lbs r.l n L k) r.l true 2 p.l q.l (.inl rfl) (lbs_ne _ _ _ _)] at this; exact this)).mono ?_
          rintro e w3 ⟨rfl, h3⟩
          clear h2 r0 r1 lab
          have Hfin := Lib.hid (show LbInv w b bst r.l n L (k + 1) w3 from ⟨(s.ov o2).opened.push p.l, by rw [lbs_succ, Hnx.out]; exact h3, (hok.ov o2).opened.push p.l, ⟨Nat.le_trans (hsz.ov (o := o2)).opened.push.T (by omega), Nat.le_trans (hsz.ov (o := o2)).opened.push.P (by omega)⟩, Hsh.out⟩)
          clear h3
          go_wp2
          go_roundw
          case rel => exact ⟨k + 1, hlt, by go_num, Hfin.out⟩
          case measure => simp [intOf]; omega
        · go_wp2_with fail
          refine region_begin (S := fun w' => ∃ y : KW w, w' = y.val) (by kernel_rfl) ?_
          refine region_take [0, 2, 3, 4, 5, 6] [] 2 (by kernel_rfl) (by kernel_rfl) (InK.mk' h1.keep0.drew) ?_
          show wpQuiet _ _ _ _ [_, _, _, _, _, _] _
          repeat (go_big_quiet_step (fail))
          refine wpQuiet_nil ?_
          clear x0
          have h1d := h1.keep ((Keep.refl _).drew)
          refine region_fix (i := 1) (fuel := 1) rfl (by kernel_rfl) (fun K hK => ?_)
          go_simp
          refine (h1d.read fun F h => cs_stack h).mono ?_
          rintro e w2 ⟨rfl, rfl⟩
          refine hK _ _ (InK.mk' h1d.keep0) ?_
          clear hK K
          refine region_fix (i := 7) (fuel := 0) rfl (by kernel_rfl) (fun K hK => ?_)
          go_simp
          refine (h1d.call (R := fun e => ∃ v, e = .returned v) (c' := ⟨(s.push p.l).ov (s.push p.l).over, lbs r.l n L k, r.l, true, 0⟩) (fun F h hF => by exact cs_push h p.l p.a p.c (pS.keep h1d.keep0) (Sz.tl hsz (by omega)))).mono ?_
          rintro e w2 ⟨⟨u2, rfl⟩, h2⟩
          generalize (s.push p.l).over = o2 at h2
          clear h1 h1d r0 r1 lab
          refine hK _ _ (InK.mk' h2.keep0) ?_
          clear hK K
          refine region_done (by kernel_rfl) ?_
          have r0 := h2.keep0.cell q0
          have r1 := h2.keep0.cell q1
          have lab : ab < w2.heap.size := Nat.lt_of_lt_of_le hab h2.keep0.size
          go_wp2_with fail
          refine (h2.call (R := fun e => e = .returned (.int .i64 0)) (c' := ⟨(s.ov o2).opened.push p.l, lbs r.l n L k ++ [⟨3, p.l, q.l, false, true⟩], r.l, true, 0⟩) (fun F h hF => by have := enter_calls h ((hok.push p.l).ov o2) 3 p q (LD.Ok.old pS h2.keep0 hF) (LD.Ok.old qS h2.keep0 hF) (Sz.tl (hsz.push (l := p.l)).ov (by omega)) (Sz.p (hsz.push (l := p.l)).ov (by omega)) (by show (lbs r.l n L k).length ≤ _; rw [lbs_len]; omega) (by omega) (by omega); rw [Ctl.enter_pushed s o2 hok (lbs r.l n L k) r.l true 3 p.l q.l (.inr rfl) (lbs_ne _ _ _ _)] at this; exact this)).mono ?_
          rintro e w3 ⟨rfl, h3⟩
          clear h2 r0 r1 lab
          have Hfin := Lib.hid (show LbInv w b bst r.l n L (k + 1) w3 from ⟨(s.ov o2).opened.push p.l, by rw [lbs_succ, Hnx.out]; exact h3, (hok.ov o2).opened.push p.l, ⟨Nat.le_trans (hsz.ov (o := o2)).opened.push.T (by omega), Nat.le_trans (hsz.ov (o := o2)).opened.push.P (by omega)⟩, Hsh.out⟩)
          clear h3
          go_wp2
          go_roundw
          case rel => exact ⟨k + 1, hlt, by go_num, Hfin.out⟩
          case measure => simp [intOf]; omega
      · have hge : ¬ (k : Int) < (L.length : Int) := by omega
        obtain rfl : k = L.length := by omega
        have hll := lbs_small (n := n) m2 hsh (Nat.le_refl _)
        clear hlt hk
        have Hst := Lib.hid h1
        clear h1 hok hsz
        go_wp2_with fail
        obtain ⟨wo, hwo⟩ : ∃ wo : World, wo = wr := ⟨_, rfl⟩
        rw [← hwo] at Hst ⊢
        clear hwo
        go_loopw [10] (fun i wr => ∃ k : Nat, k ≤ L.length ∧ i = .int .i64 k ∧ CLive w b bst ⟨s, lbs r.l n L L.length, r.l, true, 0⟩ wr) (fun i _ => L.length - (intOf i).toNat)
        case atStart => exact ⟨0, Nat.zero_le _, rfl, Hst.out⟩
        case round =>
          obtain ⟨k, hk, rfl, h1⟩ := hrel
          clear Hst
          by_cases hlt : k < L.length
          · obtain ⟨ab, off, rfl, hab, q0, q1⟩ := fn_at hs (Keep.refl _) hlt
            have hkk : (k : Int) < (L.length : Int) := by omega
            have hk0 : (0 : Int) ≤ (k : Int) := by omega
            have hk32 : (k : Int) ≤ 32 := by omega
            have r0 := h1.keep0.cell q0
            have r1 := h1.keep0.cell q1
            have lab : ab < wr.heap.size := Nat.lt_of_lt_of_le hab h1.keep0.size
            have hLk := hL L[k] (List.getElem_mem hlt)
            have hlab := label_block s r.l n L k hlt
            obtain ⟨z1, z2⟩ := hsh k hlt hlt
            have hwr : IntKind.i64.wrap ((L.length : Int) - 1) = (L.length : Int) - 1 := IntWalk.i64_in _ (by omega)
            obtain ⟨bt, hbt⟩ : ∃ bt, bt = bitB n k := ⟨_, rfl⟩
            rw [← hbt] at hlab
            unfold bitB at hbt
            have hbt' := hbt.symm
            clear hbt
            have Hcl := Lib.hid (fun F h => label_calls (F := F) (w := wr) (b := b) (bst := bst) (c := ⟨s, lbs r.l n L L.length, r.l, true, 0⟩) h ((L.length : Int) - 1 - (k : Int)) (by show (lbs r.l n L L.length).length ≤ _; rw [lbs_len]; omega) hll)
            rw [hlab] at Hcl
            clear hlab
            cases bt
            · have Hc := Lib.hid Hcl.out
              clear Hcl
              go_wp2_with fail
              refine (h1.read Hc.out).mono ?_
              rintro e w2 ⟨va, rfl, ho, hk2⟩
              have ho2 : Own valC 1 45 w2 wr.heap.size va L[k].2.l := ho
              obtain ⟨Aa, ca, rfl, _⟩ := ho2.form
              have h2 := h1.keep hk2
              have Hs := Lib.hid (same_true_l L[k].2.l Aa L[k].2.a ca L[k].2.c w2 ho2.segN.2 (hLk.2.seg.keep h2.keep0) (by omega))
              clear h1 ho ho2 r0 r1 lab
              go_wp2_with fail
              refine (Hs.out).mono ?_
              rintro e w3 ⟨rfl, hk3⟩
              have h3 := Lib.hid (h2.keep hk3)
              clear h2 Hs
              go_wp2
              go_roundw
              case rel => exact ⟨k + 1, hlt, by go_num, h3.out⟩
              case measure => simp [intOf]; omega
            · have Hc := Lib.hid Hcl.out
              clear Hcl
              go_wp2_with fail
              refine (h1.read Hc.out).mono ?_
              rintro e w2 ⟨va, rfl, ho, hk2⟩
              have ho2 : Own valC 1 45 w2 wr.heap.size va L[k].1.l := ho
              obtain ⟨Aa, ca, rfl, _⟩ := ho2.form
              have h2 := h1.keep hk2
              have Hs := Lib.hid (same_true_l L[k].1.l Aa L[k].1.a ca L[k].1.c w2 ho2.segN.2 (hLk.1.seg.keep h2.keep0) (by omega))
              clear h1 ho ho2 r0 r1 lab
              go_wp2_with fail
              refine (Hs.out).mono ?_
              rintro e w3 ⟨rfl, hk3⟩
              have h3 := Lib.hid (h2.keep hk3)
              clear h2 Hs
              go_wp2
              go_roundw
              case rel => exact ⟨k + 1, hlt, by go_num, h3.out⟩
              case measure => simp [intOf]; omega
          · have hge2 : ¬ (k : Int) < (L.length : Int) := by omega
            clear hlt
            have hwr : IntKind.i64.wrap ((L.length : Int) + 1) = (L.length : Int) + 1 := IntWalk.i64_in _ (by omega)
            have e1 := label_body s r.l n L
            have e2 := label_far s r.l n L ((L.length : Int) + 1) (.inr (Int.le_refl _))
            have e3 := label_far s r.l n L (-1) (.inl (by decide))
            have H1 := Lib.hid (fun F (ww : World) h => label_calls (F := F) (w := ww) (b := b) (bst := bst) (c := (Ctl.mk s (lbs r.l n L L.length) r.l true 0)) h (L.length : Int) (by show (lbs r.l n L L.length).length ≤ _; rw [lbs_len]; omega) hll)
            have H2 := Lib.hid (fun F (ww : World) h => label_calls (F := F) (w := ww) (b := b) (bst := bst) (c := (Ctl.mk s (lbs r.l n L L.length) r.l true 0)) h ((L.length : Int) + 1) (by show (lbs r.l n L L.length).length ≤ _; rw [lbs_len]; omega) hll)
            have H3 := Lib.hid (fun F (ww : World) h => label_calls (F := F) (w := ww) (b := b) (bst := bst) (c := (Ctl.mk s (lbs r.l n L L.length) r.l true 0)) h (-1) (by show (lbs r.l n L L.length).length ≤ _; rw [lbs_len]; omega) hll)
            rw [e1] at H1
            rw [e2] at H2
            rw [e3] at H3
            clear e1 e2 e3
            have hdep : Hid ((Ctl.mk s (lbs r.l n L L.length) r.l true 0).depth = L.length + 1) := Lib.hid (by show (lbs r.l n L L.length).length = _; exact lbs_len _ _ _ _)
            go_wp2_with fail
            refine (h1.read fun F h => H1.out F wr h).mono ?_
            rintro e w2 ⟨va, rfl, ho, hk2⟩
            have ho2 : Own valC 1 45 w2 wr.heap.size va r.l := ho
            obtain ⟨Aa, ca, rfl, _⟩ := ho2.form
            have h2 := h1.keep hk2
            clear h1 ho
            go_wp2_with fail
            refine (h2.read fun F h => H2.out F w2 h).mono ?_
            rintro e w3 ⟨vb, rfl, hob, hk3⟩
            have h3 := h2.keep hk3
            have ho3 := ho2.keep hk3
            clear h2 ho2 hob
            go_wp2_with fail
            refine (h3.read fun F h => H3.out F w3 h).mono ?_
            rintro e w4 ⟨vc, rfl, hoc, hk4⟩
            have h4 := h3.keep hk4
            have Hs := Lib.hid (same_true_l r.l Aa r.a ca r.c w4 (ho3.keep hk4).segN.2 (rS.keep h4.keep0) (by omega))
            clear h3 ho3 hoc H1 H2 H3
            go_wp2_with fail
            refine (Hs.out).mono ?_
            rintro e w5 ⟨rfl, hk5⟩
            have h5 := h4.keep hk5
            clear h4 Hs
            go_wp2_with fail
            refine (h5.read fun F h => return_calls h (by show r.l.length ≤ _; omega)).mono ?_
            rintro e w6 ⟨vd, rfl, ho, hk6⟩
            have ho2 : Own valC 1 45 w6 w5.heap.size vd r.l := ho
            obtain ⟨Ad, cd, rfl, _⟩ := ho2.form
            have h6 := h5.keep hk6
            have Hs := Lib.hid (same_true_l r.l Ad r.a cd r.c w6 ho2.segN.2 (rS.keep h6.keep0) (by omega))
            clear h5 ho ho2
            go_wp2_with fail
            refine (Hs.out).mono ?_
            rintro e w7 ⟨rfl, hk7⟩
            have h7 := h6.keep hk7
            clear h6 Hs
            go_wp2_with fail
            refine (h7.read fun F h => depth_calls h).mono ?_
            rintro e w8 ⟨rfl, rfl⟩
            rw [hdep.out, show ((L.length + 1 : Nat) : Int) = (L.length : Int) + 1 from by omega]
            go_wp2_with fail
            refine (calive_calls w7).mono ?_
            rintro e w8 ⟨rfl, hk8⟩
            have Hk := Lib.hid (h7.keep0.trans hk8)
            clear h7
            go_wp2
            go_ret
            exact ⟨rfl, Hk.out⟩
end Go.Proofs.Ytkeefajfndmpeaa

