/-
  The reference's Stands and Of.
-/
import Derived.Test.YthjlfbeabobgmaaDReach
namespace Go.Proofs.Ythjlfbeabobgmaa
open Go Go.RowKit

open Classical in
noncomputable def dmB (N : Dom.Gr) (a b : Nat) : Bool := decide (Dom.Dm (Dom.Ed N) a b)
open Classical in
theorem dmB_iff {N : Dom.Gr} {a b : Nat} : dmB N a b = true ↔ Dom.Dm (Dom.Ed N) a b := by unfold dmB; exact decide_eq_true_iff
noncomputable def domRow (N : Dom.Gr) (a : Nat) : List Bool := (List.range N.length).map (dmB N a)
noncomputable def domTab (N : Dom.Gr) : List (List Bool) := (List.range N.length).map (domRow N)
theorem domTab_len (N : Dom.Gr) : (domTab N).length = N.length := by simp [domTab]
theorem domRow_len (N : Dom.Gr) (a : Nat) : (domRow N a).length = N.length := by simp [domRow]
theorem domRow_get {N : Dom.Gr} {a i : Nat} (h : i < (domRow N a).length) : (domRow N a)[i] = dmB N a i := by simp [domRow]
theorem ra_all {N : Dom.Gr} (hN : N ≠ []) {x : Nat} : Dom.RA (Dom.Ed N) N.length x ↔ Dom.R (Dom.Ed N) x := by
  refine ⟨fun h => h.reach, fun h => ?_⟩
  have h0 : 0 < N.length := List.length_pos_iff.2 hN
  induction h with
  | root => exact .root (by omega)
  | step h1 he ih => exact .step ih he (by have := he.2.1; omega)
theorem row_of {N : Dom.Gr} (hN : N ≠ []) {a : Nat} {al le r : List Bool} (h1 : ∀ x, al.getD x false = true ↔ Dom.RA (Dom.Ed N) N.length x) (h2 : ∀ x, le.getD x false = true ↔ Dom.RA (Dom.Ed N) a x)
    (hl : r.length = N.length) (hr : ∀ i (h : i < r.length), r[i] = (al.getD i false && !le.getD i false)) : r = domRow N a := by
  apply List.ext_getElem
  · rw [hl, domRow_len]
  · intro i h3 h4
    rw [hr i h3]
    rw [domRow_get]
    have e1 := h1 i
    have e2 := h2 i
    rw [ra_all hN] at e1
    cases ha : al.getD i false <;> cases hb : le.getD i false <;> rw [ha] at e1 <;> rw [hb] at e2 <;> symm
    · rw [show (false && !false) = false from rfl, ← Bool.not_eq_true, dmB_iff]; exact fun h => absurd (e1.2 h.1) (by decide)
    · rw [show (false && !true) = false from rfl, ← Bool.not_eq_true, dmB_iff]; exact fun h => absurd (e1.2 h.1) (by decide)
    · rw [show (true && !false) = true from rfl, dmB_iff]; exact ⟨e1.1 rfl, fun h => absurd (e2.2 h) (by decide)⟩
    · rw [show (true && !true) = false from rfl, ← Bool.not_eq_true, dmB_iff]; exact fun h => h.2 (e2.1 rfl)

theorem elRB : ElT Try.prog 37 36 1 24 (rowG (α := Bool)) where
  slice := Try.underlying37
  info := info_of (z := .slice none 0 0) (by kernel_rfl) rfl
  pos := by omega
  len := fun _ => rfl
  one := fun x u hu => by simp [rowG, RowG.v] at hu; subst hu; rfl
abbrev BRows := OutRows boolC 1 4 36

/-- What Stands leaves. -/
def StandsPost (N : Dom.Gr) (w : World) (e : Ending) (w' : World) : Prop := ∃ v, e = .returned v ∧ BRows w' w.heap.size v (domTab N) ∧ Keep w w'

set_option maxHeartbeats 2000000 in
set_option maxRecDepth 100000 in
theorem stands_calls (rs : List Row) (A : Option Addr) (c : Nat) (w : World) (hg : Graph w A rs) (hn : rs.length ≤ 100000) :
    Calls Try.prog 21 #[.slice A rs.length c] w (StandsPost (gr rs) w) := by
  have Hall := Lib.hid (reached_calls rs A c w hg hn (-1) rs.length (.inr ⟨rfl, rfl⟩))
  have Hless := Lib.hid (fun (wr : World) (hk : Keep w wr) (a : Nat) => reached_calls rs A c wr (hg.keep hk) hn (a : Int) a (.inl rfl))
  have Hlen := Lib.hid (gr_len rs)
  have Htl := Lib.hid (domTab_len (gr rs))
  clear hg
  go_enter Try.func21, Try.ntmps21
  go_wp2_with fail
  refine Hall.out.mono ?_
  rintro e w1 ⟨al, rfl, hal, hall, hals, hk1⟩
  have Hal := Lib.hid hal
  have Hall' := Lib.hid hall
  have Hals := Lib.hid hals
  have Hk1 := Lib.hid hk1
  have hlt := hal.lt
  clear hal hall hals hk1 Hall
  go_wp2_with fail
  go_loopw [4, 5] (fun v i wr => ∃ k : Nat, k ≤ rs.length ∧ i = .int .i64 (k : Int) ∧ BRows wr w1.heap.size v ((domTab (gr rs)).take k) ∧ Keep w1 wr) (fun _ i _ => rs.length - (intOf i).toNat)
  case atStart => exact ⟨0, Nat.zero_le _, rfl, OutRows.nil _ _ _ _ _ _, Keep.refl _⟩
  case round =>
    obtain ⟨k, hk, rfl, hout, hkeep⟩ := hrel
    obtain ⟨v4, rfl⟩ : ∃ v, v = u4 := ⟨_, rfl⟩
    have Hout := Lib.hid hout
    have Hkeep := Lib.hid hkeep
    clear hout hkeep
    by_cases hlk : k < rs.length
    · have hkk : (k : Int) < (rs.length : Int) := by omega
      go_wp2_with fail
      refine (Hless.out wr (Hk1.out.trans Hkeep.out) k).mono ?_
      rintro e w2 ⟨le, rfl, hle, hlel, hles, hk2⟩
      obtain ⟨w3, hmake, hrow, hk3⟩ := make_bools w2 rs.length (by omega)
      obtain ⟨bw, hbw⟩ : ∃ b, b = w2.heap.size := ⟨_, rfl⟩
      obtain ⟨bl, hbl⟩ : ∃ b, b = wr.heap.size := ⟨_, rfl⟩
      have hle3 := hle.keep hk3
      have hal3 := Hal.out.keep ((Hkeep.out.trans hk2).trans hk3)
      have hz2 : w2.heap.size ≤ bw := by omega
      rw [← hbw] at hmake hrow
      rw [← hbl] at hle3 ⊢
      have Hst := Lib.hid (show BBlk w3 bw 4 (List.replicate rs.length false) ∧ BBlk w3 bl 4 le ∧ BBlk w3 w.heap.size 4 al ∧ Keep w2 w3 from ⟨hrow, hle3, hal3, hk3⟩)
      have Hlel := Lib.hid hlel
      have Hles := Lib.hid hles
      have Hk2 := Lib.hid hk2
      have hne1 : bw ≠ bl := by have := hle.lt; rw [hbw, hbl]; omega
      have hne2 : bw ≠ w.heap.size := by have := (Hal.out.keep (Hkeep.out.trans hk2)).lt; rw [hbw]; omega
      have Hbw := Lib.hid hbw
      clear hle hlel hles hk2 hrow hk3 hle3 hal3 hbw hbl
      go_wp2_with (refine wpList_make_eq rfl _ _ _ rfl _ _ rfl rfl _ _ hmake ?_; clear hmake)
      go_loopw [8] (fun j wx => ∃ (m : Nat) (r : List Bool), m ≤ rs.length ∧ j = .int .i64 (m : Int) ∧ BBlk wx bw 4 r ∧ r.length = rs.length ∧ (∀ i (h : i < r.length), i < m → r[i] = (al.getD i false && !le.getD i false)) ∧ BBlk wx bl 4 le ∧ BBlk wx w.heap.size 4 al ∧ Keep w2 wx) (fun j _ => rs.length - (intOf j).toNat)
      case atStart => exact ⟨0, _, Nat.zero_le _, rfl, Hst.out.1, by simp, fun i _ h => absurd h (Nat.not_lt_zero _), Hst.out.2⟩
      case round =>
        clear Hst
        obtain ⟨m, r, hm, rfl, hr, hrl, hri, hle, hal, hkx⟩ := hrel
        by_cases hlm : m < rs.length
        · have hmm : (m : Int) < (rs.length : Int) := by omega
          have m0 : (0 : Int) ≤ (m : Int) := by omega
          have q1 := hal.get (k := m) (by rw [Hall'.out]; exact hlm)
          have q2 := hle.get (k := m) (by rw [Hlel.out]; exact hlm)
          have q3 := hr.get (k := m) (by rw [hrl]; exact hlm)
          have f3 := hr.frozen m
          have l1 := hal.lt
          have l2 := hle.lt
          have l3 := hr.lt
          have Hnew := Lib.hid (fun (y : Bool) (hy : y = (al.getD m false && !le.getD m false)) => show ∃ (m' : Nat) (r : List Bool), m' = m + 1 ∧ BBlk (wr.setCell ⟨bw, m, none⟩ (.bool y)) bw 4 r ∧ r.length = rs.length ∧ (∀ i (h : i < r.length), i < m' → r[i] = (al.getD i false && !le.getD i false)) ∧ BBlk (wr.setCell ⟨bw, m, none⟩ (.bool y)) bl 4 le ∧ BBlk (wr.setCell ⟨bw, m, none⟩ (.bool y)) w.heap.size 4 al ∧ Keep w2 (wr.setCell ⟨bw, m, none⟩ (.bool y)) from by
            refine ⟨m + 1, r.set m y, rfl, hr.put m y, by simpa using hrl, fun i hi hlt => ?_, hle.far (p := ⟨bw, m, none⟩) (fun e => hne1 e.symm) _, hal.far (p := ⟨bw, m, none⟩) (fun e => hne2 e.symm) _, hkx.setCell (p := ⟨bw, m, none⟩) (by rw [Hbw.out]; exact Nat.le_refl _) _⟩
            rw [List.getElem_set]
            by_cases e : m = i
            · subst e; rw [if_pos rfl, hy]
            · rw [if_neg e]; exact hri i (by simpa using hi) (by omega))
          have e1 : al.getD m false = al[m]'(by rw [Hall'.out]; exact hlm) := by rw [List.getD_eq_getElem?_getD, List.getElem?_eq_getElem (by rw [Hall'.out]; exact hlm)]; rfl
          have e2 : le.getD m false = le[m]'(by rw [Hlel.out]; exact hlm) := by rw [List.getD_eq_getElem?_getD, List.getElem?_eq_getElem (by rw [Hlel.out]; exact hlm)]; rfl
          rw [e1, e2] at Hnew
          obtain ⟨xa, hxa⟩ : ∃ x, x = al[m]'(by rw [Hall'.out]; exact hlm) := ⟨_, rfl⟩
          obtain ⟨xl, hxl⟩ : ∃ x, x = le[m]'(by rw [Hlel.out]; exact hlm) := ⟨_, rfl⟩
          obtain ⟨xr, hxr⟩ : ∃ x, x = r[m]'(by rw [hrl]; exact hlm) := ⟨_, rfl⟩
          rw [← hxa] at q1 Hnew
          rw [← hxl] at q2 Hnew
          rw [← hxr] at q3
          clear hr hrl hri hle hal hkx e1 e2 hxa hxl hxr
          have hne1' : bl ≠ bw := fun e => hne1 e.symm
          have hne2' : w.heap.size ≠ bw := fun e => hne2 e.symm
          cases xa <;> cases xl
          all_goals
            obtain ⟨m', r', hm', h1⟩ := Hnew.out _ rfl
            have H1 := Lib.hid h1
            have Hm' := Lib.hid hm'
            clear h1 hm' Hnew
            go_wp2_with fail
            go_roundw
            case rel => exact ⟨m', r', by rw [Hm'.out]; exact hlm, by rw [Hm'.out]; go_num, H1.out⟩
            case measure => simp [intOf] <;> omega
        · have hge : ¬ (m : Int) < (rs.length : Int) := by omega
          have hml : m = rs.length := by omega
          have hN : gr rs ≠ [] := fun e => by have := Hlen.out; rw [e] at this; simp at this; omega
          have hrow : r = domRow (gr rs) k := by
            have ha := Hals.out hN
            rw [← Hlen.out] at ha
            exact row_of hN ha (Hles.out hN) (by rw [hrl, Hlen.out]) (fun i hi => hri i hi (by omega))
          have hown : Own boolC 1 4 wr w1.heap.size (.slice (some ⟨bw, 0, none⟩) rs.length rs.length) (domRow (gr rs) k) := by
            rw [← hrow]
            have := hr.own (base := w1.heap.size) (by rw [Hbw.out]; have h2 := Hkeep.out.size; have h3 := Hk2.out.size; omega) (by unfold maxLen; omega)
            rw [hrl] at this; exact this
          have hout := Hout.out.keep (Hk2.out.trans hkx)
          have hxv : (⟨some ⟨bw, 0, none⟩, domRow (gr rs) k, rs.length⟩ : RowG Bool).v = .slice (some ⟨bw, 0, none⟩) rs.length rs.length := by unfold RowG.v; rw [domRow_len, Hlen.out]
          obtain ⟨v', w6, hrun, hout2, hE⟩ := OutRows.push elRB (by decide) hout ⟨some ⟨bw, 0, none⟩, domRow (gr rs) k, rs.length⟩ (by rw [hxv]; exact hown) (by simp; omega) (by omega) ((Hkeep.out.trans Hk2.out).trans hkx).size 37
          rw [hxv] at hrun
          have hlk' : ((domTab (gr rs)).take k).length = k := by rw [List.length_take, Htl.out, Hlen.out]; omega
          have Hn := Lib.hid (show (domTab (gr rs)).take (k + 1) = (domTab (gr rs)).take k ++ [domRow (gr rs) k] by
            rw [take_snoc _ (by rw [Htl.out, Hlen.out]; exact hlk)]; simp [domTab])
          have Hout2 := Lib.hid hout2
          have Hk6 := Lib.hid (Keep.of_ext ((Hkeep.out.trans Hk2.out).trans hkx) hE (fun i hi h => by omega))
          obtain ⟨B, d, hvf, _⟩ := hout.form
          rw [hlk'] at hvf
          subst hvf
          clear hr hrl hri hle hal hkx hrow hown hout hout2 hxv hE hlk' hml
          go_wp2_with (at_builtin; refine wpList_append_eq rfl _ _ _ rfl _ _ rfl rfl _ _ hrun ?_; clear hrun)
          go_roundw
          case rel => exact ⟨k + 1, hlk, by go_num, by rw [Hn.out]; exact Hout2.out, Hk6.out⟩
          case measure => simp [intOf] <;> omega
    · have hge : ¬ (k : Int) < (rs.length : Int) := by omega
      have Hr := Lib.hid (show StandsPost (gr rs) w (.returned v4) wr from ⟨v4, rfl, by
        have := Hout.out
        rw [List.take_of_length_le (by rw [Htl.out, Hlen.out]; omega)] at this; exact this.mono Hk1.out.size, Hk1.out.trans Hkeep.out⟩)
      go_wp2_with fail
      go_ret
      exact Hr.out
end Go.Proofs.Ythjlfbeabobgmaa
