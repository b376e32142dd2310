/-
  Placing one.
-/
import Derived.Test.YtigidchignlpmaaRScan3
import Derived.Test.YtigidchignlpmaaRSound
import Derived.WalkMore
import Derived.ScopeJumps
namespace Go.Proofs.Ytigidchignlpmaa
open Go Go.RowKit Rg

theorem idx_none {l : List (Option Nat)} {j : Nat} (h : l[j]? = some none) (hn : none ∉ l.take j) : l.idxOf none = j := by
  induction l generalizing j with
  | nil => simp at h
  | cons a l ih =>
    cases j with
    | zero => simp at h; subst h; simp
    | succ j =>
      simp only [List.take_succ_cons, List.mem_cons, not_or] at hn
      have ha : (a == none) = false := by rw [beq_eq_false_iff_ne]; exact Ne.symm hn.1
      rw [List.idxOf_cons, ha]
      have := ih (j := j) (by simpa using h) hn.2
      simp [this]
theorem idx_set {l : List (Option Nat)} {r : Nat} (hn : none ∉ l) (hr : r < l.length) : (l.set r none).idxOf none = r :=
  idx_none (by simp [hr]) (fun h => by
    rw [List.take_set_of_le (Nat.le_refl _)] at h
    exact hn (List.mem_of_mem_take h))
theorem lastL_succ (E : Nat → Int) (x : Nat) {held : List (Option Nat)} {j y : Nat} (h : held[j]? = some (some y)) :
    lastL E x (held.take (j + 1)) = if later E (lastL E x (held.take j)).1 y then (y, some j) else lastL E x (held.take j) := by
  have hj := (List.getElem?_eq_some_iff.1 h).1
  have hl : (held.take j).length = j := by simp; omega
  unfold lastL
  rw [List.take_add_one, h, List.zipIdx_append, List.foldl_append]
  simp [hl]
theorem lastL_lt {E : Nat → Int} {x n : Nat} {held : List (Option Nat)} (h : ∀ y, some y ∈ held → y < n) (hx : x < n) : (lastL E x held).1 < n := by
  rcases lastL_spec E x held with ⟨_, h2⟩ | ⟨r, _, h2⟩
  · rw [h2]; exact hx
  · exact h _ (List.mem_of_getElem? h2)
theorem SX.AtV.mono {X : SX} {s : Sc} {m m' : Nat} {ov : Value} {w : World} (h : X.AtV s m ov w) (hm : m ≤ m' := by omega) : X.AtV s m' ov w := { h with lo := Nat.le_trans h.lo hm, ls := by have := h.ls; omega }

theorem ex_tmps {T : Array Value} {f : (Nat → Value) → Array Value} (h : f (fun i => T.getD i (.int .i64 0)) = T) : ∃ u, ({ tmps := T, defers := [] } : Act) = { tmps := f u, defers := [] } := ⟨_, by rw [h]⟩
theorem place_some {B E : Nat → Int} {s0 : Nat} {s : Sc} {x r : Nat} (hn : none ∉ s.held) (h : (lastL E x s.held).2 = some r) :
    s.place B E s0 x = ({ s.spill B E s0 (lastL E x s.held).1 with held := s.held.set r none } : Sc).have_ r x := by
  unfold Sc.place
  rw [if_neg hn, h]
  show (s.spill B E s0 (lastL E x s.held).1).have_ r x = _
  unfold Sc.have_
  have e : (s.held.set r none).set r (some x) = s.held.set r (some x) := List.set_set ..
  simp only [e]
  rfl

set_option maxHeartbeats 8000000 in
set_option maxRecDepth 100000 in
theorem place_calls (X : SX) (hX : X.Ok) (s : Sc) (m x : Nat) (w : World) (h : X.At s m w) (hx : x < X.ls.length) (hm : m ≤ 60) (hnx : some x ∉ s.held) :
    Calls Try.prog 30 #[.pointer (some ⟨X.q, 0, none⟩), .int .i64 (x : Int)] w fun e w' => (∃ v, e = .returned v) ∧ X.At (s.place X.B X.E X.s0 x) (m + 1) w' := by
  obtain ⟨ov, h⟩ := h
  have k16 := hX.k16
  have n60 := hX.n60
  go_enter Try.func30, Try.ntmps30
  refine wp_scope_jumps 0 (fun a' w' => ∃ r, (lastL X.E x s.held).2 = some r ∧ X.At { s.spill X.B X.E X.s0 (lastL X.E x s.held).1 with held := s.held.set r none } (m + 1) w' ∧ none ∉ s.held ∧ r < s.held.length ∧ ∃ u : Nat → Value, a' = { tmps := #[.pointer (some ⟨X.q, 0, none⟩), .int .i64 (x : Int), u 2, u 3, .bool true, u 5, u 6, u 7, u 8, u 9, u 10, u 11, u 12, u 13, u 14, u 15, u 16, u 17, u 18, u 19, u 20, u 21, u 22, u 23, u 24, u 25, u 26, u 27, u 28, u 29, u 30, u 31, u 32, u 33, u 34, u 35, u 36, u 37, u 38, u 39, u 40, u 41, u 42, u 43, u 44, u 45, u 46, u 47, u 48, u 49, u 50, u 51, u 52, u 53, u 54, u 55, u 56, u 57, u 58, u 59, u 60, u 61, u 62, u 63, u 64, u 65, u 66, u 67, u 68, u 69, u 70, u 71, u 72, u 73, u 74, u 75, u 76, u 77, u 78, u 79, u 80, u 81, u 82, u 83, u 84, u 85, u 86, u 87, u 88, u 89, u 90, u 91, u 92, u 93, u 94, u 95, u 96, u 97], defers := [] }) (fun _ _ => 0) rfl ?_ ?_
  · have q1 : w.cell? ⟨X.q, 1, none⟩ = some (.slice (some ⟨X.hb, 0, none⟩) X.k X.k) := h.bq.cell 1
    have lq := h.bq.lt
    have hat := h
    clear h
    go_wp2_with fail
    go_step3
    go_wp2
    go_loopw [18] (fun i wr => ∃ j : Nat, j ≤ X.k ∧ i = .int .i64 j ∧ Hid (none ∉ (s.held).take j) ∧ X.AtV s m ov wr) (fun i _ => X.k - (intOf i).toNat)
    case atStart => exact ⟨0, Nat.zero_le _, rfl, Lib.hid (by simp), hat⟩
    case round =>
      clear hat q1 lq
      obtain ⟨j, hj, rfl, hnone, hat⟩ := hrel
      by_cases hjk : j < X.k
      · obtain ⟨o, ho⟩ := get_some (l := s.held) (k := j) (by have : (s.held).length = X.k := hat.lh; omega)
        have hc := hat.held ho
        have hjj : (j : Int) < (X.k : Int) := by omega
        have hj0 : (0 : Int) ≤ (j : Int) := by omega
        have lh := hat.bh.lt
        cases o with
        | none =>
          have q1 : wr.cell? ⟨X.q, 1, none⟩ = some (.slice (some ⟨X.hb, 0, none⟩) X.k X.k) := hat.bq.cell 1
          have lq := hat.bq.lt
          have fh := hat.bh.frozen j
          have hat1 := hat.setHeld hX j (some x) (fun y hy => by cases hy; exact hx)
          obtain ⟨p, hp⟩ := get_some (l := s.pl) (k := x) (by rw [hat.lp]; exact hx)
          obtain ⟨p0, p1⟩ := hat1.place hp
          replace p0 : (wr.setCell ⟨X.hb, j, none⟩ (.int .i64 (x : Int))).cell? ⟨X.gb, x * 2, none⟩ = some (.bool p.1) := p0
          have fg := hat1.bg.frozen (x * 2)
          have fg1 := (hat1.bg.set_ (x * 2) (.bool false)).frozen (x * 2 + 1)
          replace fg : (wr.setCell ⟨X.hb, j, none⟩ (.int .i64 (x : Int))).frozen? ⟨X.gb, x * 2, none⟩ = false := fg
          replace fg1 : ((wr.setCell ⟨X.hb, j, none⟩ (.int .i64 (x : Int))).setCell ⟨X.gb, x * 2, none⟩ (.bool false)).frozen? ⟨X.gb, x * 2 + 1, none⟩ = false := fg1
          have p1' : ((wr.setCell ⟨X.hb, j, none⟩ (.int .i64 (x : Int))).setCell ⟨X.gb, x * 2, none⟩ (.bool false)).cell? ⟨X.gb, x * 2 + 1, none⟩ = some (.int .i64 (p.2 : Int)) := by
            have := (hat1.bg.set_ (x * 2) (.bool false)).cell (x * 2 + 1)
            rw [List.getElem?_set_ne (by omega), ← hat1.bg.cell] at this
            exact this.trans p1
          have q2 : (wr.setCell ⟨X.hb, j, none⟩ (.int .i64 (x : Int))).cell? ⟨X.q, 2, none⟩ = some (.slice (some ⟨X.gb, 0, none⟩) X.ls.length X.ls.length) := hat1.bq.cell 2
          have lq1 : X.q < (wr.setCell ⟨X.hb, j, none⟩ (.int .i64 (x : Int))).heap.size := hat1.bq.lt
          have lg1 : X.gb < (wr.setCell ⟨X.hb, j, none⟩ (.int .i64 (x : Int))).heap.size := hat1.bg.lt
          have lg2 : X.gb < ((wr.setCell ⟨X.hb, j, none⟩ (.int .i64 (x : Int))).setCell ⟨X.gb, x * 2, none⟩ (.bool false)).heap.size := (hat1.bg.set_ (x * 2) (.bool false)).lt
          have Hfin := Lib.hid (show X.At (s.place X.B X.E X.s0 x) (m + 1) (((wr.setCell ⟨X.hb, j, none⟩ (.int .i64 (x : Int))).setCell ⟨X.gb, x * 2, none⟩ (.bool false)).setCell ⟨X.gb, x * 2 + 1, none⟩ (.int .i64 (j : Int))) from ⟨ov, by
            have h9 := hat1.setPl hX x (false, j)
            have hidx := idx_none ho hnone.out
            unfold Sc.place
            rw [if_pos (List.mem_of_getElem? ho), hidx]
            exact (show X.AtV (s.have_ j x) m ov _ from h9).mono⟩)
          have hxx : (x : Int) < (X.ls.length : Int) := by omega
          have hx0 : (0 : Int) ≤ (x : Int) := by omega
          unfold optC at hc
          clear hat hat1 ho hp p1 hnone
          go_wp2
          simp only [Exit.jump]
          refine bodyPost_ret (results_none rfl _ _ _) rfl ⟨⟨_, rfl⟩, Hfin.out⟩
        | some y =>
          have hyn : ¬ (y : Int) = -1 := by omega
          have hyb : ((y : Int) == -1) = false := by rw [beq_eq_false_iff_ne]; exact hyn
          have Hn := Lib.hid (show none ∉ (s.held).take (j + 1) by
            rw [List.take_add_one, ho]
            simp only [Option.toList_some, List.mem_append, List.mem_singleton, not_or]
            exact ⟨hnone.out, by simp⟩)
          unfold optC at hc
          clear ho hnone
          go_wp2
          go_roundw
          case rel => exact ⟨j + 1, hjk, by go_num, Hn, hat⟩
          case measure => simp [intOf]; omega
      · have hnn := Lib.hid (show none ∉ s.held by
          have := hnone.out
          rwa [List.take_of_length_le (by have : (s.held).length = X.k := hat.lh; omega)] at this)
        clear hnone
        have hat0 := Lib.hid hat
        have q1 : wr.cell? ⟨X.q, 1, none⟩ = some (.slice (some ⟨X.hb, 0, none⟩) X.k X.k) := hat.bq.cell 1
        have lq := hat.bq.lt
        go_wp2
        go_loopw [7, 8, 49] (fun vl vf vi wz => ∃ j : Nat, j ≤ X.k ∧ vi = .int .i64 j ∧ vl = .int .i64 ((lastL X.E x (s.held.take j)).1 : Int) ∧ vf = optC (lastL X.E x (s.held.take j)).2 ∧ Keep wr wz) (fun _ _ i _ => X.k - (intOf i).toNat)
        case atStart => exact ⟨0, Nat.zero_le _, rfl, rfl, rfl, Keep.refl _⟩
        case round =>
          clear q1 lq hat
          obtain ⟨j, hj, rfl, rfl, rfl, hkz⟩ := hrel
          have hat := hat0.out.keepy hX hkz
          obtain ⟨lst, hlst⟩ : ∃ lst, lastL X.E x (s.held.take j) = lst := ⟨_, rfl⟩
          rw [hlst]
          by_cases hjk : j < X.k
          · obtain ⟨o, ho⟩ := get_some (l := s.held) (k := j) (by have := hat.lh; omega)
            have hc := hat.held ho
            have hjj : (j : Int) < (X.k : Int) := by omega
            have hj0 : (0 : Int) ≤ (j : Int) := by omega
            have lh := hat.bh.lt
            cases o with
            | none => exact (hnn.out (List.mem_of_getElem? ho)).elim
            | some y =>
              unfold optC at hc
              have hy : y < X.ls.length := hat.hh y (List.mem_of_getElem? ho)
              have hz : lst.1 < X.ls.length := by
                rw [← hlst]
                exact lastL_lt (fun y hy => hat.hh y (List.mem_of_mem_take hy)) hx
              obtain ⟨yl, hyl⟩ := get_some hy
              obtain ⟨zl, hzl⟩ := get_some hz
              obtain ⟨b1, off1, hA, hb1, y0, y1, yok⟩ := hX.lives.get hat.keep hyl
              obtain ⟨b2, off2, e2, _, z0, z1, zok⟩ := hX.lives.get hat.keep hzl
              rw [hA] at e2
              cases e2
              have hb := Nat.lt_of_lt_of_le hb1 hat.keep.size
              have q0 : wr.cell? ⟨X.q, 0, none⟩ = some (.slice X.A X.ls.length X.c) := hat.bq.cell 0
              rw [hA] at q0
              have lq := hat.bq.lt
              have hyy : (y : Int) < (X.ls.length : Int) := by omega
              have hy0 : (0 : Int) ≤ (y : Int) := by omega
              have hzz : (lst.1 : Int) < (X.ls.length : Int) := by omega
              have hz0 : (0 : Int) ≤ (lst.1 : Int) := by omega
              have Hy := Lib.hid (fun (wz : World) (hk : Keep wr wz) => end_calls yl.val yl.a yl.l yl.c wz (yok.keep hk).seg (hX.ne yl (List.mem_of_getElem? hyl)) yok.len)
              have Hz := Lib.hid (fun (wz : World) (hk : Keep wr wz) => end_calls zl.val zl.a zl.l zl.c wz (zok.keep hk).seg (hX.ne zl (List.mem_of_getElem? hzl)) zok.len)
              have Hs := Lib.hid (show lastL X.E x (s.held.take (j + 1)) = if decide (fin zl.l < fin yl.l) || (decide (fin yl.l = fin zl.l) && decide (lst.1 < y)) then (y, some j) else lst by
                rw [lastL_succ X.E x ho, hlst]
                unfold later
                simp only [SX.E, EL_get hyl, EL_get hzl])
              have ky0 := fun y : KW wr => y.cell y0
              have ky1 := fun y : KW wr => y.cell y1
              have kz0 := fun y : KW wr => y.cell z0
              have kz1 := fun y : KW wr => y.cell z1
              have kq0 := fun y : KW wr => y.cell q0
              have hd : Keep wr wr.drew := (Keep.refl _).drew
              obtain ⟨ey, hey⟩ : ∃ ey, fin yl.l = ey := ⟨_, rfl⟩
              obtain ⟨ez, hez⟩ : ∃ ez, fin zl.l = ez := ⟨_, rfl⟩
              rw [hey] at Hy Hs
              rw [hez] at Hz Hs
              have Hlst := Lib.hid hlst
              clear hey hez yok zok hat ho hyl hzl hlst hnn
              go_wp2_with fail
              refine region_begin (S := fun w' => ∃ y : KW wr, w' = y.val) (by kernel_rfl) ?_
              refine region_take [0, 1, 2, 3, 4, 5, 6, 8, 9, 10, 11, 12, 13, 14] [] 4 (by kernel_rfl) (by kernel_rfl) (InK.mk' hd) ?_
              show wpQuiet _ _ _ _ [_, _, _, _, _, _, _, _, _, _, _, _, _, _] _
              repeat (go_big_quiet_step (fail))
              refine wpQuiet_nil ?_
              refine region_fix (i := 7) (fuel := 3) rfl (by kernel_rfl) (fun K hK => ?_)
              go_simp
              refine (Hy.out _ hd).mono ?_
              rintro e w1 ⟨rfl, k1'⟩
              have k1 := hd.trans k1'
              refine hK _ _ (InK.mk' k1) ?_
              clear hK K
              refine region_fix (i := 15) (fuel := 2) rfl (by kernel_rfl) (fun K hK => ?_)
              go_simp
              refine (Hz.out _ k1).mono ?_
              rintro e w2 ⟨rfl, k2'⟩
              have k2 := k1.trans k2'
              refine hK _ _ (InK.mk' k2) ?_
              clear hK K
              refine region_take [16, 17] [0, 1, 2, 3, 4, 5, 6, 8, 9, 10, 11, 12, 13, 14, 7, 15] 0 (by kernel_rfl) (by kernel_rfl) (InK.mk' k2) ?_
              show wpQuiet _ _ _ _ [_, _] _
              repeat (go_big_quiet_step (fail))
              refine wpQuiet_nil ?_
              refine region_done (by kernel_rfl) ?_
              clear Hy Hz ky0 ky1 kz0 kz1 kq0 q0 y0 y1 z0 z1
              by_cases g1 : ez < ey
              · have Hr := Lib.hid (show lastL X.E x (s.held.take (j + 1)) = (y, some j) by rw [Hs.out, decide_eq_true g1]; rfl)
                clear Hs
                go_wp2
                go_roundw
                case rel => exact ⟨j + 1, hjk, by go_num, by rw [Hr.out], by rw [Hr.out]; rfl, hkz.trans k2⟩
                case measure => simp [intOf]; omega
              · by_cases g2 : ey = ez
                · by_cases g3 : lst.1 < y
                  · have Hr := Lib.hid (show lastL X.E x (s.held.take (j + 1)) = (y, some j) by rw [Hs.out, decide_eq_true g2, decide_eq_true g3]; simp)
                    have g3z : (lst.1 : Int) < (y : Int) := by omega
                    subst g2
                    clear Hs
                    go_wp2
                    go_roundw
                    case rel => exact ⟨j + 1, hjk, by go_num, by rw [Hr.out], by rw [Hr.out]; rfl, hkz.trans k2⟩
                    case measure => simp [intOf]; omega
                  · have Hr := Lib.hid (show lastL X.E x (s.held.take (j + 1)) = lst by rw [Hs.out, decide_eq_false g1, decide_eq_false g3]; simp)
                    have g3z : ¬ (lst.1 : Int) < (y : Int) := by omega
                    subst g2
                    clear Hs
                    go_wp2
                    go_roundw
                    case rel => exact ⟨j + 1, hjk, by go_num, by rw [Hr.out], by rw [Hr.out], hkz.trans k2⟩
                    case measure => simp [intOf]; omega
                · have Hr := Lib.hid (show lastL X.E x (s.held.take (j + 1)) = lst by rw [Hs.out, decide_eq_false g1, decide_eq_false g2]; simp)
                  have g2b : (ey == ez) = false := by rw [beq_eq_false_iff_ne]; exact g2
                  clear Hs
                  go_wp2
                  go_roundw
                  case rel => exact ⟨j + 1, hjk, by go_num, by rw [Hr.out], by rw [Hr.out], hkz.trans k2⟩
                  case measure => simp [intOf]; omega
          · have hlst' : lastL X.E x s.held = lst := by
              rw [← hlst, List.take_of_length_le (by have := hat.lh; omega)]
            have hz : lst.1 < X.ls.length := by
              rw [← hlst']
              exact lastL_lt (fun y hy => hat.hh y hy) hx
            have Hsp := Lib.hid (spill_calls X hX s m lst.1 wr ⟨ov, hat⟩ hz hm)
            have Hlen := Lib.hid hat.lh
            have Hlst := Lib.hid hlst'
            clear hat hlst hlst' hat0
            go_wp2_with fail
            refine Hsp.out.mono ?_
            rintro e w1 ⟨⟨u, rfl⟩, hsp⟩
            have Hspec := Lib.hid (lastL_spec X.E x s.held)
            rw [Hlst.out] at Hspec
            cases hl2 : lst.2 with
            | none =>
              have e1 : lst.1 = x := by
                rcases Hspec.out with h | ⟨r, h, _⟩
                · exact h.2
                · rw [hl2] at h; cases h
              have Hfin := Lib.hid (show X.At (s.place X.B X.E X.s0 x) (m + 1) w1 by
                unfold Sc.place
                rw [if_neg hnn.out, Hlst.out, hl2]
                rw [e1] at hsp
                exact hsp)
              have hb1 : ((lst.1 : Int) != (x : Int)) = false := by rw [e1]; simp
              have hb2 : (lst.1 : Int) = (x : Int) := by rw [e1]
              clear hsp Hspec Hlst hnn Hsp
              rw [e1] at *
              go_wp2
              simp only [Exit.jump]
              refine bodyPost_end (results_none rfl _ _ _) rfl ⟨⟨_, rfl⟩, Hfin.out⟩
            | some r =>
              have hr : s.held[r]? = some (some lst.1) := by
                rcases Hspec.out with h | ⟨r', h, h'⟩
                · rw [hl2] at h; cases h.1
                · rw [hl2] at h; cases h; exact h'
              have e1 : lst.1 ≠ x := fun e => hnx (by rw [← e]; exact List.mem_of_getElem? hr)
              obtain ⟨ov1, hsp⟩ := hsp
              have hrk : r < X.k := by rw [← Hlen.out]; exact (List.getElem?_eq_some_iff.1 hr).1
              have hb1 : ((lst.1 : Int) != (x : Int)) = true := by rw [bne_iff_ne]; omega
              have hb2 : ¬ (lst.1 : Int) = (x : Int) := by omega
              have hr0 : (0 : Int) ≤ (r : Int) := by omega
              have hrr : (r : Int) < (X.k : Int) := by omega
              have q1 : w1.cell? ⟨X.q, 1, none⟩ = some (.slice (some ⟨X.hb, 0, none⟩) X.k X.k) := hsp.bq.cell 1
              have lq := hsp.bq.lt
              have hc : w1.cell? ⟨X.hb, r, none⟩ = some (optC (some lst.1)) := hsp.held hr
              unfold optC at hc
              have lh := hsp.bh.lt
              have fh := hsp.bh.frozen r
              have Hs2 := Lib.hid (hsp.setHeld hX r none (fun y hy => by cases hy))
              have eo : optC (some r) = .int .i64 (r : Int) := rfl
              rw [eo]
              clear hsp Hspec Hsp hr eo
              go_wp2_with fail
              go_step3
              refine ⟨rfl, r, by rw [Hlst.out]; exact hl2, ⟨ov1, by rw [Hlst.out]; exact Hs2.out⟩, hnn.out, by rw [Hlen.out]; exact hrk, ex_tmps rfl⟩
  · rintro a' w' ⟨r, hl2, ⟨ov, hat⟩, hnn, hrk, u, rfl⟩
    have Hpl := Lib.hid (place_some (B := X.B) (E := X.E) (s0 := X.s0) (x := x) hnn hl2)
    have Hidx := Lib.hid (show ({ s.spill X.B X.E X.s0 (lastL X.E x s.held).1 with held := s.held.set r none } : Sc).held.idxOf none = r from idx_set hnn hrk)
    have Hmem := Lib.hid (show none ∈ ({ s.spill X.B X.E X.s0 (lastL X.E x s.held).1 with held := s.held.set r none } : Sc).held from List.mem_set hrk _)
    obtain ⟨st, hst⟩ : ∃ st : Sc, { s.spill X.B X.E X.s0 (lastL X.E x s.held).1 with held := s.held.set r none } = st := ⟨_, rfl⟩
    rw [hst] at hat Hpl Hidx Hmem
    clear hst hnn hl2 hrk hnx h
    have q1 : w'.cell? ⟨X.q, 1, none⟩ = some (.slice (some ⟨X.hb, 0, none⟩) X.k X.k) := hat.bq.cell 1
    have lq := hat.bq.lt
    go_wp2
    go_loopw [18] (fun i wr => ∃ j : Nat, j ≤ X.k ∧ i = .int .i64 j ∧ Hid (none ∉ (st.held).take j) ∧ X.AtV st (m + 1) ov wr) (fun i _ => X.k - (intOf i).toNat)
    case atStart => exact ⟨0, Nat.zero_le _, rfl, Lib.hid (by simp), hat⟩
    case round =>
      clear hat q1 lq
      obtain ⟨j, hj, rfl, hnone, hat⟩ := hrel
      by_cases hjk : j < X.k
      · obtain ⟨o, ho⟩ := get_some (l := st.held) (k := j) (by have : (st.held).length = X.k := hat.lh; omega)
        have hc := hat.held ho
        have hjj : (j : Int) < (X.k : Int) := by omega
        have hj0 : (0 : Int) ≤ (j : Int) := by omega
        have lh := hat.bh.lt
        cases o with
        | none =>
          have q1 : wr.cell? ⟨X.q, 1, none⟩ = some (.slice (some ⟨X.hb, 0, none⟩) X.k X.k) := hat.bq.cell 1
          have lq := hat.bq.lt
          have fh := hat.bh.frozen j
          have hat1 := hat.setHeld hX j (some x) (fun y hy => by cases hy; exact hx)
          obtain ⟨p, hp⟩ := get_some (l := st.pl) (k := x) (by rw [hat.lp]; exact hx)
          obtain ⟨p0, p1⟩ := hat1.place hp
          replace p0 : (wr.setCell ⟨X.hb, j, none⟩ (.int .i64 (x : Int))).cell? ⟨X.gb, x * 2, none⟩ = some (.bool p.1) := p0
          have fg := hat1.bg.frozen (x * 2)
          have fg1 := (hat1.bg.set_ (x * 2) (.bool false)).frozen (x * 2 + 1)
          replace fg : (wr.setCell ⟨X.hb, j, none⟩ (.int .i64 (x : Int))).frozen? ⟨X.gb, x * 2, none⟩ = false := fg
          replace fg1 : ((wr.setCell ⟨X.hb, j, none⟩ (.int .i64 (x : Int))).setCell ⟨X.gb, x * 2, none⟩ (.bool false)).frozen? ⟨X.gb, x * 2 + 1, none⟩ = false := fg1
          have p1' : ((wr.setCell ⟨X.hb, j, none⟩ (.int .i64 (x : Int))).setCell ⟨X.gb, x * 2, none⟩ (.bool false)).cell? ⟨X.gb, x * 2 + 1, none⟩ = some (.int .i64 (p.2 : Int)) := by
            have := (hat1.bg.set_ (x * 2) (.bool false)).cell (x * 2 + 1)
            rw [List.getElem?_set_ne (by omega), ← hat1.bg.cell] at this
            exact this.trans p1
          have q2 : (wr.setCell ⟨X.hb, j, none⟩ (.int .i64 (x : Int))).cell? ⟨X.q, 2, none⟩ = some (.slice (some ⟨X.gb, 0, none⟩) X.ls.length X.ls.length) := hat1.bq.cell 2
          have lq1 : X.q < (wr.setCell ⟨X.hb, j, none⟩ (.int .i64 (x : Int))).heap.size := hat1.bq.lt
          have lg1 : X.gb < (wr.setCell ⟨X.hb, j, none⟩ (.int .i64 (x : Int))).heap.size := hat1.bg.lt
          have lg2 : X.gb < ((wr.setCell ⟨X.hb, j, none⟩ (.int .i64 (x : Int))).setCell ⟨X.gb, x * 2, none⟩ (.bool false)).heap.size := (hat1.bg.set_ (x * 2) (.bool false)).lt
          have Hfin := Lib.hid (show X.At (s.place X.B X.E X.s0 x) (m + 1) (((wr.setCell ⟨X.hb, j, none⟩ (.int .i64 (x : Int))).setCell ⟨X.gb, x * 2, none⟩ (.bool false)).setCell ⟨X.gb, x * 2 + 1, none⟩ (.int .i64 (j : Int))) from ⟨ov, by
            have h9 := hat1.setPl hX x (false, j)
            have hidx := idx_none ho hnone.out
            rw [Hpl.out]
            have e1 : r = j := by rw [← Hidx.out]; exact hidx
            rw [e1]
            exact (show X.AtV (st.have_ j x) (m + 1) ov _ from h9)⟩)
          have hxx : (x : Int) < (X.ls.length : Int) := by omega
          have hx0 : (0 : Int) ≤ (x : Int) := by omega
          unfold optC at hc
          clear hat hat1 ho hp p1 hnone
          go_wp2
          simp only [Exit.jump]
          refine bodyPost_ret (results_none rfl _ _ _) rfl ⟨⟨_, rfl⟩, Hfin.out⟩
        | some y =>
          have hyn : ¬ (y : Int) = -1 := by omega
          have hyb : ((y : Int) == -1) = false := by rw [beq_eq_false_iff_ne]; exact hyn
          have Hn := Lib.hid (show none ∉ (st.held).take (j + 1) by
            rw [List.take_add_one, ho]
            simp only [Option.toList_some, List.mem_append, List.mem_singleton, not_or]
            exact ⟨hnone.out, by simp⟩)
          unfold optC at hc
          clear ho hnone
          go_wp2
          go_roundw
          case rel => exact ⟨j + 1, hjk, by go_num, Hn, hat⟩
          case measure => simp [intOf]; omega
      · have hnn := Lib.hid (show none ∉ st.held by
          have := hnone.out
          rwa [List.take_of_length_le (by have : (st.held).length = X.k := hat.lh; omega)] at this)
        clear hnone
        exact (hnn.out Hmem.out).elim
end Go.Proofs.Ytigidchignlpmaa
