/-
  Loops, the program's and the reference's.
-/
import Derived.Test.YthjlfbeabobgmaaDOf
import Derived.Test.YthjlfbeabobgmaaDOver
import Derived.Test.YthjlfbeabobgmaaDRefOf
namespace Go.Proofs.Ythjlfbeabobgmaa
open Go Go.RowKit

noncomputable def backB (N : Dom.Gr) (a : Nat) (t : Int) : Bool := decide (0 ≤ t) && decide (t < N.length) && dmB N t.toNat a
theorem backB_iff {N : Dom.Gr} {a : Nat} {t : Int} : backB N a t = true ↔ 0 ≤ t ∧ t < N.length ∧ Dom.Dm (Dom.Ed N) t.toNat a := by
  unfold backB
  rw [Bool.and_eq_true, Bool.and_eq_true, dmB_iff, decide_eq_true_iff, decide_eq_true_iff, and_assoc]
noncomputable def backs (N : Dom.Gr) (a : Nat) (l : List Int) : List (Nat × Nat) := (l.filter (backB N a)).map (fun t => (a, t.toNat))
noncomputable def loopsTo (N : Dom.Gr) (k : Nat) : List (Nat × Nat) := (List.range k).flatMap (fun x => backs N x (N.getD x []))
theorem backs_nil (N : Dom.Gr) (a : Nat) : backs N a [] = [] := rfl
theorem backs_snoc (N : Dom.Gr) (a : Nat) (l : List Int) (t : Int) : backs N a (l ++ [t]) = if backB N a t = true then backs N a l ++ [(a, t.toNat)] else backs N a l := by
  unfold backs
  rw [List.filter_append, List.map_append]
  by_cases h : backB N a t = true
  · rw [if_pos h]; simp [h]
  · rw [if_neg h]; simp [h]
theorem backs_dead {N : Dom.Gr} {a : Nat} (h : ¬ Dom.R (Dom.Ed N) a) (l : List Int) : backs N a l = [] := by
  unfold backs
  rw [List.filter_eq_nil_iff.2 (fun t _ ht => h (backB_iff.1 ht).2.2.1)]; rfl
theorem backs_le (N : Dom.Gr) (a : Nat) (l : List Int) : (backs N a l).length ≤ l.length := by
  unfold backs; rw [List.length_map]; exact List.length_filter_le _ _
theorem loopsTo_succ (N : Dom.Gr) (k : Nat) : loopsTo N (k + 1) = loopsTo N k ++ backs N k (N.getD k []) := by
  unfold loopsTo; rw [List.range_succ, List.flatMap_append]; simp
theorem loopsTo_le {N : Dom.Gr} {m : Nat} (h : ∀ x, (N.getD x []).length ≤ m) : ∀ k, (loopsTo N k).length ≤ k * m
  | 0 => by simp [loopsTo]
  | k + 1 => by
    rw [loopsTo_succ, List.length_append, Nat.add_mul, Nat.one_mul]
    have := loopsTo_le h k
    have := backs_le N k (N.getD k [])
    have := h k
    omega
theorem over_back {N : Dom.Gr} {I : List Int} (h : Dom.Idom N I) (hN : N ≠ []) {a : Nat} (ha : Dom.R (Dom.Ed N) a) (t : Int) : Dom.overF I t a = backB N a t := by
  rw [Bool.eq_iff_iff, Dom.over_dm h hN ha, backB_iff]
  constructor
  · rintro ⟨dn, rfl, hd⟩
    have := ((h.total hN hd hd).1).lt hN
    exact ⟨by omega, by omega, by simpa using hd⟩
  · rintro ⟨h1, h2, h3⟩
    exact ⟨t.toNat, by omega, h3⟩

def pairC (p : Nat × Nat) : List Value := [.int .i64 (p.1 : Int), .int .i64 (p.2 : Int)]
theorem elP : ElT Try.prog 25 27 2 16 pairC where
  slice := Try.underlying25
  info := info_of (z := .agg #[.int .i64 0, .int .i64 0]) (by kernel_rfl) rfl
  pos := by omega
  len := fun _ => rfl
  one := fun x u hu => by simp [pairC] at hu; rcases hu with rfl | rfl <;> rfl

/-- What Loops leaves. -/
def LoopsPost (N : Dom.Gr) (w : World) (e : Ending) (w' : World) : Prop := ∃ v, e = .returned v ∧ Own pairC 2 27 w' w.heap.size v (loopsTo N N.length) ∧ Keep w w'

theorem gr_row_le {rs : List Row} {m : Nat} (h : ∀ x ∈ rs, x.l.length ≤ m) (x : Nat) : ((gr rs).getD x []).length ≤ m := by
  rcases Nat.lt_or_ge x rs.length with h1 | h1
  · rw [gr_get h1]; exact h _ (List.getElem_mem h1)
  · rw [List.getD_eq_getElem?_getD, List.getElem?_eq_none (by rw [gr_len]; exact h1)]; simp

/-- Nodes marked so far. -/
def MarkTo (out : List Nat) (k : Nat) (seen : List Bool) : Prop := ∀ x, seen.getD x false = true ↔ x ∈ out.take k
theorem MarkTo.step {out : List Nat} {k : Nat} {seen : List Bool} (h : MarkTo out k seen) (hk : k < out.length) (hl : out[k] < seen.length) : MarkTo out (k + 1) (seen.set out[k] true) := fun x => by
  rw [getD_mark hl, h x, take_snoc out hk, List.mem_append, List.mem_singleton]
  exact ⟨fun h => h.elim .inr .inl, fun h => h.elim .inr .inl⟩

set_option maxHeartbeats 4000000 in
set_option maxRecDepth 100000 in
theorem loops_calls (rs : List Row) (A : Option Addr) (c : Nat) (w : World) (hg : Graph w A rs) (hn : rs.length ≤ 900) (hl : ∀ x ∈ rs, x.l.length ≤ 1000) :
    Calls Try.prog 9 #[.slice A rs.length c] w (LoopsPost (gr rs) w) := by
  have Hof := Lib.hid (of_calls rs A c w hg hn hl)
  have Hord := Lib.hid (fun (wr : World) (hk : Keep w wr) => order_calls rs A c wr (hg.keep hk) (by omega))
  have Hlen := Lib.hid (gr_len rs)
  have Hg := Lib.hid hg
  have Hl := Lib.hid hl
  clear hg hl
  go_enter Try.func9, Try.ntmps9
  go_wp2_with fail
  refine Hof.out.mono ?_
  rintro e w1 ⟨bi, I, rfl, hbi, hI, hid, hk1⟩
  obtain ⟨w2, hmake, hseen, hk2⟩ := make_bools w1 rs.length (by omega)
  obtain ⟨bs, hbs⟩ : ∃ b, b = w1.heap.size := ⟨_, rfl⟩
  rw [← hbs] at hmake hseen
  have HI := Lib.hid (show IBlk w2 bi 3 I from hI.keep hk2)
  have Hid := Lib.hid hid
  have Hk2 := Lib.hid (hk1.trans hk2)
  have Hseen := Lib.hid hseen
  have Hbs := Lib.hid (show w.heap.size ≤ bs by have := hk1.size; omega)
  have Hne := Lib.hid (show bi ≠ bs by have := hI.lt; omega)
  clear hbi hI hid hk1 hseen hk2 hbs Hof
  go_wp2_with (refine wpList_make_eq rfl _ _ _ rfl _ _ rfl rfl _ _ hmake ?_; clear hmake)
  refine (Hord.out w2 Hk2.out).mono ?_
  rintro e w3 ⟨v, out, rfl, hown, hpost, hk3⟩
  obtain ⟨Ao, co, hvo, _⟩ := hown.form
  rw [nats_len] at hvo
  subst hvo
  have hol : out.length ≤ rs.length := by have := hpost.len; rw [Hlen.out] at this; exact this
  have Hst := Lib.hid (show BBlk w3 bs 4 (List.replicate rs.length false) ∧ IBlk w3 bi 3 I ∧ Keep w w3 from ⟨Hseen.out.keep hk3, HI.out.keep hk3, Hk2.out.trans hk3⟩)
  have Hoff := Lib.hid (show ∀ ad, Ao = some ad → bs < ad.block from fun ad e => by have h1 := hown.addr_ge e; have h2 := Hseen.out.lt; omega)
  have Hown := Lib.hid hown
  have Hpost := Lib.hid hpost
  clear hown hpost hk3 Hseen HI Hord Hk2
  go_wp2_with fail
  go_loopw [19] (fun i wr => ∃ (k : Nat) (seen : List Bool), k ≤ out.length ∧ i = .int .i64 (k : Int) ∧ BBlk wr bs 4 seen ∧ seen.length = rs.length ∧ MarkTo out k seen ∧ IBlk wr bi 3 I ∧ Keep w wr ∧ Seg wr Ao ((nats out).flatMap intC)) (fun i _ => out.length - (intOf i).toNat)
  case atStart => exact ⟨0, _, Nat.zero_le _, rfl, Hst.out.1, by simp, fun x => by rw [getD_rep]; simp, Hst.out.2.1, Hst.out.2.2, Hown.out.segN.2⟩
  case round =>
    clear Hst
    obtain ⟨k, seen, hk, rfl, hseen, hsl, hmk, hI, hkeep, hseg⟩ := hrel
    by_cases hlk : k < out.length
    · have hkk : (k : Int) < (out.length : Int) := by omega
      have k0 : (0 : Int) ≤ (k : Int) := by omega
      obtain ⟨bo, oo, rfl, hbo, qo⟩ := int_at hseg (Keep.refl _) (k := k) (by rw [nats_len]; exact hlk)
      rw [nats_get] at qo
      have hxn : out[k] < rs.length := by have := Hpost.out.lt out[k] (List.getElem_mem hlk); rw [Hlen.out] at this; exact this
      have Hmk := Lib.hid (hmk.step hlk (by rw [hsl]; exact hxn))
      obtain ⟨x, hxd⟩ : ∃ x, x = out[k] := ⟨_, rfl⟩
      rw [← hxd] at qo hxn Hmk
      have q1 := hseen.get (k := x) (by rw [hsl]; exact hxn)
      have f1 := hseen.frozen x
      have l1 := hseen.lt
      have x0 : (0 : Int) ≤ (x : Int) := by omega
      have x1 : (x : Int) < (rs.length : Int) := by omega
      have Hnew := Lib.hid (show BBlk (wr.setCell ⟨bs, x, none⟩ (.bool true)) bs 4 (seen.set x true) ∧ (seen.set x true).length = rs.length ∧ IBlk (wr.setCell ⟨bs, x, none⟩ (.bool true)) bi 3 I ∧ Keep w (wr.setCell ⟨bs, x, none⟩ (.bool true)) ∧ Seg (wr.setCell ⟨bs, x, none⟩ (.bool true)) (some ⟨bo, oo, none⟩) ((nats out).flatMap intC) from
        ⟨hseen.put x true, by simpa using hsl, hI.far (p := ⟨bs, x, none⟩) Hne.out _, hkeep.setCell (p := ⟨bs, x, none⟩) Hbs.out _, Seg.off hseg (Ext.one bs x (.bool true)) (fun ad e => by cases e; exact fun e' => by have := Hoff.out _ rfl; omega)⟩)
      obtain ⟨xr, hxr⟩ : ∃ y, y = seen[x]'(by rw [hsl]; exact hxn) := ⟨_, rfl⟩
      rw [← hxr] at q1
      clear hseen hsl hmk hI hkeep hseg hxr hxd
      go_wp2_with fail
      go_roundw
      case rel => exact ⟨k + 1, _, hlk, by go_num, Hnew.out.1, Hnew.out.2.1, Hmk.out, Hnew.out.2.2⟩
      case measure => simp [intOf] <;> omega
    · have hkl : k = out.length := by omega
      subst hkl
      have Hseen := Lib.hid hseen
      have Hsl := Lib.hid hsl
      have HI := Lib.hid hI
      have Hkeep := Lib.hid hkeep
      have Hmk := Lib.hid (show gr rs ≠ [] → ∀ x, seen.getD x false = true ↔ Dom.R (Dom.Ed (gr rs)) x from fun hN x => by
        rw [hmk x, List.take_length, Hpost.out.mem x]
        exact ⟨fun h => h.2, fun h => ⟨hN, h⟩⟩)
      have HIl := Lib.hid (show I.length = rs.length by rw [Hid.out.len, Hlen.out])
      clear hseen hsl hmk hI hkeep hseg
      obtain ⟨wL, rfl⟩ : ∃ wo : World, wo = wr := ⟨_, rfl⟩
      have hzs := Hseen.out.lt
      have hzi := HI.out.lt
      go_wp2_with fail
      go_loopw [7, 29] (fun v i wr => ∃ k : Nat, k ≤ rs.length ∧ i = .int .i64 (k : Int) ∧ Own pairC 2 27 wr wL.heap.size v (loopsTo (gr rs) k) ∧ Keep wL wr) (fun _ i _ => rs.length - (intOf i).toNat)
      case atStart => exact ⟨0, Nat.zero_le _, rfl, Own.nil _ _ _ _ _, Keep.refl _⟩
      case round =>
        obtain ⟨k, hk, rfl, hout, hkeep⟩ := hrel
        obtain ⟨v7, rfl⟩ : ∃ v, v = u7 := ⟨_, rfl⟩
        have Hout := Lib.hid hout
        have Hk := Lib.hid hkeep
        clear hout hkeep
        by_cases hlk : k < rs.length
        · have hkk : (k : Int) < (rs.length : Int) := by omega
          have k0 : (0 : Int) ≤ (k : Int) := by omega
          have HN := Lib.hid (show gr rs ≠ [] from fun e => by have := Hlen.out; rw [e] at this; simp at this; omega)
          have q1 := BBlk.get (Blk.keep Hseen.out Hk.out) (k := k) (by rw [Hsl.out]; exact hlk)
          have Hsk := Lib.hid (show seen.getD k false = seen[k]'(by rw [Hsl.out]; exact hlk) by rw [List.getD_eq_getElem?_getD, List.getElem?_eq_getElem (by rw [Hsl.out]; exact hlk)]; rfl)
          obtain ⟨sk, hsk⟩ : ∃ x, x = seen[k]'(by rw [Hsl.out]; exact hlk) := ⟨_, rfl⟩
          rw [← hsk] at q1 Hsk
          clear hsk
          cases sk with
          | false =>
            have Hn := Lib.hid (show loopsTo (gr rs) (k + 1) = loopsTo (gr rs) k by
              rw [loopsTo_succ, backs_dead (fun h => by have := (Hmk.out HN.out k).2 h; rw [Hsk.out] at this; cases this), List.append_nil])
            go_wp2_with fail
            go_roundw
            case rel => exact ⟨k + 1, hlk, by go_num, by rw [Hn.out]; exact Hout.out, Hk.out⟩
            case measure => simp [intOf] <;> omega
          | true =>
            have HR := Lib.hid ((Hmk.out HN.out k).1 Hsk.out)
            obtain ⟨b, off, rfl, _, qr⟩ := row_at Hg.out.seg (Hkeep.out.trans Hk.out) hlk
            have Hgrow := Lib.hid (show (gr rs).getD k [] = rs[k].l from gr_get hlk)
            have Hint := Lib.hid (fun (wx : World) (hk : Keep w wx) (j : Nat) (hj : j < rs[k].l.length) => int_at (Hg.out.rows rs[k] (List.getElem_mem hlk)).seg hk hj)
            have hlm := Hl.out rs[k] (List.getElem_mem hlk)
            obtain ⟨l, hl⟩ : ∃ l, l = rs[k].l := ⟨_, rfl⟩
            obtain ⟨Ax, hAx⟩ : ∃ A, A = rs[k].a := ⟨_, rfl⟩
            obtain ⟨cr, hcr⟩ : ∃ c, c = rs[k].c := ⟨_, rfl⟩
            rw [← hl, ← hAx, ← hcr] at qr
            rw [← hl] at Hint Hgrow hlm
            rw [← hAx] at Hint
            clear hl hAx hcr
            obtain ⟨wo, rfl⟩ : ∃ wo : World, wo = wr := ⟨_, rfl⟩
            go_wp2_with fail
            go_loopw [7, 42] (fun v j wx => ∃ m : Nat, m ≤ l.length ∧ j = .int .i64 (m : Int) ∧ Own pairC 2 27 wx wL.heap.size v (loopsTo (gr rs) k ++ backs (gr rs) k (l.take m)) ∧ Keep wL wx) (fun _ j _ => l.length - (intOf j).toNat)
            case atStart => exact ⟨0, Nat.zero_le _, rfl, by rw [List.take_zero, backs_nil, List.append_nil]; exact Hout.out, Hk.out⟩
            case round =>
              obtain ⟨m, hm, rfl, hown, hkx⟩ := hrel
              clear q1 qr
              by_cases hlm2 : m < l.length
              · have hmm : (m : Int) < (l.length : Int) := by omega
                have m0 : (0 : Int) ≤ (m : Int) := by omega
                obtain ⟨b5, off5, rfl, _, qt⟩ := Hint.out wr (Hkeep.out.trans hkx) m hlm2
                obtain ⟨tv, htv⟩ : ∃ tv, tv = l[m] := ⟨_, rfl⟩
                rw [← htv] at qt
                have Hs := Lib.hid (show backs (gr rs) k (l.take (m + 1)) = if backB (gr rs) k tv = true then backs (gr rs) k (l.take m) ++ [(k, tv.toNat)] else backs (gr rs) k (l.take m) by rw [take_snoc l hlm2, ← htv, backs_snoc])
                have Hov := Lib.hid (show Calls Try.prog 14 #[.slice (some ⟨bi, 0, none⟩) rs.length rs.length, .int .i64 tv, .int .i64 (k : Int)] wr fun e w' => e = .returned (.bool (backB (gr rs) k tv)) ∧ wr = w' by
                  have := over_calls I (some ⟨bi, 0, none⟩) rs.length wr (IBlk.seg (Blk.keep HI.out hkx)) (by rw [HIl.out]; omega) tv (k : Int)
                  rw [over_back Hid.out HN.out HR.out, HIl.out] at this
                  exact this)
                have Hkx := Lib.hid hkx
                cases hb : backB (gr rs) k tv with
                | false =>
                  rw [hb] at Hs Hov
                  have Hn := Lib.hid (show loopsTo (gr rs) k ++ backs (gr rs) k (l.take (m + 1)) = loopsTo (gr rs) k ++ backs (gr rs) k (l.take m) by rw [Hs.out, if_neg (by decide)])
                  have Ho := Lib.hid hown
                  clear hown hkx hb htv Hs
                  go_wp2_with (go_at_call 14; refine Hov.out.mono ?_; rintro e w' ⟨rfl, rfl⟩)
                  go_roundw
                  case rel => exact ⟨m + 1, hlm2, by go_num, by rw [Hn.out]; exact Ho.out, Hkx.out⟩
                  case measure => simp [intOf] <;> omega
                | true =>
                  rw [hb] at Hs Hov
                  have h0 := (backB_iff.1 hb).1
                  obtain ⟨tb, rfl⟩ : ∃ tb : Nat, tv = (tb : Int) := ⟨tv.toNat, by omega⟩
                  have Hn := Lib.hid (show loopsTo (gr rs) k ++ backs (gr rs) k (l.take (m + 1)) = (loopsTo (gr rs) k ++ backs (gr rs) k (l.take m)) ++ [(k, tb)] by rw [Hs.out, if_pos rfl, ← List.append_assoc]; rfl)
                  have hlen : (loopsTo (gr rs) k ++ backs (gr rs) k (l.take m)).length < 1000000 := by
                    rw [List.length_append]
                    have h1 := loopsTo_le (gr_row_le Hl.out) k
                    have h2 := backs_le (gr rs) k (l.take m)
                    have h3 : k * 1000 ≤ 900 * 1000 := Nat.mul_le_mul_right _ (by omega)
                    rw [List.length_take] at h2
                    omega
                  obtain ⟨B, d, hv, B', d', w6, hrun, hown2, hE, _, _⟩ := hown.push1 elP (k, tb) hlen (by omega) hkx.size 25
                  obtain ⟨ln, hln⟩ : ∃ ln, ln = (loopsTo (gr rs) k ++ backs (gr rs) k (l.take m)).length := ⟨_, rfl⟩
                  rw [← hln] at hv hrun hown2
                  subst hv
                  have Ho := Lib.hid hown2
                  have Hk6 := Lib.hid (Keep.of_ext hkx hE (fun i hi h => by omega))
                  clear hown hkx hb htv Hs hown2 hE hlen hln
                  go_wp2_with (first | (go_at_call 14; refine Hov.out.mono ?_; rintro e w' ⟨rfl, rfl⟩) | (at_builtin; refine wpList_append_eq rfl _ _ _ rfl _ _ rfl rfl _ _ hrun ?_; clear hrun))
                  go_roundw
                  case rel => exact ⟨m + 1, hlm2, by go_num, by rw [Hn.out]; exact Ho.out, Hk6.out⟩
                  case measure => simp [intOf] <;> omega
              · have hge : ¬ (m : Int) < (l.length : Int) := by omega
                have Hn := Lib.hid (show loopsTo (gr rs) (k + 1) = loopsTo (gr rs) k ++ backs (gr rs) k (l.take m) by rw [loopsTo_succ, Hgrow.out, List.take_of_length_le (by omega)])
                have Ho := Lib.hid hown
                have Hkx := Lib.hid hkx
                clear hown hkx
                go_wp2_with fail
                go_roundw
                case rel => exact ⟨k + 1, hlk, by go_num, by rw [Hn.out]; exact Ho.out, Hkx.out⟩
                case measure => simp [intOf] <;> omega
        · have hge : ¬ (k : Int) < (rs.length : Int) := by omega
          have hkl : k = rs.length := by omega
          have Hr := Lib.hid (show LoopsPost (gr rs) w (.returned v7) wr from ⟨v7, rfl, by
            rw [Hlen.out, ← hkl]; exact Hout.out.mono Hkeep.out.size, Hkeep.out.trans Hk.out⟩)
          clear hkl
          go_wp2_with fail
          go_ret
          exact Hr.out
end Go.Proofs.Ythjlfbeabobgmaa
