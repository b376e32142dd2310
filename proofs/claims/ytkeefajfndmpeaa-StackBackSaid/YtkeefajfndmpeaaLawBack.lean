/-
  The law StackBack returns true.
-/
import Derived.Test.YtkeefajfndmpeaaLawPlays
namespace Go.Proofs.Ytkeefajfndmpeaa
open Go Go.RowKit

/-! ### Plain: what was just pushed can be popped -/
namespace Stk
theorem steps_back (s : Stk) : ∀ (r T0 rest : List Int), s.T = T0 ++ r.reverse ++ rest → s.at_ ≤ T0.length → s.steps r (T0.length + r.length) = .ok T0.length
  | [], T0, rest, _, _ => rfl
  | x :: r, T0, rest, hT, hat => by
    have h1 := steps_back s r T0 (x :: rest) (by rw [hT]; simp) hat
    have hst : s.step x (T0.length + (x :: r).length) = .ok (T0.length + r.length) := by
      unfold step
      rw [if_neg (by simp; omega)]
      have hg : s.T.getD (T0.length + (x :: r).length - 1) 0 = x := by
        rw [hT, List.getD_eq_getElem?_getD, show T0 ++ (x :: r).reverse ++ rest = (T0 ++ r.reverse) ++ (x :: rest) by simp, List.getElem?_append_right (by simp)]
        simp
      rw [hg, if_neg (fun h => h.1 rfl)]
      congr 1
    simp only [steps]
    rw [hst]
    exact h1
theorem left_push (s : Stk) (l : List Int) (h : s.Ok) : (s.push l).left l = (s.T.length, 0) := by
  have h1 := steps_back (s.push l) l.reverse s.T [] (by simp [push]) h.le
  unfold left
  rw [List.length_reverse] at h1
  rw [push_len, h1]
theorem want_push (s : Stk) (l : List Int) (h : s.Ok) : (s.push l).want l = ({ s with over := (s.push l).over }, 0) := by
  unfold want
  rw [left_push s l h]
  simp [cut, push]
theorem shut_push (s : Stk) (l : List Int) (h : s.Ok) : ∃ o, (s.opened.push l).shut l = ({ s with over := o }, 0) := by
  refine ⟨(s.opened.push l).over, ?_⟩
  unfold shut
  rw [left_push s.opened l h.opened]
  simp only [if_pos]
  have h1 : ¬ (s.opened.push l).at_ < s.opened.T.length := by show ¬ s.T.length < s.T.length; omega
  rw [if_neg h1]
  have h2 : ((s.opened.push l).cut s.opened.T.length).B = s.B ++ [(s.at_, s.loose)] := rfl
  rw [outer_some h2]
  simp [cut, push, opened]
end Stk

/-- A stack and a list that lies outside of it. -/
theorem live_out {w0 w : World} {F : Nat → Prop} {b : Nat} {s : Stk} (h : Live w0 F b s w) {A : Option Addr} {l : List Int} (hs : Seg w0 A (l.flatMap valC)) : Seg w A (l.flatMap valC) := hs.keep h.1
theorem own_left {F : Nat → Prop} {w w' : World} {b : Nat} {s s' : Stk} {base : Nat} {v : Value} {l : List Int} (hown : Own valC 1 45 w base v l) (hl : Left F w b s' w') (hF : ∀ k, F k → k < base) : Own valC 1 45 w' base v l :=
  hown.ext hl.1 fun k hk hf => by have := hF k hf; have := (hown.lt k hk).1; omega

set_option maxHeartbeats 4000000 in
set_option maxRecDepth 100000 in
theorem stackBack_walk (L : List ActD) (A : Option Addr) (c : Nat) (more : List Int) (Am : Option Addr) (cm : Nat) (w : World) (hs : Seg w A (L.flatMap actC)) (hL : ∀ a ∈ L, ActOk w a) (hm : L.length ≤ maxLen) (hsm : Seg w Am (more.flatMap valC)) (hmm : more.length ≤ maxLen) :
    Calls Try.prog 3 #[.slice A L.length c, .slice Am more.length cm] w fun e w' => e = .returned (.bool true) ∧ Keep w w' := by
  have hfew := few_calls L A c w hs hL hm
  unfold maxLen at hm hmm
  by_cases hgood : fewB L = true ∧ more.length ≤ 60
  rotate_left
  · have Ha := Lib.hid (alive_calls w)
    cases hfb : fewB L
    · rw [hfb] at hfew
      have Hf := Lib.hid hfew
      clear hfew hfb hL hgood
      go_enter Try.func3, Try.ntmps3
      go_wp2_with fail
      refine Hf.out.mono ?_
      rintro e w2 ⟨rfl, rfl⟩
      go_wp2_with fail
      refine Ha.out.mono ?_
      rintro e w2 ⟨rfl, hk⟩
      go_wp2
      go_ret
      exact ⟨rfl, hk⟩
    · rw [hfb] at hfew
      have hgt : (60 : Int) < (more.length : Int) := by have : ¬ more.length ≤ 60 := fun h => hgood ⟨hfb, h⟩; omega
      have Hf := Lib.hid hfew
      clear hfew hfb hL hgood
      go_enter Try.func3, Try.ntmps3
      go_wp2_with fail
      refine Hf.out.mono ?_
      rintro e w2 ⟨rfl, rfl⟩
      go_wp2_with fail
      refine Ha.out.mono ?_
      rintro e w2 ⟨rfl, hk⟩
      go_wp2
      go_ret
      exact ⟨rfl, hk⟩
  · obtain ⟨hfb, hm60⟩ := hgood
    rw [hfb] at hfew
    obtain ⟨h80, h60⟩ := few_all hfb
    have Hf := Lib.hid hfew
    have hgt : ¬ (60 : Int) < (more.length : Int) := by omega
    clear hfew hfb
    go_enter Try.func3, Try.ntmps3
    go_wp2_with fail
    refine Hf.out.mono ?_
    rintro e w2 ⟨rfl, rfl⟩
    go_wp2_with fail
    refine (new_calls w).mono ?_
    rintro e w1 ⟨rfl, hk1, hat1⟩
    go_wp2_with fail
    refine (refNew_calls w1).mono ?_
    rintro e w2 ⟨v, rfl, hr, hk2⟩
    obtain ⟨A1, A2, A3, c1, c2, c3, most, rfl, _⟩ := id hr
    have Hst := Lib.hid (start_of hk1 hat1 hr hk2)
    clear hr hat1
    go_wp2_with fail
    go_loopw [7] (fun i wr => ∃ k : Nat, k ≤ L.length ∧ i = .int .i64 k ∧ PlInv w w2.heap.size (w.heap.size + 1) (Stk.fresh.plays (L.take k)) wr) (fun i _ => L.length - (intOf i).toNat)
    case atStart => exact ⟨0, Nat.zero_le _, rfl, Hst.out⟩
    case round =>
      obtain ⟨k, hk, rfl, F, G, A1, A2, A3, c1, c2, c3, most, hp⟩ := hrel
      clear Hst
      obtain ⟨hok, hbT, hbP⟩ := plays_bounds h60 k hk
      by_cases hlt : k < L.length
      · obtain ⟨ab, off, rfl, hab, q0, q1⟩ := act_at hs (Keep.refl _) hlt
        have hkk : (k : Int) < (L.length : Int) := by omega
        have hk0 : (0 : Int) ≤ (k : Int) := by omega
        have hl60 := h60 L[k] (List.getElem_mem hlt)
        have Hnext := Lib.hid (show Stk.fresh.plays (L.take (k + 1)) = (Stk.fresh.plays (L.take k)).play L[k].1 L[k].2.2.1 by rw [take_snoc L hlt, Stk.plays_snoc])
        obtain ⟨s, hsd⟩ : ∃ s, s = Stk.fresh.plays (L.take k) := ⟨_, rfl⟩
        rw [← hsd] at hp hok hbT hbP Hnext
        clear hsd
        have hle := s.play_le L[k].1 L[k].2.2.1
        have hok' := hok.play L[k].1 L[k].2.2.1
        obtain ⟨s', hs'⟩ : ∃ s', s' = s.play L[k].1 L[k].2.2.1 := ⟨_, rfl⟩
        have Hcall := Lib.hid (call_of hp hok L[k].1 L[k].2.2.2 (hL L[k] (List.getElem_mem hlt)).2.1 (by omega) (by omega))
        rw [← hs'] at Hcall Hnext hle hok'
        clear hs'
        have nF : ¬ F ab := fun hf => by have := hp.fge _ hf; omega
        have hxl := hp.var.lt
        go_upto_region 8 with fail
        go_cut [8, 9] from 25 to 41 (fun s6 s7 wx => PCut w w2.heap.size (w.heap.size + 1) s' s6 s7 wx)
        case first =>
          have x0 := fun x : KE F wr => x.cell (v := .slice A1 s.T.length c1) (hp.var.cell 0) hp.xf
          have x1 := fun x : KE F wr => x.cell (v := .slice A2 s.P.length c2) (hp.var.cell 1) hp.xf
          have x2 := fun x : KE F wr => x.cell (v := .slice A3 s.P.length c3) (hp.var.cell 2) hp.xf
          have x3 := fun x : KE F wr => x.cell (v := .int .i64 (most : Int)) (hp.var.cell 3) hp.xf
          have y0 := fun x : KE F wr => x.cell (hp.keep.cell q0) nF
          have y1 := fun x : KE F wr => x.cell (hp.keep.cell q1) nF
          refine region_begin (S := fun w' => ∃ x : KE F wr, w' = x.val) (by kernel_rfl) ?_
          refine region_take [0, 1, 2, 3, 4, 5] [] 7 (by kernel_rfl) (by kernel_rfl) (KE.mk' (Ext.drew (Ext.refl _ _))) ?_
          show wpQuiet _ _ _ _ [_, _, _, _, _, _] _
          repeat (go_big_quiet_step (fail))
          refine wpQuiet_nil ?_
          clear x0 x1 x2 x3 y0 y1
          refine region_any (fuel := 6) (is := [6, 10]) (by kernel_rfl) (by simp) (mem2 ?_ ?_)
          · refine ⟨_, rfl, fun K hK => ?_⟩
            go_simp
            refine (Hcall.out wr.drew ((Keep.refl _).drew)).mono ?_
            rintro e w1 ⟨v', rfl, hl⟩
            obtain ⟨B1, B2, B3, d1, d2, d3, most', rfl⟩ := PlaysLeft.form hl
            refine hK _ _ (KE.mk' (((Keep.refl _).drew.ext F).trans hl.1 (fun _ _ h => h))) ?_
            clear hK K
            refine region_take [7, 8, 9] [0, 1, 2, 3, 4, 5, 6] 3 (by kernel_rfl) (by kernel_rfl) (KE.mk' (((Keep.refl _).drew.ext F).trans hl.1 (fun _ _ h => h))) ?_
            show wpQuiet _ _ _ _ [_, _, _] _
            repeat (go_big_quiet_step (fail))
            refine wpQuiet_nil ?_
            refine region_fix (i := 10) (fuel := 2) rfl (by kernel_rfl) (fun K hK => ?_)
            go_simp
            refine hK _ _ (KE.mk' ((((Keep.refl _).drew.ext F).trans hl.1 (fun _ _ h => h)).alloc _)) ?_
            clear hK K
            refine region_fix (i := 11) (fuel := 1) rfl (by kernel_rfl) (fun K hK => ?_)
            go_simp
            refine hK _ _ (KE.mk' ((((Keep.refl _).drew.ext F).trans hl.1 (fun _ _ h => h)).alloc _)) ?_
            clear hK K
            refine region_fix (i := 12) (fuel := 0) rfl (by kernel_rfl) (fun K hK => ?_)
            go_simp
            refine hK _ _ (KE.mk' ((((Keep.refl _).drew.ext F).trans hl.1 (fun _ _ h => h)).alloc _)) ?_
            clear hK K
            refine region_done (by kernel_rfl) ?_
            go_wp2_with fail
            go_meet
            exact pcut_end hp ((Keep.refl _).drew) hl w1.heap.size (Nat.le_trans (show wr.heap.size ≤ wr.drew.heap.size from Nat.le_refl _) hl.1.size) (.inr (Nat.le_refl _)) ((Ext.refl _ _).alloc _) (Blk.new w1 31 (rcells B1 B2 B3 _ _ d1 d2 d3 most'))
          · refine ⟨_, rfl, fun K hK => ?_⟩
            go_simp
            refine hK _ _ (KE.mk' ((Ext.drew (Ext.refl _ _)).alloc _)) ?_
            clear hK K
            refine region_fix (i := 6) (fuel := 5) rfl (by kernel_rfl) (fun K hK => ?_)
            go_simp
            refine (Hcall.out (wr.drew.alloc (.cells rzero.toArray 31)) ((Keep.refl _).drew.alloc _)).mono ?_
            rintro e w1 ⟨v', rfl, hl⟩
            obtain ⟨B1, B2, B3, d1, d2, d3, most', rfl⟩ := PlaysLeft.form hl
            have hE := (((Keep.refl wr).drew.alloc (.cells rzero.toArray 31)).ext F).trans hl.1 (fun _ _ h => h)
            have bz : Blk w1 wr.heap.size 31 rzero := (show Blk (wr.drew.alloc (.cells rzero.toArray 31)) wr.heap.size 31 rzero from Blk.new wr.drew _ rzero).ext hl.1 (fun hf => by have := hp.at_.lt _ hf; omega)
            refine hK _ _ (KE.mk' hE) ?_
            clear hK K
            refine region_take [7, 8, 9] [0, 1, 2, 3, 4, 5, 10, 6] 2 (by kernel_rfl) (by kernel_rfl) (KE.mk' hE) ?_
            show wpQuiet _ _ _ _ [_, _, _] _
            repeat (go_big_quiet_step (fail))
            refine wpQuiet_nil ?_
            have z0 : w1.cell? ⟨wr.heap.size, 0, none⟩ = some (.slice none 0 0) := bz.cell 0
            have z1 : w1.cell? ⟨wr.heap.size, 1, none⟩ = some (.slice none 0 0) := bz.cell 1
            have z2 : w1.cell? ⟨wr.heap.size, 2, none⟩ = some (.slice none 0 0) := bz.cell 2
            have z3 : w1.cell? ⟨wr.heap.size, 3, none⟩ = some (.int .i64 0) := bz.cell 3
            have fz := bz.frozen
            have lz := bz.lt
            refine region_fix (i := 11) (fuel := 1) rfl (by kernel_rfl) (fun K hK => ?_)
            go_simp
            refine hK _ _ (KE.mk' (((((hE).setCell (p := ⟨wr.heap.size, 0, none⟩) (fun h => absurd h (Nat.lt_irrefl _)) _).setCell (p := ⟨wr.heap.size, 1, none⟩) (fun h => absurd h (Nat.lt_irrefl _)) _).setCell (p := ⟨wr.heap.size, 2, none⟩) (fun h => absurd h (Nat.lt_irrefl _)) _).setCell (p := ⟨wr.heap.size, 3, none⟩) (fun h => absurd h (Nat.lt_irrefl _)) _)) ?_
            clear hK K
            refine region_fix (i := 12) (fuel := 0) rfl (by kernel_rfl) (fun K hK => ?_)
            go_simp
            refine hK _ _ (KE.mk' (((((hE).setCell (p := ⟨wr.heap.size, 0, none⟩) (fun h => absurd h (Nat.lt_irrefl _)) _).setCell (p := ⟨wr.heap.size, 1, none⟩) (fun h => absurd h (Nat.lt_irrefl _)) _).setCell (p := ⟨wr.heap.size, 2, none⟩) (fun h => absurd h (Nat.lt_irrefl _)) _).setCell (p := ⟨wr.heap.size, 3, none⟩) (fun h => absurd h (Nat.lt_irrefl _)) _)) ?_
            clear hK K
            refine region_done (by kernel_rfl) ?_
            go_wp2_with fail
            go_meet
            refine pcut_end hp ((Keep.refl _).drew.alloc _) hl wr.heap.size (Nat.le_refl _) (.inl (by simp)) (((((Ext.refl (fun k => k = wr.heap.size) w1).setCell (p := ⟨wr.heap.size, 0, none⟩) (fun _ => rfl) _).setCell (p := ⟨wr.heap.size, 1, none⟩) (fun _ => rfl) _).setCell (p := ⟨wr.heap.size, 2, none⟩) (fun _ => rfl) _).setCell (p := ⟨wr.heap.size, 3, none⟩) (fun _ => rfl) _) ?_
            exact (((bz.set_ 0 _).set_ 1 _).set_ 2 _).set_ 3 _
        case rest =>
          obtain ⟨y, F', G', B1, B2, B3, d1, d2, d3, most', cs, rfl, rfl, hp', hx, hxy, xF, xG, hcs, hge⟩ := hcut
          have z0 : wc.cell? ⟨y, 0, none⟩ = some (.slice B1 s'.T.length d1) := hp'.var.cell 0
          have z1 : wc.cell? ⟨y, 1, none⟩ = some (.slice B2 s'.P.length d2) := hp'.var.cell 1
          have z2 : wc.cell? ⟨y, 2, none⟩ = some (.slice B3 s'.P.length d3) := hp'.var.cell 2
          have z3 : wc.cell? ⟨y, 3, none⟩ = some (.int .i64 (most' : Int)) := hp'.var.cell 3
          obtain ⟨u0, u1, u2, u3, rfl⟩ : ∃ u0 u1 u2 u3, cs = [u0, u1, u2, u3] := by
            match cs, hcs with
            | [a, b, c, d], _ => exact ⟨a, b, c, d, rfl⟩
          have v0 : wc.cell? ⟨w2.heap.size, 0, none⟩ = some u0 := hx.cell 0
          have v1 : wc.cell? ⟨w2.heap.size, 1, none⟩ = some u1 := hx.cell 1
          have v2 : wc.cell? ⟨w2.heap.size, 2, none⟩ = some u2 := hx.cell 2
          have v3 : wc.cell? ⟨w2.heap.size, 3, none⟩ = some u3 := hx.cell 3
          have fz := hx.frozen
          have lz := hx.lt
          have ly := hp'.var.lt
          have Hp3 := Lib.hid (fun W hW => pcut_store (W := W) hp' hx hcs xF xG hge hW)
          clear hp hp' hx Hcall
          go_wp2
          go_roundw
          case rel => exact ⟨k + 1, hlt, by go_num, by rw [Hnext.out]; exact ⟨F', G', B1, B2, B3, d1, d2, d3, most', Hp3.out _ rfl⟩⟩
          case measure => simp [intOf]; omega
      · have hge : ¬ (k : Int) < (L.length : Int) := by omega
        obtain ⟨s, hsd⟩ : ∃ s, s = Stk.fresh.plays (L.take k) := ⟨_, rfl⟩
        rw [← hsd] at hp hok hbT hbP
        clear hsd
        have hlv : Live w F (w.heap.size + 1) s wr := ⟨hp.keep, hp.at_, hp.fge⟩
        have hTn : s.T.length ≤ 1000000 := by omega
        have hPn : s.P.length ≤ 1000000 := by omega
        have Ht := Lib.hid hTn
        clear hp
        go_wp2_with fail
        refine (all_calls hlv.2.1 hTn).mono ?_
        rintro e w3 ⟨va, rfl, hown, hk3⟩
        obtain ⟨Aa, ca, rfl, _⟩ := hown.form
        have hF3 : ∀ k, F k → k < wr.heap.size := hlv.2.1.lt
        have hlv3 := hlv.keep hk3
        clear hlv
        go_wp2_with fail
        refine (mark_calls hlv3.2.1 hPn).mono ?_
        rintro e w4 ⟨rfl, hk4⟩
        have hlv4 := hlv3.keep hk4
        have hown4 := hown.keep hk4
        clear hlv3 hown
        go_wp2_with fail
        refine (push_calls hlv4.2.1 more Am cm (live_out hlv4 hsm) (by omega)).mono ?_
        rintro e w5 ⟨⟨u5, rfl⟩, hl5⟩
        obtain ⟨F5, hlv5, hF5⟩ := hlv4.left hl5
        have hown5 := hown4.ext hl5.1 (fun k hk hf => by have := hF3 k hf; have := (hown4.lt k hk).1; omega)
        have gF5 : ∀ k, F5 k → k < wr.heap.size ∨ w4.heap.size ≤ k := fun k hk => (hF5 k hk).imp (hF3 k) id
        have no5 : ∀ k, (Value.slice Aa s.T.length ca).ownBlock = some k → ¬ F5 k := fun k hk hf => by
          have a1 := hown4.lt k hk
          rcases gF5 k hf with h1 | h1 <;> omega
        have hl5' := s.push_len more
        clear hl5 hlv4 hown4 hF5 gF5
        have hneq : ((((s.T.length : Int) + (more.length : Int)) != ((s.T.length : Int) + (more.length : Int)))) = false := by simp
        go_wp2_with fail
        refine (len_calls hlv5.2.1).mono ?_
        rintro e w6 ⟨rfl, rfl⟩
        rw [hl5']
        have hcast : (((s.T.length + more.length : Nat)) : Int) = (s.T.length : Int) + (more.length : Int) := by omega
        rw [hcast]
        clear hcast hl5'
        go_wp2_with fail
        have hwp := s.want_push more hok
        have hc7 := want_calls hlv5.2.1 (hok.push more) more Am cm (live_out hlv5 hsm) (by rw [Stk.push_len]; omega) (by rw [Stk.push_P]; omega) (by omega)
        rw [hwp] at hc7
        have okS : ∀ o, ({ s with over := o } : Stk).Ok := fun o => ⟨hok.le, hok.below, hok.chain, hok.first⟩
        generalize (s.push more).over = o1 at hc7
        clear hwp
        refine hc7.mono ?_
        clear hc7
        rintro e w7 ⟨rfl, hl7⟩
        obtain ⟨F7, hlv7, hF7⟩ := hlv5.left hl7
        have hown7 := hown5.ext hl7.1 no5
        have no7 : ∀ k, (Value.slice Aa s.T.length ca).ownBlock = some k → ¬ F7 k := fun k hk hf => by
          rcases hF7 k hf with h1 | h1
          · exact no5 k hk h1
          · have := (hown5.lt k hk).2; omega
        clear hl7 hlv5 hown5 no5 hF7
        go_wp2_with fail
        refine (all_calls hlv7.2.1 Ht.out).mono ?_
        rintro e w8 ⟨vb, rfl, hownb, hk8⟩
        obtain ⟨Ab, cb, rfl, _⟩ := hownb.form
        have hlv8 := hlv7.keep hk8
        have hown8 := hown7.keep hk8
        clear hlv7 hown7
        go_wp2_with fail
        refine (refSame_calls s.T Ab Aa cb ca w8 hownb.seg hown8.seg Ht.out).mono ?_
        rintro e w9 ⟨rfl, hk9⟩
        have hlv9 := hlv8.keep hk9
        have hown9 := hown8.keep hk9
        have no9 : ∀ k, (Value.slice Aa s.T.length ca).ownBlock = some k → ¬ F7 k := no7
        clear hlv8 hown8 hownb no7
        have hAA : ((s.at_ : Int) != (s.at_ : Int)) = false := by simp
        have hAB : ((s.at_ : Int) == (s.at_ : Int)) = true := by simp
        go_wp2_with fail
        refine (mark_calls hlv9.2.1 hPn).mono ?_
        rintro e w10 ⟨rfl, hk10⟩
        have hlv10 := hlv9.keep hk10
        have hown10 := hown9.keep hk10
        clear hlv9 hown9
        go_wp2_with fail
        refine (open_calls hlv10.2.1 Ht.out hPn).mono ?_
        rintro e w11 ⟨⟨u11, rfl⟩, hl11⟩
        obtain ⟨F11, hlv11, hF11⟩ := hlv10.left hl11
        have hown11 := hown10.ext hl11.1 no9
        have no11 : ∀ k, (Value.slice Aa s.T.length ca).ownBlock = some k → ¬ F11 k := fun k hk hf => by
          rcases hF11 k hf with h1 | h1
          · exact no9 k hk h1
          · have := (hown10.lt k hk).2; omega
        clear hl11 hlv10 hown10 no9 hF11
        go_wp2_with fail
        refine (push_calls hlv11.2.1 more Am cm (live_out hlv11 hsm) (by show s.T.length + more.length ≤ 1000000; omega)).mono ?_
        rintro e w12 ⟨⟨u12, rfl⟩, hl12⟩
        obtain ⟨F12, hlv12, hF12⟩ := hlv11.left hl12
        have hown12 := hown11.ext hl12.1 no11
        have no12 : ∀ k, (Value.slice Aa s.T.length ca).ownBlock = some k → ¬ F12 k := fun k hk hf => by
          rcases hF12 k hf with h1 | h1
          · exact no11 k hk h1
          · have := (hown11.lt k hk).2; omega
        clear hl12 hlv11 hown11 no11 hF12
        go_wp2_with fail
        obtain ⟨o2, hsp⟩ := Stk.shut_push ({ s with over := o1 } : Stk) more (okS o1)
        have hc13 := shut_calls hlv12.2.1 (((okS o1).opened).push more) more Am cm (live_out hlv12 hsm) (by rw [Stk.push_len]; show s.T.length + more.length ≤ 1000000; omega) (by rw [Stk.push_P, (Stk.opened_len _).2]; show s.P.length + 1 ≤ 1000000; omega) (by omega)
        rw [hsp] at hc13
        clear hsp
        refine hc13.mono ?_
        clear hc13
        rintro e w13 ⟨rfl, hl13⟩
        obtain ⟨F13, hlv13, hF13⟩ := hlv12.left hl13
        have hown13 := hown12.ext hl13.1 no12
        clear hl13 hlv12 hown12 no12 hF13
        go_wp2_with fail
        refine (all_calls hlv13.2.1 Ht.out).mono ?_
        rintro e w14 ⟨vc, rfl, hownc, hk14⟩
        obtain ⟨Ac, cc, rfl, _⟩ := hownc.form
        have hlv14 := hlv13.keep hk14
        have hown14 := hown13.keep hk14
        clear hlv13 hown13
        go_wp2_with fail
        refine (refSame_calls s.T Ac Aa cc ca w14 hownc.seg hown14.seg Ht.out).mono ?_
        rintro e w15 ⟨rfl, hk15⟩
        have hlv15 := hlv14.keep hk15
        clear hlv14 hown14 hownc
        go_wp2_with fail
        refine (mark_calls hlv15.2.1 hPn).mono ?_
        rintro e w16 ⟨rfl, hk16⟩
        have hlv16 := hlv15.keep hk16
        clear hlv15
        go_wp2_with fail
        refine (alive_calls w16).mono ?_
        rintro e w17 ⟨rfl, hk17⟩
        have Hk := Lib.hid (hlv16.1.trans hk17)
        clear hlv16
        go_wp2
        go_ret
        exact ⟨rfl, Hk.out⟩
end Go.Proofs.Ytkeefajfndmpeaa

