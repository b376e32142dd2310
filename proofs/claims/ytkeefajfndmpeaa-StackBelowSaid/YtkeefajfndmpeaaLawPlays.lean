/-
  The law StackPlays returns true.
-/
import Derived.Test.YtkeefajfndmpeaaPlayLoop
namespace Go.Proofs.Ytkeefajfndmpeaa
open Go Go.RowKit

theorem PlaysLeft.form {F G : Nat → Prop} {w w' : World} {b : Nat} {s : Stk} {v : Value} (h : PlaysLeft F G w b s v w') : ∃ A1 A2 A3 c1 c2 c3, ∃ most : Nat, v = .agg #[.slice A1 s.T.length c1, .slice A2 s.P.length c2, .slice A3 s.P.length c3, .int .i64 (most : Int)] := by
  obtain ⟨_, F', G', _, ⟨A1, A2, A3, c1, c2, c3, most, e, _⟩, _⟩ := h
  exact ⟨A1, A2, A3, c1, c2, c3, most, e⟩

/-- What holds at the head of each round. -/
def PlInv (w : World) (bx b : Nat) (s : Stk) (wr : World) : Prop := ∃ F G A1 A2 A3 c1 c2 c3 most, PSt w bx b s F G A1 A2 A3 c1 c2 c3 most wr

theorem few_all {L : List ActD} (h : fewB L = true) : L.length ≤ 80 ∧ ∀ a ∈ L, a.2.2.1.length ≤ 60 := by
  unfold fewB at h
  rw [Bool.and_eq_true] at h
  have hl := of_decide_eq_true h.2
  refine ⟨hl, fun a ha => ?_⟩
  rw [List.take_of_length_le (by omega)] at h
  exact of_decide_eq_true (List.all_eq_true.1 h.1 a ha)
theorem plays_bounds {L : List ActD} (h : ∀ a ∈ L, a.2.2.1.length ≤ 60) : ∀ k, k ≤ L.length → (Stk.fresh.plays (L.take k)).Ok ∧ (Stk.fresh.plays (L.take k)).T.length ≤ 60 * k ∧ (Stk.fresh.plays (L.take k)).P.length ≤ k + 1
  | 0, _ => ⟨Stk.Ok.fresh, Nat.le_refl _, Nat.le_refl _⟩
  | k + 1, hk => by
    obtain ⟨h1, h2, h3⟩ := plays_bounds h k (by omega)
    rw [take_snoc L (by omega), Stk.plays_snoc]
    have h4 := Stk.play_le (Stk.fresh.plays (L.take k)) L[k].1 L[k].2.2.1
    have h5 := h L[k] (List.getElem_mem (by omega))
    exact ⟨h1.play _ _, by omega, by omega⟩
theorem refAt_seg {G : Nat → Prop} {w : World} {A1 A2 A3 : Option Addr} {c1 c2 c3 : Nat} {m : Int} {s : Stk} {n1 n2 n3 : Nat} (h : RefAt G w (.agg #[.slice A1 n1 c1, .slice A2 n2 c2, .slice A3 n3 c3, .int .i64 m]) s) : Seg w A1 (s.T.flatMap valC) := by
  obtain ⟨B1, B2, B3, d1, d2, d3, most, e, s1, _⟩ := h
  simp at e
  obtain ⟨⟨rfl, _⟩, _⟩ := e
  exact s1
theorem seg_out {w0 w : World} {bx b : Nat} {s : Stk} {F G : Nat → Prop} {A1 A2 A3 : Option Addr} {c1 c2 c3 most : Nat} (h : PSt w0 bx b s F G A1 A2 A3 c1 c2 c3 most w) {A : Option Addr} {l : List Int} (hs : Seg w0 A (l.flatMap valC)) : Out F A l.length := fun h0 ad ha hf => by
  obtain ⟨b', off, e, hb, _⟩ := hs.addr (by rw [val_len]; exact h0)
  rw [ha] at e; cases e
  have h1 : w0.heap.size ≤ b' := h.fge _ hf
  omega
theorem call_of {w0 w : World} {bx b : Nat} {s : Stk} {F G : Nat → Prop} {A1 A2 A3 : Option Addr} {c1 c2 c3 most : Nat} (h : PSt w0 bx b s F G A1 A2 A3 c1 c2 c3 most w) (hok : s.Ok) (n : Int) {A : Option Addr} {l : List Int} (c : Nat) (hs : Seg w0 A (l.flatMap valC)) (hn : s.T.length + l.length ≤ 1000000) (hm : s.P.length ≤ 1000000) (wa : World) (hk : Keep w wa) :
    Calls Try.prog 17 #[.pointer (some ⟨b, 0, none⟩), .agg #[.slice A1 s.T.length c1, .slice A2 s.P.length c2, .slice A3 s.P.length c3, .int .i64 (most : Int)], .agg #[.int .i64 n, .slice A l.length c]] wa fun e w' => ∃ v', e = .returned (.tuple #[v', .bool true]) ∧ PlaysLeft F G wa b (s.play n l) v' w' :=
  plays_calls (h.at_.keep hk) (h.ref.keep hk) h.apart (fun k hk' => Nat.lt_of_lt_of_le (h.glt k hk') hk.size) hok n l A c ((hs.keep h.keep).keep hk) (seg_out h hs) hn hm

theorem start_of {w w1 w2 : World} {A1 A2 A3 : Option Addr} {c1 c2 c3 most : Nat} (hk1 : Keep w w1) (hat : At (fun k => w.heap.size ≤ k ∧ k < w1.heap.size) w1 (w.heap.size + 1) Stk.fresh)
    (hr : RefAt (fun k => w1.heap.size ≤ k) w2 (.agg #[.slice A1 Stk.fresh.T.length c1, .slice A2 Stk.fresh.P.length c2, .slice A3 Stk.fresh.P.length c3, .int .i64 (most : Int)]) Stk.fresh) (hk2 : Keep w1 w2) :
    PlInv w w2.heap.size (w.heap.size + 1) Stk.fresh (w2.alloc (.cells (rcells A1 A2 A3 Stk.fresh.T.length Stk.fresh.P.length c1 c2 c3 most).toArray 31)) := by
  have hka : Keep w2 (w2.alloc (.cells (rcells A1 A2 A3 Stk.fresh.T.length Stk.fresh.P.length c1 c2 c3 most).toArray 31)) := (Keep.refl _).alloc _
  refine ⟨_, fun k => w1.heap.size ≤ k ∧ k < w2.heap.size, A1, A2, A3, c1, c2, c3, most, ⟨(hk1.trans hk2).trans hka, (hat.keep hk2).keep hka, ((hr.mono (fun k h1 h2 => ⟨h2, h1⟩)).keep hka), Blk.new _ _ _, ?_, ?_, fun k hk => hk.1, ?_, ?_, (hk1.trans hk2).size⟩⟩
  · intro k h1 h2; omega
  · intro k h1; have := hka.size; omega
  · intro h; have := hk2.size; omega
  · intro h; omega

set_option maxHeartbeats 2000000 in
set_option maxRecDepth 100000 in
theorem stackPlays_walk (L : List ActD) (A : Option Addr) (c : Nat) (w : World) (hs : Seg w A (L.flatMap actC)) (hL : ∀ a ∈ L, ActOk w a) (hm : L.length ≤ maxLen) :
    Calls Try.prog 5 #[.slice A L.length c] w fun e w' => e = .returned (.bool true) ∧ Keep w w' := by
  have hfew := few_calls L A c w hs hL hm
  unfold maxLen at hm
  cases hfb : fewB L
  · rw [hfb] at hfew
    have Hf := Lib.hid hfew
    have Ha := Lib.hid (alive_calls w)
    clear hfew hfb hL
    go_enter Try.func5, Try.ntmps5
    go_wp2_with fail
    refine Hf.out.mono ?_
    rintro e w2 ⟨rfl, rfl⟩
    go_wp2_with fail
    refine Ha.out.mono ?_
    rintro e w2 ⟨rfl, hk⟩
    go_wp2
    go_ret
    exact ⟨rfl, hk⟩
  · rw [hfb] at hfew
    obtain ⟨h80, h60⟩ := few_all hfb
    have Hf := Lib.hid hfew
    clear hfew hfb
    go_enter Try.func5, Try.ntmps5
    go_wp2_with fail
    refine Hf.out.mono ?_
    rintro e w2 ⟨rfl, rfl⟩
    go_wp2_with fail
    refine (new_calls w).mono ?_
    rintro e w1 ⟨rfl, hk1, hat1⟩
    go_wp2_with fail
    refine (refNew_calls w1).mono ?_
    rintro e w2 ⟨v, rfl, hr, hk2⟩
    obtain ⟨A1, A2, A3, c1, c2, c3, most, rfl, _⟩ := id hr
    have Hst := Lib.hid (start_of hk1 hat1 hr hk2)
    clear hr hat1
    go_wp2_with fail
    go_loopw [5] (fun i wr => ∃ k : Nat, k ≤ L.length ∧ i = .int .i64 k ∧ PlInv w w2.heap.size (w.heap.size + 1) (Stk.fresh.plays (L.take k)) wr) (fun i _ => L.length - (intOf i).toNat)
    case atStart => exact ⟨0, Nat.zero_le _, rfl, Hst.out⟩
    case round =>
      obtain ⟨k, hk, rfl, F, G, A1, A2, A3, c1, c2, c3, most, hp⟩ := hrel
      clear Hst
      obtain ⟨hok, hbT, hbP⟩ := plays_bounds h60 k hk
      by_cases hlt : k < L.length
      · obtain ⟨ab, off, rfl, hab, q0, q1⟩ := act_at hs (Keep.refl _) hlt
        have hkk : (k : Int) < (L.length : Int) := by omega
        have hk0 : (0 : Int) ≤ (k : Int) := by omega
        have hl60 := h60 L[k] (List.getElem_mem hlt)
        have Hnext := Lib.hid (show Stk.fresh.plays (L.take (k + 1)) = (Stk.fresh.plays (L.take k)).play L[k].1 L[k].2.2.1 by rw [take_snoc L hlt, Stk.plays_snoc])
        obtain ⟨s, hsd⟩ : ∃ s, s = Stk.fresh.plays (L.take k) := ⟨_, rfl⟩
        rw [← hsd] at hp hok hbT hbP Hnext
        clear hsd
        have hle := s.play_le L[k].1 L[k].2.2.1
        have hok' := hok.play L[k].1 L[k].2.2.1
        obtain ⟨s', hs'⟩ : ∃ s', s' = s.play L[k].1 L[k].2.2.1 := ⟨_, rfl⟩
        have Hcall := Lib.hid (call_of hp hok L[k].1 L[k].2.2.2 (hL L[k] (List.getElem_mem hlt)).2.1 (by omega) (by omega))
        rw [← hs'] at Hcall Hnext hle hok'
        clear hs'
        have nF : ¬ F ab := fun hf => by have := hp.fge _ hf; omega
        have hnT : s'.T.length ≤ 1000000 := by omega
        have hnP : s'.P.length ≤ 1000000 := by omega
        have hxl := hp.var.lt
        go_upto_region 7 with fail
        go_cut [6, 7] from 14 to 61 (fun s6 s7 wx => PCut w w2.heap.size (w.heap.size + 1) s' s6 s7 wx)
        case first =>
          have x0 := fun x : KE F wr => x.cell (v := .slice A1 s.T.length c1) (hp.var.cell 0) hp.xf
          have x1 := fun x : KE F wr => x.cell (v := .slice A2 s.P.length c2) (hp.var.cell 1) hp.xf
          have x2 := fun x : KE F wr => x.cell (v := .slice A3 s.P.length c3) (hp.var.cell 2) hp.xf
          have x3 := fun x : KE F wr => x.cell (v := .int .i64 (most : Int)) (hp.var.cell 3) hp.xf
          have y0 := fun x : KE F wr => x.cell (hp.keep.cell q0) nF
          have y1 := fun x : KE F wr => x.cell (hp.keep.cell q1) nF
          refine region_begin (S := fun w' => ∃ x : KE F wr, w' = x.val) (by kernel_rfl) ?_
          refine region_take [0, 1, 2, 3, 4, 5] [] 7 (by kernel_rfl) (by kernel_rfl) (KE.mk' (Ext.drew (Ext.refl _ _))) ?_
          show wpQuiet _ _ _ _ [_, _, _, _, _, _] _
          repeat (go_big_quiet_step (fail))
          refine wpQuiet_nil ?_
          clear x0 x1 x2 x3 y0 y1
          refine region_any (fuel := 6) (is := [6, 10]) (by kernel_rfl) (by simp) (mem2 ?_ ?_)
          · refine ⟨_, rfl, fun K hK => ?_⟩
            go_simp
            refine (Hcall.out wr.drew ((Keep.refl _).drew)).mono ?_
            rintro e w1 ⟨v', rfl, hl⟩
            obtain ⟨B1, B2, B3, d1, d2, d3, most', rfl⟩ := PlaysLeft.form hl
            refine hK _ _ (KE.mk' (((Keep.refl _).drew.ext F).trans hl.1 (fun _ _ h => h))) ?_
            clear hK K
            refine region_take [7, 8, 9] [0, 1, 2, 3, 4, 5, 6] 3 (by kernel_rfl) (by kernel_rfl) (KE.mk' (((Keep.refl _).drew.ext F).trans hl.1 (fun _ _ h => h))) ?_
            show wpQuiet _ _ _ _ [_, _, _] _
            repeat (go_big_quiet_step (fail))
            refine wpQuiet_nil ?_
            refine region_fix (i := 10) (fuel := 2) rfl (by kernel_rfl) (fun K hK => ?_)
            go_simp
            refine hK _ _ (KE.mk' ((((Keep.refl _).drew.ext F).trans hl.1 (fun _ _ h => h)).alloc _)) ?_
            clear hK K
            refine region_fix (i := 11) (fuel := 1) rfl (by kernel_rfl) (fun K hK => ?_)
            go_simp
            refine hK _ _ (KE.mk' ((((Keep.refl _).drew.ext F).trans hl.1 (fun _ _ h => h)).alloc _)) ?_
            clear hK K
            refine region_fix (i := 12) (fuel := 0) rfl (by kernel_rfl) (fun K hK => ?_)
            go_simp
            refine hK _ _ (KE.mk' ((((Keep.refl _).drew.ext F).trans hl.1 (fun _ _ h => h)).alloc _)) ?_
            clear hK K
            refine region_done (by kernel_rfl) ?_
            go_wp2_with fail
            go_meet
            exact pcut_end hp ((Keep.refl _).drew) hl w1.heap.size (Nat.le_trans (show wr.heap.size ≤ wr.drew.heap.size from Nat.le_refl _) hl.1.size) (.inr (Nat.le_refl _)) ((Ext.refl _ _).alloc _) (Blk.new w1 31 (rcells B1 B2 B3 _ _ d1 d2 d3 most'))
          · refine ⟨_, rfl, fun K hK => ?_⟩
            go_simp
            refine hK _ _ (KE.mk' ((Ext.drew (Ext.refl _ _)).alloc _)) ?_
            clear hK K
            refine region_fix (i := 6) (fuel := 5) rfl (by kernel_rfl) (fun K hK => ?_)
            go_simp
            refine (Hcall.out (wr.drew.alloc (.cells rzero.toArray 31)) ((Keep.refl _).drew.alloc _)).mono ?_
            rintro e w1 ⟨v', rfl, hl⟩
            obtain ⟨B1, B2, B3, d1, d2, d3, most', rfl⟩ := PlaysLeft.form hl
            have hE := (((Keep.refl wr).drew.alloc (.cells rzero.toArray 31)).ext F).trans hl.1 (fun _ _ h => h)
            have bz : Blk w1 wr.heap.size 31 rzero := (show Blk (wr.drew.alloc (.cells rzero.toArray 31)) wr.heap.size 31 rzero from Blk.new wr.drew _ rzero).ext hl.1 (fun hf => by have := hp.at_.lt _ hf; omega)
            refine hK _ _ (KE.mk' hE) ?_
            clear hK K
            refine region_take [7, 8, 9] [0, 1, 2, 3, 4, 5, 10, 6] 2 (by kernel_rfl) (by kernel_rfl) (KE.mk' hE) ?_
            show wpQuiet _ _ _ _ [_, _, _] _
            repeat (go_big_quiet_step (fail))
            refine wpQuiet_nil ?_
            have z0 : w1.cell? ⟨wr.heap.size, 0, none⟩ = some (.slice none 0 0) := bz.cell 0
            have z1 : w1.cell? ⟨wr.heap.size, 1, none⟩ = some (.slice none 0 0) := bz.cell 1
            have z2 : w1.cell? ⟨wr.heap.size, 2, none⟩ = some (.slice none 0 0) := bz.cell 2
            have z3 : w1.cell? ⟨wr.heap.size, 3, none⟩ = some (.int .i64 0) := bz.cell 3
            have fz := bz.frozen
            have lz := bz.lt
            refine region_fix (i := 11) (fuel := 1) rfl (by kernel_rfl) (fun K hK => ?_)
            go_simp
            refine hK _ _ (KE.mk' (((((hE).setCell (p := ⟨wr.heap.size, 0, none⟩) (fun h => absurd h (Nat.lt_irrefl _)) _).setCell (p := ⟨wr.heap.size, 1, none⟩) (fun h => absurd h (Nat.lt_irrefl _)) _).setCell (p := ⟨wr.heap.size, 2, none⟩) (fun h => absurd h (Nat.lt_irrefl _)) _).setCell (p := ⟨wr.heap.size, 3, none⟩) (fun h => absurd h (Nat.lt_irrefl _)) _)) ?_
            clear hK K
            refine region_fix (i := 12) (fuel := 0) rfl (by kernel_rfl) (fun K hK => ?_)
            go_simp
            refine hK _ _ (KE.mk' (((((hE).setCell (p := ⟨wr.heap.size, 0, none⟩) (fun h => absurd h (Nat.lt_irrefl _)) _).setCell (p := ⟨wr.heap.size, 1, none⟩) (fun h => absurd h (Nat.lt_irrefl _)) _).setCell (p := ⟨wr.heap.size, 2, none⟩) (fun h => absurd h (Nat.lt_irrefl _)) _).setCell (p := ⟨wr.heap.size, 3, none⟩) (fun h => absurd h (Nat.lt_irrefl _)) _)) ?_
            clear hK K
            refine region_done (by kernel_rfl) ?_
            go_wp2_with fail
            go_meet
            refine pcut_end hp ((Keep.refl _).drew.alloc _) hl wr.heap.size (Nat.le_refl _) (.inl (by simp)) (((((Ext.refl (fun k => k = wr.heap.size) w1).setCell (p := ⟨wr.heap.size, 0, none⟩) (fun _ => rfl) _).setCell (p := ⟨wr.heap.size, 1, none⟩) (fun _ => rfl) _).setCell (p := ⟨wr.heap.size, 2, none⟩) (fun _ => rfl) _).setCell (p := ⟨wr.heap.size, 3, none⟩) (fun _ => rfl) _) ?_
            exact (((bz.set_ 0 _).set_ 1 _).set_ 2 _).set_ 3 _
        case rest =>
          obtain ⟨y, F', G', B1, B2, B3, d1, d2, d3, most', cs, rfl, rfl, hp', hx, hxy, xF, xG, hcs, hge⟩ := hcut
          have z0 : wc.cell? ⟨y, 0, none⟩ = some (.slice B1 s'.T.length d1) := hp'.var.cell 0
          have z1 : wc.cell? ⟨y, 1, none⟩ = some (.slice B2 s'.P.length d2) := hp'.var.cell 1
          have z2 : wc.cell? ⟨y, 2, none⟩ = some (.slice B3 s'.P.length d3) := hp'.var.cell 2
          have z3 : wc.cell? ⟨y, 3, none⟩ = some (.int .i64 (most' : Int)) := hp'.var.cell 3
          obtain ⟨u0, u1, u2, u3, rfl⟩ : ∃ u0 u1 u2 u3, cs = [u0, u1, u2, u3] := by
            match cs, hcs with
            | [a, b, c, d], _ => exact ⟨a, b, c, d, rfl⟩
          have v0 : wc.cell? ⟨w2.heap.size, 0, none⟩ = some u0 := hx.cell 0
          have v1 : wc.cell? ⟨w2.heap.size, 1, none⟩ = some u1 := hx.cell 1
          have v2 : wc.cell? ⟨w2.heap.size, 2, none⟩ = some u2 := hx.cell 2
          have v3 : wc.cell? ⟨w2.heap.size, 3, none⟩ = some u3 := hx.cell 3
          have fz := hx.frozen
          have lz := hx.lt
          have ly := hp'.var.lt
          obtain ⟨W3, hW3⟩ : ∃ W3 : World, W3 = (((wc.setCell ⟨w2.heap.size, 0, none⟩ (.slice B1 s'.T.length d1)).setCell ⟨w2.heap.size, 1, none⟩ (.slice B2 s'.P.length d2)).setCell ⟨w2.heap.size, 2, none⟩ (.slice B3 s'.P.length d3)).setCell ⟨w2.heap.size, 3, none⟩ (.int .i64 (most' : Int)) := ⟨_, rfl⟩
          have hp3 := pcut_store hp' hx hcs xF xG hge hW3
          clear hp hp' hx Hcall
          go_wp2_with fail
          rw [← hW3]
          clear hW3 z0 z1 z2 z3 v0 v1 v2 v3 fz lz ly
          have x0 := fun x : KW W3 => x.cell (v := .slice B1 s'.T.length d1) (hp3.var.cell 0)
          have x1 := fun x : KW W3 => x.cell (v := .slice B2 s'.P.length d2) (hp3.var.cell 1)
          have x2 := fun x : KW W3 => x.cell (v := .slice B3 s'.P.length d3) (hp3.var.cell 2)
          have x3 := fun x : KW W3 => x.cell (v := .int .i64 (most' : Int)) (hp3.var.cell 3)
          have hTT : ((s'.T.length : Int) != (s'.T.length : Int)) = false := by simp
          have hAA : ((s'.at_ : Int) != (s'.at_ : Int)) = false := by simp
          have hOO : (s'.over != s'.over) = false := by simp
          refine region_begin (S := fun w' => ∃ x : KW W3, w' = x.val) (by kernel_rfl) ?_
          refine region_take [0, 1, 2, 3, 5] [] 26 (by kernel_rfl) (by kernel_rfl) (InK.mk' (Keep.refl _).drew) ?_
          show wpQuiet _ _ _ _ [_, _, _, _, _] _
          repeat (go_big_quiet_step (fail))
          refine wpQuiet_nil ?_
          refine region_fix (i := 4) (fuel := 25) rfl (by kernel_rfl) (fun K hK => ?_)
          go_simp
          refine (len_calls (hp3.at_.keep (Keep.refl _).drew)).mono ?_
          rintro e w4 ⟨rfl, rfl⟩
          refine hK _ _ (InK.mk' (Keep.refl _).drew) ?_
          clear hK K
          refine region_fix (i := 6) (fuel := 24) rfl (by kernel_rfl) (fun K hK => ?_)
          go_simp
          refine (refLen_calls (hp3.ref.keep (Keep.refl _).drew)).mono ?_
          rintro e w4 ⟨rfl, hk4'⟩
          have hk4 := (Keep.refl W3).drew.trans hk4'
          clear hk4'
          refine hK _ _ (InK.mk' hk4) ?_
          clear hK K
          refine region_take [7, 8, 9, 10, 12] [0, 1, 2, 3, 5, 4, 6] 19 (by kernel_rfl) (by kernel_rfl) (InK.mk' hk4) ?_
          show wpQuiet _ _ _ _ [_, _, _, _, _] _
          repeat (go_big_quiet_step (fail))
          refine wpQuiet_nil ?_
          refine region_fix (i := 11) (fuel := 18) rfl (by kernel_rfl) (fun K hK => ?_)
          go_simp
          refine (mark_calls (hp3.at_.keep hk4) hnP).mono ?_
          rintro e w5 ⟨rfl, hk5'⟩
          have hk5 := hk4.trans hk5'
          clear hk5'
          refine hK _ _ (InK.mk' hk5) ?_
          clear hK K
          refine region_fix (i := 13) (fuel := 17) rfl (by kernel_rfl) (fun K hK => ?_)
          go_simp
          refine (refMark_calls (hp3.ref.keep hk5) hnP).mono ?_
          rintro e w6 ⟨rfl, hk6'⟩
          have hk6 := hk5.trans hk6'
          clear hk6'
          refine hK _ _ (InK.mk' hk6) ?_
          clear hK K
          refine region_take [14, 15, 16, 17, 19] [0, 1, 2, 3, 5, 4, 6, 7, 8, 9, 10, 12, 11, 13] 12 (by kernel_rfl) (by kernel_rfl) (InK.mk' hk6) ?_
          show wpQuiet _ _ _ _ [_, _, _, _, _] _
          repeat (go_big_quiet_step (fail))
          refine wpQuiet_nil ?_
          refine region_fix (i := 18) (fuel := 11) rfl (by kernel_rfl) (fun K hK => ?_)
          go_simp
          refine (over_calls (hp3.at_.keep hk6)).mono ?_
          rintro e w7 ⟨rfl, rfl⟩
          refine hK _ _ (InK.mk' hk6) ?_
          clear hK K
          refine region_fix (i := 20) (fuel := 10) rfl (by kernel_rfl) (fun K hK => ?_)
          go_simp
          refine (refOver_calls (hp3.ref.keep hk6)).mono ?_
          rintro e w7 ⟨rfl, hk7'⟩
          have hk7 := hk6.trans hk7'
          clear hk7'
          refine hK _ _ (InK.mk' hk7) ?_
          clear hK K
          refine region_take [21, 22, 23, 24, 26, 27] [0, 1, 2, 3, 5, 4, 6, 7, 8, 9, 10, 12, 11, 13, 14, 15, 16, 17, 19, 18, 20] 4 (by kernel_rfl) (by kernel_rfl) (InK.mk' hk7) ?_
          show wpQuiet _ _ _ _ [_, _, _, _, _, _] _
          repeat (go_big_quiet_step (fail))
          refine wpQuiet_nil ?_
          refine region_fix (i := 25) (fuel := 3) rfl (by kernel_rfl) (fun K hK => ?_)
          go_simp
          refine (all_calls (hp3.at_.keep hk7) hnT).mono ?_
          rintro e w8 ⟨va, rfl, hown, hk8'⟩
          obtain ⟨Aa, ca, rfl, _⟩ := hown.form
          have hsg := hown.seg
          have hk8 := hk7.trans hk8'
          clear hk8' hown
          refine hK _ _ (InK.mk' hk8) ?_
          clear hK K
          refine region_fix (i := 28) (fuel := 2) rfl (by kernel_rfl) (fun K hK => ?_)
          go_simp
          refine (refSame_calls s'.T Aa B1 ca d1 w8 hsg (refAt_seg (hp3.ref.keep hk8)) hnT).mono ?_
          rintro e w9 ⟨rfl, hk9'⟩
          have hk9 := hk8.trans hk9'
          clear hk9'
          refine hK _ _ (InK.mk' hk9) ?_
          clear hK K
          refine region_take [29, 30] [0, 1, 2, 3, 5, 4, 6, 7, 8, 9, 10, 12, 11, 13, 14, 15, 16, 17, 19, 18, 20, 21, 22, 23, 24, 26, 27, 25, 28] 0 (by kernel_rfl) (by kernel_rfl) (InK.mk' hk9) ?_
          show wpQuiet _ _ _ _ [_, _] _
          repeat (go_big_quiet_step (fail))
          refine wpQuiet_nil ?_
          refine region_done (by kernel_rfl) ?_
          clear x0 x1 x2 x3 hTT hAA hOO
          have Hp9 := Lib.hid (hp3.far hk9)
          clear hp3
          go_wp2
          go_roundw
          case rel => exact ⟨k + 1, hlt, by go_num, by rw [Hnext.out]; exact ⟨F', G', B1, B2, B3, d1, d2, d3, most', Hp9.out⟩⟩
          case measure => simp [intOf]; omega
      · have Ha := Lib.hid (alive_calls wr)
        have Hk := Lib.hid hp.keep
        have hge : ¬ (k : Int) < (L.length : Int) := by omega
        clear hp
        go_wp2_with fail
        refine Ha.out.mono ?_
        rintro e w3 ⟨rfl, hk3⟩
        go_wp2
        go_ret
        exact ⟨rfl, Hk.out.trans hk3⟩
end Go.Proofs.Ytkeefajfndmpeaa

