/-
  Want and Shut.
-/
import Derived.Test.YtkeefajfndmpeaaLeft
import Derived.Test.YtkeefajfndmpeaaPop
namespace Go.Proofs.Ytkeefajfndmpeaa
open Go Go.RowKit

theorem want_calls {F : Nat → Prop} {b : Nat} {s : Stk} {w : World} (h : At F w b s) (hok : s.Ok) (l : List Int) (A : Option Addr) (c : Nat) (hs : Seg w A (l.flatMap valC)) (hn : s.T.length ≤ 1000000) (hm : s.P.length ≤ 1000000) (hl : l.length ≤ 1000000) :
    Calls Try.prog 22 #[.pointer (some ⟨b, 0, none⟩), .slice A l.length c] w fun e w' => e = .returned (.int .i64 (s.want l).2) ∧ Left F w b (s.want l).1 w' := by
  have Hm := Lib.hid (made_calls h)
  have hleft := left_calls h hok l A c hs hn hm hl
  obtain ⟨vt, vp, hb, ht, hp, ft, fp⟩ := h.body
  obtain ⟨At, ct, rfl, hct, hcm⟩ := ht.form
  have hlt := hb.lt
  rcases Stk.left_cases s l hok with ⟨n, h1, h2, h3, _⟩ | ⟨e, h1, h2, _⟩
  · have hw : s.want l = (s.cut n, 0) := by unfold Stk.want; rw [h1]; rfl
    rw [h1] at hleft
    rw [hw]
    have Hl := Lib.hid hleft
    have hn2 : (n : Int) ≤ (ct : Int) := by omega
    have hn0 : (0 : Int) ≤ (n : Int) := by omega
    have Hcut := Lib.hid (fun w1 hk => left_cut h hb ht hp ft fp (w1 := w1) hk h3)
    have Hb := Lib.hid hb
    clear hleft hw h1 hb ht hp
    go_enter Try.func22, Try.ntmps22
    go_wp2_with fail
    refine Hm.out.mono ?_
    rintro e w1 ⟨rfl, rfl⟩
    go_wp2_with fail
    refine Hl.out.mono ?_
    rintro e w1 ⟨rfl, hk⟩
    have c0 : w1.cell? ⟨b, 0, none⟩ = some (.slice At s.T.length ct) := (Hb.out.keep hk).cell 0
    have f0 := (Hb.out.keep hk).frozen 0
    have hlt1 : b < w1.heap.size := Nat.lt_of_lt_of_le hlt hk.size
    go_wp2
    go_ret
    exact ⟨rfl, Hcut.out _ hk⟩
  · have hw : s.want l = (s, e) := by unfold Stk.want; rw [h1, if_neg (by rcases h2 with rfl | rfl <;> decide)]
    rw [h1] at hleft
    rw [hw]
    have he : (e == 0) = false := by rcases h2 with rfl | rfl <;> rfl
    have Hl := Lib.hid hleft
    clear hleft hw h1 h2 hb ht hp
    go_enter Try.func22, Try.ntmps22
    go_wp2_with fail
    refine Hm.out.mono ?_
    rintro e w1 ⟨rfl, rfl⟩
    go_wp2_with fail
    refine Hl.out.mono ?_
    rintro e w1 ⟨rfl, hk⟩
    go_wp2
    go_ret
    exact ⟨rfl, Left.of_keep h hk⟩

theorem part_zero {w : World} {g c : Nat} {s : Stk} (hp : Own partC 2 87 w 0 (.slice (some ⟨g, 0, none⟩) s.P.length c) s.P) (hB : s.B = []) :
    Own partC 2 87 ((w.setCell ⟨g, 0, none⟩ (.int .i64 0)).setCell ⟨g, 1, none⟩ (.bool false)) 0 (.slice (some ⟨g, 0, none⟩) s.P.length c) [((0, false) : Part)] := by
  have h1 := (World.ownsRow.stored (g := g) hp 0 (.int .i64 0)).1
  have h2 := (World.ownsRow.stored (g := g) h1 1 (.bool false)).1
  have e1 : s.P = [(s.at_, s.loose)] := by simp [Stk.P, hB]
  rw [e1] at h2 ⊢
  exact h2

theorem shut_calls {F : Nat → Prop} {b : Nat} {s : Stk} {w : World} (h : At F w b s) (hok : s.Ok) (l : List Int) (A : Option Addr) (c : Nat) (hs : Seg w A (l.flatMap valC)) (hn : s.T.length ≤ 1000000) (hm : s.P.length ≤ 1000000) (hl : l.length ≤ 1000000) :
    Calls Try.prog 25 #[.pointer (some ⟨b, 0, none⟩), .slice A l.length c] w fun e w' => e = .returned (.int .i64 (s.shut l).2) ∧ Left F w b (s.shut l).1 w' := by
  have Hm := Lib.hid (made_calls h)
  have hleft := left_calls h hok l A c hs hn hm hl
  obtain ⟨vt, vp, hb, ht, hp, ft, fp⟩ := h.body
  obtain ⟨g, cp, rfl, hg, p0, p1⟩ := part_at hp (k := s.B.length) (by rw [s.P_len]; omega)
  rw [s.P_last] at p0 p1
  obtain ⟨At, ct, rfl, hct, hcm⟩ := ht.form
  have hlt := hb.lt
  rcases Stk.left_cases s l hok with ⟨n, h1, h2, h3, _⟩ | ⟨e, h1, h2, _⟩
  rotate_left
  · have hw : s.shut l = (s, e) := by unfold Stk.shut; rw [h1, if_neg (by rcases h2 with rfl | rfl <;> decide)]
    rw [h1] at hleft
    rw [hw]
    have he : (e != 0) = true := by rcases h2 with rfl | rfl <;> rfl
    have Hl := Lib.hid hleft
    clear hleft hw h1 h2 hb ht hp
    go_enter Try.func25, Try.ntmps25
    go_wp2_with fail
    refine Hm.out.mono ?_
    rintro e w1 ⟨rfl, rfl⟩
    go_wp2_with fail
    refine Hl.out.mono ?_
    rintro e w1 ⟨rfl, hk⟩
    go_wp2
    go_ret
    exact ⟨rfl, Left.of_keep h hk⟩
  · rw [h1] at hleft
    have Hl := Lib.hid hleft
    have Ht := Lib.hid (fun (w1 : World) (hk : Keep w w1) => top_calls (hb.keep hk) hm)
    have Hb := Lib.hid hb
    have Htt := Lib.hid ht
    have Hp := Lib.hid hp
    clear hleft
    by_cases hgt : s.at_ < n
    · have hw : s.shut l = (s, 14) := by unfold Stk.shut; rw [h1]; simp [hgt]
      rw [hw]
      have hgi : (s.at_ : Int) < (n : Int) := by omega
      clear hw h1 hb ht hp
      go_enter Try.func25, Try.ntmps25
      go_wp2_with fail
      refine Hm.out.mono ?_
      rintro e w1 ⟨rfl, rfl⟩
      go_wp2_with fail
      refine Hl.out.mono ?_
      rintro e w1 ⟨rfl, hk⟩
      go_wp2_with fail
      refine (Ht.out w1 hk).mono ?_
      rintro e w2 ⟨rfl, hk2⟩
      have hk02 := hk.trans hk2
      have d0 := hk02.cell p0
      have hg2 : g < w2.heap.size := Nat.lt_of_lt_of_le hg hk02.size
      unfold topAddr
      go_wp2
      go_ret
      exact ⟨rfl, Left.of_keep h hk02⟩
    · have hna : n = s.at_ := by omega
      have hw : s.shut l = ((s.cut n).outer, 0) := by unfold Stk.shut; rw [h1]; simp [hgt]
      rw [hw]
      have hgi : ¬ (s.at_ : Int) < (n : Int) := by omega
      have hn2 : (n : Int) ≤ (ct : Int) := by omega
      have hn0 : (0 : Int) ≤ (n : Int) := by omega
      have hgb : g ≠ b := hp.blk_ne hb (by decide) rfl
      have hbg : b ≠ g := fun e => hgb e.symm
      rcases List.eq_nil_or_concat s.B with hB | ⟨r, p, hB0⟩
      · -- the outermost part
        have hPl : s.P.length = 1 := by rw [s.P_len, hB]; rfl
        have hfin : ∀ w2 : World, Keep w w2 → Left F w b (s.cut n).outer (((w2.setCell ⟨b, 0, none⟩ (.slice At n ct)).setCell ⟨g, 0, none⟩ (.int .i64 0)).setCell ⟨g, 1, none⟩ (.bool false)) := by
          intro w2 hk
          have hb2 := (hb.keep hk).set_ 0 (.slice At n ct)
          have ht2 := Own.cut (f := valC) (fun _ => rfl) (ht.keep hk) h3
          have ht3 := ht2.set_far (p := ⟨b, 0, none⟩) (fun k hk' => ht2.blk_ne (hb.keep hk) (by decide) hk') (.slice At n ct)
          have hp3 := (hp.keep hk).set_far (p := ⟨b, 0, none⟩) (fun k hk' => (hp.keep hk).blk_ne (hb.keep hk) (by decide) hk') (.slice At n ct)
          have hft : ∀ k, (Value.slice At n ct).ownBlock = some k → k ≠ g := fun k hk' e => ht3.type_ne hp3 (by decide) hk' (by rw [e]; rfl)
          have ho : (s.cut n).outer = { s.cut n with at_ := 0, loose := false } := Stk.outer_none hB
          have hP : (s.cut n).outer.P = [((0, false) : Part)] := by rw [ho]; simp [Stk.P, Stk.cut, hB]
          refine ⟨(((hk.ext F).setCell (p := ⟨b, 0, none⟩) (fun _ => h.self) _).setCell (p := ⟨g, 0, none⟩) (fun _ => fp g rfl) _).setCell (p := ⟨g, 1, none⟩) (fun _ => fp g rfl) _, F, ⟨h.self, fun k hk' => ?_, .slice At n ct, .slice (some ⟨g, 0, none⟩) s.P.length cp, ?_, ?_, ?_, ?_, fp⟩, fun k hk' => .inl hk'⟩
          · have := Nat.lt_of_lt_of_le (h.lt k hk') hk.size; simpa [World.setCell] using this
          · rw [ho]; exact (hb2.far (p := ⟨g, 0, none⟩) hbg _).far (p := ⟨g, 1, none⟩) hbg _
          · rw [ho]; exact (ht3.set_far (p := ⟨g, 0, none⟩) hft _).set_far (p := ⟨g, 1, none⟩) hft _
          · rw [hP]; exact part_zero hp3 hB
          · intro k hk'
            refine ft k ?_
            cases At with
            | none => cases hk'
            | some a => exact hk'
        have Hfin := Lib.hid hfin
        have p0' : w.cell? ⟨g, 0, none⟩ = some (.int .i64 (s.at_ : Int)) := by rw [hB] at p0; exact p0
        have p1' : w.cell? ⟨g, 1, none⟩ = some (.bool s.loose) := by rw [hB] at p1; exact p1
        have Hfz := Lib.hid (fun (w1 : World) (hk : Keep w w1) (i : Nat) => show w1.frozen? ⟨g, i, none⟩ = false from World.ownsRow.frozenAt (hp.keep hk) i)
        clear hfin hw h1 hb ht hp hB hna
        go_enter Try.func25, Try.ntmps25
        go_wp2_with fail
        refine Hm.out.mono ?_
        rintro e w1 ⟨rfl, rfl⟩
        go_wp2_with fail
        refine Hl.out.mono ?_
        rintro e w1 ⟨rfl, hk⟩
        go_wp2_with fail
        refine (Ht.out w1 hk).mono ?_
        rintro e w2 ⟨rfl, hk2⟩
        have hk02 := hk.trans hk2
        have d0 := hk02.cell p0
        have d0' := hk02.cell p0'
        have d1' := hk02.cell p1'
        have z0 := Hfz.out w2 hk02 0
        have z1 := Hfz.out w2 hk02 1
        have hg2 : g < w2.heap.size := Nat.lt_of_lt_of_le hg hk02.size
        have c0 : w2.cell? ⟨b, 0, none⟩ = some (.slice At s.T.length ct) := (Hb.out.keep hk02).cell 0
        have c1 : w2.cell? ⟨b, 1, none⟩ = some (.slice (some ⟨g, 0, none⟩) s.P.length cp) := (Hb.out.keep hk02).cell 1
        have f0 := (Hb.out.keep hk02).frozen 0
        have hlt2 : b < w2.heap.size := Nat.lt_of_lt_of_le hlt hk02.size
        unfold topAddr
        go_wp2
        go_ret
        exact ⟨rfl, Hfin.out _ hk02⟩
      · have hB : s.B = r ++ [p] := by simpa using hB0
        clear hB0
        have hPl : s.P.length = r.length + 2 := by rw [s.P_len, hB]; simp
        have hne1 : ((s.P.length : Int) == 1) = false := by simp; omega
        have hcp : s.P.length ≤ cp := by obtain ⟨A', c', e', hh, _⟩ := hp.form; cases e'; exact hh
        obtain ⟨m, hmm⟩ : ∃ m, m = s.P.length - 1 := ⟨_, rfl⟩
        have hi1 : (s.P.length : Int) - 1 = (m : Int) := by omega
        have hwr : IntKind.i64.wrap ((s.P.length : Int) - 1) = (m : Int) := by rw [hi1]; exact IntWalk.i64_in _ (by omega)
        have hm0 : (0 : Int) ≤ (m : Int) := by omega
        have hm2 : (m : Int) ≤ (cp : Int) := by omega
        have hfin : ∀ w2 : World, Keep w w2 → Left F w b (s.cut n).outer ((w2.setCell ⟨b, 0, none⟩ (.slice At n ct)).setCell ⟨b, 1, none⟩ (.slice (some ⟨g, 0, none⟩) m cp)) := by
          intro w2 hk
          have hb2 := ((hb.keep hk).set_ 0 (.slice At n ct)).set_ 1 (.slice (some ⟨g, 0, none⟩) m cp)
          have ht2 := Own.cut (f := valC) (fun _ => rfl) (ht.keep hk) h3
          have hp2 := Own.cut (f := partC) (fun _ => rfl) (hp.keep hk) (m := m) (by omega)
          have hfp : ∀ k, (Value.slice (some ⟨g, 0, none⟩) m cp).ownBlock = some k → k ≠ b := fun k hk' => hp2.blk_ne (hb.keep hk) (by decide) hk'
          have hft : ∀ k, (Value.slice At n ct).ownBlock = some k → k ≠ b := fun k hk' => ht2.blk_ne (hb.keep hk) (by decide) hk'
          have ho : (s.cut n).outer = { s.cut n with B := r, at_ := p.1, loose := p.2 } := Stk.outer_some hB
          have hP : (s.cut n).outer.P = s.P.take m := by
            rw [Stk.outer_P (s := s.cut n) hB]
            show s.B = (s.B ++ [(s.at_, s.loose)]).take m
            rw [List.take_left' (by have := s.P_len; omega)]
          refine ⟨((hk.ext F).setCell (p := ⟨b, 0, none⟩) (fun _ => h.self) _).setCell (p := ⟨b, 1, none⟩) (fun _ => h.self) _, F, ⟨h.self, fun k hk' => ?_, .slice At n ct, .slice (some ⟨g, 0, none⟩) m cp, ?_, ?_, ?_, ?_, fp⟩, fun k hk' => .inl hk'⟩
          · have := Nat.lt_of_lt_of_le (h.lt k hk') hk.size; simpa [World.setCell] using this
          · rw [ho]; exact hb2
          · rw [ho]; exact (ht2.set_far (p := ⟨b, 0, none⟩) hft _).set_far (p := ⟨b, 1, none⟩) hft _
          · rw [hP]; exact (hp2.set_far (p := ⟨b, 0, none⟩) hfp _).set_far (p := ⟨b, 1, none⟩) hfp _
          · intro k hk'
            refine ft k ?_
            cases At with
            | none => cases hk'
            | some a => exact hk'
        have Hfin := Lib.hid hfin
        clear hfin hw h1 hb ht hp hB hPl hmm hi1 hcp hna
        go_enter Try.func25, Try.ntmps25
        go_wp2_with fail
        refine Hm.out.mono ?_
        rintro e w1 ⟨rfl, rfl⟩
        go_wp2_with fail
        refine Hl.out.mono ?_
        rintro e w1 ⟨rfl, hk⟩
        go_wp2_with fail
        refine (Ht.out w1 hk).mono ?_
        rintro e w2 ⟨rfl, hk2⟩
        have hk02 := hk.trans hk2
        have d0 := hk02.cell p0
        have hg2 : g < w2.heap.size := Nat.lt_of_lt_of_le hg hk02.size
        have c0 : w2.cell? ⟨b, 0, none⟩ = some (.slice At s.T.length ct) := (Hb.out.keep hk02).cell 0
        have c1 : w2.cell? ⟨b, 1, none⟩ = some (.slice (some ⟨g, 0, none⟩) s.P.length cp) := (Hb.out.keep hk02).cell 1
        have f0 := (Hb.out.keep hk02).frozen 0
        have f1 := (Hb.out.keep hk02).frozen 1
        have hlt2 : b < w2.heap.size := Nat.lt_of_lt_of_le hlt hk02.size
        unfold topAddr
        go_wp2_with fail
        go_region
        go_wp2
        go_ret
        exact ⟨rfl, Hfin.out _ (hk02.drew)⟩
end Go.Proofs.Ytkeefajfndmpeaa
