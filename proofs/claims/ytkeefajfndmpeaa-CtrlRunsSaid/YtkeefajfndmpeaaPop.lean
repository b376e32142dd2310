/-
  Pop, Open, Loose.
-/
import Derived.Test.YtkeefajfndmpeaaPush
import Derived.Test.YtkeefajfndmpeaaRegion
namespace Go.Proofs.Ytkeefajfndmpeaa
open Go Go.RowKit

theorem Own.cut {α : Type} {f : α → List Value} {s : Nat} {e : TypeId} {w : World} {base : Nat} {A : Option Addr} {n c : Nat} {xs : List α} (hf : ∀ x, (f x).length = s) (h : Own f s e w base (.slice A n c) xs) {m : Nat} (hm : m ≤ xs.length) :
    Own f s e w base (.slice A m c) (xs.take m) := by
  obtain ⟨hn, _⟩ := h.segN
  subst hn
  have hl : (xs.take m).length = m := by simp; omega
  refine ⟨?_, ?_⟩
  · rw [← flat_take f s hf, List.length_take, h.1, hl]
    exact Nat.min_eq_left (Nat.mul_le_mul_right _ hm)
  · rcases h.2 with ⟨hv, hn⟩ | ⟨g, cap, cur, hv, hb, hh, hn, hcm, hcs, ht⟩
    · left
      injection hv with h1 h2 h3
      subst h1 h3
      have : m = 0 := by omega
      subst this
      exact ⟨rfl, by simp⟩
    · right
      injection hv with h1 h2 h3
      subst h1 h3
      refine ⟨g, c, cur, by rw [hl], hb, hh, by rw [hl]; omega, hcm, hcs, ?_⟩
      rw [hl, ← flat_take f s hf, ← ht, List.take_take, Nat.min_eq_left (Nat.mul_le_mul_right _ hm)]

theorem left_cut {F : Nat → Prop} {b : Nat} {s : Stk} {w w1 : World} (h : At F w b s) {At : Option Addr} {ct : Nat} {vp : Value} (hb : Blk w b 53 [.slice At s.T.length ct, vp, .bool s.over])
    (ht : Own valC 1 45 w 0 (.slice At s.T.length ct) s.T) (hp : Own partC 2 87 w 0 vp s.P) (ft : ∀ k, (Value.slice At s.T.length ct).ownBlock = some k → F k) (fp : ∀ k, vp.ownBlock = some k → F k)
    (hk : Keep w w1) {m : Nat} (hm : m ≤ s.T.length) : Left F w b (s.cut m) (w1.setCell ⟨b, 0, none⟩ (.slice At m ct)) := by
  have hb1 := hb.keep hk
  have ht1 := ht.keep hk
  have hp1 := hp.keep hk
  refine ⟨(hk.ext F).setCell (p := ⟨b, 0, none⟩) (fun _ => h.self) _, F, ⟨h.self, fun k hk' => ?_, _, vp, hb1.set_ 0 _, ?_, ?_, ?_, fp⟩, fun k hk' => .inl hk'⟩
  · have := Nat.lt_of_lt_of_le (h.lt k hk') hk.size; simpa [World.setCell] using this
  · exact (Own.cut (f := valC) (fun _ => rfl) ht1 hm).set_far (fun k hk' => (Own.cut (f := valC) (fun _ => rfl) ht1 hm).blk_ne hb1 (by decide) hk') _
  · exact hp1.set_far (fun k hk' => hp1.blk_ne hb1 (by decide) hk') _
  · intro k hk'
    refine ft k ?_
    cases At with
    | none => cases hk'
    | some a => exact hk'

theorem pop_calls {F : Nat → Prop} {b : Nat} {s : Stk} {w : World} (h : At F w b s) (hok : s.Ok) (hn : s.T.length ≤ 1000000) (hm : s.P.length ≤ 1000000) :
    Calls Try.prog 26 #[.pointer (some ⟨b, 0, none⟩)] w fun e w' => e = .returned (.tuple #[.int .i64 s.pop.2.1, .int .i64 s.pop.2.2]) ∧ Left F w b s.pop.1 w' := by
  have Hm := Lib.hid (made_calls h)
  obtain ⟨vt, vp, hb, ht, hp, ft, fp⟩ := h.body
  obtain ⟨g, c, rfl, hg, c0, c1⟩ := part_at hp (k := s.B.length) (by rw [s.P_len]; omega)
  rw [s.P_last] at c0 c1
  have Ht := Lib.hid (top_calls hb hm)
  obtain ⟨At, ct, rfl, hct, hcm⟩ := ht.form
  have e0 : w.cell? ⟨b, 0, none⟩ = some (.slice At s.T.length ct) := hb.cell 0
  have hlt := hb.lt
  have hcut := fun (w1 : World) (hk : Keep w w1) (m : Nat) (hm : m ≤ s.T.length) => left_cut h hb ht hp ft fp hk hm
  by_cases hlen : s.at_ < s.T.length
  · have hpop : s.pop = (s.cut (s.T.length - 1), s.T.getD (s.T.length - 1) 0, 0) := by unfold Stk.pop; rw [if_pos hlen]
    obtain ⟨ga, off, rfl, hga, hcell⟩ := val_at ht.seg (Keep.refl _) (k := s.T.length - 1) (by omega)
    have hgd : s.T.getD (s.T.length - 1) 0 = s.T[s.T.length - 1] := by rw [List.getD_eq_getElem?_getD, List.getElem?_eq_getElem (by omega)]; rfl
    rw [← hgd] at hcell
    obtain ⟨t, htt⟩ : ∃ t, t = s.T.getD (s.T.length - 1) 0 := ⟨_, rfl⟩
    rw [← htt] at hcell hpop
    obtain ⟨m, hmm⟩ : ∃ m, m = s.T.length - 1 := ⟨_, rfl⟩
    rw [← hmm] at hcell hpop
    have hi1 : (s.T.length : Int) - 1 = (m : Int) := by omega
    have hw : IntKind.i64.wrap ((s.T.length : Int) - 1) = (m : Int) := by rw [hi1]; exact IntWalk.i64_in _ (by omega)
    have hm0 : (0 : Int) ≤ (m : Int) := by omega
    have hm1 : (m : Int) < (s.T.length : Int) := by omega
    have hm2 : (m : Int) ≤ (ct : Int) := by omega
    have hgt : (s.at_ : Int) < (s.T.length : Int) := by omega
    have Hcut := Lib.hid (fun w1 hk => hcut w1 hk m (by omega))
    have Hpop := Lib.hid hpop
    rw [hpop]
    have Hfb := Lib.hid (fun (w1 : World) (hk : Keep w w1) => (hb.keep hk).frozen 0)
    clear hcut hpop hgd htt hb ht hp hi1 hmm
    go_enter Try.func26, Try.ntmps26
    go_wp2_with fail
    refine Hm.out.mono ?_
    rintro e w1 ⟨rfl, rfl⟩
    go_wp2_with fail
    refine Ht.out.mono ?_
    rintro e w1 ⟨rfl, hk⟩
    have d0 := hk.cell c0
    have d1 := hk.cell c1
    have e1 := hk.cell e0
    have hcell1 := hk.cell hcell
    have hg1 : g < w1.heap.size := Nat.lt_of_lt_of_le hg hk.size
    have hga1 : ga < w1.heap.size := Nat.lt_of_lt_of_le hga hk.size
    have hlt1 : b < w1.heap.size := Nat.lt_of_lt_of_le hlt hk.size
    have z1 := Hfb.out w1 hk
    unfold topAddr
    go_wp2
    refine bodyPost_ret (v := .tuple #[.int .i64 t, .int .i64 0]) (by simp [results, Try.results26, go_sem]) rfl ⟨rfl, Hcut.out _ hk⟩
  · have hge : ¬ (s.at_ : Int) < (s.T.length : Int) := by omega
    cases hlo : s.loose
    · have hpop : s.pop = (s, 0, 13) := by unfold Stk.pop; rw [if_neg hlen, hlo]; rfl
      rw [hpop]
      rw [hlo] at c1
      clear hcut hpop hb ht hp hlo
      go_enter Try.func26, Try.ntmps26
      go_wp2_with fail
      refine Hm.out.mono ?_
      rintro e w1 ⟨rfl, rfl⟩
      go_wp2_with fail
      refine Ht.out.mono ?_
      rintro e w1 ⟨rfl, hk⟩
      have d0 := hk.cell c0
      have d1 := hk.cell c1
      have hg1 : g < w1.heap.size := Nat.lt_of_lt_of_le hg hk.size
      unfold topAddr
      go_wp2
      refine bodyPost_ret (v := .tuple #[.int .i64 0, .int .i64 13]) (by simp [results, Try.results26, go_sem]) rfl ⟨rfl, Left.of_keep h hk⟩
    · have hpop : s.pop = (s, 0, 0) := by unfold Stk.pop; rw [if_neg hlen, hlo]; rfl
      rw [hpop]
      rw [hlo] at c1
      clear hcut hpop hb ht hp hlo
      go_enter Try.func26, Try.ntmps26
      go_wp2_with fail
      refine Hm.out.mono ?_
      rintro e w1 ⟨rfl, rfl⟩
      go_wp2_with fail
      refine Ht.out.mono ?_
      rintro e w1 ⟨rfl, hk⟩
      have d0 := hk.cell c0
      have d1 := hk.cell c1
      have hg1 : g < w1.heap.size := Nat.lt_of_lt_of_le hg hk.size
      unfold topAddr
      go_wp2
      refine bodyPost_ret (v := .tuple #[.int .i64 0, .int .i64 0]) (by simp [results, Try.results26, go_sem]) rfl ⟨rfl, Left.of_keep h hk⟩

theorem loose_calls {F : Nat → Prop} {b : Nat} {s : Stk} {w : World} (h : At F w b s) (hok : s.Ok) (hn : s.T.length ≤ 1000000) (hm : s.P.length ≤ 1000000) :
    Calls Try.prog 27 #[.pointer (some ⟨b, 0, none⟩)] w fun e w' => (∃ v, e = .returned v) ∧ Left F w b s.loosen w' := by
  have Hm := Lib.hid (made_calls h)
  obtain ⟨vt, vp, hb, ht, hp, ft, fp⟩ := h.body
  obtain ⟨g, c, rfl, hg, c0, c1⟩ := part_at hp (k := s.B.length) (by rw [s.P_len]; omega)
  rw [s.P_last] at c0 c1
  have Ht := Lib.hid (top_calls hb hm)
  obtain ⟨At, ct, rfl, hct, hcm⟩ := ht.form
  have e0 : w.cell? ⟨b, 0, none⟩ = some (.slice At s.T.length ct) := hb.cell 0
  have hlt := hb.lt
  have hle := hok.le
  have hm2 : (s.at_ : Int) ≤ (ct : Int) := by omega
  have hgb : g ≠ b := hp.blk_ne hb (by decide) rfl
  have hbg : b ≠ g := fun e => hgb e.symm
  have hfz : w.frozen? ⟨g, s.B.length * 2 + 1, none⟩ = false := World.ownsRow.frozenAt hp _
  have hfb := hb.frozen 0
  have hfin : ∀ w1 : World, Keep w w1 → Left F w b s.loosen ((w1.setCell ⟨g, s.B.length * 2 + 1, none⟩ (.bool true)).setCell ⟨b, 0, none⟩ (.slice At s.at_ ct)) := by
    intro w1 hk
    have hb1 := hb.keep hk
    have ht1 := ht.keep hk
    have hp1 := hp.keep hk
    have hp2 : Own partC 2 87 (w1.setCell ⟨g, s.B.length * 2 + 1, none⟩ (.bool true)) 0 (.slice (some ⟨g, 0, none⟩) s.P.length c) s.loosen.P := by
      have h1 := (World.ownsRow.stored (g := g) hp1 (s.B.length * 2 + 1) (.bool true)).1
      have e1 : s.loosen.P.length = s.P.length := by simp [Stk.P, Stk.loosen, Stk.cut]
      have e2 : s.loosen.P.flatMap partC = (s.P.flatMap partC).set (s.B.length * 2 + 1) (.bool true) := by
        have e3 : (s.B.flatMap partC).length = s.B.length * 2 := by
          generalize s.B = L
          induction L with
          | nil => rfl
          | cons x r ih => rw [List.flatMap_cons, List.length_append, ih]; simp [partC]; omega
        show (s.B ++ [(s.at_, true)]).flatMap partC = ((s.B ++ [(s.at_, s.loose)]).flatMap partC).set _ _
        rw [List.flatMap_append, List.flatMap_append, List.set_append, if_neg (by rw [e3]; omega), e3, show s.B.length * 2 + 1 - s.B.length * 2 = 1 by omega]
        rfl
      unfold Own
      rw [e1, e2]
      exact h1
    have hb2 : Blk (w1.setCell ⟨g, s.B.length * 2 + 1, none⟩ (.bool true)) b 53 [.slice At s.T.length ct, .slice (some ⟨g, 0, none⟩) s.P.length c, .bool s.over] := hb1.far (p := ⟨g, s.B.length * 2 + 1, none⟩) hbg _
    have ht2 := ht1.set_far (p := ⟨g, s.B.length * 2 + 1, none⟩) (fun k hk' e => ht1.type_ne hp1 (by decide) hk' (by rw [e]; rfl)) (.bool true)
    have ht3 := Own.cut (f := valC) (fun _ => rfl) ht2 hle
    refine ⟨((hk.ext F).setCell (p := ⟨g, s.B.length * 2 + 1, none⟩) (fun _ => fp g rfl) _).setCell (p := ⟨b, 0, none⟩) (fun _ => h.self) _, F, ⟨h.self, fun k hk' => ?_, _, _, hb2.set_ 0 _, ?_, ?_, ?_, fp⟩, fun k hk' => .inl hk'⟩
    · have := Nat.lt_of_lt_of_le (h.lt k hk') hk.size; simpa [World.setCell] using this
    · exact ht3.set_far (fun k hk' => ht3.blk_ne hb2 (by decide) hk') _
    · exact hp2.set_far (fun k hk' => hp2.blk_ne hb2 (by decide) hk') _
    · intro k hk'
      refine ft k ?_
      cases At with
      | none => cases hk'
      | some a => exact hk'
  have Hfin := Lib.hid hfin
  have Hfz := Lib.hid (fun (w1 : World) (hk : Keep w w1) => show w1.frozen? ⟨g, s.B.length * 2 + 1, none⟩ = false from World.ownsRow.frozenAt (hp.keep hk) _)
  have Hfb := Lib.hid (fun (w1 : World) (hk : Keep w w1) => (hb.keep hk).frozen 0)
  clear hfin hb ht hp hfz hfb
  go_enter Try.func27, Try.ntmps27
  go_wp2_with fail
  refine Hm.out.mono ?_
  rintro e w1 ⟨rfl, rfl⟩
  go_wp2_with fail
  refine Ht.out.mono ?_
  rintro e w1 ⟨rfl, hk⟩
  have d0 := hk.cell c0
  have d1 := hk.cell c1
  have e1 := hk.cell e0
  have hg1 : g < w1.heap.size := Nat.lt_of_lt_of_le hg hk.size
  have hlt1 : b < w1.heap.size := Nat.lt_of_lt_of_le hlt hk.size
  have z1 := Hfz.out w1 hk
  have z2 := Hfb.out w1 hk
  unfold topAddr
  go_wp2_with fail
  go_region
  go_wp2
  go_end0
  exact ⟨⟨_, rfl⟩, Hfin.out _ (hk.drewN _)⟩
end Go.Proofs.Ytkeefajfndmpeaa
