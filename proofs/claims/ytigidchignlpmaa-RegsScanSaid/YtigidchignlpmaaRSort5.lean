/-
  The library's stable sort of at most 60 numbers.
-/
import Derived.Test.YtigidchignlpmaaRSort4
namespace Go.Proofs.Ytigidchignlpmaa
open Go Go.RowKit Rg

/-- A sorted group of the numbers that it began with. -/
structure GB (B : Nat → Int) (d : Row) (a b : Nat) : Prop where
  srt : Srt B d a b
  own : ∀ i, a ≤ i → i < b → a ≤ d i ∧ d i < b
theorem GB.congr {B : Nat → Int} {d e : Row} {a b : Nat} (h : GB B d a b) (he : ∀ i, a ≤ i → i < b → e i = d i) : GB B e a b := ⟨h.srt.congr he, fun i h1 h2 => by rw [he i h1 h2]; exact h.own i h1 h2⟩
theorem GB.two {B : Nat → Int} {d : Row} {a m b : Nat} (h : GB B d a m) (k : GB B d m b) : Two B d a m b := ⟨h.srt, k.srt, fun i j h1 h2 h3 h4 => by have := (h.own i h1 h2).2; have := (k.own j h3 h4).1; omega⟩
theorem GB.merged {B : Nat → Int} {d e : Row} {n a m b : Nat} (h : GB B d a m) (k : GB B d m b) (hm : a ≤ m ∧ m ≤ b) (hp : Per n a b d e) (hs : Srt B e a b) : GB B e a b := ⟨hs, fun i h1 h2 => by
  obtain ⟨j, j1, j2, j3⟩ := hp.inn i h1 h2
  rw [j3]
  by_cases hj : j < m
  · have := h.own j j1 hj; omega
  · have := k.own j (by omega) j2; omega⟩

set_option maxHeartbeats 8000000 in
set_option maxRecDepth 100000 in
theorem stable_calls (w0 : World) (g N : Nat) (B : Nat → Int) (p : Option Addr) (hcmp : CmpOk w0 g N B p) (d : Row) (w : World) (c : Nat) (h : StR w0 g N d w) (hN : N ≤ 60) (hid : ∀ x, x < N → d x = x) :
    Calls Try.prog 36 #[.slice (some ⟨g, 0, none⟩) N c, .int .i64 (N : Int), cmpV p] w fun e w' => (∃ v, e = .returned v) ∧ ∃ d', StR w0 g N d' w' ∧ (rowL N d').Perm (rowL N d) ∧ Srt B d' 0 N := by
  have Hc := Lib.hid hcmp
  have Hmerge := Lib.hid (merge_calls w0 g N N B p hcmp (by omega) 60)
  clear hcmp
  go_enter Try.func36, Try.ntmps36
  go_wp2
  go_loopw [7, 8] (fun va vb wr => ∃ (lo hi : Nat) (e : Row), va = .int .i64 lo ∧ vb = .int .i64 hi ∧ hi ≤ lo + 20 ∧ lo + 20 ≤ hi ∧ lo % 20 = 0 ∧ lo ≤ N ∧ Hid ((∀ l, l % 20 = 0 → l < lo → GB B e l (l + 20)) ∧ (∀ x, lo ≤ x → x < N → e x = x) ∧ (rowL N e).Perm (rowL N d) ∧ (∀ x, x < N → e x < N)) ∧ StR w0 g N e wr) (fun va _ _ => N + 20 - (intOf va).toNat)
  case atStart => exact ⟨0, 20, d, rfl, rfl, Nat.le_refl _, Nat.le_refl _, rfl, Nat.zero_le _, Lib.hid ⟨fun l _ h2 => by omega, fun x _ h2 => hid x h2, List.Perm.refl _, fun x hx => by rw [hid x hx]; exact hx⟩, h⟩
  case round =>
    clear h
    obtain ⟨lo, hi, e, rfl, rfl, h1, h2, hmod, hlo, hprop, hst⟩ := hrel
    by_cases hle : hi ≤ N
    · have hlez : (hi : Int) ≤ (N : Int) := by omega
      have s1 : IntKind.i64.wrap ((hi : Int) + 20) = ((hi + 20 : Nat) : Int) := by rw [show (hi : Int) + 20 = ((hi + 20 : Nat) : Int) by omega]; exact IntWalk.i64_in _ (by omega)
      have Hmod := Lib.hid hmod
      clear hmod
      go_wp2_with fail
      refine (insertion_calls w0 g N N B p Hc.out e wr lo hi c hst (by omega) hle (by omega) (fun x y1 y2 => hprop.out.2.1 x y1 (by omega)) hprop.out.2.2.2).mono ?_
      rintro e1 w2 ⟨⟨u, rfl⟩, f, hst2, hper, hsrt⟩
      have Hp := Lib.hid (show (∀ l, l % 20 = 0 → l < hi → GB B f l (l + 20)) ∧ (∀ x, hi ≤ x → x < N → f x = x) ∧ (rowL N f).Perm (rowL N d) ∧ (∀ x, x < N → f x < N) from by
        refine ⟨fun l y1 y2 => ?_, fun x y1 y2 => by rw [hper.out x (.inr y1)]; exact hprop.out.2.1 x (by omega) y2, hper.perm.trans hprop.out.2.2.1, hper.lt hprop.out.2.2.2 hle⟩
        by_cases hl : l < lo
        · exact (hprop.out.1 l y1 hl).congr fun i _ y3 => hper.out i (.inl (by have := Hmod.out; omega))
        · have e9 : l = lo := by have := Hmod.out; omega
          have e8 : hi = lo + 20 := by omega
          rw [e9]
          rw [e8] at hper hsrt
          exact ⟨hsrt, fun i y3 y4 => by
            obtain ⟨j, j1, j2, j3⟩ := hper.inn i y3 y4
            rw [j3, hprop.out.2.1 j j1 (by omega)]; omega⟩)
      clear hst hprop hper hsrt
      go_wp2
      go_roundw
      case rel => exact ⟨hi, hi + 20, f, rfl, rfl, Nat.le_refl _, Nat.le_refl _, by have := Hmod.out; omega, hle, Hp, hst2⟩
      case measure => simp [intOf]; omega
    · have hlez : ¬ (hi : Int) ≤ (N : Int) := by omega
      have Hmod := Lib.hid hmod
      clear hmod
      go_wp2_with fail
      refine (insertion_calls w0 g N N B p Hc.out e wr lo N c hst hlo (Nat.le_refl _) (by omega) (fun x y1 y2 => hprop.out.2.1 x y1 y2) hprop.out.2.2.2).mono ?_
      rintro e1 w2 ⟨⟨u, rfl⟩, f, hst2, hper, hsrt⟩
      have Hp := Lib.hid (show (∀ l, l % 20 = 0 → l < N → GB B f l (min (l + 20) N)) ∧ (rowL N f).Perm (rowL N d) ∧ (∀ x, x < N → f x < N) from by
        refine ⟨fun l y1 y2 => ?_, hper.perm.trans hprop.out.2.2.1, hper.lt hprop.out.2.2.2 (Nat.le_refl _)⟩
        by_cases hl : l < lo
        · rw [Nat.min_eq_left (by have := Hmod.out; omega)]
          exact (hprop.out.1 l y1 hl).congr fun i _ y3 => hper.out i (.inl (by have := Hmod.out; omega))
        · have e9 : l = lo := by have := Hmod.out; omega
          rw [e9, Nat.min_eq_right (by omega)]
          exact ⟨hsrt, fun i y3 y4 => by
            obtain ⟨j, j1, j2, j3⟩ := hper.inn i y3 y4
            rw [j3, hprop.out.2.1 j j1 j2]; omega⟩)
      clear hst hprop hper hsrt Hc
      go_wp2
      go_loopw [6, 7, 8, 9] (fun vs va vb vm wr => ∃ (s : Nat) (z : Int) (e : Row), vs = .int .i64 z ∧ (s = 20 ∧ z = 20 ∨ s = 40 ∧ z = 40 ∨ s = 80 ∧ z = 80) ∧ Hid ((∀ l, l % s = 0 → l < N → GB B e l (min (l + s) N)) ∧ (rowL N e).Perm (rowL N d) ∧ (∀ x, x < N → e x < N)) ∧ StR w0 g N e wr) (fun vs _ _ _ _ => 100 - (intOf vs).toNat)
      case atStart => exact ⟨20, 20, f, rfl, .inl ⟨rfl, rfl⟩, Hp, hst2⟩
      case round =>
        clear hst2 Hp Hmod h1 h2 hlo hle hlez
        obtain ⟨s, z, e, rfl, hs, hprop, hst⟩ := hrel
        by_cases hsN : s < N
        rotate_left
        · have hsz : ¬ z < (N : Int) := by omega
          have Hend := Lib.hid (show (rowL N e).Perm (rowL N d) ∧ Srt B e 0 N from ⟨hprop.out.2.1, by
            by_cases h0 : 0 < N
            · have := hprop.out.1 0 (Nat.zero_mod _) h0
              rw [Nat.min_eq_right (by omega)] at this
              exact this.srt
            · exact fun i j _ _ h3 => by omega⟩)
          clear hprop hs
          go_wp2
          refine bodyPost_end (results_none rfl _ _ _) rfl ⟨⟨_, rfl⟩, e, hst, Hend.out⟩
        · have hs2 : s = 20 ∧ z = 20 ∨ s = 40 ∧ z = 40 := by omega
          clear hs
          have hsz : z < (N : Int) := by omega
          rcases hs2 with ⟨rfl, rfl⟩ | ⟨rfl, rfl⟩
          · go_wp2
            go_loopw [7, 8] (fun va vb wr => ∃ (lo hi : Nat) (f : Row), va = .int .i64 lo ∧ vb = .int .i64 hi ∧ hi ≤ lo + 40 ∧ lo + 40 ≤ hi ∧ lo % 40 = 0 ∧ lo ≤ N ∧ Hid ((∀ l, l % 40 = 0 → l < lo → GB B f l (l + 40)) ∧ (∀ l, l % 20 = 0 → lo ≤ l → l < N → GB B f l (min (l + 20) N)) ∧ (rowL N f).Perm (rowL N d) ∧ (∀ x, x < N → f x < N)) ∧ StR w0 g N f wr) (fun va _ _ => N + 40 - (intOf va).toNat)
            case atStart => exact ⟨0, 40, e, rfl, rfl, Nat.le_refl _, Nat.le_refl _, rfl, Nat.zero_le _, Lib.hid ⟨fun l _ h2 => by omega, fun l y1 _ y2 => hprop.out.1 l y1 y2, hprop.out.2⟩, hst⟩
            case round =>
              clear hst hprop
              obtain ⟨lo, hi, f, rfl, rfl, h1, h2, hmod, hlo, hprop, hst⟩ := hrel
              have Hmod := Lib.hid hmod
              obtain ⟨mm, hmm⟩ : ∃ mm, mm = lo + 20 := ⟨_, rfl⟩
              have s1 : IntKind.i64.wrap ((lo : Int) + 20) = (mm : Int) := by rw [show (lo : Int) + 20 = (mm : Int) by omega]; exact IntWalk.i64_in _ (by omega)
              have m1 : mm ≤ lo + 20 := by omega
              have m2 : lo + 20 ≤ mm := by omega
              clear hmod hmm
              by_cases hle : hi ≤ N
              · have hlez : (hi : Int) ≤ (N : Int) := by omega
                have s2 : IntKind.i64.wrap ((hi : Int) + 40) = ((hi + 40 : Nat) : Int) := by rw [show (hi : Int) + 40 = ((hi + 40 : Nat) : Int) by omega]; exact IntWalk.i64_in _ (by omega)
                have hg1 : GB B f lo mm := by
                  have := hprop.out.2.1 lo (by have := Hmod.out; omega) (Nat.le_refl _) (by omega)
                  rwa [Nat.min_eq_left (by omega), show lo + 20 = mm by omega] at this
                have hg2 : GB B f mm hi := by
                  have := hprop.out.2.1 mm (by have := Hmod.out; omega) (by omega) (by omega)
                  rwa [Nat.min_eq_left (by omega), show mm + 20 = hi by omega] at this
                go_wp2_with fail
                refine (Hmerge.out f wr lo mm hi c hst (by omega) (by omega) hle (by omega) (hg1.two hg2) hprop.out.2.2.2).mono ?_
                rintro e1 w3 ⟨⟨u3, rfl⟩, f2, hst3, hper, hsrt⟩
                have Hp := Lib.hid (show (∀ l, l % 40 = 0 → l < hi → GB B f2 l (l + 40)) ∧ (∀ l, l % 20 = 0 → hi ≤ l → l < N → GB B f2 l (min (l + 20) N)) ∧ (rowL N f2).Perm (rowL N d) ∧ (∀ x, x < N → f2 x < N) from by
                  refine ⟨fun l y1 y2 => ?_, fun l y1 y2 y3 => (hprop.out.2.1 l y1 (by omega) y3).congr fun i y4 _ => hper.out i (.inr (by omega)), hper.perm.trans hprop.out.2.2.1, hper.lt hprop.out.2.2.2 hle⟩
                  by_cases hl : l < lo
                  · exact (hprop.out.1 l y1 hl).congr fun i _ y3 => hper.out i (.inl (by have := Hmod.out; omega))
                  · have e9 : l = lo := by have := Hmod.out; omega
                    have e8 : hi = lo + 40 := by omega
                    rw [e9, ← e8]
                    exact hg1.merged hg2 ⟨by omega, by omega⟩ hper hsrt)
                clear hst hprop hper hsrt hg1 hg2
                go_wp2
                go_roundw
                case rel => exact ⟨hi, hi + 40, f2, rfl, rfl, Nat.le_refl _, Nat.le_refl _, by have := Hmod.out; omega, hle, Hp, hst3⟩
                case measure => simp [intOf]; omega
              · have hlez : ¬ (hi : Int) ≤ (N : Int) := by omega
                by_cases hmN : mm < N
                · have hmz : (mm : Int) < (N : Int) := by omega
                  have hg1 : GB B f lo mm := by
                    have := hprop.out.2.1 lo (by have := Hmod.out; omega) (Nat.le_refl _) (by omega)
                    rwa [Nat.min_eq_left (by omega), show lo + 20 = mm by omega] at this
                  have hg2 : GB B f mm N := by
                    have := hprop.out.2.1 mm (by have := Hmod.out; omega) (by omega) (by omega)
                    rwa [Nat.min_eq_right (by omega)] at this
                  go_wp2_with fail
                  refine (Hmerge.out f wr lo mm N c hst (by omega) hmN (Nat.le_refl _) (by omega) (hg1.two hg2) hprop.out.2.2.2).mono ?_
                  rintro e1 w3 ⟨⟨u3, rfl⟩, f2, hst3, hper, hsrt⟩
                  have Hp := Lib.hid (show (∀ l, l % 40 = 0 → l < N → GB B f2 l (min (l + 40) N)) ∧ (rowL N f2).Perm (rowL N d) ∧ (∀ x, x < N → f2 x < N) from by
                    refine ⟨fun l y1 y2 => ?_, hper.perm.trans hprop.out.2.2.1, hper.lt hprop.out.2.2.2 (Nat.le_refl _)⟩
                    by_cases hl : l < lo
                    · rw [Nat.min_eq_left (by have := Hmod.out; omega)]
                      exact (hprop.out.1 l y1 hl).congr fun i _ y3 => hper.out i (.inl (by have := Hmod.out; omega))
                    · have e9 : l = lo := by have := Hmod.out; omega
                      rw [e9, Nat.min_eq_right (by omega)]
                      exact hg1.merged hg2 ⟨by omega, by omega⟩ hper hsrt)
                  clear hst hprop hper hsrt hg1 hg2
                  go_wp2
                  go_roundw
                  case rel => exact ⟨40, 40, f2, rfl, by omega, Hp, hst3⟩
                  case measure => simp [intOf]
                · have hmz : ¬ (mm : Int) < (N : Int) := by omega
                  have Hp := Lib.hid (show (∀ l, l % 40 = 0 → l < N → GB B f l (min (l + 40) N)) ∧ (rowL N f).Perm (rowL N d) ∧ (∀ x, x < N → f x < N) from by
                    refine ⟨fun l y1 y2 => ?_, hprop.out.2.2⟩
                    by_cases hl : l < lo
                    · rw [Nat.min_eq_left (by have := Hmod.out; omega)]
                      exact hprop.out.1 l y1 hl
                    · have e9 : l = lo := by have := Hmod.out; omega
                      rw [e9, Nat.min_eq_right (by omega)]
                      have := hprop.out.2.1 lo (by have := Hmod.out; omega) (Nat.le_refl _) (by omega)
                      rwa [Nat.min_eq_right (by omega)] at this)
                  clear hprop
                  go_wp2
                  go_roundw
                  case rel => exact ⟨40, 40, f, rfl, by omega, Hp, hst⟩
                  case measure => simp [intOf]
          · go_wp2
            go_loopw [7, 8] (fun va vb wr => ∃ (lo hi : Nat) (f : Row), va = .int .i64 lo ∧ vb = .int .i64 hi ∧ hi ≤ lo + 80 ∧ lo + 80 ≤ hi ∧ lo % 80 = 0 ∧ lo ≤ N ∧ Hid ((∀ l, l % 80 = 0 → l < lo → GB B f l (l + 80)) ∧ (∀ l, l % 40 = 0 → lo ≤ l → l < N → GB B f l (min (l + 40) N)) ∧ (rowL N f).Perm (rowL N d) ∧ (∀ x, x < N → f x < N)) ∧ StR w0 g N f wr) (fun va _ _ => N + 80 - (intOf va).toNat)
            case atStart => exact ⟨0, 80, e, rfl, rfl, Nat.le_refl _, Nat.le_refl _, rfl, Nat.zero_le _, Lib.hid ⟨fun l _ h2 => by omega, fun l y1 _ y2 => hprop.out.1 l y1 y2, hprop.out.2⟩, hst⟩
            case round =>
              clear hst hprop
              obtain ⟨lo, hi, f, rfl, rfl, h1, h2, hmod, hlo, hprop, hst⟩ := hrel
              have Hmod := Lib.hid hmod
              obtain ⟨mm, hmm⟩ : ∃ mm, mm = lo + 40 := ⟨_, rfl⟩
              have s1 : IntKind.i64.wrap ((lo : Int) + 40) = (mm : Int) := by rw [show (lo : Int) + 40 = (mm : Int) by omega]; exact IntWalk.i64_in _ (by omega)
              have m1 : mm ≤ lo + 40 := by omega
              have m2 : lo + 40 ≤ mm := by omega
              clear hmod hmm
              by_cases hle : hi ≤ N
              · have hlez : (hi : Int) ≤ (N : Int) := by omega
                have s2 : IntKind.i64.wrap ((hi : Int) + 80) = ((hi + 80 : Nat) : Int) := by rw [show (hi : Int) + 80 = ((hi + 80 : Nat) : Int) by omega]; exact IntWalk.i64_in _ (by omega)
                have hg1 : GB B f lo mm := by
                  have := hprop.out.2.1 lo (by have := Hmod.out; omega) (Nat.le_refl _) (by omega)
                  rwa [Nat.min_eq_left (by omega), show lo + 40 = mm by omega] at this
                have hg2 : GB B f mm hi := by
                  have := hprop.out.2.1 mm (by have := Hmod.out; omega) (by omega) (by omega)
                  rwa [Nat.min_eq_left (by omega), show mm + 40 = hi by omega] at this
                go_wp2_with fail
                refine (Hmerge.out f wr lo mm hi c hst (by omega) (by omega) hle (by omega) (hg1.two hg2) hprop.out.2.2.2).mono ?_
                rintro e1 w3 ⟨⟨u3, rfl⟩, f2, hst3, hper, hsrt⟩
                have Hp := Lib.hid (show (∀ l, l % 80 = 0 → l < hi → GB B f2 l (l + 80)) ∧ (∀ l, l % 40 = 0 → hi ≤ l → l < N → GB B f2 l (min (l + 40) N)) ∧ (rowL N f2).Perm (rowL N d) ∧ (∀ x, x < N → f2 x < N) from by
                  refine ⟨fun l y1 y2 => ?_, fun l y1 y2 y3 => (hprop.out.2.1 l y1 (by omega) y3).congr fun i y4 _ => hper.out i (.inr (by omega)), hper.perm.trans hprop.out.2.2.1, hper.lt hprop.out.2.2.2 hle⟩
                  by_cases hl : l < lo
                  · exact (hprop.out.1 l y1 hl).congr fun i _ y3 => hper.out i (.inl (by have := Hmod.out; omega))
                  · have e9 : l = lo := by have := Hmod.out; omega
                    have e8 : hi = lo + 80 := by omega
                    rw [e9, ← e8]
                    exact hg1.merged hg2 ⟨by omega, by omega⟩ hper hsrt)
                clear hst hprop hper hsrt hg1 hg2
                go_wp2
                go_roundw
                case rel => exact ⟨hi, hi + 80, f2, rfl, rfl, Nat.le_refl _, Nat.le_refl _, by have := Hmod.out; omega, hle, Hp, hst3⟩
                case measure => simp [intOf]; omega
              · have hlez : ¬ (hi : Int) ≤ (N : Int) := by omega
                by_cases hmN : mm < N
                · have hmz : (mm : Int) < (N : Int) := by omega
                  have hg1 : GB B f lo mm := by
                    have := hprop.out.2.1 lo (by have := Hmod.out; omega) (Nat.le_refl _) (by omega)
                    rwa [Nat.min_eq_left (by omega), show lo + 40 = mm by omega] at this
                  have hg2 : GB B f mm N := by
                    have := hprop.out.2.1 mm (by have := Hmod.out; omega) (by omega) (by omega)
                    rwa [Nat.min_eq_right (by omega)] at this
                  go_wp2_with fail
                  refine (Hmerge.out f wr lo mm N c hst (by omega) hmN (Nat.le_refl _) (by omega) (hg1.two hg2) hprop.out.2.2.2).mono ?_
                  rintro e1 w3 ⟨⟨u3, rfl⟩, f2, hst3, hper, hsrt⟩
                  have Hp := Lib.hid (show (∀ l, l % 80 = 0 → l < N → GB B f2 l (min (l + 80) N)) ∧ (rowL N f2).Perm (rowL N d) ∧ (∀ x, x < N → f2 x < N) from by
                    refine ⟨fun l y1 y2 => ?_, hper.perm.trans hprop.out.2.2.1, hper.lt hprop.out.2.2.2 (Nat.le_refl _)⟩
                    by_cases hl : l < lo
                    · rw [Nat.min_eq_left (by have := Hmod.out; omega)]
                      exact (hprop.out.1 l y1 hl).congr fun i _ y3 => hper.out i (.inl (by have := Hmod.out; omega))
                    · have e9 : l = lo := by have := Hmod.out; omega
                      rw [e9, Nat.min_eq_right (by omega)]
                      exact hg1.merged hg2 ⟨by omega, by omega⟩ hper hsrt)
                  clear hst hprop hper hsrt hg1 hg2
                  go_wp2
                  go_roundw
                  case rel => exact ⟨80, 80, f2, rfl, by omega, Hp, hst3⟩
                  case measure => simp [intOf]
                · have hmz : ¬ (mm : Int) < (N : Int) := by omega
                  have Hp := Lib.hid (show (∀ l, l % 80 = 0 → l < N → GB B f l (min (l + 80) N)) ∧ (rowL N f).Perm (rowL N d) ∧ (∀ x, x < N → f x < N) from by
                    refine ⟨fun l y1 y2 => ?_, hprop.out.2.2⟩
                    by_cases hl : l < lo
                    · rw [Nat.min_eq_left (by have := Hmod.out; omega)]
                      exact hprop.out.1 l y1 hl
                    · have e9 : l = lo := by have := Hmod.out; omega
                      rw [e9, Nat.min_eq_right (by omega)]
                      have := hprop.out.2.1 lo (by have := Hmod.out; omega) (Nat.le_refl _) (by omega)
                      rwa [Nat.min_eq_right (by omega)] at this)
                  clear hprop
                  go_wp2
                  go_roundw
                  case rel => exact ⟨80, 80, f, rfl, by omega, Hp, hst⟩
                  case measure => simp [intOf]

theorem sortStable_calls (w0 : World) (g N : Nat) (B : Nat → Int) (p : Option Addr) (hcmp : CmpOk w0 g N B p) (d : Row) (w : World) (c : Nat) (h : StR w0 g N d w) (hN : N ≤ 60) (hid : ∀ x, x < N → d x = x) :
    Calls Try.prog 25 #[.slice (some ⟨g, 0, none⟩) N c, cmpV p] w fun e w' => (∃ v, e = .returned v) ∧ StR w0 g N (fun i => (ord B N).getD i 0) w' := by
  have Hs := Lib.hid (stable_calls w0 g N B p hcmp d w c h hN hid)
  clear hcmp h
  unfold cmpV at Hs ⊢
  go_enter Try.func25, Try.ntmps25
  go_wp2_with fail
  refine Hs.out.mono ?_
  rintro e w' ⟨⟨u, rfl⟩, d', hst, hperm, hsrt⟩
  have Hend := Lib.hid (show StR w0 g N (fun i => (ord B N).getD i 0) w' from by
    have hr : rowL N d' = ord B N := by
      refine ord_eq (hperm.trans ?_) ?_
      · have : rowL N d = List.range N := by
          unfold rowL
          rw [List.map_congr_left (g := id) (fun i hi => hid i (by simpa using hi))]; simp
        rw [this]
      · unfold rowL
        rw [List.pairwise_map]
        exact List.pairwise_lt_range.imp_of_mem fun {a b} _ hb hab => hsrt a b (Nat.zero_le _) hab (by simpa using hb)
    refine hst.congr fun i hi => ?_
    rw [← hr, List.getD_eq_getElem?_getD, rowL_get N d' hi]; rfl)
  clear hst hperm hsrt Hs
  go_wp2
  refine bodyPost_end (results_none rfl _ _ _) rfl ⟨⟨_, rfl⟩, Hend.out⟩
end Go.Proofs.Ytigidchignlpmaa
