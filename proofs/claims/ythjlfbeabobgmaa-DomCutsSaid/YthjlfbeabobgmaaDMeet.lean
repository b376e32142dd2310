/-
  meet: the nearest common ancestor in the tree that is being mended.
-/
import Derived.Test.YthjlfbeabobgmaaDBase
namespace Go.Proofs.Ythjlfbeabobgmaa
open Go Go.RowKit

/-- The tree on the nodes of S as two rows: the ranks and the parents. -/
structure Lay (n : Nat) (R D : List Int) (rank f : Nat → Nat) (S : Nat → Prop) : Prop where
  lenR : R.length = n
  lenD : D.length = n
  lt : ∀ x, S x → x < n
  rk : ∀ x (h : x < R.length), S x → R[x] = (rank x : Int)
  up : ∀ x (h : x < D.length), S x → D[x] = (f x : Int)
  inj : ∀ x y, S x → S y → rank x = rank y → x = y
  top : ∀ x, S x → x ≠ 0 → rank x < rank 0

section
variable {E : Nat → Nat → Prop} {rank : Nat → Nat} {S : Nat → Prop} {f : Nat → Nat} {n : Nat} {R D : List Int} {A1 A2 : Option Addr} {w : World}
theorem Lay.rank_at (h : Lay n R D rank f S) (hs : Seg w A1 (R.flatMap intC)) {wr : World} (hk : Keep w wr) {x : Nat} (hx : S x) : ∃ b off, A1 = some ⟨b, off, none⟩ ∧ wr.cell? ⟨b, off + x, none⟩ = some (.int .i64 (rank x : Int)) := by
  have hl : x < R.length := by rw [h.lenR]; exact h.lt x hx
  obtain ⟨b, off, e, _, hc⟩ := int_at hs hk hl
  exact ⟨b, off, e, by rw [hc, h.rk x hl hx]⟩
theorem Lay.up_at (h : Lay n R D rank f S) (hs : Seg w A2 (D.flatMap intC)) {wr : World} (hk : Keep w wr) {x : Nat} (hx : S x) : ∃ b off, A2 = some ⟨b, off, none⟩ ∧ wr.cell? ⟨b, off + x, none⟩ = some (.int .i64 (f x : Int)) := by
  have hl : x < D.length := by rw [h.lenD]; exact h.lt x hx
  obtain ⟨b, off, e, _, hc⟩ := int_at hs hk hl
  exact ⟨b, off, e, by rw [hc, h.up x hl hx]⟩
end

theorem Lay.top_le {rank f : Nat → Nat} {S : Nat → Prop} {n : Nat} {R D : List Int} (h : Lay n R D rank f S) {x : Nat} (hx : S x) : rank x ≤ rank 0 := by
  by_cases h0 : x = 0
  · rw [h0]; exact Nat.le_refl _
  · exact Nat.le_of_lt (h.top x hx h0)
theorem or_step {x z p : Nat} {rank : Nat → Nat} (h : z = x ∨ rank x < rank z) (hp : rank z < rank p) : p = x ∨ rank x < rank p := by
  rcases h with e | e
  · rw [e] at hp; exact .inr hp
  · exact .inr (by omega)

/-- x and y have the common ancestors of a and b. -/
def Common (f : Nat → Nat) (a b x y : Nat) : Prop := ∀ d, (Dom.Anc f a d ∧ Dom.Anc f b d) ↔ (Dom.Anc f x d ∧ Dom.Anc f y d)
theorem Common.left {E : Nat → Nat → Prop} {rank : Nat → Nat} {S : Nat → Prop} {f : Nat → Nat} (hT : Dom.Tree E rank S f) {a b x y : Nat} (h : Common f a b x y) (hx : S x) (hy : S y) (hr : rank x < rank y) (h0 : x ≠ 0) : Common f a b (f x) y := fun d => by
  rw [h d]
  refine ⟨fun ⟨h1, h2⟩ => ⟨?_, h2⟩, fun ⟨h1, h2⟩ => ⟨.up h0 h1, h2⟩⟩
  rcases h1.cases' with e | ⟨_, h3⟩
  · have := hT.anc_le hy h2
    rw [e] at this; omega
  · exact h3
theorem Common.symm {f : Nat → Nat} {a b x y : Nat} (h : Common f a b x y) : Common f a b y x := fun d => by rw [h d]; exact And.comm
/-- What meet leaves. -/
def MeetPost (S : Nat → Prop) (f : Nat → Nat) (a b : Nat) (w : World) (e : Ending) (w' : World) : Prop := ∃ c : Nat, e = .returned (.int .i64 (c : Int)) ∧ S c ∧ (∀ d, Dom.Anc f c d ↔ Dom.Anc f a d ∧ Dom.Anc f b d) ∧ Keep w w'

set_option maxHeartbeats 1000000 in
theorem meet_calls {E : Nat → Nat → Prop} {rank : Nat → Nat} {S : Nat → Prop} {f : Nat → Nat} (hT : Dom.Tree E rank S f) {n : Nat} {R D : List Int} (hL : Lay n R D rank f S) (A1 A2 : Option Addr) (c1 c2 : Nat) (w : World) (hs1 : Seg w A1 (R.flatMap intC)) (hs2 : Seg w A2 (D.flatMap intC)) (hn : n ≤ 1000000) {a b : Nat} (ha : S a) (hb : S b) :
    Calls Try.prog 26 #[.slice A1 n c1, .slice A2 n c2, .int .i64 (a : Int), .int .i64 (b : Int)] w (MeetPost S f a b w) := by
  obtain ⟨b1, o1, rfl, _⟩ := hL.rank_at hs1 (Keep.refl _) ha
  obtain ⟨b2, o2, rfl, _⟩ := hL.up_at hs2 (Keep.refl _) ha
  have Hr := Lib.hid (fun (wr : World) (hk : Keep w wr) (x : Nat) (hx : S x) => show wr.cell? ⟨b1, o1 + x, none⟩ = some (.int .i64 (rank x : Int)) by
    obtain ⟨_, _, e, h⟩ := hL.rank_at hs1 hk hx
    cases e; exact h)
  have Hu := Lib.hid (fun (wr : World) (hk : Keep w wr) (x : Nat) (hx : S x) => show wr.cell? ⟨b2, o2 + x, none⟩ = some (.int .i64 (f x : Int)) by
    obtain ⟨_, _, e, h⟩ := hL.up_at hs2 hk hx
    cases e; exact h)
  have Hstart := Lib.hid (show Common f a b a b from fun d => Iff.rfl)
  have Hlt := Lib.hid hL.lt
  have Hinj := Lib.hid hL.inj
  have Htop := Lib.hid hL.top
  have HT := Lib.hid hT
  have Htl := Lib.hid (fun x (hx : S x) => hL.top_le hx)
  have Ha := Lib.hid ha
  have Hb := Lib.hid hb
  clear hs1 hs2 hL hT ha hb
  go_enter Try.func26, Try.ntmps26
  go_wp2_with fail
  go_loopg [2, 3] (2 * rank 0) (fun g va vb wr => ∃ x y : Nat, S x ∧ S y ∧ va = .int .i64 (x : Int) ∧ vb = .int .i64 (y : Int) ∧ Common f a b x y ∧ (rank 0 - rank x) + (rank 0 - rank y) ≤ g ∧ Keep w wr)
  case atStart => exact ⟨a, b, Ha.out, Hb.out, rfl, rfl, Hstart.out, by omega, Keep.refl _⟩
  case round =>
    obtain ⟨x, y, hx, hy, rfl, rfl, hc, hg, hkeep⟩ := hrel
    clear Hstart Ha Hb
    obtain ⟨go, rfl⟩ : ∃ go : Nat, go = gk := ⟨_, rfl⟩
    obtain ⟨wo, rfl⟩ : ∃ wo : World, wo = wr := ⟨_, rfl⟩
    have Hx := Lib.hid hx
    have Hy := Lib.hid hy
    have Hc := Lib.hid hc
    have Hk := Lib.hid hkeep
    clear hx hy hc hkeep
    by_cases hxy : x = y
    · subst hxy
      have Hfin := Lib.hid (show ∀ d, Dom.Anc f x d ↔ Dom.Anc f a d ∧ Dom.Anc f b d from fun d => by rw [Hc.out d]; exact ⟨fun h => ⟨h, h⟩, fun h => h.1⟩)
      have dxx : ((x : Int) != (x : Int)) = false := by simp
      go_wp2_with fail
      go_ret
      exact ⟨x, rfl, Hx.out, Hfin.out, Hk.out⟩
    · have dxy : ((x : Int) != (y : Int)) = true := by simp; omega
      have Hne := Lib.hid (show rank x ≠ rank y from fun e => hxy (Hinj.out x y Hx.out Hy.out e))
      clear hxy
      go_wp2_with fail
      go_loopg [2] (rank 0 - rank x) (fun g1 va wi => ∃ x' : Nat, S x' ∧ va = .int .i64 (x' : Int) ∧ Common f a b x' y ∧ (rank 0 - rank x') ≤ g1 ∧ (x' = x ∨ rank x < rank x') ∧ rank x' ≤ rank 0 ∧ Keep wo wi)
      case atStart => exact ⟨x, Hx.out, rfl, Hc.out, Nat.le_refl _, .inl rfl, Htl.out x Hx.out, Keep.refl _⟩
      case round =>
        obtain ⟨x', hx', rfl, hc', hg1, hor, htop, hki⟩ := hrel
        have hxl := Hlt.out x' hx'
        have hyl := Hlt.out y Hy.out
        have q1 := Hr.out wr (Hk.out.trans hki) x' hx'
        have q2 := Hr.out wr (Hk.out.trans hki) y Hy.out
        have q3 := Hu.out wr (Hk.out.trans hki) x' hx'
        have i0 : (0 : Int) ≤ (x' : Int) := by omega
        have i1 : (x' : Int) < (n : Int) := by omega
        have i2 : (0 : Int) ≤ (y : Int) := by omega
        have i3 : (y : Int) < (n : Int) := by omega
        have Hx' := Lib.hid hx'
        have Hc' := Lib.hid hc'
        have Hor := Lib.hid hor
        have Hki := Lib.hid hki
        clear hx' hc' hor hki
        by_cases hlt : rank x' < rank y
        · have dr : decide ((rank x' : Int) < (rank y : Int)) = true := decide_eq_true (by omega)
          have dr' : decide (rank x' < rank y) = true := decide_eq_true hlt
          have hx0 : x' ≠ 0 := fun e => by
            by_cases hy0 : y = 0
            · rw [e, hy0] at hlt; omega
            · have := Htop.out y Hy.out hy0
              rw [e] at hlt; omega
          obtain ⟨u1, u2, _⟩ := HT.out.up x' Hx'.out hx0
          have Hn := Lib.hid (Hc'.out.left HT.out Hx'.out Hy.out hlt hx0)
          have Hu1 := Lib.hid u1
          have hft := Htl.out _ u1
          have Hor' := Lib.hid (or_step Hor.out u2)
          clear u1 hx0
          go_wp2_with fail
          go_quiet (fail)
          go_wp2_with fail
          go_roundg (gk - 1)
          case measure => omega
          case rel => exact ⟨f x', Hu1.out, rfl, Hn.out, by omega, Hor'.out, hft, Hki.out.drewN _⟩
        · have dr : decide ((rank x' : Int) < (rank y : Int)) = false := decide_eq_false (by omega)
          have dr' : decide (rank x' < rank y) = false := decide_eq_false hlt
          go_wp2_with fail
          go_quiet (fail)
          go_wp2_with fail
          obtain ⟨wj, rfl⟩ : ∃ wj : World, wj = wr := ⟨_, rfl⟩
          have Hx1 := Lib.hid (show rank x < rank y → rank x < rank x' from fun h => by
            rcases Hor.out with e | e
            · rw [e] at hlt; omega
            · exact e)
          have hge1 : rank y ≤ rank x' := by omega
          have hxx : rank x ≤ rank x' := by
            rcases Hor.out with e | e
            · rw [e]; exact Nat.le_refl _
            · omega
          clear q1 q2 q3 dr dr' hlt Hor
          go_loopg [3] (rank 0 - rank y) (fun g2 vb wi => ∃ y' : Nat, S y' ∧ vb = .int .i64 (y' : Int) ∧ Common f a b x' y' ∧ (rank 0 - rank y') ≤ g2 ∧ (y' = y ∨ rank y < rank y') ∧ rank y' ≤ rank 0 ∧ Keep wj wi)
          case atStart => exact ⟨y, Hy.out, rfl, Hc'.out, Nat.le_refl _, .inl rfl, Htl.out y Hy.out, (Keep.refl _).drewN _⟩
          case round =>
            obtain ⟨y', hy', rfl, hc2, hg2, hor2, htop2, hkj⟩ := hrel
            have hyl := Hlt.out y' hy'
            have hkw := Hk.out.trans (Hki.out.trans hkj)
            have q1 := Hr.out wr hkw x' Hx'.out
            have q2 := Hr.out wr hkw y' hy'
            have q3 := Hu.out wr hkw y' hy'
            have j2 : (0 : Int) ≤ (y' : Int) := by omega
            have j3 : (y' : Int) < (n : Int) := by omega
            have Hy' := Lib.hid hy'
            have Hc2 := Lib.hid hc2
            have Hor2 := Lib.hid hor2
            have Hkj := Lib.hid hkj
            have Hkw := Lib.hid hkw
            clear hy' hc2 hor2 hkj hkw
            by_cases hlt2 : rank y' < rank x'
            · have dr : decide ((rank y' : Int) < (rank x' : Int)) = true := decide_eq_true (by omega)
              have dr' : decide (rank y' < rank x') = true := decide_eq_true hlt2
              have hy0 : y' ≠ 0 := fun e => by rw [e] at hlt2; omega
              obtain ⟨u1, u2, _⟩ := HT.out.up y' Hy'.out hy0
              have Hn := Lib.hid (Hc2.out.symm.left HT.out Hy'.out Hx'.out hlt2 hy0).symm
              have Hu1 := Lib.hid u1
              have hft := Htl.out _ u1
              have Hor' := Lib.hid (or_step Hor2.out u2)
              clear u1 hy0
              go_wp2_with fail
              go_quiet (fail)
              go_wp2_with fail
              go_roundg (gk - 1)
              case measure => omega
              case rel => exact ⟨f y', Hu1.out, rfl, Hn.out, by omega, Hor'.out, hft, Hkj.out.drewN _⟩
            · have dr : decide ((rank y' : Int) < (rank x' : Int)) = false := decide_eq_false (by omega)
              have dr' : decide (rank y' < rank x') = false := decide_eq_false hlt2
              have hmeas : (rank 0 - rank x') + (rank 0 - rank y') ≤ go - 1 ∧ go - 1 < go := by
                have h1 := Hne.out
                have h2 := Hx1.out
                have h3 := Htl.out x Hx.out
                have h4 := Htl.out y Hy.out
                rcases Nat.lt_or_ge (rank x) (rank y) with h5 | h5
                · have h6 := h2 h5
                  rcases Hor2.out with e | e
                  · rw [e]; omega
                  · omega
                · have h7 : rank x ≤ rank x' := hxx
                  have h8 : rank y < rank y' := by
                    rcases Hor2.out with e | e
                    · rw [e] at hlt2; omega
                    · exact e
                  omega
              obtain ⟨hm1, hm2⟩ := hmeas
              go_wp2_with fail
              go_quiet (fail)
              go_wp2_with fail
              go_roundg (go - 1)
              case measure => exact hm2
              case rel => exact ⟨x', y', Hx'.out, Hy'.out, rfl, rfl, Hc2.out, hm1, Hkw.out.drewN _⟩
end Go.Proofs.Ythjlfbeabobgmaa
