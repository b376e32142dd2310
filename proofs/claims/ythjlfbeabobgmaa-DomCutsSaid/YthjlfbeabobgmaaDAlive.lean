/-
  The worked example of the chapter.
-/
import Derived.Test.YthjlfbeabobgmaaDRefLoops
import Derived.Test.YthjlfbeabobgmaaDChild
import Derived.Test.YthjlfbeabobgmaaDPair
namespace Go.Proofs.Ythjlfbeabobgmaa
open Go Go.RowKit

def g1 : Dom.Gr := [[1, 2], [3], [3], [1]]
def g2 : Dom.Gr := [[1], [2], [1]]

namespace Dom
/-- The one candidate is it. -/
theorem Idom.only {N : Gr} {I : List Int} (h : Idom N I) (hN : N ≠ []) {x p : Nat} (hx : R (Ed N) x) (h0 : x ≠ 0) (hpx : p ≠ x) (hp : p = 0 ∨ Dm (Ed N) p x) (hd : ∀ d, d < N.length → d ≠ x → d ≠ p → d ≠ 0 → RA (Ed N) d x) : I.getD x 0 = (p : Int) := by
  obtain ⟨f, rank, hup, hlt, hdom⟩ := h.tree hN
  obtain ⟨h1, h2, h3⟩ := hup x hx h0
  have hf : Dm (Ed N) (f x) x := (hdom x hx _).1 (.up h0 (.refl _))
  have hfx : f x ≠ x := fun e => by rw [e] at h3; omega
  rw [h1]
  by_cases e : f x = p
  · rw [e]
  · by_cases e0 : f x = 0
    · rcases hp with h4 | h4
      · exact absurd (e0.trans h4.symm) e
      · rcases ((hdom x hx p).2 h4).cases' with h5 | ⟨_, h5⟩
        · exact absurd h5 hpx
        · rw [e0] at h5
          exact absurd (e0.trans h5.zero.symm) e
    · exact absurd (hd _ (hlt _ h2).1 hfx e e0) hf.2
end Dom

theorem ed1 {a b : Nat} (h : (decide (a < 4) && decide (b < 4) && decide ((b : Int) ∈ g1.getD a [])) = true) : Dom.Ed g1 a b := by
  simp only [Bool.and_eq_true, decide_eq_true_eq] at h; exact ⟨h.1.1, h.1.2, h.2⟩
theorem ed2 {a b : Nat} (h : (decide (a < 3) && decide (b < 3) && decide ((b : Int) ∈ g2.getD a [])) = true) : Dom.Ed g2 a b := by
  simp only [Bool.and_eq_true, decide_eq_true_eq] at h; exact ⟨h.1.1, h.1.2, h.2⟩
open Dom in
theorem g1_1 {d : Nat} (h0 : d ≠ 0) (h : d ≠ 1) : RA (Ed g1) d 1 := .step (.root (fun e => h0 e.symm)) (ed1 (by decide)) (fun e => h e.symm)
open Dom in
theorem g1_2 {d : Nat} (h0 : d ≠ 0) (h : d ≠ 2) : RA (Ed g1) d 2 := .step (.root (fun e => h0 e.symm)) (ed1 (by decide)) (fun e => h e.symm)
open Dom in
theorem g1_3 {d : Nat} (h0 : d ≠ 0) (h : d ≠ 3) : RA (Ed g1) d 3 := by
  by_cases e : d = 1
  · exact .step (g1_2 h0 (by omega)) (ed1 (by decide)) (fun e => h e.symm)
  · exact .step (g1_1 h0 e) (ed1 (by decide)) (fun e => h e.symm)
theorem of1 {I : List Int} (h : Dom.Idom g1 I) : I = [-1, 0, 0, 0] := by
  have hN : g1 ≠ [] := by decide
  have hl := h.len
  have e0 := h.root hN
  have e1 := h.only hN (g1_1 (d := 5) (by decide) (by decide)).reach (by decide) (p := 0) (by decide) (.inl rfl) (fun d _ h1 _ h2 => g1_1 h2 h1)
  have e2 := h.only hN (g1_2 (d := 5) (by decide) (by decide)).reach (by decide) (p := 0) (by decide) (.inl rfl) (fun d _ h1 _ h2 => g1_2 h2 h1)
  have e3 := h.only hN (g1_3 (d := 5) (by decide) (by decide)).reach (by decide) (p := 0) (by decide) (.inl rfl) (fun d _ h1 _ h2 => g1_3 h2 h1)
  match I, hl with
  | [a, b, c, d], _ => simp at e0 e1 e2 e3; rw [e0, e1, e2, e3]
theorem no_back {N : Dom.Gr} {a t : Nat} (h : Dom.RA (Dom.Ed N) t a) : backB N a (t : Int) = false := by
  rw [← Bool.not_eq_true, backB_iff]
  exact fun h1 => h1.2.2.2 (by rw [Int.toNat_natCast]; exact h)
theorem loops1 : loopsTo g1 4 = [] := by
  have e : loopsTo g1 4 = backs g1 0 [1, 2] ++ (backs g1 1 [3] ++ (backs g1 2 [3] ++ (backs g1 3 [1] ++ []))) := rfl
  have f1 : backB g1 0 1 = false := no_back (t := 1) (.root (by decide))
  have f2 : backB g1 0 2 = false := no_back (t := 2) (.root (by decide))
  have f3 : backB g1 1 3 = false := no_back (t := 3) (g1_1 (by decide) (by decide))
  have f4 : backB g1 2 3 = false := no_back (t := 3) (g1_2 (by decide) (by decide))
  have f5 : backB g1 3 1 = false := no_back (t := 1) (g1_3 (by decide) (by decide))
  rw [e]
  simp [backs, List.filter_cons, f1, f2, f3, f4, f5]
open Dom in
theorem g2_1 {d : Nat} (h0 : d ≠ 0) (h : d ≠ 1) : RA (Ed g2) d 1 := .step (.root (fun e => h0 e.symm)) (ed2 (by decide)) (fun e => h e.symm)
open Dom in
theorem g2_2 {d : Nat} (h0 : d ≠ 0) (h1 : d ≠ 1) (h : d ≠ 2) : RA (Ed g2) d 2 := .step (g2_1 h0 h1) (ed2 (by decide)) (fun e => h e.symm)
open Dom in
theorem g2_dm : Dm (Ed g2) 1 2 := ⟨(g2_2 (d := 5) (by decide) (by decide) (by decide)).reach, fun h => by
  have key : ∀ x, RA (Ed g2) 1 x → x = 0 := fun x hx => by
    induction hx with
    | root _ => rfl
    | @step a b _ he hne ih =>
      subst ih
      have := he.2.2
      simp [g2] at this
      omega
  exact absurd (key 2 h) (by decide)⟩
theorem of2 {I : List Int} (h : Dom.Idom g2 I) : I = [-1, 0, 1] := by
  have hN : g2 ≠ [] := by decide
  have hl := h.len
  have e0 := h.root hN
  have e1 := h.only hN (g2_1 (d := 5) (by decide) (by decide)).reach (by decide) (p := 0) (by decide) (.inl rfl) (fun d _ h1 _ h2 => g2_1 h2 h1)
  have e2 := h.only hN g2_dm.1 (by decide) (p := 1) (by decide) (.inr g2_dm) (fun d _ h1 h2 h3 => g2_2 h3 h2 h1)
  match I, hl with
  | [a, b, c], _ => simp at e0 e1 e2; rw [e0, e1, e2]
theorem loops2 : loopsTo g2 3 = [(2, 1)] := by
  have e : loopsTo g2 3 = backs g2 0 [1] ++ (backs g2 1 [2] ++ (backs g2 2 [1] ++ [])) := rfl
  have f1 : backB g2 0 1 = false := no_back (t := 1) (.root (by decide))
  have f2 : backB g2 1 2 = false := no_back (t := 2) (g2_1 (by decide) (by decide))
  have f3 : backB g2 2 1 = true := backB_iff.2 ⟨by decide, by decide, g2_dm⟩
  rw [e]
  simp [backs, List.filter_cons, f1, f2, f3]

/-- Rows in blocks of their own. -/
def mkRows (L : List (Nat × List Int)) : List Row := L.map fun p => ⟨some ⟨p.1, 0, none⟩, p.2, p.2.length⟩
theorem graph_mk {w : World} {bh : Nat} {L : List (Nat × List Int)} (hb : Blk w bh 29 ((mkRows L).flatMap rowC)) (h : ∀ p ∈ L, IBlk w p.1 3 p.2) (hs : ∀ p ∈ L, p.2.length ≤ 1000) (hL : L.length ≤ 900) :
    Graph w (some ⟨bh, 0, none⟩) (mkRows L) ∧ (mkRows L).length ≤ 900 ∧ (∀ x ∈ mkRows L, x.l.length ≤ 1000) ∧ gr (mkRows L) = L.map (·.2) := by
  refine ⟨⟨Seg.of_blk hb, fun x hx => ?_, by unfold maxLen mkRows; simp; omega⟩, by simpa [mkRows] using hL, fun x hx => ?_, by simp [gr, mkRows, List.map_map, Function.comp_def]⟩
  · obtain ⟨p, hp, rfl⟩ := List.mem_map.1 hx
    exact ⟨(h p hp).seg, by have := hs p hp; unfold maxLen; simp; omega⟩
  · obtain ⟨p, hp, rfl⟩ := List.mem_map.1 hx
    exact hs p hp
theorem g1_mem (w : World) : ∃ W : World, W = (((((w).alloc (.cells #[.int .i64 1, .int .i64 2] 3)).alloc (.cells #[.int .i64 3] 3)).alloc (.cells #[.int .i64 3] 3)).alloc (.cells #[.int .i64 1] 3)).alloc (.cells #[.slice (some ⟨w.heap.size, 0, none⟩) 2 2, .slice (some ⟨w.heap.size + 1, 0, none⟩) 1 1, .slice (some ⟨w.heap.size + 1 + 1, 0, none⟩) 1 1, .slice (some ⟨w.heap.size + 1 + 1 + 1, 0, none⟩) 1 1] 29) ∧ Keep w W ∧ W.heap.size = w.heap.size + 1 + 1 + 1 + 1 + 1 ∧ Graph W (some ⟨w.heap.size + 1 + 1 + 1 + 1, 0, none⟩) (mkRows [(w.heap.size, [1, 2]), (w.heap.size + 1, [3]), (w.heap.size + 1 + 1, [3]), (w.heap.size + 1 + 1 + 1, [1])]) ∧ gr (mkRows [(w.heap.size, [1, 2]), (w.heap.size + 1, [3]), (w.heap.size + 1 + 1, [3]), (w.heap.size + 1 + 1 + 1, [1])]) = g1 := by
  refine ⟨_, rfl, (((((Keep.refl _).alloc _).alloc _).alloc _).alloc _).alloc _, by simp, (graph_mk ?_ ?_ ?_ (by simp)).1, rfl⟩
  · have := Blk.new (((((w).alloc (.cells #[.int .i64 1, .int .i64 2] 3)).alloc (.cells #[.int .i64 3] 3)).alloc (.cells #[.int .i64 3] 3)).alloc (.cells #[.int .i64 1] 3)) 29 [.slice (some ⟨w.heap.size, 0, none⟩) 2 2, .slice (some ⟨w.heap.size + 1, 0, none⟩) 1 1, .slice (some ⟨w.heap.size + 1 + 1, 0, none⟩) 1 1, .slice (some ⟨w.heap.size + 1 + 1 + 1, 0, none⟩) 1 1]
    show Blk _ _ _ [.slice (some ⟨w.heap.size, 0, none⟩) 2 2, .slice (some ⟨w.heap.size + 1, 0, none⟩) 1 1, .slice (some ⟨w.heap.size + 1 + 1, 0, none⟩) 1 1, .slice (some ⟨w.heap.size + 1 + 1 + 1, 0, none⟩) 1 1]
    simpa using this
  · intro p hp
    simp only [List.mem_cons, List.not_mem_nil, or_false] at hp
    rcases hp with rfl | rfl | rfl | rfl
    · have := (Blk.new (w) 3 [.int .i64 1, .int .i64 2]).keep (((((Keep.refl _).alloc (.cells #[.int .i64 3] 3)).alloc (.cells #[.int .i64 3] 3)).alloc (.cells #[.int .i64 1] 3)).alloc (.cells #[.slice (some ⟨w.heap.size, 0, none⟩) 2 2, .slice (some ⟨w.heap.size + 1, 0, none⟩) 1 1, .slice (some ⟨w.heap.size + 1 + 1, 0, none⟩) 1 1, .slice (some ⟨w.heap.size + 1 + 1 + 1, 0, none⟩) 1 1] 29))
      simpa [IBlk] using this
    · have := (Blk.new ((w).alloc (.cells #[.int .i64 1, .int .i64 2] 3)) 3 [.int .i64 3]).keep ((((Keep.refl _).alloc (.cells #[.int .i64 3] 3)).alloc (.cells #[.int .i64 1] 3)).alloc (.cells #[.slice (some ⟨w.heap.size, 0, none⟩) 2 2, .slice (some ⟨w.heap.size + 1, 0, none⟩) 1 1, .slice (some ⟨w.heap.size + 1 + 1, 0, none⟩) 1 1, .slice (some ⟨w.heap.size + 1 + 1 + 1, 0, none⟩) 1 1] 29))
      simpa [IBlk] using this
    · have := (Blk.new (((w).alloc (.cells #[.int .i64 1, .int .i64 2] 3)).alloc (.cells #[.int .i64 3] 3)) 3 [.int .i64 3]).keep (((Keep.refl _).alloc (.cells #[.int .i64 1] 3)).alloc (.cells #[.slice (some ⟨w.heap.size, 0, none⟩) 2 2, .slice (some ⟨w.heap.size + 1, 0, none⟩) 1 1, .slice (some ⟨w.heap.size + 1 + 1, 0, none⟩) 1 1, .slice (some ⟨w.heap.size + 1 + 1 + 1, 0, none⟩) 1 1] 29))
      simpa [IBlk] using this
    · have := (Blk.new ((((w).alloc (.cells #[.int .i64 1, .int .i64 2] 3)).alloc (.cells #[.int .i64 3] 3)).alloc (.cells #[.int .i64 3] 3)) 3 [.int .i64 1]).keep ((Keep.refl _).alloc (.cells #[.slice (some ⟨w.heap.size, 0, none⟩) 2 2, .slice (some ⟨w.heap.size + 1, 0, none⟩) 1 1, .slice (some ⟨w.heap.size + 1 + 1, 0, none⟩) 1 1, .slice (some ⟨w.heap.size + 1 + 1 + 1, 0, none⟩) 1 1] 29))
      simpa [IBlk] using this
  · intro p hp
    simp only [List.mem_cons, List.not_mem_nil, or_false] at hp
    rcases hp with rfl | rfl | rfl | rfl <;> simp
theorem g2_mem (w : World) : ∃ W : World, W = ((((w).alloc (.cells #[.int .i64 1] 3)).alloc (.cells #[.int .i64 2] 3)).alloc (.cells #[.int .i64 1] 3)).alloc (.cells #[.slice (some ⟨w.heap.size, 0, none⟩) 1 1, .slice (some ⟨w.heap.size + 1, 0, none⟩) 1 1, .slice (some ⟨w.heap.size + 1 + 1, 0, none⟩) 1 1] 29) ∧ Keep w W ∧ W.heap.size = w.heap.size + 1 + 1 + 1 + 1 ∧ Graph W (some ⟨w.heap.size + 1 + 1 + 1, 0, none⟩) (mkRows [(w.heap.size, [1]), (w.heap.size + 1, [2]), (w.heap.size + 1 + 1, [1])]) ∧ gr (mkRows [(w.heap.size, [1]), (w.heap.size + 1, [2]), (w.heap.size + 1 + 1, [1])]) = g2 := by
  refine ⟨_, rfl, ((((Keep.refl _).alloc _).alloc _).alloc _).alloc _, by simp, (graph_mk ?_ ?_ ?_ (by simp)).1, rfl⟩
  · have := Blk.new ((((w).alloc (.cells #[.int .i64 1] 3)).alloc (.cells #[.int .i64 2] 3)).alloc (.cells #[.int .i64 1] 3)) 29 [.slice (some ⟨w.heap.size, 0, none⟩) 1 1, .slice (some ⟨w.heap.size + 1, 0, none⟩) 1 1, .slice (some ⟨w.heap.size + 1 + 1, 0, none⟩) 1 1]
    show Blk _ _ _ [.slice (some ⟨w.heap.size, 0, none⟩) 1 1, .slice (some ⟨w.heap.size + 1, 0, none⟩) 1 1, .slice (some ⟨w.heap.size + 1 + 1, 0, none⟩) 1 1]
    simpa using this
  · intro p hp
    simp only [List.mem_cons, List.not_mem_nil, or_false] at hp
    rcases hp with rfl | rfl | rfl
    · have := (Blk.new (w) 3 [.int .i64 1]).keep ((((Keep.refl _).alloc (.cells #[.int .i64 2] 3)).alloc (.cells #[.int .i64 1] 3)).alloc (.cells #[.slice (some ⟨w.heap.size, 0, none⟩) 1 1, .slice (some ⟨w.heap.size + 1, 0, none⟩) 1 1, .slice (some ⟨w.heap.size + 1 + 1, 0, none⟩) 1 1] 29))
      simpa [IBlk] using this
    · have := (Blk.new ((w).alloc (.cells #[.int .i64 1] 3)) 3 [.int .i64 2]).keep (((Keep.refl _).alloc (.cells #[.int .i64 1] 3)).alloc (.cells #[.slice (some ⟨w.heap.size, 0, none⟩) 1 1, .slice (some ⟨w.heap.size + 1, 0, none⟩) 1 1, .slice (some ⟨w.heap.size + 1 + 1, 0, none⟩) 1 1] 29))
      simpa [IBlk] using this
    · have := (Blk.new (((w).alloc (.cells #[.int .i64 1] 3)).alloc (.cells #[.int .i64 2] 3)) 3 [.int .i64 1]).keep ((Keep.refl _).alloc (.cells #[.slice (some ⟨w.heap.size, 0, none⟩) 1 1, .slice (some ⟨w.heap.size + 1, 0, none⟩) 1 1, .slice (some ⟨w.heap.size + 1 + 1, 0, none⟩) 1 1] 29))
      simpa [IBlk] using this
  · intro p hp
    simp only [List.mem_cons, List.not_mem_nil, or_false] at hp
    rcases hp with rfl | rfl | rfl <;> simp

set_option maxHeartbeats 4000000 in
set_option maxRecDepth 100000 in
theorem alive_calls (w : World) : Calls Try.prog 8 #[] w fun e w' => e = .returned (.bool true) ∧ Keep w w' := by
  obtain ⟨wa, hwa, hka, hza, hga, hgra⟩ := g1_mem w
  have Hof1 := Lib.hid (of_calls _ (some ⟨w.heap.size + 1 + 1 + 1 + 1, 0, none⟩) 4 wa hga (by simp [mkRows]) (by simp [mkRows]))
  have Hga := Lib.hid hga
  have Hka := Lib.hid hka
  rw [hgra] at Hof1
  clear hga hka
  go_enter Try.func8, Try.ntmps8
  go_wp2_with fail
  rw [← hwa]
  clear hwa hza
  refine Hof1.out.mono ?_
  rintro e w1 ⟨bi, I, rfl, hbi, hI, hid, hk1⟩
  obtain rfl := of1 hid
  have HI := Lib.hid hI
  have Hk1 := Lib.hid (Hka.out.trans hk1)
  clear hbi hI hid hk1 Hof1
  obtain ⟨wb, hwb, hkb, hzb, hgb, hgrb⟩ := g2_mem w1
  have Hof2 := Lib.hid (of_calls _ (some ⟨w1.heap.size + 1 + 1 + 1, 0, none⟩) 3 wb hgb (by simp [mkRows]) (by simp [mkRows]))
  have Hlo2 := Lib.hid (fun (wx : World) (hk : Keep wb wx) => loops_calls _ (some ⟨w1.heap.size + 1 + 1 + 1, 0, none⟩) 3 wx (hgb.keep hk) (by simp [mkRows]) (by simp [mkRows]))
  rw [hgrb] at Hof2 Hlo2
  have Hkb := Lib.hid hkb
  clear hgb hkb
  go_wp2_with fail
  rw [← hwb]
  clear hwb hzb
  refine Hof2.out.mono ?_
  rintro e w2 ⟨bj, I, rfl, hbj, hJ, hid, hk2⟩
  obtain rfl := of2 hid
  have HJ := Lib.hid hJ
  have Hk2 := Lib.hid hk2
  clear hbj hJ hid hk2 Hof2
  go_wp2_with fail
  refine (Hlo2.out w2 Hk2.out).mono ?_
  rintro e w3 ⟨v, rfl, hown, hk3⟩
  rw [show g2.length = 3 from rfl, loops2] at hown
  obtain ⟨gl, cl, rfl, hgl, hgl2, hcl⟩ := own_at hown (by decide)
  have l0 : w3.cell? ⟨gl, 0, none⟩ = some (.int .i64 2) := hcl 0 _ rfl
  have l1 : w3.cell? ⟨gl, 1, none⟩ = some (.int .i64 1) := hcl 1 _ rfl
  have HI3 := Lib.hid ((HI.out.keep Hkb.out).keep (Hk2.out.trans hk3))
  have HJ3 := Lib.hid (HJ.out.keep hk3)
  have Hk3 := Lib.hid ((Hk1.out.trans Hkb.out).trans (Hk2.out.trans hk3))
  clear hown hcl hk3 HI HJ Hk1 Hk2 Hkb Hlo2
  go_wp2_with fail
  obtain ⟨we, hwe⟩ : ∃ we : World, we = w3.alloc (.cells #[.int .i64 (-1), .int .i64 0, .int .i64 0, .int .i64 0] 3) := ⟨_, rfl⟩
  have hke : Keep w3 we := by rw [hwe]; exact (Keep.refl _).alloc _
  have hbe : IBlk we w3.heap.size 3 [-1, 0, 0, 0] := by rw [hwe]; exact Blk.new w3 3 [.int .i64 (-1), .int .i64 0, .int .i64 0, .int .i64 0]
  have Hint1 := Lib.hid (show Calls Try.prog 11 #[.slice (some ⟨bi, 0, none⟩) 4 4, .slice (some ⟨w3.heap.size, 0, none⟩) 4 4] we fun e w' => e = .returned (.bool true) ∧ Keep we w' from
    refInts_calls [-1, 0, 0, 0] _ _ 4 4 we (IBlk.seg (Blk.keep HI3.out hke)) hbe.seg (by simp))
  have Hke := Lib.hid hke
  clear hke hbe
  rw [← hwe]
  clear hwe
  refine Hint1.out.mono ?_
  rintro e w4 ⟨rfl, hk4⟩
  obtain ⟨wf, hwf, hkf, hzf, hgf, hgrf⟩ := g1_mem w4
  have Hlo1 := Lib.hid (loops_calls _ (some ⟨w4.heap.size + 1 + 1 + 1 + 1, 0, none⟩) 4 wf hgf (by simp [mkRows]) (by simp [mkRows]))
  rw [hgrf] at Hlo1
  have Hk4 := Lib.hid ((Hke.out.trans hk4).trans hkf)
  clear hgf hkf hk4 Hint1
  go_wp2_with fail
  rw [← hwf]
  clear hwf hzf
  refine Hlo1.out.mono ?_
  rintro e w5 ⟨v, rfl, hown, hk5⟩
  rw [show g1.length = 4 from rfl, loops1] at hown
  obtain ⟨A5, c5, rfl, _⟩ := hown.form
  have Hk5 := Lib.hid (Hk4.out.trans hk5)
  clear hown hk5 Hlo1
  go_wp2_with fail
  obtain ⟨wh, hwh⟩ : ∃ we : World, we = w5.alloc (.cells #[.int .i64 (-1), .int .i64 0, .int .i64 1] 3) := ⟨_, rfl⟩
  have hkh : Keep w5 wh := by rw [hwh]; exact (Keep.refl _).alloc _
  have hbh : IBlk wh w5.heap.size 3 [-1, 0, 1] := by rw [hwh]; exact Blk.new w5 3 [.int .i64 (-1), .int .i64 0, .int .i64 1]
  have Hint2 := Lib.hid (show Calls Try.prog 11 #[.slice (some ⟨bj, 0, none⟩) 3 3, .slice (some ⟨w5.heap.size, 0, none⟩) 3 3] wh fun e w' => e = .returned (.bool true) ∧ Keep wh w' from
    refInts_calls [-1, 0, 1] _ _ 3 3 wh (IBlk.seg (Blk.keep HJ3.out (Hk5.out.trans hkh))) hbh.seg (by simp))
  have Hkh := Lib.hid (Hk5.out.trans hkh)
  clear hkh hbh
  rw [← hwh]
  clear hwh
  refine Hint2.out.mono ?_
  rintro e w6 ⟨rfl, hk6⟩
  have Hk6 := Lib.hid (Hkh.out.trans hk6)
  have m0 := Hk6.out.cell l0
  have m1 := Hk6.out.cell l1
  have Hde := Lib.hid (fun (wx : World) (hk : Keep w3 wx) => depth_calls [-1, 0, 1] (some ⟨bj, 0, none⟩) 3 wx (IBlk.seg (Blk.keep HJ3.out hk)) (by simp) 2)
  have Hov := Lib.hid (fun (wx : World) (hk : Keep w3 wx) => over_calls [-1, 0, 1] (some ⟨bj, 0, none⟩) 3 wx (IBlk.seg (Blk.keep HJ3.out hk)) (by simp) 1 2)
  rw [show Dom.depthF [-1, 0, 1] 2 = 2 by decide] at Hde
  rw [show Dom.overF [-1, 0, 1] 1 2 = true by decide] at Hov
  clear hk6 l0 l1
  have hq : ∀ wx : World, (binOp .eql 27 (.agg #[.int .i64 2, .int .i64 1]) (.agg #[.int .i64 2, .int .i64 1])).run Try.prog wx = .ok (.bool true) wx := fun wx => eql_pair 2 1 2 1 wx
  go_wp2_with fail
  refine (show Calls Try.prog 15 #[.slice (some ⟨bj, 0, none⟩) 3 3, .int .i64 2] w6 _ from Hde.out w6 Hk6.out).mono ?_
  rintro e w' ⟨rfl, rfl⟩
  go_wp2_with fail
  refine (show Calls Try.prog 14 #[.slice (some ⟨bj, 0, none⟩) 3 3, .int .i64 1, .int .i64 2] w6 _ from Hov.out w6 Hk6.out).mono ?_
  rintro e w' ⟨rfl, rfl⟩
  go_wp2_with fail
  go_ret
  exact ⟨rfl, Hk3.out.trans Hk6.out⟩
end Go.Proofs.Ythjlfbeabobgmaa
