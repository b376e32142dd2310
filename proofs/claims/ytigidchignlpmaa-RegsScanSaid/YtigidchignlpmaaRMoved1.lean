/-
  The shifted live range lists that the law makes.
-/
import Derived.Test.YtigidchignlpmaaRLawP
import Derived.Test.YtigidchignlpmaaRFew
import Derived.Test.YtigidchignlpmaaRCongr
import Derived.Test.YtigidchignlpmaaGrows
namespace Go.Proofs.Ytigidchignlpmaa
open Go Go.RowKit Rg

def shR (d : Int) (r : Rng) : Rng := (r.1 + d, r.2 + d)
theorem elRng : ElT Try.prog 43 54 2 16 rngC where
  slice := Try.underlying43
  info := info_of (z := .agg #[.int .i64 0, .int .i64 0]) (by kernel_rfl) rfl
  pos := by omega
  len := fun _ => rfl
  one := fun x u hu => by simp [rngC] at hu; rcases hu with rfl | rfl <;> rfl
theorem elLv : ElT Try.prog 22 45 2 32 lvC where
  slice := Try.underlying22
  info := info_of (z := .agg #[.int .i64 0, .slice none 0 0]) (by kernel_rfl) rfl
  pos := by omega
  len := fun _ => rfl
  one := fun x u hu => by simp [lvC] at hu; rcases hu with rfl | rfl <;> rfl

theorem mayL_shift {d : Int} : ∀ {l : List Rng} {a a' : Int}, mayL a l = true → a' ≤ a + d → mayL a' (l.map (shR d)) = true
  | [], _, _, _, _ => rfl
  | r :: l, a, a', h, ha => by
    simp only [mayL, List.map_cons, Bool.and_eq_true, Bool.not_eq_true', Bool.or_eq_false_iff, decide_eq_false_iff_not] at h ⊢
    refine ⟨⟨?_, ?_⟩, mayL_shift h.2 (Int.le_refl _)⟩
    · show ¬ r.1 + d < a'
      have := h.1.1; omega
    · show ¬ r.2 + d ≤ r.1 + d
      have := h.1.2; omega
theorem may_shift {d : Int} (hd : 0 ≤ d) {l : List Rng} (h : may l = true) : may (l.map (shR d)) = true := by
  unfold may at h ⊢
  rw [Bool.and_eq_true] at h ⊢
  exact ⟨mayL_shift h.1 (by omega), by simpa using h.2⟩
theorem bgn_shift {d : Int} {l : List Rng} (h : 0 < l.length) : bgn (l.map (shR d)) = bgn l + d := by
  cases l with
  | nil => simp at h
  | cons r l => rfl
theorem fin_shift {d : Int} {l : List Rng} (h : 0 < l.length) : fin (l.map (shR d)) = fin l + d := by
  unfold fin
  rw [List.getLastD_eq_getLast?, List.getLastD_eq_getLast?, List.getLast?_map]
  cases hl : l.getLast? with
  | none => rw [List.getLast?_eq_none_iff] at hl; rw [hl] at h; simp at h
  | some r => rfl

/-- The list so far. -/
structure MvAt (w0 w : World) (v : Value) (ls : List LvD) (d : Int) (i : Nat) (out : List LvD) : Prop where
  own : Own lvC 2 45 w w0.heap.size v out
  rows : ∀ x ∈ out, Own rngC 2 54 w w0.heap.size (.slice x.a x.l.length x.c) x.l
  eq : out.map (·.l) = (ls.take i).map (fun x => x.l.map (shR d))
  keep : Keep w0 w
theorem MvAt.keepy {w0 w w' : World} {v : Value} {ls out : List LvD} {d : Int} {i : Nat} (h : MvAt w0 w v ls d i out) (hk : Keep w w') : MvAt w0 w' v ls d i out :=
  ⟨h.own.keep hk, fun x hx => (h.rows x hx).keep hk, h.eq, h.keep.trans hk⟩
theorem MvAt.ext {w0 w w' : World} {v : Value} {ls out : List LvD} {d : Int} {i : Nat} (h : MvAt w0 w v ls d i out) {S : Nat → Prop} (hE : Ext S w w') (hS : ∀ k, k < w.heap.size → ¬ S k) : MvAt w0 w' v ls d i out :=
  h.keepy (Keep.of_ext (Keep.refl w) hE hS)
theorem MvAt.len {w0 w : World} {v : Value} {ls out : List LvD} {d : Int} {i : Nat} (h : MvAt w0 w v ls d i out) (hi : i ≤ ls.length) : out.length = i := by
  have := congrArg List.length h.eq
  simp only [List.length_map, List.length_take] at this
  omega
theorem MvAt.push {w0 w : World} {v : Value} {ls out : List LvD} {d : Int} {i : Nat} (h : MvAt w0 w v ls d i out) {x y : LvD} (hx : ls[i]? = some x) (hy : y.l = x.l.map (shR d))
    (hrow : Own rngC 2 54 w w0.heap.size (.slice y.a y.l.length y.c) y.l) (hi : i ≤ 60) :
    ∃ A c, v = .slice A i c ∧ ∃ A' c' w2, (Builtin.append_ #[22, 22] 22 #[.slice A i c, .slice (some ⟨w.heap.size, 0, none⟩) 1 1]).run Try.prog (w.alloc (.cells #[.int .i64 y.val, .slice y.a y.l.length y.c] 45)) = .ok (.slice A' (i + 1) c') w2 ∧
      MvAt w0 w2 (.slice A' (i + 1) c') ls d (i + 1) (out ++ [y]) := by
  have hl : out.length = i := h.len (Nat.le_of_lt (List.getElem?_eq_some_iff.1 hx).1)
  obtain ⟨A, c, hv, A', c', w2, hrun, hown, hE, hbl, _⟩ := h.own.push1 elLv y (by rw [hl]; omega) (by omega) h.keep.size 22
  rw [hl] at hv hrun hown
  rw [hv] at hrun
  refine ⟨A, c, hv, A', c', w2, hrun, hown, fun z hz => ?_, ?_, Keep.of_ext h.keep hE (fun k hk => by show ¬ w0.heap.size ≤ k; omega)⟩
  · have hz1 : Own rngC 2 54 w w0.heap.size (.slice z.a z.l.length z.c) z.l := by
      rcases List.mem_append.1 hz with h1 | h1
      · exact h.rows z h1
      · rw [List.mem_singleton.1 h1]; exact hrow
    have hE2 : Ext (fun k => v.ownBlock = some k) w w2 := ⟨hE.os, hE.tape, hE.output, hE.size, fun k hk hn => hbl k hk hn⟩
    exact hz1.ext hE2 fun k hk e => hz1.kinds h.own (by decide) hk e
  · rw [List.map_append, h.eq, List.take_add_one, hx, List.map_append]
    simp [hy]
/-- The whole list, read. -/
theorem MvAt.lives {w0 w : World} {v : Value} {ls out : List LvD} {d : Int} (h : MvAt w0 w v ls d ls.length out) (hb : ∀ x ∈ ls, ∀ r ∈ x.l, W64 (r.1 + d) ∧ W64 (r.2 + d)) :
    ∃ A c, v = .slice A ls.length c ∧ Lives w A out := by
  obtain ⟨A, c, hv, _⟩ := h.own.form
  have hown := h.own
  rw [hv] at hown
  have hl := h.len (Nat.le_refl _)
  refine ⟨A, c, by rw [hv, hl], hown.seg, fun x hx => ?_⟩
  have ho := h.rows x hx
  obtain ⟨B, e, hf, h1, h2⟩ := ho.form
  refine ⟨ho.seg, Nat.le_trans h1 h2, fun r hr => ?_⟩
  have hm : x.l ∈ out.map (·.l) := List.mem_map.2 ⟨x, hx, rfl⟩
  rw [h.eq, List.take_length] at hm
  obtain ⟨z, hz, e1⟩ := List.mem_map.1 hm
  rw [← e1] at hr
  obtain ⟨q, hq, rfl⟩ := List.mem_map.1 hr
  exact hb z hz q hq
theorem MvAt.get {w0 w : World} {v : Value} {ls out : List LvD} {d : Int} (h : MvAt w0 w v ls d ls.length out) {i : Nat} {x : LvD} (hx : ls[i]? = some x) : ∃ y, out[i]? = some y ∧ y.l = x.l.map (shR d) := by
  have h1 := congrArg (·[i]?) h.eq
  simp only [List.take_length, List.getElem?_map, hx, Option.map_some] at h1
  cases hy : out[i]? with
  | none => rw [hy] at h1; cases h1
  | some y => rw [hy] at h1; exact ⟨y, rfl, Option.some.inj h1⟩
theorem MvAt.ends {w0 w : World} {v : Value} {ls out : List LvD} {d : Int} (h : MvAt w0 w v ls d ls.length out) (hne : ∀ x ∈ ls, 0 < x.l.length) : (∀ i, i < ls.length → BL out i = BL ls i + d) ∧ ∀ i, i < ls.length → EL out i = EL ls i + d := by
  constructor
  · intro i hi
    obtain ⟨x, hx⟩ := get_some hi
    obtain ⟨y, hy, e⟩ := h.get hx
    rw [BL_get hx, BL_get hy, e, bgn_shift (hne x (List.mem_of_getElem? hx))]
  · intro i hi
    obtain ⟨x, hx⟩ := get_some hi
    obtain ⟨y, hy, e⟩ := h.get hx
    rw [EL_get hx, EL_get hy, e, fin_shift (hne x (List.mem_of_getElem? hx))]
theorem MvAt.may {w0 w : World} {v : Value} {ls out : List LvD} {d : Int} (h : MvAt w0 w v ls d ls.length out) (hd : 0 ≤ d) (hm : ∀ x ∈ ls, Rg.may x.l = true) : out.any (fun x => !Rg.may x.l) = false := by
  rw [List.any_eq_false]
  intro y hy
  have h1 : y.l ∈ out.map (·.l) := List.mem_map.2 ⟨y, hy, rfl⟩
  rw [h.eq, List.take_length] at h1
  obtain ⟨z, hz, e1⟩ := List.mem_map.1 h1
  rw [← e1, may_shift hd (hm z hz)]
  simp
end Go.Proofs.Ytigidchignlpmaa
