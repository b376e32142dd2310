/-
  The order of the blocks of a form; the program's Places.
-/
import Derived.Test.YtjpmiejgcnfiiaaLOrder2
import Derived.Test.YtjpmiejgcnfiiaaLNeedR
set_option linter.unusedVariables false
set_option linter.unusedSimpArgs false
namespace Go.Proofs.Ytjpmiejgcnfiiaa
open Go Go.RowKit

theorem OrdOk.ex (x : SsD) : ∃ ds, OrdOk x ds := by
  by_cases h : x.blocks.l = []
  · exact ⟨[], by unfold OrdOk; rw [if_pos h]⟩
  · obtain ⟨d, hd⟩ := Lv.IsPost.ex x.N
    exact ⟨d.reverse, by unfold OrdOk; rw [if_neg h, List.reverse_reverse]; exact hd⟩
theorem OrdOk.unique {x : SsD} {d e : List Nat} (h : OrdOk x d) (k : OrdOk x e) : d = e := by
  unfold OrdOk at h k
  by_cases hb : x.blocks.l = []
  · rw [if_pos hb] at h k; rw [h, k]
  · rw [if_neg hb] at h k
    have := h.unique k
    rw [← List.reverse_reverse d, this, List.reverse_reverse]
/-- The blocks in their order. -/
noncomputable def SsD.ord (x : SsD) : List Nat := Classical.choose (OrdOk.ex x)
theorem SsD.ordOk (x : SsD) : OrdOk x x.ord := Classical.choose_spec (OrdOk.ex x)
theorem SsD.ord_spec (x : SsD) : x.ord.Nodup ∧ ∀ b ∈ x.ord, b < x.blocks.l.length := by
  have h := x.ordOk
  unfold OrdOk at h
  by_cases hb : x.blocks.l = []
  · rw [if_pos hb] at h; rw [h]; exact ⟨List.nodup_nil, by simp⟩
  · rw [if_neg hb] at h
    have hN : 0 < x.N.length := by rw [SsD.N_len]; exact List.length_pos_iff.2 hb
    obtain ⟨h1, _, h3⟩ := h.nodup hN
    refine ⟨by unfold List.Nodup at h1 ⊢; rw [List.pairwise_reverse] at h1; exact h1.imp fun h => h.symm, fun b hb => ?_⟩
    have := h3 b (by simpa using hb)
    rwa [SsD.N_len] at this
theorem nodup_len : ∀ {n : Nat} {l : List Nat}, l.Nodup → (∀ b ∈ l, b < n) → l.length ≤ n
  | 0, l, _, hl => by
    cases l with
    | nil => simp
    | cons b l => exact absurd (hl b (by simp)) (by omega)
  | n + 1, l, h, hl => by
    have ih := nodup_len (n := n) (h.erase n) (fun b hb => by
      have h1 := (h.mem_erase_iff).1 hb
      have := hl b h1.2
      omega)
    by_cases hm : n ∈ l
    · rw [List.length_erase_of_mem hm] at ih; omega
    · rw [List.erase_of_not_mem hm] at ih; omega
theorem SsD.ord_len (x : SsD) : x.ord.length ≤ x.blocks.l.length := nodup_len x.ord_spec.1 x.ord_spec.2
theorem SsD.ord_get {x : SsD} {i b : Nat} (h : x.ord[i]? = some b) : ∃ y, x.blocks.l[b]? = some y := get_some (x.ord_spec.2 b (List.mem_of_getElem? h))
theorem SsD.F_get {x : SsD} {b : Nat} {y : BkD} (h : x.blocks.l[b]? = some y) : x.F.getD b default = y.p x.blocks.l.length := by
  unfold SsD.F; rw [List.getD_eq_getElem?_getD, List.getElem?_map, h]; rfl
theorem BkD.p_ins (y : BkD) (n : Nat) : (y.p n).ins.length = y.ins.l.length := by simp [BkD.p]

theorem order_gives (x : SsD) (w : World) (h : SsOk w x) (hto : ∀ y ∈ x.blocks.l, y.to.l.length < 17592186044416) (hn : x.blocks.l.length ≤ 100000) :
    Calls Try.prog 12 #[.agg (ssC x).toArray] w fun e w' => ∃ A c, e = .returned (.slice A x.ord.length c) ∧ Own intC 1 3 w' w.heap.size (.slice A x.ord.length c) (ints x.ord) ∧ Keep w w' :=
  (order_calls x w h hto hn).mono fun e w' ⟨v, ds, e1, h1, h2, h3⟩ => by
    have := h3.unique x.ordOk
    subst this
    obtain ⟨A, c, e2, _, _⟩ := h1.form
    rw [ints_len] at e2
    subst e2
    exact ⟨A, c, e1, h1, h2⟩

/-- Where the k-th block of the order begins. -/
noncomputable def SsD.atk (x : SsD) (k : Nat) : Int := Lv.endAt x.F (x.ord.take k)
theorem SsD.atk_succ {x : SsD} {k b : Nat} {y : BkD} (hb : x.ord[k]? = some b) (hy : x.blocks.l[b]? = some y) : x.atk (k + 1) = x.atk k + 2 * ((y.ins.l.length : Int) + 2) := by
  unfold SsD.atk
  rw [List.take_add_one, hb]
  show Lv.endAt x.F (_ ++ [b]) = _
  rw [Lv.endAt_snoc, SsD.F_get hy, BkD.p_ins]
/-- How many instructions and parameters and blocks there are, at most. -/
structure Small (x : SsD) : Prop where
  blocks : x.blocks.l.length ≤ 1000
  ins : ∀ y ∈ x.blocks.l, y.ins.l.length ≤ 1000
  params : ∀ y ∈ x.blocks.l, y.params.l.length ≤ 1000
  vals : x.vals.l.length ≤ 1000
  ends : ∀ y ∈ x.blocks.l, y.endsI.length ≤ 2000000
  edges : ∀ y ∈ x.blocks.l, y.to.l.length < 17592186044416
theorem SsD.atk_le {x : SsD} (h : Small x) : ∀ k, 0 ≤ x.atk k ∧ x.atk k ≤ (k : Int) * 2004
  | 0 => by unfold SsD.atk; simp [Lv.endAt]
  | k + 1 => by
    have ih := SsD.atk_le h k
    rcases Nat.lt_or_ge k x.ord.length with hk | hk
    · obtain ⟨b, hb⟩ := get_some hk
      obtain ⟨y, hy⟩ := SsD.ord_get hb
      have := h.ins y (List.mem_of_getElem? hy)
      rw [SsD.atk_succ hb hy]
      omega
    · have e : x.atk (k + 1) = x.atk k := by
        unfold SsD.atk; rw [List.take_of_length_le (by omega), List.take_of_length_le (by omega)]
      rw [e]; omega
theorem SsD.atk_lt {x : SsD} (h : Small x) (k : Nat) : 0 ≤ x.atk k ∧ x.atk k ≤ 2004000 := by
  rcases Nat.lt_or_ge k x.ord.length with hk | hk
  · have := SsD.atk_le h k
    have := x.ord_len
    have := h.blocks
    omega
  · have e : x.atk k = x.atk x.ord.length := by
      unfold SsD.atk; rw [List.take_of_length_le (by omega), List.take_of_length_le (by omega)]
    have := SsD.atk_le h x.ord.length
    have := x.ord_len
    have := h.blocks
    rw [e]; omega
theorem ints_at {w wr : World} {A : Option Addr} {n c base : Nat} {l : List Nat} (h : Own intC 1 3 w base (.slice A n c) (ints l)) (hkeep : Keep w wr) {k x : Nat} (hk : l[k]? = some x) :
    ∃ b off, A = some ⟨b, off, none⟩ ∧ b < w.heap.size ∧ wr.cell? ⟨b, off + k, none⟩ = some (.int .i64 (x : Int)) := by
  have hl := (List.getElem?_eq_some_iff.1 hk).1
  obtain ⟨b, off, e, hb, hc⟩ := int_at h.segN.2 hkeep (k := k) (by rw [ints_len]; exact hl)
  refine ⟨b, off, e, hb, ?_⟩
  have h1 := ints_get hk
  rw [List.getElem?_eq_getElem (by rw [ints_len]; exact hl)] at h1
  rw [Option.some.inj h1] at hc
  exact hc
/-- A form is laid into a box. -/
theorem box4 (w : World) (T : TypeId) (v0 v1 v2 v3 : Value) : ∃ W : World, w.alloc (.cells #[v0, v1, v2, v3] T) = W ∧ Keep w W ∧ W.cell? ⟨w.heap.size, 0, none⟩ = some v0 ∧ W.cell? ⟨w.heap.size, 1, none⟩ = some v1 ∧ W.cell? ⟨w.heap.size, 2, none⟩ = some v2 ∧ W.cell? ⟨w.heap.size, 3, none⟩ = some v3 ∧ w.heap.size < W.heap.size := by
  have b := Blk.new w T [v0, v1, v2, v3]
  exact ⟨_, rfl, (Keep.refl _).alloc _, b.cell 0, b.cell 1, b.cell 2, b.cell 3, b.lt⟩

set_option maxHeartbeats 2000000 in
theorem places_calls (x : SsD) (w : World) (h : SsOk w x) (hs : Small x) :
    Calls Try.prog 9 #[.agg (ssC x).toArray] w fun e w' => e = .returned (.int .i64 (x.atk x.ord.length)) ∧ Keep w w' := by
  have Hlt := Lib.hid (fun k => SsD.atk_lt hs k)
  have Hsu := Lib.hid (fun (k b : Nat) (y : BkD) (h1 : x.ord[k]? = some b) (h2 : x.blocks.l[b]? = some y) => SsD.atk_succ h1 h2)
  have H0 := Lib.hid (show x.atk 0 = 0 by unfold SsD.atk; simp [Lv.endAt])
  have HG := Lib.hid (fun (k b : Nat) (h1 : x.ord[k]? = some b) => SsD.ord_get h1)
  have Hol := Lib.hid (show x.ord.length ≤ 1000 from Nat.le_trans x.ord_len hs.blocks)
  have Hins := Lib.hid hs.ins
  have Hbl := Lib.hid hs.blocks
  obtain ⟨W, hW, hk, c0, c1, c2, c3, lt⟩ := box4 w 47 x.params.v x.results.v x.vals.v x.blocks.v
  have Hord := Lib.hid (order_gives x W (h.keep hk) hs.edges (Nat.le_trans hs.blocks (by omega)))
  have Hseg := Lib.hid h.seg
  obtain ⟨AT, hAT⟩ : ∃ AT, x.atk = AT := ⟨_, rfl⟩
  obtain ⟨ds, hds⟩ : ∃ ds, x.ord = ds := ⟨_, rfl⟩
  rw [hAT] at Hlt Hsu H0 ⊢
  rw [hds] at Hsu HG Hol Hord ⊢
  clear hAT hds h hs
  obtain ⟨xp, xr, xv, ⟨ba, bl, bc⟩⟩ := x
  obtain ⟨vp, hvp⟩ : ∃ v, xp.v = v := ⟨_, rfl⟩
  obtain ⟨vr, hvr⟩ : ∃ v, xr.v = v := ⟨_, rfl⟩
  obtain ⟨vv, hvv⟩ : ∃ v, xv.v = v := ⟨_, rfl⟩
  have eag : (Value.agg (ssC ⟨xp, xr, xv, ⟨ba, bl, bc⟩⟩).toArray) = .agg #[vp, vr, vv, .slice ba bl.length bc] := by rw [← hvp, ← hvr, ← hvv]; rfl
  rw [eag] at Hord ⊢
  replace c0 : W.cell? ⟨w.heap.size, 0, none⟩ = some vp := by rw [← hvp]; exact c0
  replace c1 : W.cell? ⟨w.heap.size, 1, none⟩ = some vr := by rw [← hvr]; exact c1
  replace c2 : W.cell? ⟨w.heap.size, 2, none⟩ = some vv := by rw [← hvv]; exact c2
  replace c3 : W.cell? ⟨w.heap.size, 3, none⟩ = some (.slice ba bl.length bc) := c3
  replace hW : w.alloc (.cells #[vp, vr, vv, .slice ba bl.length bc] 47) = W := by rw [← hW, ← hvp, ← hvr, ← hvv]; rfl
  replace Hsu : Hid (∀ (k b : Nat) (y : BkD), ds[k]? = some b → bl[b]? = some y → AT (k + 1) = AT k + 2 * ((y.ins.l.length : Int) + 2)) := Hsu
  replace HG : Hid (∀ (k b : Nat), ds[k]? = some b → ∃ y, bl[b]? = some y) := HG
  replace Hseg : Hid (Seg w ba (bl.flatMap bkC)) := Hseg
  replace Hins : Hid (∀ y ∈ bl, y.ins.l.length ≤ 1000) := Hins
  replace Hbl : Hid (bl.length ≤ 1000) := Hbl
  clear eag hvp hvr hvv
  have Hk := Lib.hid hk
  clear hk
  go_enter Try.func9, Try.ntmps9
  go_wp2_with fail
  try rw [hW]
  refine Hord.out.mono ?_
  clear Hord hW
  rintro e w1 ⟨A, c, rfl, hown, hk1⟩
  have d3 := hk1.cell c3
  have lt1 := Nat.lt_of_lt_of_le lt hk1.size
  have Hown := Lib.hid hown
  have Hk1 := Lib.hid hk1
  have hdl : ds.length ≤ 1000 := Hol.out
  obtain ⟨m, hm⟩ : ∃ m, ds.length = m := ⟨_, rfl⟩
  rw [hm] at Hown hdl ⊢
  have Hm := Lib.hid hm
  clear c0 c1 c2 c3 hown hk1 hm lt
  go_wp2_with fail
  go_loopw [3, 9] (fun vn vi wr => ∃ k : Nat, k ≤ m ∧ vi = .int .i64 k ∧ vn = .int .i64 (AT k) ∧ Hid (Keep w1 wr)) (fun _ vi _ => m - (intOf vi).toNat)
  case atStart => exact ⟨0, Nat.zero_le _, rfl, by rw [H0.out], Lib.hid (Keep.refl _)⟩
  case round =>
    obtain ⟨k, hk, rfl, rfl, hkeep⟩ := hrel
    have ha := Hlt.out k
    by_cases hin : k < m
    · obtain ⟨b, hb⟩ := get_some (l := ds) (k := k) (by rw [Hm.out]; exact hin)
      obtain ⟨y, hy⟩ := HG.out k b hb
      have Hsucc := Lib.hid (Hsu.out k b y hb hy)
      obtain ⟨b1, o1, hA, hb1, q1⟩ := ints_at Hown.out hkeep.out hb
      subst hA
      obtain ⟨B, off, hB, hB1, hcB⟩ := bk_get Hseg.out ((Hk.out.trans Hk1.out).trans hkeep.out) hy
      subst hB
      have hbl := (List.getElem?_eq_some_iff.1 hy).1
      have hyi := Hins.out y (List.mem_of_getElem? hy)
      have d3r := hkeep.out.cell d3
      have q2 : wr.cell? ⟨B, off + b * 7 + 1, none⟩ = some y.ins.v := hcB 1 _ rfl
      unfold RwD.v at q2
      have hkk : (k : Int) < (m : Int) := by omega
      have hk0 : (0 : Int) ≤ (k : Int) := by omega
      have hbb : (b : Int) < (bl.length : Int) := by omega
      have hb0 : (0 : Int) ≤ (b : Int) := by omega
      obtain ⟨a0, ha0⟩ : ∃ a0, AT k = a0 := ⟨_, rfl⟩
      rw [ha0] at ha Hsucc ⊢
      obtain ⟨ln, hln⟩ : ∃ ln, y.ins.l.length = ln := ⟨_, rfl⟩
      rw [hln] at hyi q2 Hsucc
      have s1 : (0 : Int) ≤ (ln : Int) + 2 := by omega
      have s2 : (ln : Int) + 2 ≤ 1002 := by omega
      have s3 : (0 : Int) ≤ 2 * ((ln : Int) + 2) := by omega
      have s4 : 2 * ((ln : Int) + 2) ≤ 2004 := by omega
      clear ha0 hln hb hy hcB hbl
      go_wp2
      go_roundw
      case rel => exact ⟨k + 1, hin, by go_num, by rw [Hsucc.out], hkeep⟩
      case measure => simp [intOf]; omega
    · have hkm : k = m := by omega
      subst hkm
      go_wp2
      go_ret
      exact ⟨by rw [Hm.out]; rfl, (Hk.out.trans Hk1.out).trans hkeep.out⟩
end Go.Proofs.Ytjpmiejgcnfiiaa
