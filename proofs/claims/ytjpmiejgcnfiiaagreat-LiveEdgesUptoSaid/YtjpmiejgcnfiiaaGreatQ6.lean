import Derived.Test.YtjpmiejgcnfiiaaGreatQ5
import Derived.Test.YtjpmiejgcnfiiaaGreatQ2
set_option linter.unusedVariables false
set_option linter.unusedSimpArgs false
namespace Go.Proofs.YtjpmiejgcnfiiaaGreat.Lv

/-- The reference's search, for one value. -/
structure RN (F : List PBlk) (order : List Nat) (v : Nat) (s : List Bool) : Prop where
 len : s.length = F.length
 sound : ∀ b, s.getD b false = true → Need F order v b
variable {F : List PBlk} {order : List Nat} {v : Nat} {s : List Bool}
theorem RN.zero (F : List PBlk) (order : List Nat) (v : Nat) : RN F order v (List.replicate F.length false) :=
 ⟨by simp, fun b h => by rw [List.getD_eq_getElem?_getD, List.getElem?_replicate] at h; split at h <;> cases h⟩
theorem RN.step (h : RN F order v s) {b : Nat} (hb : b ∈ order) (hlt : b < F.length) (hm : ¬ (F.getD b default).makes v) (hu : (F.getD b default).uses v ∨ ∃ t ∈ (F.getD b default).next, s.getD t false = true) : RN F order v (s.set b true) :=
 ⟨by rw [List.length_set]; exact h.len, fun c hc => by
  rw [getD_set_bool s b c true (by rw [h.len]; exact hlt)] at hc
  split at hc
  ·rename_i e
   rw [e]
   refine .step hb hm ?_
   rcases hu with hu | ⟨t, ht, hu⟩
   ·exact .inl hu
   ·exact .inr ⟨t, ht, h.sound t hu⟩
  ·exact h.sound c hc⟩
theorem RN.end_ (h : RN F order v s) (hc : ∀ b ∈ order, ¬ (F.getD b default).makes v → ((F.getD b default).uses v ∨ ∃ t ∈ (F.getD b default).next, s.getD t false = true) → s.getD b false = true) (b : Nat) : s.getD b false = true ↔ Need F order v b :=
 ⟨h.sound b, fun hn => Need.least (S := fun b => s.getD b false = true) hc hn⟩
theorem count_false_set {s : List Bool} {b : Nat} (hb : b < s.length) (h : s.getD b false = false) : (s.set b true).count false + 1 = s.count false := by
 induction s generalizing b with
 | nil => simp at hb
 | cons x s ih =>
  cases b with
  | zero =>
   have : x = false := h
   subst this
   simp
  | succ b =>
   have := ih (b := b) (by simpa using hb) h
   cases x <;> simp <;> omega

/-! ### Rows of ranges -/

def joinR (l : List (Int × Int)) (x : Int × Int) : List (Int × Int) := match l.getLast? with
 | none => [x]
 | some q => if x.1 ≤ q.2 then l.dropLast ++ [(q.1, max q.2 x.2)] else l ++ [x]
theorem joinR_nil (x : Int × Int) : joinR [] x = [x] := rfl
theorem joinR_in {l : List (Int × Int)} {q x : Int × Int} (h : x.1 ≤ q.2) : joinR (l ++ [q]) x = l ++ [(q.1, max q.2 x.2)] := by
 unfold joinR
 rw [List.getLast?_concat]
 simp only [if_pos h, List.dropLast_concat]
theorem joinR_out {l : List (Int × Int)} {q x : Int × Int} (h : ¬ x.1 ≤ q.2) : joinR (l ++ [q]) x = l ++ [q] ++ [x] := by
 unfold joinR
 rw [List.getLast?_concat]
 simp only [if_neg h]
/-- Where each block of the row begins: the position behind it. -/
def stepAt (F : List PBlk) (at_ : Int) (b : Nat) : Int := at_ + 2 * (((F.getD b default).ins.length : Int) + 2)
def endAt (F : List PBlk) (l : List Nat) : Int := l.foldl (stepAt F) 0
theorem endAt_snoc (F : List PBlk) (l : List Nat) (b : Nat) : endAt F (l ++ [b]) = endAt F l + 2 * (((F.getD b default).ins.length : Int) + 2) := by unfold endAt; rw [List.foldl_append]; rfl
theorem endAt_nonneg (F : List PBlk) : ∀ l, 0 ≤ endAt F l := fun l => by
 unfold endAt
 have key : ∀ (l : List Nat) (a : Int), 0 ≤ a → 0 ≤ l.foldl (stepAt F) a := by
  intro l
  induction l with
  | nil => intro a h; exact h
  | cons b l ih => intro a h; exact ih _ (by unfold stepAt; omega)
 exact key l 0 (Int.le_refl _)
/-- The ranges of a value in the blocks l, the first of which begins at at_. -/
def rowsFrom (F : List PBlk) (g : Nat → Int → Option (Int × Int)) : List Nat → Int → List (Int × Int) → List (Int × Int)
 | [], _, acc => acc
 | b :: l, at_, acc => rowsFrom F g l (stepAt F at_ b) (match g b at_ with | some x => joinR acc x | none => acc)
theorem rowsFrom_congr (F : List PBlk) {g g' : Nat → Int → Option (Int × Int)} : ∀ (l : List Nat) (at_ : Int) (acc : List (Int × Int)), 0 ≤ at_ → (∀ b ∈ l, ∀ a, 0 ≤ a → g b a = g' b a) → rowsFrom F g l at_ acc = rowsFrom F g' l at_ acc
 | [], _, _, _, _ => rfl
 | b :: l, at_, acc, h0, h => by
  unfold rowsFrom
  rw [h b (by simp) at_ h0]
  exact rowsFrom_congr F l _ _ (by unfold stepAt; omega) (fun c hc => h c (by simp [hc]))
theorem rowsFrom_snoc (F : List PBlk) (g : Nat → Int → Option (Int × Int)) : ∀ (l : List Nat) (at_ : Int) (acc : List (Int × Int)) (b : Nat),
  rowsFrom F g (l ++ [b]) at_ acc = (match g b (l.foldl (stepAt F) at_) with | some x => joinR (rowsFrom F g l at_ acc) x | none => rowsFrom F g l at_ acc)
 | [], _, _, _ => rfl
 | c :: l, at_, acc, b => by
  show rowsFrom F g (l ++ [b]) _ _ = _
  rw [rowsFrom_snoc F g l]
  rfl
/-- The program's ranges of a value, and the reference's. -/
theorem rows_eq {F : List PBlk} {order : List Nat} {v : Nat} {bg bh : Nat → Bool} (hfit : ∀ b ∈ order, (F.getD b default).Fit v) (hp : ∀ b ∈ order, v ∈ (F.getD b default).params → ∀ x ∈ (F.getD b default).ins, v ∉ x.outs)
  (hbg : ∀ b ∈ order, bg b = true ↔ ¬ (F.getD b default).makes v ∧ ((F.getD b default).uses v ∨ bh b = true)) :
  rowsFrom F (fun b a => rangeP (F.getD b default) v a (bg b) (bh b)) order 0 [] = rowsFrom F (fun b a => rangeR (F.getD b default) v a (bg b) (bh b)) order 0 [] :=
 rowsFrom_congr F order 0 [] (Int.le_refl _) fun b hb _ ha => range_eq (hfit b hb) (hp b hb) ha (hbg b hb)
end Go.Proofs.YtjpmiejgcnfiiaaGreat.Lv
namespace Go.Proofs.YtjpmiejgcnfiiaaGreat
open Go Go.RowKit

theorem OrdOk.ex (x : SsD) : ∃ ds, OrdOk x ds := by
 by_cases h : x.blocks.l = []
 ·exact ⟨[], by unfold OrdOk; rw [if_pos h]⟩
 ·obtain ⟨d, hd⟩ := Lv.IsPost.ex x.N
  exact ⟨d.reverse, by unfold OrdOk; rw [if_neg h, List.reverse_reverse]; exact hd⟩
theorem OrdOk.unique {x : SsD} {d e : List Nat} (h : OrdOk x d) (k : OrdOk x e) : d = e := by
 unfold OrdOk at h k
 by_cases hb : x.blocks.l = []
 ·rw [if_pos hb] at h k; rw [h, k]
 ·rw [if_neg hb] at h k
  have := h.unique k
  rw [← List.reverse_reverse d, this, List.reverse_reverse]
/-- The blocks in their order. -/
noncomputable def SsD.ord (x : SsD) : List Nat := Classical.choose (OrdOk.ex x)
theorem SsD.ordOk (x : SsD) : OrdOk x x.ord := Classical.choose_spec (OrdOk.ex x)
theorem SsD.ord_spec (x : SsD) : x.ord.Nodup ∧ ∀ b ∈ x.ord, b < x.blocks.l.length := by
 have h := x.ordOk
 unfold OrdOk at h
 by_cases hb : x.blocks.l = []
 ·rw [if_pos hb] at h; rw [h]; exact ⟨List.nodup_nil, by simp⟩
 ·rw [if_neg hb] at h
  have hN : 0 < x.N.length := by rw [SsD.N_len]; exact List.length_pos_iff.2 hb
  obtain ⟨h1, _, h3⟩ := h.nodup hN
  refine ⟨by unfold List.Nodup at h1 ⊢; rw [List.pairwise_reverse] at h1; exact h1.imp fun h => h.symm, fun b hb => ?_⟩
  have := h3 b (by simpa using hb)
  rwa [SsD.N_len] at this
theorem nodup_len : ∀ {n : Nat} {l : List Nat}, l.Nodup → (∀ b ∈ l, b < n) → l.length ≤ n
 | 0, l, _, hl => by
  cases l with
  | nil => simp
  | cons b l => exact absurd (hl b (by simp)) (by omega)
 | n + 1, l, h, hl => by
  have ih := nodup_len (n := n) (h.erase n) (fun b hb => by
   have h1 := (h.mem_erase_iff).1 hb
   have := hl b h1.2
   omega)
  by_cases hm : n ∈ l
  ·rw [List.length_erase_of_mem hm] at ih; omega
  ·rw [List.erase_of_not_mem hm] at ih; omega
theorem SsD.ord_len (x : SsD) : x.ord.length ≤ x.blocks.l.length := nodup_len x.ord_spec.1 x.ord_spec.2
theorem SsD.ord_get {x : SsD} {i b : Nat} (h : x.ord[i]? = some b) : ∃ y, x.blocks.l[b]? = some y := get_some (x.ord_spec.2 b (List.mem_of_getElem? h))
theorem SsD.F_get {x : SsD} {b : Nat} {y : BkD} (h : x.blocks.l[b]? = some y) : x.F.getD b default = y.p x.blocks.l.length := by
 unfold SsD.F; rw [List.getD_eq_getElem?_getD, List.getElem?_map, h]; rfl
theorem BkD.p_ins (y : BkD) (n : Nat) : (y.p n).ins.length = y.ins.l.length := by simp [BkD.p]

theorem order_gives (x : SsD) (w : World) (h : SsOk w x) (hto : ∀ y ∈ x.blocks.l, y.to.l.length < 17592186044416) (hn : x.blocks.l.length ≤ 100000) :
  Calls Tryz.prog 11 #[.agg (ssC x).toArray] w fun e w' => ∃ A c, e = .returned (.slice A x.ord.length c) ∧ Own intC 1 3 w' w.heap.size (.slice A x.ord.length c) (ints x.ord) ∧ Keep w w' :=
 (order_calls x w h hto hn).mono fun e w' ⟨v, ds, e1, h1, h2, h3⟩ => by
  have := h3.unique x.ordOk
  subst this
  obtain ⟨A, c, e2, _, _⟩ := h1.form
  rw [ints_len] at e2
  subst e2
  exact ⟨A, c, e1, h1, h2⟩

/-- Where the k-th block of the order begins. -/
noncomputable def SsD.atk (x : SsD) (k : Nat) : Int := Lv.endAt x.F (x.ord.take k)
theorem SsD.atk_succ {x : SsD} {k b : Nat} {y : BkD} (hb : x.ord[k]? = some b) (hy : x.blocks.l[b]? = some y) : x.atk (k + 1) = x.atk k + 2 * ((y.ins.l.length : Int) + 2) := by
 unfold SsD.atk
 rw [List.take_add_one, hb]
 show Lv.endAt x.F (_ ++ [b]) = _
 rw [Lv.endAt_snoc, SsD.F_get hy, BkD.p_ins]
/-- How many instructions and parameters and blocks there are, at most. -/
structure Small (x : SsD) : Prop where
 blocks : x.blocks.l.length ≤ 1000
 ins : ∀ y ∈ x.blocks.l, y.ins.l.length ≤ 1000
 params : ∀ y ∈ x.blocks.l, y.params.l.length ≤ 1000
 vals : x.vals.l.length ≤ 1000
 ends : ∀ y ∈ x.blocks.l, y.endsI.length ≤ 2000000
 edges : ∀ y ∈ x.blocks.l, y.to.l.length < 17592186044416
theorem SsD.atk_le {x : SsD} (h : Small x) : ∀ k, 0 ≤ x.atk k ∧ x.atk k ≤ (k : Int) * 2004
 | 0 => by unfold SsD.atk; simp [Lv.endAt]
 | k + 1 => by
  have ih := SsD.atk_le h k
  rcases Nat.lt_or_ge k x.ord.length with hk | hk
  ·obtain ⟨b, hb⟩ := get_some hk
   obtain ⟨y, hy⟩ := SsD.ord_get hb
   have := h.ins y (List.mem_of_getElem? hy)
   rw [SsD.atk_succ hb hy]
   omega
  ·have e : x.atk (k + 1) = x.atk k := by
    unfold SsD.atk; rw [List.take_of_length_le (by omega), List.take_of_length_le (by omega)]
   rw [e]; omega
theorem SsD.atk_lt {x : SsD} (h : Small x) (k : Nat) : 0 ≤ x.atk k ∧ x.atk k ≤ 2004000 := by
 rcases Nat.lt_or_ge k x.ord.length with hk | hk
 ·have := SsD.atk_le h k
  have := x.ord_len
  have := h.blocks
  omega
 ·have e : x.atk k = x.atk x.ord.length := by
   unfold SsD.atk; rw [List.take_of_length_le (by omega), List.take_of_length_le (by omega)]
  have := SsD.atk_le h x.ord.length
  have := x.ord_len
  have := h.blocks
  rw [e]; omega
theorem ints_at {w wr : World} {A : Option Addr} {n c base : Nat} {l : List Nat} (h : Own intC 1 3 w base (.slice A n c) (ints l)) (hkeep : Keep w wr) {k x : Nat} (hk : l[k]? = some x) :
  ∃ b off, A = some ⟨b, off, none⟩ ∧ b < w.heap.size ∧ wr.cell? ⟨b, off + k, none⟩ = some (.int .i64 (x : Int)) := by
 have hl := (List.getElem?_eq_some_iff.1 hk).1
 obtain ⟨b, off, e, hb, hc⟩ := int_at h.segN.2 hkeep (k := k) (by rw [ints_len]; exact hl)
 refine ⟨b, off, e, hb, ?_⟩
 have h1 := ints_get hk
 rw [List.getElem?_eq_getElem (by rw [ints_len]; exact hl)] at h1
 rw [Option.some.inj h1] at hc
 exact hc
/-- A form is laid into a box. -/
theorem box4 (w : World) (T : TypeId) (v0 v1 v2 v3 : Value) : ∃ W : World, w.alloc (.cells #[v0, v1, v2, v3] T) = W ∧ Keep w W ∧ W.cell? ⟨w.heap.size, 0, none⟩ = some v0 ∧ W.cell? ⟨w.heap.size, 1, none⟩ = some v1 ∧ W.cell? ⟨w.heap.size, 2, none⟩ = some v2 ∧ W.cell? ⟨w.heap.size, 3, none⟩ = some v3 ∧ w.heap.size < W.heap.size := by
 have b := Blk.new w T [v0, v1, v2, v3]
 exact ⟨_, rfl, (Keep.refl _).alloc _, b.cell 0, b.cell 1, b.cell 2, b.cell 3, b.lt⟩

set_option maxHeartbeats 2000000 in
theorem places_calls (x : SsD) (w : World) (h : SsOk w x) (hs : Small x) :
  Calls Tryz.prog 13 #[.agg (ssC x).toArray] w fun e w' => e = .returned (.int .i64 (x.atk x.ord.length)) ∧ Keep w w' := by
 have Hlt := Lib.hid (fun k => SsD.atk_lt hs k)
 have Hsu := Lib.hid (fun (k b : Nat) (y : BkD) (h1 : x.ord[k]? = some b) (h2 : x.blocks.l[b]? = some y) => SsD.atk_succ h1 h2)
 have H0 := Lib.hid (show x.atk 0 = 0 by unfold SsD.atk; simp [Lv.endAt])
 have HG := Lib.hid (fun (k b : Nat) (h1 : x.ord[k]? = some b) => SsD.ord_get h1)
 have Hol := Lib.hid (show x.ord.length ≤ 1000 from Nat.le_trans x.ord_len hs.blocks)
 have Hins := Lib.hid hs.ins
 have Hbl := Lib.hid hs.blocks
 obtain ⟨W, hW, hk, c0, c1, c2, c3, lt⟩ := box4 w 39 x.params.v x.results.v x.vals.v x.blocks.v
 have Hord := Lib.hid (order_gives x W (h.keep hk) hs.edges (Nat.le_trans hs.blocks (by omega)))
 have Hseg := Lib.hid h.seg
 obtain ⟨AT, hAT⟩ : ∃ AT, x.atk = AT := ⟨_, rfl⟩
 obtain ⟨ds, hds⟩ : ∃ ds, x.ord = ds := ⟨_, rfl⟩
 rw [hAT] at Hlt Hsu H0 ⊢
 rw [hds] at Hsu HG Hol Hord ⊢
 clear hAT hds h hs
 obtain ⟨xp, xr, xv, ⟨ba, bl, bc⟩⟩ := x
 obtain ⟨vp, hvp⟩ : ∃ v, xp.v = v := ⟨_, rfl⟩
 obtain ⟨vr, hvr⟩ : ∃ v, xr.v = v := ⟨_, rfl⟩
 obtain ⟨vv, hvv⟩ : ∃ v, xv.v = v := ⟨_, rfl⟩
 have eag : (Value.agg (ssC ⟨xp, xr, xv, ⟨ba, bl, bc⟩⟩).toArray) = .agg #[vp, vr, vv, .slice ba bl.length bc] := by rw [← hvp, ← hvr, ← hvv]; rfl
 rw [eag] at Hord ⊢
 replace c0 : W.cell? ⟨w.heap.size, 0, none⟩ = some vp := by rw [← hvp]; exact c0
 replace c1 : W.cell? ⟨w.heap.size, 1, none⟩ = some vr := by rw [← hvr]; exact c1
 replace c2 : W.cell? ⟨w.heap.size, 2, none⟩ = some vv := by rw [← hvv]; exact c2
 replace c3 : W.cell? ⟨w.heap.size, 3, none⟩ = some (.slice ba bl.length bc) := c3
 replace hW : w.alloc (.cells #[vp, vr, vv, .slice ba bl.length bc] 39) = W := by rw [← hW, ← hvp, ← hvr, ← hvv]; rfl
 replace Hsu : Hid (∀ (k b : Nat) (y : BkD), ds[k]? = some b → bl[b]? = some y → AT (k + 1) = AT k + 2 * ((y.ins.l.length : Int) + 2)) := Hsu
 replace HG : Hid (∀ (k b : Nat), ds[k]? = some b → ∃ y, bl[b]? = some y) := HG
 replace Hseg : Hid (Seg w ba (bl.flatMap bkC)) := Hseg
 replace Hins : Hid (∀ y ∈ bl, y.ins.l.length ≤ 1000) := Hins
 replace Hbl : Hid (bl.length ≤ 1000) := Hbl
 clear eag hvp hvr hvv
 have Hk := Lib.hid hk
 clear hk
 go_enter Tryz.func13, Tryz.ntmps13
 go_wp2_with fail
 try rw [hW]
 refine Hord.out.mono ?_
 clear Hord hW
 rintro e w1 ⟨A, c, rfl, hown, hk1⟩
 have d3 := hk1.cell c3
 have lt1 := Nat.lt_of_lt_of_le lt hk1.size
 have Hown := Lib.hid hown
 have Hk1 := Lib.hid hk1
 have hdl : ds.length ≤ 1000 := Hol.out
 obtain ⟨m, hm⟩ : ∃ m, ds.length = m := ⟨_, rfl⟩
 rw [hm] at Hown hdl ⊢
 have Hm := Lib.hid hm
 clear c0 c1 c2 c3 hown hk1 hm lt
 go_wp2_with fail
 go_loopw [3, 9] (fun vn vi wr => ∃ k : Nat, k ≤ m ∧ vi = .int .i64 k ∧ vn = .int .i64 (AT k) ∧ Hid (Keep w1 wr)) (fun _ vi _ => m - (intOf vi).toNat)
 case atStart => exact ⟨0, Nat.zero_le _, rfl, by rw [H0.out], Lib.hid (Keep.refl _)⟩
 case round =>
  obtain ⟨k, hk, rfl, rfl, hkeep⟩ := hrel
  have ha := Hlt.out k
  by_cases hin : k < m
  ·obtain ⟨b, hb⟩ := get_some (l := ds) (k := k) (by rw [Hm.out]; exact hin)
   obtain ⟨y, hy⟩ := HG.out k b hb
   have Hsucc := Lib.hid (Hsu.out k b y hb hy)
   obtain ⟨b1, o1, hA, hb1, q1⟩ := ints_at Hown.out hkeep.out hb
   subst hA
   obtain ⟨B, off, hB, hB1, hcB⟩ := bk_get Hseg.out ((Hk.out.trans Hk1.out).trans hkeep.out) hy
   subst hB
   have hbl := (List.getElem?_eq_some_iff.1 hy).1
   have hyi := Hins.out y (List.mem_of_getElem? hy)
   have d3r := hkeep.out.cell d3
   have q2 : wr.cell? ⟨B, off + b * 7 + 1, none⟩ = some y.ins.v := hcB 1 _ rfl
   unfold RwD.v at q2
   have hkk : (k : Int) < (m : Int) := by omega
   have hk0 : (0 : Int) ≤ (k : Int) := by omega
   have hbb : (b : Int) < (bl.length : Int) := by omega
   have hb0 : (0 : Int) ≤ (b : Int) := by omega
   obtain ⟨a0, ha0⟩ : ∃ a0, AT k = a0 := ⟨_, rfl⟩
   rw [ha0] at ha Hsucc ⊢
   obtain ⟨ln, hln⟩ : ∃ ln, y.ins.l.length = ln := ⟨_, rfl⟩
   rw [hln] at hyi q2 Hsucc
   have s1 : (0 : Int) ≤ (ln : Int) + 2 := by omega
   have s2 : (ln : Int) + 2 ≤ 1002 := by omega
   have s3 : (0 : Int) ≤ 2 * ((ln : Int) + 2) := by omega
   have s4 : 2 * ((ln : Int) + 2) ≤ 2004 := by omega
   clear ha0 hln hb hy hcB hbl
   go_wp2
   go_roundw
   case rel => exact ⟨k + 1, hin, by go_num, by rw [Hsucc.out], hkeep⟩
   case measure => simp [intOf]; omega
  ·have hkm : k = m := by omega
   subst hkm
   go_wp2
   go_ret
   exact ⟨by rw [Hm.out]; rfl, (Hk.out.trans Hk1.out).trans hkeep.out⟩
end Go.Proofs.YtjpmiejgcnfiiaaGreat
namespace Go.Proofs.YtjpmiejgcnfiiaaGreat
open Go Go.RowKit

/-- All numbers of the block are those of values. -/
structure BkD.In (y : BkD) (nv : Nat) : Prop where
 params : ∀ v ∈ y.params.l, 0 ≤ v ∧ v < (nv : Int)
 args : ∀ i ∈ y.ins.l, ∀ v ∈ i.args.l, 0 ≤ v ∧ v < (nv : Int)
 outs : ∀ i ∈ y.ins.l, ∀ v ∈ i.outs.l, 0 ≤ v ∧ v < (nv : Int)
 ends : ∀ v ∈ y.endsI, 0 ≤ v ∧ v < (nv : Int)
theorem nat_lt {l : List Int} {nv : Nat} (h : ∀ v ∈ l, 0 ≤ v ∧ v < (nv : Int)) : ∀ v ∈ nat l, v < nv := by
 intro v hv
 obtain ⟨u, hu, rfl⟩ := List.mem_map.1 (show v ∈ l.map Int.toNat from hv)
 have := h u hu
 omega
theorem BkD.In.p {y : BkD} {nv : Nat} (h : y.In nv) (n : Nat) : (y.p n).In nv where
 params := nat_lt h.params
 args := fun x hx => by
  obtain ⟨i, hi, rfl⟩ := List.mem_map.1 (show x ∈ y.ins.l.map InD.p from hx)
  exact nat_lt (h.args i hi)
 outs := fun x hx => by
  obtain ⟨i, hi, rfl⟩ := List.mem_map.1 (show x ∈ y.ins.l.map InD.p from hx)
  exact nat_lt (h.outs i hi)
 ends := nat_lt h.ends

set_option maxHeartbeats 2000000 in
theorem look_calls (l : List Int) (A : Option Addr) (c nv vc g ob : Nat) (va : Option Addr) (w : World) (hl : ∀ v ∈ l, 0 ≤ v ∧ v < (nv : Int)) (hs : Seg w A (l.flatMap intC)) (hn : l.length ≤ maxLen)
  (ho : Blk w ob 4 [.bool true]) (hg : w.cell? ⟨g, 2, none⟩ = some (.slice va nv vc)) (hgl : g < w.heap.size) (hne : g ≠ ob) (hao : ∀ ad, A = some ad → l ≠ [] → ad.block ≠ ob) :
  Calls Tryz.prog 45 #[.slice A l.length c, .pointer (some ⟨ob, 0, none⟩), .pointer (some ⟨g, 0, none⟩)] w fun e w' => (∃ v, e = .returned v) ∧ Blk w' ob 4 [.bool true] ∧ Ext (fun k => k = ob) w w' := by
 have Hl := Lib.hid hl
 have Hs := Lib.hid hs
 have Hao := Lib.hid hao
 have Hg := Lib.hid hg
 unfold maxLen at hn
 obtain ⟨m, hm⟩ : ∃ m, l.length = m := ⟨_, rfl⟩
 have Hm := Lib.hid hm
 rw [hm] at hn ⊢
 have Hgl := Lib.hid hgl
 have Ho := Lib.hid ho
 clear hl hs hao hm hg hgl ho
 go_enter Tryz.func45, Tryz.ntmps45
 go_wp2_with fail
 go_loopw [8] (fun vi wr => ∃ k : Nat, k ≤ m ∧ vi = .int .i64 k ∧ Hid (Blk wr ob 4 [.bool true]) ∧ Hid (Ext (fun k => k = ob) w wr)) (fun vi _ => m - (intOf vi).toNat)
 case atStart => exact ⟨0, Nat.zero_le _, rfl, Ho, Lib.hid (Ext.refl _ _)⟩
 case round =>
  obtain ⟨k, hk, rfl, ho, hE⟩ := hrel
  by_cases hin : k < m
  ·have hlk : k < l.length := by rw [Hm.out]; exact hin
   obtain ⟨b, off, hA, hb, q0⟩ := int_at Hs.out (Keep.refl _) hlk
   subst hA
   have hne2 : b ≠ ob := Hao.out _ rfl (fun e => by rw [e] at hlk; simp at hlk)
   have q1 : wr.cell? ⟨b, off + k, none⟩ = some (.int .i64 l[k]) := (World.cell?_of_block (hE.out.block b hb hne2)).trans q0
   have g1 : wr.cell? ⟨g, 2, none⟩ = some (.slice va nv vc) := (World.cell?_of_block (hE.out.block g Hgl.out hne)).trans Hg.out
   have o1 : wr.cell? ⟨ob, 0, none⟩ = some (.bool true) := ho.out.cell 0
   have of := ho.out.frozen 0
   have hv := Hl.out l[k] (List.getElem_mem hlk)
   obtain ⟨v, hvv⟩ : ∃ v, l[k] = v := ⟨_, rfl⟩
   rw [hvv] at q1 hv
   obtain ⟨v0, v1⟩ := hv
   have kk : (k : Int) < (m : Int) := by omega
   have k0 : (0 : Int) ≤ (k : Int) := by omega
   have ll := ho.out.lt
   have Hnext := Lib.hid (show Blk (wr.setCell ⟨ob, 0, none⟩ (.bool true)) ob 4 [.bool true] ∧ Ext (fun k => k = ob) w (wr.setCell ⟨ob, 0, none⟩ (.bool true)) from
    ⟨ho.out.set_ 0 (.bool true), hE.out.setCell (p := ⟨ob, 0, none⟩) (fun _ => rfl) _⟩)
   clear hvv ho hE q0
   go_wp2
   go_roundw
   case rel => exact ⟨k + 1, hin, by go_num, Lib.hid Hnext.out.1, Lib.hid Hnext.out.2⟩
   case measure => simp [intOf]; omega
  ·go_wp2
   refine bodyPost_end (results_none rfl _ _ _) rfl ⟨⟨_, rfl⟩, ho.out, hE.out⟩
end Go.Proofs.YtjpmiejgcnfiiaaGreat
