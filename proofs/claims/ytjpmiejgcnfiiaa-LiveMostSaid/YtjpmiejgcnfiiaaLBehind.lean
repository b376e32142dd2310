/-
  The program's behind.
-/
import Derived.Test.YtjpmiejgcnfiiaaLForm
import Derived.Test.YtjpmiejgcnfiiaaLFoundP
set_option linter.unusedVariables false
set_option linter.unusedSimpArgs false
namespace Go.Proofs.Ytjpmiejgcnfiiaa
open Go Go.RowKit

/-! ### A row joined to another, one after the other -/

def orTo (a b : List Bool) (j : Nat) : List Bool := Lv.orL (a.take j) (b.take j) ++ a.drop j
theorem orTo_zero (a b : List Bool) : orTo a b 0 = a := by simp [orTo, Lv.orL]
theorem orTo_end {a b : List Bool} {j : Nat} (h : b.length = a.length) (hj : a.length ≤ j) : orTo a b j = Lv.orL a b := by
  unfold orTo
  rw [List.take_of_length_le hj, List.take_of_length_le (by omega), List.drop_of_length_le hj, List.append_nil]
theorem orTo_len {a b : List Bool} (h : b.length = a.length) (j : Nat) : (orTo a b j).length = a.length := by
  unfold orTo
  rw [List.length_append, Lv.orL_len (by simp [h]), List.length_take, List.length_drop]; omega
theorem orTo_get {a b : List Bool} {j : Nat} {x : Bool} (h : b.length = a.length) (hx : a[j]? = some x) : (orTo a b j)[j]? = some x := by
  unfold orTo
  have hl := (List.getElem?_eq_some_iff.1 hx).1
  rw [List.getElem?_append_right (by rw [Lv.orL_len (by simp [h]), List.length_take]; omega), Lv.orL_len (by simp [h]), List.length_take, List.getElem?_drop]
  rw [show j + (j - min j a.length) = j by omega]
  exact hx
theorem orTo_succ {a b : List Bool} {j : Nat} {x y : Bool} (h : b.length = a.length) (hx : a[j]? = some x) (hy : b[j]? = some y) : (orTo a b j).set j (x || y) = orTo a b (j + 1) := by
  have hl := (List.getElem?_eq_some_iff.1 hx).1
  have hl2 := (List.getElem?_eq_some_iff.1 hy).1
  have e1 : Lv.orL (a.take (j + 1)) (b.take (j + 1)) = Lv.orL (a.take j) (b.take j) ++ [x || y] := by
    unfold Lv.orL
    rw [List.take_add_one, List.take_add_one, hx, hy, List.zipWith_append (by simp; omega)]; rfl
  have e2 : a.drop j = x :: a.drop (j + 1) := by
    rw [List.drop_eq_getElem_cons hl]
    congr 1
    exact Option.some.inj ((List.getElem?_eq_getElem hl).symm.trans hx)
  have hlen : (Lv.orL (a.take j) (b.take j)).length = j := by
    rw [Lv.orL_len (by simp [h]), List.length_take]; omega
  unfold orTo
  rw [e1, e2, List.set_append, if_neg (by omega), hlen, Nat.sub_self, List.set_cons_zero, List.append_assoc]; rfl

/-- A row of rows of bools: each row in a block of its own kind. -/
def NRows (w : World) (b base : Nat) (L : List (List Bool)) : Prop :=
  ∃ vs : List Value, Blk w b 68 vs ∧ vs.length = L.length ∧ ∀ (i : Nat) v l, vs[i]? = some v → L[i]? = some l → Own boolC 1 4 w base v l
section
variable {w w' : World} {b base : Nat} {L : List (List Bool)}
theorem NRows.keep (h : NRows w b base L) (hk : Keep w w') : NRows w' b base L := by
  obtain ⟨vs, h1, h2, h3⟩ := h
  exact ⟨vs, h1.keep hk, h2, fun i v l hv hl => (h3 i v l hv hl).keep hk⟩
theorem NRows.lt (h : NRows w b base L) : b < w.heap.size := by
  obtain ⟨vs, h1, _⟩ := h
  exact h1.lt
theorem NRows.frozen (h : NRows w b base L) (i : Nat) : w.frozen? ⟨b, i, none⟩ = false := by
  obtain ⟨vs, h1, _⟩ := h
  exact h1.frozen i
theorem NRows.put (h : NRows w b base L) {i : Nat} {A : Option Addr} {c : Nat} {l : List Bool} (hl : Own boolC 1 4 w base (.slice A l.length c) l) : NRows (w.setCell ⟨b, i, none⟩ (.slice A l.length c)) b base (L.set i l) := by
  obtain ⟨vs, h1, h2, h3⟩ := h
  refine ⟨_, h1.set_ i _, by simp [h2], fun j v k hv hk => ?_⟩
  by_cases e : i = j
  · subst e
    have hi := (List.getElem?_eq_some_iff.1 hv).1
    rw [List.length_set] at hi
    rw [List.getElem?_set_self hi] at hv
    rw [List.getElem?_set_self (by omega)] at hk
    cases hv; cases hk
    exact hl.put_far (fun q hq => hl.blk_apart h1 (by decide) hq) _
  · rw [List.getElem?_set_ne e] at hv hk
    exact (h3 j v k hv hk).put_far (fun q hq => (h3 j v k hv hk).blk_apart h1 (by decide) hq) _
theorem NRows.get (h : NRows w b base L) {i : Nat} {l : List Bool} (hl : L[i]? = some l) : ∃ A c, w.cell? ⟨b, i, none⟩ = some (.slice A l.length c) ∧ Own boolC 1 4 w base (.slice A l.length c) l := by
  obtain ⟨vs, h1, h2, h3⟩ := h
  have hi := (List.getElem?_eq_some_iff.1 hl).1
  obtain ⟨v, hv⟩ := get_some (l := vs) (k := i) (by omega)
  have ho := h3 i v l hv hl
  obtain ⟨A, c, rfl, _, _⟩ := ho.form
  exact ⟨A, c, by rw [h1.cell, hv], ho⟩
end

set_option maxHeartbeats 4000000 in
set_option maxRecDepth 100000 in
theorem behind_calls (x : SsD) (b bn base cn : Nat) (S : List (List Bool)) (w : World) (h : SsOk w x) (hs : Small x) (hb : b < x.blocks.l.length) (hS : NRows w bn base S) (hlen : S.length = x.blocks.l.length) (hrow : ∀ l ∈ S, l.length = x.vals.l.length) :
    Calls Try.prog 20 #[.slice (some ⟨bn, 0, none⟩) x.blocks.l.length cn, .agg (ssC x).toArray, .int .i64 (b : Int)] w fun e w' =>
      ∃ g, e = .returned (.slice (some ⟨g, 0, none⟩) x.vals.l.length x.vals.l.length) ∧ w.heap.size ≤ g ∧ BBlk w' g 4 (Lv.behindP S x.vals.l.length (x.N.getD b [])) ∧ Keep w w' := by
  obtain ⟨vp, vr, va, nv, vc, ba, nb, bc, hop⟩ := x.opened
  have hnext := fun (W : World) (hk : Keep w W) => next2 x b W (h.keep hk) hs.edges (by rw [SsD.N_len]; exact hb)
  have hNlt := SsD.N_lt x
  have hNl := SsD.N_len x
  have hnv1 : nv ≤ 1000 := by rw [← hop.nv]; exact hs.vals
  have hedges : (x.N.getD b []).length < 17592186044416 := by
    obtain ⟨y, hy⟩ := get_some hb
    rw [SsD.N_get hy]
    have h1 := hs.edges y (List.mem_of_getElem? hy)
    have h2 := nextL_len x.blocks.l.length y.to.l
    unfold nat
    rw [List.length_map]
    show (nextL _ _).length < _
    omega
  have hmem : ∀ t ∈ x.N.getD b [], t < nb := fun t ht => by
    have hbN : b < x.N.length := by rw [hNl]; exact hb
    rw [List.getD_eq_getElem?_getD, List.getElem?_eq_getElem hbN] at ht
    have := hNlt _ (List.getElem_mem hbN) t ht
    rw [hNl, hop.nb] at this
    exact this
  rw [hop.agg] at hnext ⊢
  rw [hop.nv] at hrow
  rw [hop.nb] at hlen hb
  rw [hop.nv, hop.nb]
  obtain ⟨NX, hNX⟩ : ∃ NX, x.N.getD b [] = NX := ⟨_, rfl⟩
  rw [hNX] at hnext hmem hedges ⊢
  obtain ⟨W, hW, hk, c0, c1, c2, c3, lt⟩ := box4 w 47 vp vr (.slice va nv vc) (.slice ba nb bc)
  obtain ⟨W1, hmake, hblk, hk1⟩ := make_bools W nv (by omega)
  have hn1 := hnext W1 (hk.trans hk1)
  have d0 := hk1.cell c0
  have d1 := hk1.cell c1
  have d2 := hk1.cell c2
  have d3 := hk1.cell c3
  have lt1 := Nat.lt_of_lt_of_le lt hk1.size
  have HN1 := Lib.hid hn1
  have Hblk := Lib.hid hblk
  have Hk := Lib.hid hk
  have Hk1 := Lib.hid hk1
  have HS := Lib.hid hS
  have Hmem := Lib.hid hmem
  have Hlen := Lib.hid hlen
  have Hrow := Lib.hid hrow
  clear hnext hop h hs hNlt hNl hNX hS hn1 hblk hk hk1 hmem hlen hrow x
  obtain ⟨g, hg⟩ : ∃ g, W.heap.size = g := ⟨_, rfl⟩
  have Hg := Lib.hid hg
  rw [hg] at hmake Hblk
  have hgw : w.heap.size < g := by omega
  clear hg
  go_enter Try.func20, Try.ntmps20
  go_wp2_with (refine wpList_make_eq rfl _ _ _ rfl _ _ rfl rfl _ _ hmake ?_; clear hmake hW)
  refine HN1.out.mono ?_
  clear HN1
  rintro e w2 ⟨A, c, rfl, hown, hk2, hcl, hcm⟩
  have Hown := Lib.hid hown
  have Hblk2 := Lib.hid (Hblk.out.keep hk2)
  have Hk2 := Lib.hid hk2
  have HW := Lib.hid (show ∀ w', Ext (fun k => k = g) w2 w' → Keep w w' from fun w' h => Keep.of_ext ((Hk.out.trans Hk1.out).trans hk2) h (fun k hk e => by omega))
  have hgs : g < w2.heap.size := Hblk2.out.lt
  obtain ⟨m, hm⟩ : ∃ m, NX.length = m := ⟨_, rfl⟩
  rw [hm] at Hown hcl hedges ⊢
  have Hm := Lib.hid hm
  have Hgne := Lib.hid (fun k (hk : (Value.slice A m c).ownBlock = some k) => Hown.out.blk_apart Hblk2.out (by decide) hk)
  clear c0 c1 c2 c3 d0 d1 d2 d3 lt lt1 hown hk2 hcl hcm hm Hblk
  go_wp2_with fail
  go_loopw [20] (fun vi wr => ∃ k : Nat, k ≤ m ∧ vi = .int .i64 k ∧ Hid (BBlk wr g 4 ((NX.take k).foldl (fun out t => Lv.orL out (S.getD t [])) (List.replicate nv false))) ∧ Hid (Ext (fun k => k = g) w2 wr)) (fun vi _ => m - (intOf vi).toNat)
  case atStart => exact ⟨0, Nat.zero_le _, rfl, Hblk2, Lib.hid (Ext.refl _ _)⟩
  case round =>
    obtain ⟨k, hk, rfl, hblk, hE⟩ := hrel
    by_cases hin : k < m
    · obtain ⟨tt, ht⟩ := get_some (l := NX) (k := k) (by rw [Hm.out]; exact hin)
      have htn := Hmem.out tt (List.mem_of_getElem? ht)
      obtain ⟨l, hl⟩ := get_some (l := S) (k := tt) (by rw [Hlen.out]; exact htn)
      have hln := Hrow.out l (List.mem_of_getElem? hl)
      have Hln := Lib.hid hln
      have hkw := HW.out _ hE.out
      obtain ⟨Ar, cr, r0, hro⟩ := HS.out.get hl
      have r1 := hkw.cell r0
      rw [hln] at r1 hro
      have Hro := Lib.hid hro
      obtain ⟨b1, o1, hA, hb1, q0⟩ := ints_at Hown.out (Keep.refl _) ht
      subst hA
      have hb1g := Hgne.out b1 rfl
      have q1 := (World.cell?_of_block (hE.out.block b1 hb1 hb1g)).trans q0
      have Hpl := Lib.hid (show (NX.take (k + 1)).foldl (fun out t => Lv.orL out (S.getD t [])) (List.replicate nv false) = Lv.orL ((NX.take k).foldl (fun out t => Lv.orL out (S.getD t [])) (List.replicate nv false)) l from by
        rw [List.take_add_one, ht]
        show List.foldl _ _ (_ ++ [tt]) = _
        rw [List.foldl_append, List.foldl_cons, List.foldl_nil, List.getD_eq_getElem?_getD, hl]; rfl)
      obtain ⟨a, ha⟩ : ∃ a, (NX.take k).foldl (fun out t => Lv.orL out (S.getD t [])) (List.replicate nv false) = a := ⟨_, rfl⟩
      have halen : a.length = nv := by
        rw [← ha]
        have key : ∀ (q : List Nat) (s : List Bool), s.length = nv → (∀ t ∈ q, t < nb) → (q.foldl (fun out t => Lv.orL out (S.getD t [])) s).length = nv := by
          intro q
          induction q with
          | nil => intro s h _; exact h
          | cons z q ih =>
            intro s h1 h2
            refine ih _ ?_ (fun t ht => h2 t (by simp [ht]))
            obtain ⟨lz, hz⟩ := get_some (l := S) (k := z) (by rw [Hlen.out]; exact h2 z (by simp))
            have := Hrow.out lz (List.mem_of_getElem? hz)
            rw [Lv.orL_len (by rw [List.getD_eq_getElem?_getD, hz]; show lz.length = _; omega)]; exact h1
        exact key _ _ (by simp) (fun t ht => Hmem.out t (List.mem_of_mem_take ht))
      rw [ha] at hblk Hpl
      have Hal := Lib.hid halen
      have HB0 := Lib.hid (show BBlk wr g 4 (orTo a l 0) ∧ Ext (fun k => k = g) w2 wr from ⟨by rw [orTo_zero]; exact hblk.out, hE.out⟩)
      have hkk : (k : Int) < (m : Int) := by omega
      have hk0 : (0 : Int) ≤ (k : Int) := by omega
      have htt : (tt : Int) < (nb : Int) := by omega
      have htt0 : (0 : Int) ≤ (tt : Int) := by omega
      clear ha halen hblk hE hro r0 q0 ht hl hln hkw hb1g
      go_wp2_with fail
      go_loopw [29] (fun vj wr => ∃ j : Nat, j ≤ nv ∧ vj = .int .i64 j ∧ Hid (BBlk wr g 4 (orTo a l j)) ∧ Hid (Ext (fun k => k = g) w2 wr)) (fun vj _ => nv - (intOf vj).toNat)
      case atStart => exact ⟨0, Nat.zero_le _, rfl, Lib.hid HB0.out.1, Lib.hid HB0.out.2⟩
      case round =>
        clear HB0 q1 r1
        obtain ⟨j, hj, rfl, hblk, hE⟩ := hrel
        by_cases hjn : j < nv
        · obtain ⟨u, hu⟩ := get_some (l := a) (k := j) (by rw [Hal.out]; exact hjn)
          obtain ⟨v, hv⟩ := get_some (l := l) (k := j) (by rw [Hln.out]; exact hjn)
          have hll : l.length = a.length := by rw [Hln.out, Hal.out]
          obtain ⟨b2, o2, hA2, hb2, q2⟩ := bool_at Hro.out.segN.2 (HW.out _ hE.out) (k := j) (by rw [Hln.out]; exact hjn)
          subst hA2
          have e2 := Option.some.inj ((List.getElem?_eq_getElem (by rw [Hln.out]; exact hjn)).symm.trans hv)
          rw [e2] at q2
          have q3 : wr.cell? ⟨g, j, none⟩ = some (.bool u) := by
            rw [hblk.out.cell, List.getElem?_map, orTo_get hll hu]; rfl
          have fg := hblk.out.frozen j
          have lg := hblk.out.lt
          have lb2 := Nat.lt_of_lt_of_le hb2 (HW.out _ hE.out).size
          have hb2g : b2 ≠ g := by omega
          have Hnx := Lib.hid (show BBlk (wr.setCell ⟨g, j, none⟩ (.bool (u || v))) g 4 (orTo a l (j + 1)) ∧ Ext (fun k => k = g) w2 (wr.setCell ⟨g, j, none⟩ (.bool (u || v))) from
            ⟨by rw [← orTo_succ hll hu hv]; exact hblk.out.put j _, hE.out.setCell (p := ⟨g, j, none⟩) (fun _ => rfl) _⟩)
          have hjj : (j : Int) < (nv : Int) := by omega
          have hj0 : (0 : Int) ≤ (j : Int) := by omega
          clear hblk hE hu hv e2
          cases u
          · go_wp2
            go_roundw
            case rel => exact ⟨j + 1, hjn, by go_num, Lib.hid Hnx.out.1, Lib.hid Hnx.out.2⟩
            case measure => simp [intOf]; omega
          · go_wp2
            go_roundw
            case rel => exact ⟨j + 1, hjn, by go_num, Lib.hid Hnx.out.1, Lib.hid Hnx.out.2⟩
            case measure => simp [intOf]; omega
        · have Hnx := Lib.hid (show BBlk wr g 4 ((NX.take (k + 1)).foldl (fun out t => Lv.orL out (S.getD t [])) (List.replicate nv false)) ∧ Ext (fun k => k = g) w2 wr from
            ⟨by rw [Hpl.out, ← orTo_end (a := a) (b := l) (j := j) (by rw [Hln.out, Hal.out]) (by rw [Hal.out]; omega)]; exact hblk.out, hE.out⟩)
          clear hblk hE
          go_wp2
          go_roundw
          case rel => exact ⟨k + 1, hin, by go_num, Lib.hid Hnx.out.1, Lib.hid Hnx.out.2⟩
          case measure => simp [intOf]; omega
    · have Hfin := Lib.hid (show BBlk wr g 4 (Lv.behindP S nv NX) ∧ Keep w wr from by
        have hb := hblk.out
        rw [List.take_of_length_le (by rw [Hm.out]; omega)] at hb
        exact ⟨hb, HW.out _ hE.out⟩)
      have Hgf := Lib.hid hgw
      clear hblk hE
      go_wp2
      go_ret
      exact ⟨_, rfl, by have := Hgf.out; omega, Hfin.out.1, Hfin.out.2⟩
end Go.Proofs.Ytjpmiejgcnfiiaa
