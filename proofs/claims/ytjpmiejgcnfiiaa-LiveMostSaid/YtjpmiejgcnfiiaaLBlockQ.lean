/-
  Rows that hold no bools; where the last loop of the program's block stands.
-/
import Derived.Test.YtjpmiejgcnfiiaaLBlockP
set_option linter.unusedVariables false
set_option linter.unusedSimpArgs false
namespace Go.Proofs.Ytjpmiejgcnfiiaa
open Go Go.RowKit

theorem Seg.nb {w w' : World} {A : Option Addr} {xs : List Value} {bm : Nat} {m0 : List Bool} (h : Seg w A xs) (hm : BBlk w bm 4 m0) (hx : ∀ v ∈ xs, ∀ b, v ≠ .bool b) (hE : Ext (fun q => q = bm) w w') : Seg w' A xs := fun j u hu => by
  obtain ⟨ad, e, hc⟩ := h j u hu
  have hlt := World.block_lt_of_cell? w _ hc
  refine ⟨ad, e, (World.cell?_of_block (hE.block _ hlt (fun e' => ?_))).trans hc⟩
  have hsp := World.cell?_spot hc
  obtain ⟨b, o, sp⟩ := ad
  obtain ⟨o', ho'⟩ : ∃ o', (⟨b, o, sp⟩ : Addr).add j = ⟨bm, o', none⟩ := by
    generalize (⟨b, o, sp⟩ : Addr).add j = a at e' hsp
    obtain ⟨b2, o2, s2⟩ := a
    have h1 : b2 = bm := e'
    have h2 : s2 = none := hsp
    subst h1 h2
    exact ⟨o2, rfl⟩
  rw [ho', hm.cell, List.getElem?_map] at hc
  cases hz : m0[o']? with
  | none => rw [hz] at hc; cases hc
  | some z =>
    rw [hz] at hc
    exact hx u (List.mem_of_getElem? hu) z (Option.some.inj hc).symm
theorem nb_flat {α : Type} {f : α → List Value} {l : List α} (h : ∀ x, ∀ v ∈ f x, ∀ b, v ≠ .bool b) : ∀ v ∈ l.flatMap f, ∀ b, v ≠ .bool b := fun v hv => by
  obtain ⟨x, _, hx⟩ := List.mem_flatMap.1 hv
  exact h x v hx
theorem nb_int (x : Int) : ∀ v ∈ intC x, ∀ b, v ≠ .bool b := fun v hv b e => by simp [intC] at hv; subst hv; cases e
theorem nb_in (x : InD) : ∀ v ∈ inC x, ∀ b, v ≠ .bool b := fun v hv b e => by
  simp [inC] at hv
  rcases hv with rfl | rfl | rfl | rfl | rfl | rfl | rfl <;> cases e
theorem nb_ed (x : EdD) : ∀ v ∈ edC x, ∀ b, v ≠ .bool b := fun v hv b e => by
  simp [edC] at hv
  rcases hv with rfl | rfl <;> cases e
theorem BkOk.nb {w w' : World} {y : BkD} {bm : Nat} {m0 : List Bool} (h : BkOk w y) (hm : BBlk w bm 4 m0) (hE : Ext (fun q => q = bm) w w') : BkOk w' y :=
  have num : ∀ {x : RwD Int}, NumOk w x → NumOk w' x := fun hx => ⟨hx.seg.nb hm (nb_flat nb_int) hE, hx.len⟩
  ⟨num h.params, h.insSeg.nb hm (nb_flat nb_in) hE, fun i hi => ⟨num (h.ins i hi).args, num (h.ins i hi).outs⟩, h.insLen, num h.args, h.toSeg.nb hm (nb_flat nb_ed) hE, fun e he => ⟨num (h.to e he).args⟩, h.toLen⟩
theorem RowsAt.kinds {α : Type} {f : α → List Value} {s : Nat} {ei eo : TypeId} {w w' : World} {b base : Nat} {L : List (List α)} {S : Nat → Prop} (h : RowsAt f s ei eo w b base L) (hE : Ext S w w') (hb : ¬ S b) (hs : ∀ k cs fl, w.heap[k]? = some (.cells cs ei fl) → ¬ S k) : RowsAt f s ei eo w' b base L := by
  obtain ⟨vs, h1, h2, h3, h4⟩ := h
  refine ⟨vs, h1.ext hE hb, h2, fun i v l hv hl => (h3 i v l hv hl).ext hE (fun k hk => ?_), h4⟩
  rcases (h3 i v l hv hl).2 with ⟨e, _⟩ | ⟨g1, cap, cur, e, _, hh, _⟩
  · rw [e] at hk; cases hk
  · rw [e] at hk
    simp only [Value.ownBlock, Option.some.injEq] at hk
    subst hk
    exact hs _ _ _ hh

/-- The last loop. -/
structure FSt (w wr : World) (bf bt bm bl base nv : Nat) (G : Nat → Int × Int) (M : Nat → Bool) (L : List (List Lv.Rng)) (k : Nat) : Prop where
  ex : ∃ fr tl ml, IBlk wr bf 3 fr ∧ IBlk wr bt 3 tl ∧ BBlk wr bm 4 ml ∧ fr.length = nv ∧ tl.length = nv ∧ ml.length = nv ∧ (∀ v, k ≤ v → v < nv → (fr.getD v 0, tl.getD v 0) = G v) ∧ ∀ v, v < nv → ml.getD v false = M v
  rows : RgRows wr bl base L
  ext : Ext (RngS base bl bm w) w wr
section
variable {w w4 wr w' : World} {bf bt bm bl base nv k : Nat} {G : Nat → Int × Int} {M : Nat → Bool} {L L' : List (List Lv.Rng)}
theorem FSt.start {m0 : List Bool} (h : ST w4 wr bf bt bm nv G M) (hk : Keep w w4) (hf : w.heap.size ≤ bf) (ht : w.heap.size ≤ bt) (hL : RgRows w bl base L) (hne : bm ≠ bl) (hm : BBlk w bm 4 m0) : FSt w wr bf bt bm bl base nv G M L 0 := by
  obtain ⟨fr, tl, ml, h1, h2, h3⟩ := h.ex
  have hE : Ext (fun q => q = bm) w wr := (hk.ext _).trans h1.ext (fun i hi e => by rcases e with e | e | e <;> first | omega | exact e)
  refine ⟨⟨fr, tl, ml, h1.f, h1.t, h1.m, h1.fl, h1.tl_, h1.ml_, fun v _ hv => h2 v hv, h3⟩, RowsAt.kinds hL hE (fun e => hne e.symm) (fun k cs fl hh e => ?_), hE.mono (fun _ _ e => .inr (.inl e))⟩
  subst e
  unfold BBlk Blk at hm
  rw [hm] at hh; cases hh
theorem FSt.keep (h : FSt w wr bf bt bm bl base nv G M L k) (hk : Keep wr w') : FSt w w' bf bt bm bl base nv G M L k := by
  obtain ⟨fr, tl, ml, h1, h2, h3, h4, h5, h6, h7, h8⟩ := h.ex
  exact ⟨⟨fr, tl, ml, h1.keep hk, h2.keep hk, h3.keep hk, h4, h5, h6, h7, h8⟩, h.rows.keep hk, h.ext.keepTrans hk⟩
theorem FSt.skip (h : FSt w wr bf bt bm bl base nv G M L k) (e : L = L') : FSt w wr bf bt bm bl base nv G M L' (k + 1) := by
  obtain ⟨fr, tl, ml, h1, h2, h3, h4, h5, h6, h7, h8⟩ := h.ex
  subst e
  exact ⟨⟨fr, tl, ml, h1, h2, h3, h4, h5, h6, fun v hv => h7 v (by omega), h8⟩, h.rows, h.ext⟩
theorem FSt.add (h : FSt w wr bf bt bm bl base nv G M L k) (hE : Ext (RngS base bl bm wr) wr w') (hL : RgRows w' bl base L') (hm : ∀ ml : List Bool, BBlk wr bm 4 ml → BBlk w' bm 4 ml) (hbf : bf ≠ bl ∧ bf ≠ bm) (hbt : bt ≠ bl ∧ bt ≠ bm) : FSt w w' bf bt bm bl base nv G M L' (k + 1) := by
  obtain ⟨fr, tl, ml, h1, h2, h3, h4, h5, h6, h7, h8⟩ := h.ex
  exact ⟨⟨fr, tl, ml, Blk.rngS h1 hE hbf.1 hbf.2 (by decide), Blk.rngS h2 hE hbt.1 hbt.2 (by decide), hm ml h3, h4, h5, h6, fun v hv => h7 v (by omega), h8⟩, hL, RngS.trans h.ext hE⟩
theorem FSt.put (h : FSt w wr bf bt bm bl base nv G M L k) (hk : k < nv) (hw : w.heap.size ≤ bt) (hft : bf ≠ bt) (hbl : bl ≠ bt) (Y : Int) : FSt w (wr.setCell ⟨bt, k, none⟩ (.int .i64 Y)) bf bt bm bl base nv (fun v => if v = k then ((G v).1, Y) else G v) M L k := by
  obtain ⟨fr, tl, ml, h1, h2, h3, h4, h5, h6, h7, h8⟩ := h.ex
  have htm : bt ≠ bm := h2.ne h3 (by decide)
  refine ⟨⟨fr, tl.set k Y, ml, h1.far (p := ⟨bt, k, none⟩) hft _, h2.put k Y, h3.far (p := ⟨bt, k, none⟩) (fun e => htm e.symm) _, h4, by simp [h5], h6, fun v hv hvn => ?_, h8⟩, h.rows.put_far h2 (fun e => hbl e.symm) (.inr (by decide)) _, h.ext.setCell (p := ⟨bt, k, none⟩) (fun e => by have : bt < w.heap.size := e; omega) _⟩
  rw [getD_set_int tl k v Y (by rw [h5]; exact hk)]
  have := h7 v hv hvn
  show _ = if v = k then _ else _
  split
  · rw [← this]
  · exact this
theorem FSt.at_ (h : FSt w wr bf bt bm bl base nv G M L k) (hk : k < nv) : wr.cell? ⟨bf, k, none⟩ = some (.int .i64 (G k).1) ∧ wr.cell? ⟨bt, k, none⟩ = some (.int .i64 (G k).2) ∧ wr.frozen? ⟨bt, k, none⟩ = false ∧ bf < wr.heap.size ∧ bt < wr.heap.size := by
  obtain ⟨fr, tl, ml, h1, h2, h3, h4, h5, h6, h7, h8⟩ := h.ex
  have e := h7 k (Nat.le_refl _) hk
  have c1 := h1.get (k := k) (by rw [h4]; exact hk)
  have c2 := h2.get (k := k) (by rw [h5]; exact hk)
  rw [List.getD_eq_getElem?_getD, List.getD_eq_getElem?_getD, List.getElem?_eq_getElem (by rw [h4]; exact hk), List.getElem?_eq_getElem (by rw [h5]; exact hk)] at e
  exact ⟨by rw [← e]; exact c1, by rw [← e]; exact c2, h2.frozen k, h1.lt, h2.lt⟩
theorem FSt.congr {G' : Nat → Int × Int} (h : FSt w wr bf bt bm bl base nv G M L k) (hG : ∀ v, k ≤ v → v < nv → G' v = G v) : FSt w wr bf bt bm bl base nv G' M L k := by
  obtain ⟨fr, tl, ml, h1, h2, h3, h4, h5, h6, h7, h8⟩ := h.ex
  exact ⟨⟨fr, tl, ml, h1, h2, h3, h4, h5, h6, fun v hv hvn => by rw [hG v hv hvn]; exact h7 v hv hvn, h8⟩, h.rows, h.ext⟩
theorem FSt.marks (h : FSt w wr bf bt bm bl base nv G M L k) : ∃ m', BBlk wr bm 4 m' ∧ m'.length = nv ∧ ∀ v, v < nv → m'.getD v false = M v := by
  obtain ⟨fr, tl, ml, h1, h2, h3, h4, h5, h6, h7, h8⟩ := h.ex
  exact ⟨ml, h3, h6, h8⟩
end
end Go.Proofs.Ytjpmiejgcnfiiaa
