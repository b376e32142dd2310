import Derived.Test.YtjpmiejgcnfiiaaGreatQ3
import Derived.Test.YtjpmiejgcnfiiaaGreatQ4
import Derived.Deep.DeepCutAuto
import Derived.Deep.Cut
import Derived.Test.YtjpmiejgcnfiiaaGreatQ2
set_option linter.unusedVariables false
set_option linter.unusedSimpArgs false
namespace Go.Proofs.YtjpmiejgcnfiiaaGreat
open Go Go.RowKit

def ints (l : List Nat) : List Int := l.map Int.ofNat
theorem ints_len (l : List Nat) : (ints l).length = l.length := by simp [ints]
theorem ints_nat {l : List Int} (h : ∀ x ∈ l, 0 ≤ x) : ints (nat l) = l := by
  unfold ints nat
  rw [List.map_map]
  conv => rhs; rw [← List.map_id l]
  exact List.map_congr_left fun x hx => by have := h x hx; show ((x.toNat : Nat) : Int) = x; omega
theorem ints_rev (l : List Nat) : ints l.reverse = (ints l).reverse := by simp [ints]
theorem ints_get {l : List Nat} {k x : Nat} (h : l[k]? = some x) : (ints l)[k]? = some (x : Int) := by unfold ints; rw [List.getElem?_map, h]; rfl
theorem make_ints (w : World) (n : Nat) (h : n ≤ 1000000) : ∃ w', (Instr.makeSlice 45 (.int .i64 (n : Int)) (.int .i64 (n : Int))).run Tryz.prog w = .ok (.slice (some ⟨w.heap.size, 0, none⟩) n n) w' ∧ IBlk w' w.heap.size 3 (List.replicate n 0) ∧ Keep w w' := by
  obtain ⟨w', h1, h2, h3⟩ := make_zero (P := Tryz.prog) (z := .int .i64 0) (bytes := 8) Tryz.underlying45 (by kernel_rfl) rfl w n (by omega) (by unfold maxLen; omega)
  exact ⟨w', h1, by unfold IBlk; rw [List.map_replicate]; exact h2, h3⟩
theorem make_bools (w : World) (n : Nat) (h : n ≤ 1000000) : ∃ w', (Instr.makeSlice 80 (.int .i64 (n : Int)) (.int .i64 (n : Int))).run Tryz.prog w = .ok (.slice (some ⟨w.heap.size, 0, none⟩) n n) w' ∧ BBlk w' w.heap.size 4 (List.replicate n false) ∧ Keep w w' := by
  obtain ⟨w', h1, h2, h3⟩ := make_zero (P := Tryz.prog) (z := .bool false) (bytes := 1) Tryz.underlying80 (by kernel_rfl) rfl w n (by omega) (by unfold maxLen; omega)
  exact ⟨w', h1, by unfold BBlk; rw [List.map_replicate]; exact h2, h3⟩

/-! ### The search, plain -/

/-- A node and what is left of the row of its followers. -/
structure RsD where
  x : Nat
  a : Option Addr
  l : List Nat
  c : Nat
def RsD.p (s : RsD) : Nat × List Nat := (s.x, s.l)
/-- The weights of the nodes that are not seen. -/
def uw : List (List Nat) → List Bool → Nat
  | l :: N, b :: m => (if b then 0 else l.length + 1) + uw N m
  | _, _ => 0
theorem uw_set : ∀ {N : List (List Nat)} {m : List Bool} {c : Nat}, m.length = N.length → m.getD c true = false → uw N (m.set c true) + ((N.getD c []).length + 1) = uw N m
  | [], m, c, hl, h => by
    have : m = [] := List.eq_nil_of_length_eq_zero (by simpa using hl)
    subst this; cases h
  | l :: N, [], c, hl, h => by cases h
  | l :: N, b :: m, 0, hl, h => by
    have : b = false := h
    subst this
    simp [uw]; omega
  | l :: N, b :: m, c + 1, hl, h => by
    have ih := uw_set (N := N) (m := m) (c := c) (by simpa using hl) h
    show (if b then 0 else l.length + 1) + uw N (m.set c true) + ((N.getD c []).length + 1) = _
    show _ = (if b then 0 else l.length + 1) + uw N m
    omega
def fuelS (N : List (List Nat)) (seen : List Bool) (st : List RsD) : Nat := uw N seen + (st.map fun s => s.l.length + 1).sum
structure PS (N : List (List Nat)) (st : List RsD) (out : List Nat) (seen : List Bool) (d : List Nat) : Prop where
  vis : Lv.VisS N (st.map RsD.p) seen out d
  len : seen.length = N.length
  cnt : st.length + out.length + seen.count false = N.length
  lt : ∀ s ∈ st, s.x < N.length ∧ ∀ t ∈ s.l, t < N.length
section
variable {N : List (List Nat)} {st r : List RsD} {out : List Nat} {seen : List Bool} {d : List Nat} {x t c : Nat} {a : Option Addr} {l : List Nat}
theorem PS.pop (h : PS N (⟨x, a, [], c⟩ :: r) out seen d) : PS N r (out ++ [x]) seen d ∧ fuelS N seen r < fuelS N seen (⟨x, a, [], c⟩ :: r) :=
  ⟨⟨h.vis.pop, h.len, by have := h.cnt; simp at this ⊢; omega, fun s hs => h.lt s (List.mem_cons_of_mem _ hs)⟩, by simp [fuelS]⟩
theorem PS.skip {a' : Option Addr} {c' : Nat} (h : PS N (⟨x, a, t :: l, c⟩ :: r) out seen d) (hs : seen.getD t true = true) : PS N (⟨x, a', l, c'⟩ :: r) out seen d ∧ fuelS N seen (⟨x, a', l, c'⟩ :: r) < fuelS N seen (⟨x, a, t :: l, c⟩ :: r) := by
  refine ⟨⟨h.vis.skip hs, h.len, by have := h.cnt; simpa using this, fun s hs => ?_⟩, by simp [fuelS]⟩
  rcases List.mem_cons.1 hs with rfl | hs
  · have := h.lt _ (List.mem_cons_self ..)
    exact ⟨this.1, fun t ht => this.2 t (List.mem_cons_of_mem _ ht)⟩
  · exact h.lt s (List.mem_cons_of_mem _ hs)
theorem PS.push {a' b : Option Addr} {c' e : Nat} (hN : ∀ l ∈ N, ∀ t ∈ l, t < N.length) (h : PS N (⟨x, a, t :: l, c⟩ :: r) out seen d) (hs : seen.getD t true = false) :
    PS N (⟨t, b, N.getD t [], e⟩ :: ⟨x, a', l, c'⟩ :: r) out (seen.set t true) d ∧ fuelS N (seen.set t true) (⟨t, b, N.getD t [], e⟩ :: ⟨x, a', l, c'⟩ :: r) < fuelS N seen (⟨x, a, t :: l, c⟩ :: r) := by
  have h1 := Lv.count_set hs
  have h2 := uw_set h.len hs
  refine ⟨⟨h.vis.push hs, by rw [List.length_set]; exact h.len, by have := h.cnt; simp at this ⊢; omega, fun s hs => ?_⟩, by simp only [fuelS, List.map_cons, List.sum_cons, List.length_cons]; omega⟩
  rcases List.mem_cons.1 hs with rfl | hs
  · refine ⟨(h.lt _ (List.mem_cons_self ..)).2 t (List.mem_cons_self ..), fun u hu => ?_⟩
    rw [List.getD_eq_getElem?_getD] at hu
    cases hg : N[t]? with
    | none => rw [hg] at hu; simp at hu
    | some l0 => rw [hg] at hu; exact hN l0 (List.mem_of_getElem? hg) u hu
  rcases List.mem_cons.1 hs with rfl | hs
  · have := h.lt _ (List.mem_cons_self ..)
    exact ⟨this.1, fun t ht => this.2 t (List.mem_cons_of_mem _ ht)⟩
  · exact h.lt s (List.mem_cons_of_mem _ hs)
theorem PS.tlt (h : PS N (⟨x, a, t :: l, c⟩ :: r) out seen d) : t < N.length := (h.lt _ (List.mem_cons_self ..)).2 t (List.mem_cons_self ..)
end

/-! ### The search, in memory -/

def rsC (s : RsD) : List Value := [.int .i64 (s.x : Int), .slice s.a s.l.length s.c]
theorem elS : ElT Tryz.prog 85 84 2 32 rsC where
  slice := Tryz.underlying85
  info := info_of (z := .agg #[.int .i64 0, .slice none 0 0]) (by kernel_rfl) rfl
  pos := by omega
  len := fun _ => rfl
  one := fun x u hu => by simp [rsC] at hu; rcases hu with rfl | rfl <;> rfl
/-- What is left of a row lies in a block of numbers that is not that of vo. -/
def Rst (w : World) (base : Nat) (vo : Value) (s : RsD) : Prop :=
  Seg w s.a ((ints s.l).flatMap intC) ∧ s.l.length ≤ s.c ∧ s.c ≤ maxLen ∧ (s.l ≠ [] → ∃ ad v L, s.a = some ad ∧ Own intC 1 3 w base v L ∧ v.ownBlock = some ad.block ∧ vo.ownBlock ≠ some ad.block)
section
variable {w w' : World} {base : Nat} {vo vo' : Value} {s : RsD}
theorem Rst.ext {S : Nat → Prop} (h : Rst w base vo s) (hE : Ext S w w') (hS : ∀ v (L : List Int) k, Own intC 1 3 w base v L → v.ownBlock = some k → vo.ownBlock ≠ some k → ¬ S k) : Rst w' base vo s := by
  obtain ⟨h1, h2, h3, h4⟩ := h
  by_cases hl : s.l = []
  · exact ⟨by rw [hl]; show Seg w' s.a []; exact Seg.nil _ _, h2, h3, fun h => absurd hl h⟩
  · obtain ⟨ad, v, L, e1, e2, e3, e4⟩ := h4 hl
    refine ⟨h1.ext hE (fun ad' he _ => ?_), h2, h3, fun _ => ⟨ad, v, L, e1, e2.ext hE (fun k hk => hS v L k e2 hk (by rw [e3] at hk; cases hk; exact e4)), e3, e4⟩⟩
    rw [e1] at he; cases he
    exact hS v L _ e2 e3 e4
theorem Rst.grow (h : Rst w base vo s) (hE : Ext (fun q => vo.ownBlock = some q) w w') (hv : vo'.ownBlock = vo.ownBlock ∨ ∃ k, vo'.ownBlock = some k ∧ w.heap.size ≤ k) : Rst w' base vo' s := by
  obtain ⟨h1, h2, h3, h4⟩ := h.ext hE (fun v L k _ _ hne e => hne e)
  refine ⟨h1, h2, h3, fun hl => ?_⟩
  obtain ⟨ad, v, L, e1, e2, e3, e4⟩ := h4 hl
  obtain ⟨_, _, _, h5⟩ := h
  obtain ⟨ad', v', L', e1', e2', e3', _⟩ := h5 hl
  rw [e1] at e1'; cases e1'
  refine ⟨ad, v, L, e1, e2, e3, ?_⟩
  rcases hv with hv | ⟨k, hv, hk⟩
  · rw [hv]; exact e4
  · intro e; rw [hv] at e; cases e
    have := (e2'.lt _ e3').2
    omega
theorem Rst.tail {x t c : Nat} {b o : Nat} {l : List Nat} {a2 : Option Addr} (ha : l ≠ [] → a2 = some ⟨b, o + 1, none⟩) (h : Rst w base vo ⟨x, some ⟨b, o, none⟩, t :: l, c⟩) : Rst w base vo ⟨x, a2, l, c - 1⟩ := by
  obtain ⟨h1, h2, h3, h4⟩ := h
  obtain ⟨ad, v, L, e1, e2, e3, e4⟩ := h4 (by simp)
  cases e1
  simp only [List.length_cons] at h2
  refine ⟨?_, by show l.length ≤ c - 1; omega, by show c - 1 ≤ maxLen; have h3 : c ≤ maxLen := h3; omega, fun hl => ⟨_, v, L, ha hl, e2, e3, e4⟩⟩
  show Seg w a2 ((ints l).flatMap intC)
  by_cases hl : l = []
  · subst hl; exact Seg.nil _ _
  · rw [ha hl]
    have := h1.drop 1
    simpa [ints, intC, Addr.add] using this
end
/-- The search in memory. -/
structure OM (w0 w : World) (bs : Nat) (st : List RsD) (out : List Nat) (seen : List Bool) (vs vo : Value) : Prop where
  seen : BBlk w bs 4 seen
  stk : Own rsC 2 84 w w0.heap.size vs st.reverse
  out : Own intC 1 3 w w0.heap.size vo (ints out)
  rest : ∀ s ∈ st, Rst w w0.heap.size vo s
  keep : Keep w0 w
  base : w0.heap.size ≤ bs

section
variable {w0 w w' : World} {bs : Nat} {st r : List RsD} {out : List Nat} {seen : List Bool} {vs vo : Value} {s : RsD}
theorem OM.far (h : OM w0 w bs st out seen vs vo) (hk : Keep w w') : OM w0 w' bs st out seen vs vo :=
  ⟨h.seen.keep hk, h.stk.keep hk, h.out.keep hk, fun s hs => (h.rest s hs).ext (hk.ext (fun _ => False)) (fun _ _ _ _ _ _ hf => hf), h.keep.trans hk, h.base⟩
theorem OM.top (h : OM w0 w bs (s :: r) out seen vs vo) : ∃ g c, vs = .slice (some ⟨g, 0, none⟩) (r.length + 1) c ∧ r.length + 1 ≤ c ∧ c ≤ maxLen ∧ g < w.heap.size ∧ w0.heap.size ≤ g ∧ w.cell? ⟨g, r.length * 2, none⟩ = some (.int .i64 (s.x : Int)) ∧ w.cell? ⟨g, r.length * 2 + 1, none⟩ = some (.slice s.a s.l.length s.c) ∧ (∀ j, w.frozen? ⟨g, j, none⟩ = false) ∧ g ≠ bs := by
  have hl : (s :: r).reverse.length = r.length + 1 := by simp
  obtain ⟨g, c, hv, hg, hb, hc⟩ := own_at h.stk (by omega)
  obtain ⟨A, c', hv', h1, h2⟩ := h.stk.form
  have hs := h.stk
  rw [hv] at hs
  rw [hv, hl] at hv'
  cases hv'
  have hcell := fun (j : Nat) (u : Value) => hc (r.length * 2 + j) u
  have hlast : ((s :: r).reverse)[r.length]'(by omega) = s := by simp
  have hget : ∀ j, j < 2 → ((s :: r).reverse.flatMap rsC)[r.length * 2 + j]? = (rsC s)[j]? := fun j hj => by
    rw [flat_get rsC 2 (fun _ => rfl) (s :: r).reverse r.length j (by omega) hj, hlast]
  exact ⟨g, c, by rw [hv, hl], by omega, h2, hg, hb, hcell 0 _ (hget 0 (by omega)), hcell 1 _ (hget 1 (by omega)), fun j => hs.thawed j, h.stk.blk_apart h.seen (by decide) (by rw [hv]; rfl)⟩
theorem flat_bump (l : List RsD) (x : Nat) (a a' : Option Addr) (k k' : List Nat) (c c' : Nat) : (l ++ [(⟨x, a', k', c'⟩ : RsD)]).flatMap rsC = ((l ++ [(⟨x, a, k, c⟩ : RsD)]).flatMap rsC).set (l.length * 2 + 1) (.slice a' k'.length c') := by
  have hl := flat_length rsC 2 (fun _ => rfl) l
  rw [List.flatMap_append, List.flatMap_append, List.set_append, if_neg (by omega), hl]
  rw [show l.length * 2 + 1 - l.length * 2 = 1 by omega]
  rfl
theorem OM.bump {x t c b o : Nat} {l : List Nat} {a2 : Option Addr} (ha : l ≠ [] → a2 = some ⟨b, o + 1, none⟩) (h : OM w0 w bs (⟨x, some ⟨b, o, none⟩, t :: l, c⟩ :: r) out seen vs vo) {g cc : Nat} (hv : vs = .slice (some ⟨g, 0, none⟩) (r.length + 1) cc) :
    OM w0 (w.setCell ⟨g, r.length * 2 + 1, none⟩ (.slice a2 l.length (c - 1))) bs (⟨x, a2, l, c - 1⟩ :: r) out seen vs vo := by
  subst hv
  have hb : w0.heap.size ≤ g := (h.stk.lt g rfl).1
  have hE := Ext.one (w := w) g (r.length * 2 + 1) (.slice a2 l.length (c - 1))
  have hR : ∀ s, Rst w w0.heap.size vo s → Rst (w.setCell ⟨g, r.length * 2 + 1, none⟩ (.slice a2 l.length (c - 1))) w0.heap.size vo s := fun s hs =>
    hs.ext hE (fun v L k ho hk _ e => ho.kinds h.stk (by decide) hk (by rw [e]; rfl))
  refine ⟨h.seen.far (p := ⟨g, r.length * 2 + 1, none⟩) (fun e => h.stk.blk_apart h.seen (by decide) rfl e.symm) _, ?_, h.out.put_far (fun q hq e => h.out.kinds h.stk (by decide) hq (by rw [e]; rfl)) _, ?_, h.keep.setCell (p := ⟨g, r.length * 2 + 1, none⟩) hb _, h.base⟩
  · refine Own.put (f := rsC) (s := 2) (ys := (⟨x, a2, l, c - 1⟩ :: r).reverse) (fun _ => rfl) h.stk _ _ ?_ (by simp)
    rw [List.reverse_cons, List.reverse_cons]
    have := flat_bump r.reverse x (some ⟨b, o, none⟩) a2 (t :: l) l c (c - 1)
    rw [List.length_reverse] at this
    exact this
  · intro s hs
    rcases List.mem_cons.1 hs with rfl | hs
    · exact hR _ ((h.rest _ (List.mem_cons_self ..)).tail ha)
    · exact hR _ (h.rest s (List.mem_cons_of_mem _ hs))
theorem OM.push (h : OM w0 w bs st out seen vs vo) (hn : st.length < 900000) (s : RsD) (hs : Rst w w0.heap.size vo s) : ∃ A c, vs = .slice A st.length c ∧ ∃ A' c' w2,
    (Builtin.append_ #[85, 85] 85 #[.slice A st.length c, .slice (some ⟨w.heap.size, 0, none⟩) 1 1]).run Tryz.prog (w.alloc (.cells #[.int .i64 (s.x : Int), .slice s.a s.l.length s.c] 84)) = .ok (.slice A' (st.length + 1) c') w2 ∧
      OM w0 w2 bs (s :: st) out seen (.slice A' (st.length + 1) c') vo := by
  obtain ⟨A, c, hv, A', c', w2, hrun, hown, hE, hbl, hB⟩ := h.stk.push1 elS s (by simp; omega) (by omega) h.keep.size 85
  rw [List.length_reverse] at hv hrun hown
  rw [hv] at hrun
  refine ⟨A, c, hv, A', c', w2, hrun, ?_⟩
  have hE2 : Ext (fun q => q < w.heap.size → vs.ownBlock = some q) w w2 := ⟨hE.os, hE.tape, hE.output, hE.size, fun q hq hnq => hbl q hq (fun e => hnq (fun _ => e))⟩
  have hR : ∀ s, Rst w w0.heap.size vo s → Rst w2 w0.heap.size vo s := fun s hs =>
    hs.ext hE2 (fun v L k ho hk _ e => ho.kinds h.stk (by decide) hk (e (ho.lt k hk).2))
  refine ⟨hB _ _ _ h.seen (by decide), by rw [List.reverse_cons]; exact hown, ?_, ?_, Keep.of_ext h.keep hE (fun i hi h => by omega), h.base⟩
  · refine h.out.ext hE2 (fun q hq hs => ?_)
    exact h.out.kinds h.stk (by decide) hq (hs (h.out.lt q hq).2)
  · intro s' hs'
    rcases List.mem_cons.1 hs' with rfl | hs'
    · exact hR _ hs
    · exact hR _ (h.rest s' hs')
theorem OM.mark (h : OM w0 w bs st out seen vs vo) (b : Nat) : OM w0 (w.setCell ⟨bs, b, none⟩ (.bool true)) bs st out (seen.set b true) vs vo :=
  ⟨h.seen.put b true, h.stk.put_far (fun q hq => h.stk.blk_apart h.seen (by decide) hq) _, h.out.put_far (fun q hq => h.out.blk_apart h.seen (by decide) hq) _,
   fun s hs => (h.rest s hs).ext (Ext.one bs b _) (fun v L k ho hk _ e => ho.blk_apart h.seen (by decide) hk e), h.keep.setCell (p := ⟨bs, b, none⟩) h.base _, h.base⟩
theorem ints_snoc (l : List Nat) (x : Nat) : ints (l ++ [x]) = ints l ++ [(x : Int)] := by simp [ints]
theorem OM.leave (h : OM w0 w bs (s :: r) out seen vs vo) (hn : out.length < 900000) {g c : Nat} (hv : vs = .slice (some ⟨g, 0, none⟩) (r.length + 1) c) : ∃ A c0, vo = .slice A out.length c0 ∧ ∃ A' c' w2,
    (Builtin.append_ #[45, 45] 45 #[.slice A out.length c0, .slice (some ⟨w.heap.size, 0, none⟩) 1 1]).run Tryz.prog (w.alloc (.cells #[.int .i64 (s.x : Int)] 3)) = .ok (.slice A' (out.length + 1) c') w2 ∧
      OM w0 w2 bs r (out ++ [s.x]) seen (.slice (some ⟨g, 0, none⟩) r.length c) (.slice A' (out.length + 1) c') := by
  obtain ⟨A, c0, hvo, _⟩ := h.out.form
  rw [ints_len] at hvo
  have hka : Keep w (w.alloc (.cells #[.int .i64 (s.x : Int)] 3)) := (Keep.refl _).alloc _
  have hseg : Seg (w.alloc (.cells #[.int .i64 (s.x : Int)] 3)) (some ⟨w.heap.size, 0, none⟩) (([(s.x : Int)] : List Int).flatMap intC) := Seg.of_blk (Blk.new w 3 [.int .i64 (s.x : Int)])
  obtain ⟨v', w2, hrun, hown, hg, hgb⟩ := append_run (ys := [(s.x : Int)]) elI (h.out.keep hka) hseg 1 45 (by simp [maxLen, ints_len]; omega) (by simp [ints_len]; omega) (Nat.le_trans h.keep.size hka.size)
  obtain ⟨A', c', rfl, _⟩ := hown.form
  have e : (ints out ++ [(s.x : Int)]).length = out.length + 1 := by simp [ints_len]
  rw [e] at hrun hown hgb
  have hrun' := hrun
  rw [hvo] at hrun'
  refine ⟨A, c0, hvo, A', c', w2, hrun', ?_⟩
  have hE : Ext (fun q => vo.ownBlock = some q) w w2 := (hka.ext _).grown hg (fun k hk _ => hk)
  subst hv
  have hstk2 : Own rsC 2 84 w2 w0.heap.size (.slice (some ⟨g, 0, none⟩) (r.length + 1) c) (s :: r).reverse :=
    h.stk.ext hE (fun q hq hs => h.stk.kinds h.out (by decide) hq hs)
  have hfr := Own.front (f := rsC) (s := 2) (fun _ => rfl) hstk2 (m := r.length) (by simp)
  rw [List.reverse_cons, List.take_left' (by simp)] at hfr
  refine ⟨h.seen.ext hE (fun e => h.out.blk_apart h.seen (by decide) e rfl), hfr, by rw [ints_snoc]; exact hown, fun s' hs' => (show Rst w w0.heap.size vo s' from h.rest s' (List.mem_cons_of_mem _ hs')).grow hE ?_, Keep.of_ext h.keep hE (fun i hi e => by have := (h.out.lt i e).1; omega), h.base⟩
  rcases hgb with e | e
  · exact .inl e
  · exact .inr ⟨_, e, hka.size⟩
end

def SsD.N (x : SsD) : List (List Nat) := x.F.map (·.next)
theorem SsD.N_len (x : SsD) : x.N.length = x.blocks.l.length := by simp [SsD.N, SsD.F]
theorem SsD.N_get {x : SsD} {b : Nat} {y : BkD} (hy : x.blocks.l[b]? = some y) : x.N.getD b [] = nat (y.nextI x.blocks.l.length) := by
  unfold SsD.N SsD.F
  rw [List.getD_eq_getElem?_getD, List.getElem?_map, List.getElem?_map, hy]; rfl
theorem SsD.nextI_mem {y : BkD} {n : Nat} {t : Int} (h : t ∈ y.nextI n) : 0 ≤ t ∧ t < (n : Int) := by
  unfold BkD.nextI at h
  simpa using (List.mem_filter.1 h).2
theorem SsD.N_lt (x : SsD) : ∀ l ∈ x.N, ∀ t ∈ l, t < x.N.length := by
  intro l hl t ht
  rw [SsD.N_len]
  unfold SsD.N SsD.F at hl
  obtain ⟨p, hp, rfl⟩ := List.mem_map.1 hl
  obtain ⟨y, _, rfl⟩ := List.mem_map.1 hp
  obtain ⟨u, hu, rfl⟩ := List.mem_map.1 (show t ∈ nat (y.nextI x.blocks.l.length) from ht)
  have := SsD.nextI_mem hu
  omega
theorem next2 (x : SsD) (b : Nat) (w : World) (h : SsOk w x) (hto : ∀ y ∈ x.blocks.l, y.to.l.length < 17592186044416) (hb : b < x.N.length) :
    Calls Tryz.prog 26 #[.agg (ssC x).toArray, .int .i64 (b : Int)] w fun e w' => ∃ A c, e = .returned (.slice A (x.N.getD b []).length c) ∧ Own intC 1 3 w' w.heap.size (.slice A (x.N.getD b []).length c) (ints (x.N.getD b [])) ∧ Keep w w' ∧ (x.N.getD b []).length ≤ c ∧ c ≤ maxLen := by
  rw [SsD.N_len] at hb
  obtain ⟨y, hy⟩ := get_some hb
  refine (next_calls x b y w h hy (hto y (List.mem_of_getElem? hy))).mono ?_
  rintro e w' ⟨v, rfl, hown, hk⟩
  obtain ⟨A, c, rfl, h1, h2⟩ := hown.form
  have e1 : ints (x.N.getD b []) = y.nextI x.blocks.l.length := by
    rw [SsD.N_get hy]; exact ints_nat fun t ht => (SsD.nextI_mem ht).1
  have e2 : (x.N.getD b []).length = (y.nextI x.blocks.l.length).length := by rw [← e1, ints_len]
  exact ⟨A, c, by rw [e2], by rw [e1, e2]; exact hown, hk, by rw [e2]; exact h1, h2⟩
theorem Rst.made {w : World} {base base0 : Nat} {vo : Value} {A : Option Addr} {l : List Nat} {c : Nat} (x : Nat) (h : Own intC 1 3 w base0 (.slice A l.length c) (ints l)) (hb : base ≤ base0) (hv : ∀ k, vo.ownBlock = some k → k < base0) : Rst w base vo ⟨x, A, l, c⟩ := by
  obtain ⟨A', c', e, h1, h2⟩ := h.form
  rw [ints_len] at e h1
  cases e
  refine ⟨h.segN.2, h1, h2, fun hl => ?_⟩
  have hp : 0 < (ints l).length := by rw [ints_len]; exact List.length_pos_iff.2 hl
  obtain ⟨g, c2, e, _, h4, _⟩ := own_at h hp
  rw [ints_len] at e
  cases e
  exact ⟨_, _, _, rfl, h.mono hb, rfl, fun e => absurd (hv g e) (by omega)⟩

/-- What Order says: the nodes in the turned order of leaving. -/
def OrdOk (x : SsD) (ds : List Nat) : Prop := if x.blocks.l = [] then ds = [] else Lv.IsPost x.N ds.reverse
end Go.Proofs.YtjpmiejgcnfiiaaGreat
namespace Go.Proofs.YtjpmiejgcnfiiaaGreat
open Go Go.RowKit

set_option maxHeartbeats 4000000 in
set_option maxRecDepth 100000 in
theorem order_calls (x : SsD) (w : World) (h : SsOk w x) (hto : ∀ y ∈ x.blocks.l, y.to.l.length < 17592186044416) (hn : x.blocks.l.length ≤ 100000) :
  Calls Tryz.prog 11 #[.agg (ssC x).toArray] w fun e w' => ∃ v ds, e = .returned v ∧ Own intC 1 3 w' w.heap.size v (ints ds) ∧ Keep w w' ∧ OrdOk x ds := by
 obtain ⟨N, hN⟩ : ∃ N, x.N = N := ⟨_, rfl⟩
 have HNx := Lib.hid (show ∀ W, Keep w W → ∀ b, b < N.length → Calls Tryz.prog 26 #[.agg (ssC x).toArray, .int .i64 (b : Int)] W fun e w' => ∃ A c, e = .returned (.slice A (N.getD b []).length c) ∧ Own intC 1 3 w' W.heap.size (.slice A (N.getD b []).length c) (ints (N.getD b [])) ∧ Keep W w' ∧ (N.getD b []).length ≤ c ∧ c ≤ maxLen from
  fun W hW b hb => by rw [← hN] at hb ⊢; exact next2 x b W (h.keep hW) hto hb)
 have HNlt := Lib.hid (show ∀ l ∈ N, ∀ t ∈ l, t < N.length from by rw [← hN]; exact SsD.N_lt x)
 have HNlen := Lib.hid (show N.length = x.blocks.l.length from by rw [← hN]; exact SsD.N_len x)
 have HOrd := Lib.hid (show ∀ d, (∃ d', Lv.IsPost N d' ∧ d' = d) → x.blocks.l ≠ [] → OrdOk x d.reverse from by
  rintro d ⟨_, hd, rfl⟩ hne; unfold OrdOk; rw [if_neg hne, List.reverse_reverse, hN]; exact hd)
 have HOrd0 := Lib.hid (show x.blocks.l = [] → OrdOk x [] from fun e => by unfold OrdOk; rw [if_pos e])
 obtain ⟨OO, hOO⟩ : ∃ OO, OrdOk x = OO := ⟨_, rfl⟩
 rw [hOO] at HOrd HOrd0 ⊢
 clear hOO hN
 obtain ⟨xp, xr, xv, ⟨ba, bl, bc⟩⟩ := x
 obtain ⟨vp, hvp⟩ : ∃ v, xp.v = v := ⟨_, rfl⟩
 obtain ⟨vr, hvr⟩ : ∃ v, xr.v = v := ⟨_, rfl⟩
 obtain ⟨vv, hvv⟩ : ∃ v, xv.v = v := ⟨_, rfl⟩
 have eag : (Value.agg (ssC ⟨xp, xr, xv, ⟨ba, bl, bc⟩⟩).toArray) = .agg #[vp, vr, vv, .slice ba bl.length bc] := by rw [← hvp, ← hvr, ← hvv]; rfl
 rw [eag] at HNx ⊢
 replace hn : bl.length ≤ 100000 := hn
 replace HNlen : Hid (N.length = bl.length) := HNlen
 replace HOrd : Hid (∀ d, (∃ d', Lv.IsPost N d' ∧ d' = d) → bl ≠ [] → OO d.reverse) := HOrd
 replace HOrd0 : Hid (bl = [] → OO []) := HOrd0
 clear h hto eag hvp hvr hvv
 obtain ⟨wa, hwa⟩ : ∃ wa : World, w.alloc (.cells #[vp, vr, vv, .slice ba bl.length bc] 39) = wa := ⟨_, rfl⟩
 have hka : Keep w wa := by rw [← hwa]; exact (Keep.refl _).alloc _
 have bx : Blk wa w.heap.size 39 [vp, vr, vv, .slice ba bl.length bc] := by rw [← hwa]; exact Blk.new w _ _
 have d0 : wa.cell? ⟨w.heap.size, 0, none⟩ = some vp := bx.cell 0
 have d1 : wa.cell? ⟨w.heap.size, 1, none⟩ = some vr := bx.cell 1
 have d2 : wa.cell? ⟨w.heap.size, 2, none⟩ = some vv := bx.cell 2
 have d3 : wa.cell? ⟨w.heap.size, 3, none⟩ = some (.slice ba bl.length bc) := bx.cell 3
 have lt := bx.lt
 clear bx
 have Hbl := Lib.hid (show bl.length = 0 → bl = [] from List.eq_nil_of_length_eq_zero)
 have Hbl2 := Lib.hid (show bl = [] → bl.length = 0 from fun e => by rw [e]; rfl)
 obtain ⟨n, hnl⟩ : ∃ n, bl.length = n := ⟨_, rfl⟩
 rw [hnl] at HNx HNlen Hbl Hbl2 hn hwa d3 ⊢
 clear hnl
 obtain ⟨ws, hmake, hblk, hks⟩ := make_bools wa n (by omega)
 by_cases hn0 : n = 0
 ·subst hn0
  have Hf := Lib.hid (HOrd0.out (Hbl.out rfl))
  clear hmake hblk hks
  have Hka := Lib.hid hka
  clear hka
  go_enter Tryz.func11, Tryz.ntmps11
  go_wp2_with fail
  go_ret
  exact ⟨_, rfl, [], Own.nil _ _ _ _ _, Hka.out, Hf.out⟩
 ·have hnp : 0 < n := by omega
  have hne : ((n : Int) == 0) = false := beq_eq_false_iff_ne.2 (by omega)
  have hnd : decide ((n : Int) = 0) = false := decide_eq_false (by omega)
  have HNe := Lib.hid (show bl ≠ [] from fun e => hn0 (Hbl2.out e))
  have hz1 : ws.heap.size = ws.heap.size := rfl
  have e0 := hks.cell d0
  have e1 := hks.cell d1
  have e2 := hks.cell d2
  have e3 := hks.cell d3
  have lts := Nat.lt_of_lt_of_le lt hks.size
  have hN0 := HNx.out ws (hka.trans hks) 0 (by rw [HNlen.out]; exact hnp)
  have HN0 := Lib.hid hN0
  clear hN0
  have Hblk := Lib.hid hblk
  have Hks := Lib.hid hks
  have Hka := Lib.hid hka
  clear hblk hks hka hn0 hz1
  go_enter Tryz.func11, Tryz.ntmps11
  go_wp2_with (refine wpList_make_eq rfl _ _ _ rfl _ _ rfl rfl _ _ hmake ?_; clear hmake)
  refine HN0.out.mono ?_
  clear HN0
  rintro e w1 ⟨A, c, rfl, hown, hk1, hcl, hcm⟩
  have hOM0 : OM wa w1 wa.heap.size [] [] (List.replicate n false) (.slice none 0 0) (.slice none 0 0) :=
   ⟨Hblk.out.keep hk1, Own.nil _ _ _ _ _, Own.nil _ _ _ _ _, fun s hs => by simp at hs, Hks.out.trans hk1, Nat.le_refl _⟩
  obtain ⟨l0, hl0⟩ : ∃ l0, N.getD 0 [] = l0 := ⟨_, rfl⟩
  rw [hl0] at hown hcl ⊢
  have HPS := Lib.hid (show ∃ d, Lv.IsPost N d ∧ ∀ a c, PS N [⟨0, a, l0, c⟩] [] ((List.replicate n false).set 0 true) d from by
   obtain ⟨d, hd⟩ := Lv.IsPost.ex N
   refine ⟨d, hd, fun a c => ⟨?_, by rw [List.length_set, List.length_replicate]; exact HNlen.out.symm, ?_, fun s hs => ?_⟩⟩
   ·have h1 := hd.stack
    rw [HNlen.out, hl0] at h1
    exact h1
   ·have h1 := Lv.count_set (m := List.replicate n false) (c := 0) (by rw [List.getD_eq_getElem?_getD, List.getElem?_replicate, if_pos hnp]; rfl)
    rw [List.count_replicate_self] at h1
    simp only [List.length_cons, List.length_nil]
    have := HNlen.out
    omega
   ·obtain rfl : s = ⟨0, a, l0, c⟩ := by simpa using hs
    refine ⟨by show 0 < N.length; rw [HNlen.out]; exact hnp, fun t ht => ?_⟩
    have ht : t ∈ l0 := ht
    rw [← hl0, List.getD_eq_getElem?_getD] at ht
    cases hg : N[0]? with
    | none => rw [hg] at ht; simp at ht
    | some q => rw [hg] at ht; exact HNlt.out q (List.mem_of_getElem? hg) t ht)
  clear hl0
  have hRst : Rst w1 wa.heap.size (.slice none 0 0) ⟨0, A, l0, c⟩ := Rst.made 0 hown Hks.out.size (fun k hk => by cases hk)
  have hOM1 : OM wa (w1.alloc (.cells #[.int .i64 (0 : Int), .slice A l0.length c] 84)) wa.heap.size [⟨0, A, l0, c⟩] [] (List.replicate n false) (.slice (some ⟨w1.heap.size, 0, none⟩) 1 1) (.slice none 0 0) := by
   have hk : Keep w1 (w1.alloc (.cells #[.int .i64 (0 : Int), .slice A l0.length c] 84)) := (Keep.refl _).alloc _
   have hf := hOM0.far hk
   refine ⟨hf.seen, ?_, hf.out, fun s hs => ?_, hf.keep, hf.base⟩
   ·exact Own.of_row (f := rsC) (s := 2) (xs := [⟨0, A, l0, c⟩]) (Blk.new w1 84 [.int .i64 (0 : Int), .slice A l0.length c]) (fun _ => rfl) hOM0.keep.size (by simp [maxLen])
   ·obtain rfl : s = ⟨0, A, l0, c⟩ := by simpa using hs
    exact hRst.ext (hk.ext (fun _ => False)) (fun _ _ _ _ _ _ hf => hf)
  have HOM := Lib.hid (hOM1.mark 0)
  have s0 : (w1.alloc (.cells #[.int .i64 (0 : Int), .slice A l0.length c] 84)).cell? ⟨wa.heap.size, 0, none⟩ = some (.bool false) := by
   have := hOM1.seen.get (k := 0) (by simpa using hnp)
   simpa using this
  have f0 := hOM1.seen.frozen 0
  clear hOM0 hOM1 hRst hown hcl hcm e0 e1 e2 e3 lts hk1
  go_wp2_with fail
  obtain ⟨dd, hdd, HP⟩ := HPS.out
  have HDd := Lib.hid hdd
  obtain ⟨st0, hst0⟩ : ∃ st : List RsD, [⟨0, A, l0, c⟩] = st := ⟨_, rfl⟩
  have HP1 := Lib.hid (show PS N st0 [] ((List.replicate n false).set 0 true) dd from by rw [← hst0]; exact HP A c)
  rw [hst0] at HOM
  clear hdd HP HPS hst0 s0 f0 Hblk Hks
  go_loopg [4, 5] (fuelS N ((List.replicate n false).set 0 true) st0) (fun g vo vs wr => ∃ st out seen, OM wa wr wa.heap.size st out seen vs vo ∧ PS N st out seen dd ∧ fuelS N seen st ≤ g)
  case atStart => exact ⟨st0, [], _, HOM.out, HP1.out, Nat.le_refl _⟩
  case round =>
   clear HOM HP1
   obtain ⟨st, out, seen, hOM, hD, hf⟩ := hrel
   obtain ⟨vo, rfl⟩ : ∃ vo, vo = u4 := ⟨_, rfl⟩
   obtain ⟨vs, rfl⟩ : ∃ vs, vs = u5 := ⟨_, rfl⟩
   have e0 := hOM.keep.cell d0
   have e1 := hOM.keep.cell d1
   have e2 := hOM.keep.cell d2
   have e3 := hOM.keep.cell d3
   have ltr := Nat.lt_of_lt_of_le lt hOM.keep.size
   cases st with
   | nil =>
    obtain ⟨B, d, hv, _⟩ := hOM.stk.form
    have hv' : vs = .slice B 0 d := hv
    subst hv'
    have hdo : dd = out := hD.vis.done
    obtain ⟨g, cc, hvo, hgl, hgb, _⟩ := own_at hOM.out (by rw [ints_len, ← hdo]; obtain ⟨_, d1, _, rfl⟩ := HDd.out; simp)
    rw [ints_len] at hvo
    have hown := hOM.out
    have hlen : out.length ≤ 1000000 := by
     have h1 := hD.cnt
     rw [HNlen.out] at h1
     simp only [List.length_nil] at h1
     omega
    subst hvo
    have hrev := reverse_calls (ints out) wa.heap.size g out.length cc wr hown (by rw [ints_len]; exact hlen)
    have Hfin := Lib.hid (show OO out.reverse from HOrd.out _ ⟨dd, HDd.out, hdo⟩ HNe.out)
    have Hkr := Lib.hid hOM.keep
    have Hsz := Lib.hid hgb
    have Hlo := Lib.hid (show (ints out).length = out.length from ints_len out)
    clear hv hOM hD hdo hown e0 e1 e2 e3
    go_wp2_with fail
    refine hrev.mono ?_
    clear hrev
    rintro e w9 ⟨⟨v9, rfl⟩, hown9, hE9⟩
    have Hr9 := Lib.hid (show Own intC 1 3 w9 w.heap.size (.slice (some ⟨g, 0, none⟩) out.length cc) (ints out.reverse) ∧ Keep w w9 from
     ⟨by rw [ints_rev]; exact hown9.mono Hka.out.size, Hka.out.trans (Keep.of_ext Hkr.out hE9 (fun k hk e => by have := Hsz.out; omega))⟩)
    clear hown9 hE9
    go_wp2
    go_ret
    exact ⟨_, _, rfl, Hr9.out.1, Hr9.out.2, Hfin.out⟩
   | cons s r =>
    obtain ⟨x, a, l, c⟩ := s
    obtain ⟨g, cc, rfl, h1, h2, hgl, hgb, cx, ck, hfr, hne⟩ := hOM.top
    replace cx : wr.cell? ⟨g, r.length * 2, none⟩ = some (.int .i64 (x : Int)) := cx
    replace ck : wr.cell? ⟨g, r.length * 2 + 1, none⟩ = some (.slice a l.length c) := ck
    obtain ⟨M, hM⟩ : ∃ M, M = r.length + 1 := ⟨_, rfl⟩
    rw [← hM] at hOM h1 ⊢
    unfold maxLen at h2
    have hcnt := hD.cnt
    rw [HNlen.out] at hcnt
    simp only [List.length_cons] at hcnt
    have hM1 : (M : Int) - 1 = (r.length : Int) := by omega
    have hw : IntKind.i64.wrap ((M : Int) - 1) = (r.length : Int) := by rw [hM1]; exact IntWalk.i64_in _ (by omega)
    have m0 : (0 : Int) ≤ (r.length : Int) := by omega
    have m1 : (r.length : Int) < (M : Int) := by omega
    have m2 : (r.length : Int) ≤ (cc : Int) := by omega
    have mp : decide (0 < M) = true := decide_eq_true (by omega)
    have HM := Lib.hid hM
    cases l with
    | nil =>
     obtain ⟨A0, c0, rfl, A', c', w2, hrun, hOM2⟩ := hOM.leave (by omega) (by rw [hM])
     have Hpop := Lib.hid hD.pop
     have HOM2 := Lib.hid hOM2
     clear hOM hD hM hM1 hOM2 hcnt
     go_wp2_with (at_builtin; refine wpList_append_eq rfl _ _ _ rfl _ _ rfl rfl _ _ hrun ?_; clear hrun)
     go_roundg (fuelS N seen r)
     case measure => exact Nat.lt_of_lt_of_le Hpop.out.2 hf
     case rel => exact ⟨r, _, seen, HOM2.out, Hpop.out.1, Nat.le_refl _⟩
    | cons t l =>
     have hR := hOM.rest _ (List.mem_cons_self ..)
     obtain ⟨b, o, ha, hbl, hbc⟩ := hR.1.addr (by simp [ints, intC])
     replace ha : a = some ⟨b, o, none⟩ := ha
     subst ha
     have ct : wr.cell? ⟨b, o, none⟩ = some (.int .i64 (t : Int)) := hbc 0 _ rfl
     have hcc : l.length + 1 ≤ c := hR.2.1
     have hcm : c ≤ maxLen := hR.2.2.1
     unfold maxLen at hcm
     have htN := hD.tlt
     have hts : t < seen.length := by rw [hD.len]; exact htN
     have cs := hOM.seen.get hts
     have fs := hOM.seen.frozen t
     have ls := hOM.seen.lt
     have ht0 : (0 : Int) ≤ (t : Int) := by omega
     have htn : (t : Int) < (n : Int) := by rw [HNlen.out] at htN; omega
     have hne' : wa.heap.size ≠ g := fun e => hne e.symm
     have f1 := hfr (r.length * 2 + 1)
     have hq1 : w.heap.size ≠ g := by omega
     have hq2 : w.heap.size ≠ wa.heap.size := by omega
     rcases Nat.lt_or_ge 1 c with hc1 | hc1
     ·have hc2 : ¬ c = 1 := by omega
      have hb := hOM.bump (a2 := some ⟨b, o + 1, none⟩) (cc := cc) (g := g) (fun h => by first | rfl | exact absurd rfl h) (by rw [hM])
      cases hsb : seen[t] with
      | true =>
       rw [hsb] at cs
       have Hs := Lib.hid (hD.skip (a' := some ⟨b, o + 1, none⟩) (c' := c - 1) (by rw [List.getD_eq_getElem?_getD, List.getElem?_eq_getElem hts, hsb]; rfl))
       have HOM2 := Lib.hid hb
       clear hOM hD hM hM1 hcnt hb hR hbc hsb hts htN
       go_wp2_with fail
       go_roundg (fuelS N seen (⟨x, some ⟨b, o + 1, none⟩, l, c - 1⟩ :: r))
       case measure => exact Nat.lt_of_lt_of_le Hs.out.2 hf
       case rel => exact ⟨_, _, seen, HOM2.out, Hs.out.1, Nat.le_refl _⟩
      | false =>
       rw [hsb] at cs
       have hsf : seen.getD t true = false := by rw [List.getD_eq_getElem?_getD, List.getElem?_eq_getElem hts, hsb]; rfl
       have Hs := Lib.hid (fun (b2 : Option Addr) (k2 : Nat) => hD.push (a' := some ⟨b, o + 1, none⟩) (c' := c - 1) (b := b2) (e := k2) HNlt.out hsf)
       have hb2 := hb.mark t
       have hN1 := HNx.out _ (Hka.out.trans hb2.keep) t htN
       obtain ⟨wm, hwm⟩ : ∃ wm : World, wm = (wr.setCell ⟨g, r.length * 2 + 1, none⟩ (.slice (some ⟨b, o + 1, none⟩) (l : List Nat).length (c - 1))).setCell ⟨wa.heap.size, t, none⟩ (.bool true) := ⟨_, rfl⟩
       rw [← hwm] at hN1 hb2
       have HN1 := Lib.hid hN1
       have HOM2 := Lib.hid hb2
       have Hcnt := Lib.hid (show r.length + 1 < 900000 by omega)
       clear hOM hD hM hM1 hcnt hb hb2 hR hbc hsb hts htN hsf hN1
       go_wp2_with fail
       rw [← hwm]
       refine HN1.out.mono ?_
       clear HN1
       rintro e w5 ⟨A5, c5, rfl, hown5, hk5, hcl5, hcm5⟩
       obtain ⟨l5, hl5⟩ : ∃ l5, N.getD t [] = l5 := ⟨_, rfl⟩
       rw [hl5] at hown5 hcl5 Hs ⊢
       have hOM5 := HOM2.out.far hk5
       have hR5 : Rst w5 wa.heap.size vo ⟨t, A5, l5, c5⟩ := Rst.made t hown5 HOM2.out.keep.size (fun k hk => (HOM2.out.out.lt k hk).2)
       obtain ⟨A6, c6, e6, A7, c7, w7, hrun, hOM7⟩ := hOM5.push (by have := Hcnt.out; simp only [List.length_cons]; omega) ⟨t, A5, l5, c5⟩ hR5
       simp only [List.length_cons] at e6 hrun hOM7
       rw [← HM.out] at e6 hrun hOM7
       cases e6
       have HOM7 := Lib.hid hOM7
       have Hs7 := Lib.hid (Hs.out A5 c5)
       clear hown5 hk5 hcl5 hcm5 hOM5 hR5 hOM7 Hs HOM2 hl5 hwm
       go_wp2_with (at_builtin; refine wpList_append_eq rfl _ _ _ rfl _ _ rfl rfl _ _ hrun ?_; clear hrun)
       go_roundg (fuelS N (seen.set t true) (⟨t, A5, l5, c5⟩ :: ⟨x, some ⟨b, o + 1, none⟩, l, c - 1⟩ :: r))
       case measure => exact Nat.lt_of_lt_of_le Hs7.out.2 hf
       case rel => exact ⟨_, _, _, HOM7.out, Hs7.out.1, Nat.le_refl _⟩
     ·obtain rfl : c = 1 := by omega
      obtain rfl : l = [] := List.eq_nil_of_length_eq_zero (by omega)
      have hb := hOM.bump (a2 := some ⟨b, o, none⟩) (cc := cc) (g := g) (fun h => by first | rfl | exact absurd rfl h) (by rw [hM])
      cases hsb : seen[t] with
      | true =>
       rw [hsb] at cs
       have Hs := Lib.hid (hD.skip (a' := some ⟨b, o, none⟩) (c' := 1 - 1) (by rw [List.getD_eq_getElem?_getD, List.getElem?_eq_getElem hts, hsb]; rfl))
       have HOM2 := Lib.hid hb
       clear hOM hD hM hM1 hcnt hb hR hbc hsb hts htN
       go_wp2_with fail
       go_roundg (fuelS N seen (⟨x, some ⟨b, o, none⟩, [], 1 - 1⟩ :: r))
       case measure => exact Nat.lt_of_lt_of_le Hs.out.2 hf
       case rel => exact ⟨_, _, seen, HOM2.out, Hs.out.1, Nat.le_refl _⟩
      | false =>
       rw [hsb] at cs
       have hsf : seen.getD t true = false := by rw [List.getD_eq_getElem?_getD, List.getElem?_eq_getElem hts, hsb]; rfl
       have Hs := Lib.hid (fun (b2 : Option Addr) (k2 : Nat) => hD.push (a' := some ⟨b, o, none⟩) (c' := 1 - 1) (b := b2) (e := k2) HNlt.out hsf)
       have hb2 := hb.mark t
       have hN1 := HNx.out _ (Hka.out.trans hb2.keep) t htN
       obtain ⟨wm, hwm⟩ : ∃ wm : World, wm = (wr.setCell ⟨g, r.length * 2 + 1, none⟩ (.slice (some ⟨b, o, none⟩) 0 0)).setCell ⟨wa.heap.size, t, none⟩ (.bool true) := ⟨_, rfl⟩
       have hwm2 : (wr.setCell ⟨g, r.length * 2 + 1, none⟩ (.slice (some ⟨b, o, none⟩) ([] : List Nat).length (1 - 1))).setCell ⟨wa.heap.size, t, none⟩ (.bool true) = wm := hwm.symm
       rw [hwm2] at hN1 hb2
       have HN1 := Lib.hid hN1
       have HOM2 := Lib.hid hb2
       have Hcnt := Lib.hid (show r.length + 1 < 900000 by omega)
       clear hOM hD hM hM1 hcnt hb hb2 hR hbc hsb hts htN hsf hN1
       go_wp2_with fail
       rw [← hwm]
       refine HN1.out.mono ?_
       clear HN1
       rintro e w5 ⟨A5, c5, rfl, hown5, hk5, hcl5, hcm5⟩
       obtain ⟨l5, hl5⟩ : ∃ l5, N.getD t [] = l5 := ⟨_, rfl⟩
       rw [hl5] at hown5 hcl5 Hs ⊢
       have hOM5 := HOM2.out.far hk5
       have hR5 : Rst w5 wa.heap.size vo ⟨t, A5, l5, c5⟩ := Rst.made t hown5 HOM2.out.keep.size (fun k hk => (HOM2.out.out.lt k hk).2)
       obtain ⟨A6, c6, e6, A7, c7, w7, hrun, hOM7⟩ := hOM5.push (by have := Hcnt.out; simp only [List.length_cons]; omega) ⟨t, A5, l5, c5⟩ hR5
       simp only [List.length_cons] at e6 hrun hOM7
       rw [← HM.out] at e6 hrun hOM7
       cases e6
       have HOM7 := Lib.hid hOM7
       have Hs7 := Lib.hid (Hs.out A5 c5)
       clear hown5 hk5 hcl5 hcm5 hOM5 hR5 hOM7 Hs HOM2 hl5 hwm hwm2
       go_wp2_with (at_builtin; refine wpList_append_eq rfl _ _ _ rfl _ _ rfl rfl _ _ hrun ?_; clear hrun)
       go_roundg (fuelS N (seen.set t true) (⟨t, A5, l5, c5⟩ :: ⟨x, some ⟨b, o, none⟩, [], 1 - 1⟩ :: r))
       case measure => exact Nat.lt_of_lt_of_le Hs7.out.2 hf
       case rel => exact ⟨_, _, _, HOM7.out, Hs7.out.1, Nat.le_refl _⟩
end Go.Proofs.YtjpmiejgcnfiiaaGreat
namespace Go.Proofs.YtjpmiejgcnfiiaaGreat.Lv

theorem stepV_mono {v : Nat} {x : PIns} {s t : Bool} (h : s = true → t = true) : stepV v x s = true → stepV v x t = true := by
 unfold stepV
 split
 ·exact id
 ·split
  ·exact id
  ·exact h
theorem beginV_mono {b : PBlk} {v : Nat} {s t : Bool} (h : s = true → t = true) : beginV b v s = true → beginV b v t = true := by
 unfold beginV
 split
 ·exact id
 ·have key : ∀ (l : List PIns) (y z : Bool), (y = true → z = true) → l.foldr (stepV v) y = true → l.foldr (stepV v) z = true := by
   intro l
   induction l with
   | nil => intro y z h1; exact h1
   | cons x l ih => intro y z h1; exact stepV_mono (ih y z h1)
  refine key _ _ _ ?_
  split
  ·exact id
  ·exact h

/-- What is new at a block. -/
def newAt (F : List PBlk) (nv : Nat) (n : List (List Bool)) (b : Nat) : List Bool := beginP (F.getD b default) (behindP n nv (F.getD b default).next)
/-- What holds of the form. -/
structure FOk (F : List PBlk) (order : List Nat) (nv : Nat) : Prop where
 lt : ∀ b ∈ order, b < F.length
 inn : ∀ b ∈ order, (F.getD b default).In nv
 next : ∀ b ∈ order, ∀ t ∈ (F.getD b default).next, t < F.length
/-- What holds of the search. -/
structure FSt (F : List PBlk) (order : List Nat) (nv : Nat) (n : List (List Bool)) : Prop where
 len : n.length = F.length
 lens : ∀ i, i < F.length → (n.getD i []).length = nv
 out : ∀ i, i ∉ order → ∀ v, (n.getD i []).getD v false = false
 asc : ∀ b ∈ order, ∀ v, (n.getD b []).getD v false = true → (newAt F nv n b).getD v false = true
variable {F : List PBlk} {order : List Nat} {nv : Nat} {n : List (List Bool)}
theorem newAt_getD (hF : FOk F order nv) (h : FSt F order nv n) {b : Nat} (hb : b ∈ order) (v : Nat) :
  (newAt F nv n b).length = nv ∧ ((newAt F nv n b).getD v false = beginV (F.getD b default) v ((behindP n nv (F.getD b default).next).getD v false)) := by
 obtain ⟨h1, _⟩ := behind_getD (n := n) (nv := nv) (next := (F.getD b default).next) (fun t ht => h.lens t (hF.next b hb t ht)) v
 obtain ⟨h3, h4⟩ := begin_getD (b := F.getD b default) (s := behindP n nv (F.getD b default).next) (by rw [h1]; exact hF.inn b hb) v
 exact ⟨by unfold newAt; rw [h3, h1], h4⟩
theorem getD_setL (n : List (List Bool)) (b i : Nat) (l : List Bool) (hb : b < n.length) : (n.set b l).getD i [] = if i = b then l else n.getD i [] := by
 rw [List.getD_eq_getElem?_getD, List.getD_eq_getElem?_getD, List.getElem?_set]
 by_cases e : b = i
 ·subst e; simp [hb]
 ·rw [if_neg e, if_neg (fun h => e h.symm)]
theorem FSt.zero (F : List PBlk) (order : List Nat) (nv : Nat) : FSt F order nv (List.replicate F.length (List.replicate nv false)) := by
 have hz : ∀ i v, ((List.replicate F.length (List.replicate nv false)).getD i []).getD v false = false := fun i v => by
  have e : (List.replicate F.length (List.replicate nv false)).getD i [] = if i < F.length then List.replicate nv false else [] := by
   rw [List.getD_eq_getElem?_getD, List.getElem?_replicate]; split <;> rfl
  rw [e]
  split
  ·rw [List.getD_eq_getElem?_getD, List.getElem?_replicate]; split <;> rfl
  ·rfl
 refine ⟨by simp, fun i hi => ?_, fun i _ v => hz i v, fun b _ v h => by rw [hz] at h; cases h⟩
 rw [List.getD_eq_getElem?_getD, List.getElem?_replicate, if_pos hi]; simp
/-- One block more. -/
theorem FSt.step (hF : FOk F order nv) (h : FSt F order nv n) {b : Nat} (hb : b ∈ order) : FSt F order nv (n.set b (newAt F nv n b)) := by
 have hbl : b < n.length := by rw [h.len]; exact hF.lt b hb
 have hup : ∀ i v, (n.getD i []).getD v false = true → ((n.set b (newAt F nv n b)).getD i []).getD v false = true := fun i v hv => by
  rw [getD_setL n b i _ hbl]
  split
  ·rename_i e; rw [e] at hv; exact h.asc b hb v hv
  ·exact hv
 have h1 : (n.set b (newAt F nv n b)).length = F.length := by rw [List.length_set]; exact h.len
 have h2 : ∀ i, i < F.length → ((n.set b (newAt F nv n b)).getD i []).length = nv := fun i hi => by
  rw [getD_setL n b i _ hbl]
  split
  ·exact (newAt_getD hF h hb 0).1
  ·exact h.lens i hi
 have hmono : ∀ c ∈ order, ∀ v, (newAt F nv n c).getD v false = true → (newAt F nv (n.set b (newAt F nv n b)) c).getD v false = true := fun c hc v hv => by
  obtain ⟨a1, a2⟩ := behind_getD (n := n) (nv := nv) (next := (F.getD c default).next) (fun t ht => h.lens t (hF.next c hc t ht)) v
  obtain ⟨b1, b2⟩ := behind_getD (n := n.set b (newAt F nv n b)) (nv := nv) (next := (F.getD c default).next) (fun t ht => h2 t (hF.next c hc t ht)) v
  rw [(newAt_getD hF h hc v).2] at hv
  have h3 := (begin_getD (b := F.getD c default) (s := behindP (n.set b (newAt F nv n b)) nv (F.getD c default).next) (by rw [b1]; exact hF.inn c hc) v).2
  show (beginP (F.getD c default) (behindP (n.set b (newAt F nv n b)) nv (F.getD c default).next)).getD v false = true
  rw [h3]
  refine beginV_mono (fun h4 => ?_) hv
  rw [b2]
  obtain ⟨t, ht, h5⟩ := a2.1 h4
  exact ⟨t, ht, hup t v h5⟩
 refine ⟨h1, h2, fun i hi v => ?_, fun c hc v hv => ?_⟩
 ·rw [getD_setL n b i _ hbl, if_neg (fun e => hi (by rw [e]; exact hb))]
  exact h.out i hi v
 ·rw [getD_setL n b c _ hbl] at hv
  split at hv
  ·rename_i e
   rw [e]
   exact hmono b hb v hv
  ·exact hmono c hc v (h.asc c hc v hv)
/-- How many are needed so far. -/
def total (n : List (List Bool)) : Nat := (n.map (·.count true)).sum
theorem count_le_of {a b : List Bool} (hl : a.length = b.length) (h : ∀ v, a.getD v false = true → b.getD v false = true) : a.count true ≤ b.count true ∧ (a.count true = b.count true → a = b) := by
 induction a generalizing b with
 | nil => cases b with
  | nil => simp
  | cons _ _ => cases hl
 | cons x a ih =>
  cases b with
  | nil => cases hl
  | cons y b =>
   obtain ⟨i1, i2⟩ := ih (b := b) (by simpa using hl) (fun v hv => h (v + 1) hv)
   have h0 : x = true → y = true := h 0
   cases x with
   | false =>
    cases y with
    | false => simp; exact ⟨i1, i2⟩
    | true => simp; exact ⟨by omega, by omega⟩
   | true =>
    have := h0 rfl
    subst this
    simp; exact ⟨i1, i2⟩
theorem total_set {b : Nat} {l : List Bool} (hb : b < n.length) : total (n.set b l) + (n.getD b []).count true = total n + l.count true := by
 unfold total
 induction n generalizing b with
 | nil => simp at hb
 | cons a n ih =>
  cases b with
  | zero => simp; omega
  | succ b =>
   have := ih (b := b) (by simpa using hb)
   simp only [List.set_cons_succ, List.map_cons, List.sum_cons, List.getD_cons_succ]
   omega
theorem total_le {nv : Nat} (h : ∀ l ∈ n, l.length = nv) : total n ≤ n.length * nv := by
 unfold total
 induction n with
 | nil => simp
 | cons a n ih =>
  have h1 := h a (by simp)
  have h2 : a.count true ≤ a.length := List.count_le_length
  have h3 := ih (fun l hl => h l (by simp [hl]))
  rw [List.map_cons, List.sum_cons, List.length_cons, Nat.succ_mul]
  omega
/-- A change climbs. -/
theorem FSt.climb (hF : FOk F order nv) (h : FSt F order nv n) {b : Nat} (hb : b ∈ order) (hne : newAt F nv n b ≠ n.getD b []) : total n < total (n.set b (newAt F nv n b)) := by
 have hbl : b < n.length := by rw [h.len]; exact hF.lt b hb
 have h1 := total_set (n := n) (l := newAt F nv n b) hbl
 obtain ⟨h2, h3⟩ := count_le_of (a := n.getD b []) (b := newAt F nv n b) (by rw [h.lens b (hF.lt b hb), (newAt_getD hF h hb 0).1]) (h.asc b hb)
 have h4 : (n.getD b []).count true ≠ (newAt F nv n b).count true := fun e => hne (h3 e).symm
 omega
theorem FSt.bound (h : FSt F order nv n) : total n ≤ F.length * nv := by
 rw [← h.len]
 refine total_le fun l hl => ?_
 obtain ⟨i, hi, e⟩ := List.getElem_of_mem hl
 have := h.lens i (by rw [← h.len]; exact hi)
 rw [List.getD_eq_getElem?_getD, List.getElem?_eq_getElem hi] at this
 rw [← e]; exact this
/-- Nothing but what is needed. -/
def Sound (F : List PBlk) (order : List Nat) (n : List (List Bool)) : Prop := ∀ b v, (n.getD b []).getD v false = true → Need F order v b
theorem Sound.zero (F : List PBlk) (order : List Nat) (nv : Nat) : Sound F order (List.replicate F.length (List.replicate nv false)) := fun b v h => by
 have := (FSt.zero F [] nv).out b (by simp) v
 rw [this] at h; cases h
theorem Sound.step (hF : FOk F order nv) (hfit : ∀ b ∈ order, ∀ v, (F.getD b default).Fit v) (h : FSt F order nv n) (hs : Sound F order n) {b : Nat} (hb : b ∈ order) : Sound F order (n.set b (newAt F nv n b)) := fun c v hv => by
 rw [getD_setL n b c _ (by rw [h.len]; exact hF.lt b hb)] at hv
 split at hv
 ·rename_i e
  rw [e]
  rw [(newAt_getD hF h hb v).2, beginV_iff (hfit b hb v)] at hv
  refine .step hb hv.1 ?_
  rcases hv.2 with h1 | h1
  ·exact .inl h1
  ·obtain ⟨t, ht, h2⟩ := (behind_getD (n := n) (nv := nv) (next := (F.getD b default).next) (fun t ht => h.lens t (hF.next b hb t ht)) v).2.1 h1
   exact .inr ⟨t, ht, hs t v h2⟩
 ·exact hs c v hv
/-- Where nothing changes any more there is all that is needed. -/
theorem FSt.found (hF : FOk F order nv) (hfit : ∀ b ∈ order, ∀ v, (F.getD b default).Fit v) (h : FSt F order nv n) (hs : Sound F order n) (hend : ∀ b ∈ order, newAt F nv n b = n.getD b []) (b v : Nat) : (n.getD b []).getD v false = true ↔ Need F order v b := by
 constructor
 ·exact hs b v
 ·intro hn
  refine Need.least (S := fun b => (n.getD b []).getD v false = true) (fun c hc h1 h2 => ?_) hn
  rw [← hend c hc, (newAt_getD hF h hc v).2, beginV_iff (hfit c hc v)]
  refine ⟨h1, ?_⟩
  rcases h2 with h2 | ⟨t, ht, h2⟩
  ·exact .inl h2
  ·exact .inr ((behind_getD (n := n) (nv := nv) (next := (F.getD c default).next) (fun t ht => h.lens t (hF.next c hc t ht)) v).2.2 ⟨t, ht, h2⟩)
end Go.Proofs.YtjpmiejgcnfiiaaGreat.Lv
