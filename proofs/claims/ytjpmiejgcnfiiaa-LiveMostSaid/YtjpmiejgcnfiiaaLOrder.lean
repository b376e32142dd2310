/-
  The program's Order.
-/
import Derived.Test.YtjpmiejgcnfiiaaLRev
import Derived.Test.YtjpmiejgcnfiiaaGrows
import Derived.Test.YtjpmiejgcnfiiaaLPostP
import Derived.Deep.DeepCutAuto
import Derived.Deep.Cut
set_option linter.unusedVariables false
set_option linter.unusedSimpArgs false
namespace Go.Proofs.Ytjpmiejgcnfiiaa
open Go Go.RowKit

def ints (l : List Nat) : List Int := l.map Int.ofNat
theorem ints_len (l : List Nat) : (ints l).length = l.length := by simp [ints]
theorem ints_nat {l : List Int} (h : ∀ x ∈ l, 0 ≤ x) : ints (nat l) = l := by
  unfold ints nat
  rw [List.map_map]
  conv => rhs; rw [← List.map_id l]
  exact List.map_congr_left fun x hx => by have := h x hx; show ((x.toNat : Nat) : Int) = x; omega
theorem ints_rev (l : List Nat) : ints l.reverse = (ints l).reverse := by simp [ints]
theorem ints_get {l : List Nat} {k x : Nat} (h : l[k]? = some x) : (ints l)[k]? = some (x : Int) := by unfold ints; rw [List.getElem?_map, h]; rfl
theorem make_ints (w : World) (n : Nat) (h : n ≤ 1000000) : ∃ w', (Instr.makeSlice 33 (.int .i64 (n : Int)) (.int .i64 (n : Int))).run Try.prog w = .ok (.slice (some ⟨w.heap.size, 0, none⟩) n n) w' ∧ IBlk w' w.heap.size 3 (List.replicate n 0) ∧ Keep w w' := by
  obtain ⟨w', h1, h2, h3⟩ := make_zero (P := Try.prog) (z := .int .i64 0) (bytes := 8) Try.underlying33 (by kernel_rfl) rfl w n (by omega) (by unfold maxLen; omega)
  exact ⟨w', h1, by unfold IBlk; rw [List.map_replicate]; exact h2, h3⟩
theorem make_bools (w : World) (n : Nat) (h : n ≤ 1000000) : ∃ w', (Instr.makeSlice 68 (.int .i64 (n : Int)) (.int .i64 (n : Int))).run Try.prog w = .ok (.slice (some ⟨w.heap.size, 0, none⟩) n n) w' ∧ BBlk w' w.heap.size 4 (List.replicate n false) ∧ Keep w w' := by
  obtain ⟨w', h1, h2, h3⟩ := make_zero (P := Try.prog) (z := .bool false) (bytes := 1) Try.underlying68 (by kernel_rfl) rfl w n (by omega) (by unfold maxLen; omega)
  exact ⟨w', h1, by unfold BBlk; rw [List.map_replicate]; exact h2, h3⟩

/-! ### The search, plain -/

/-- A node and what is left of the row of its followers. -/
structure RsD where
  x : Nat
  a : Option Addr
  l : List Nat
  c : Nat
def RsD.p (s : RsD) : Nat × List Nat := (s.x, s.l)
/-- The weights of the nodes that are not seen. -/
def uw : List (List Nat) → List Bool → Nat
  | l :: N, b :: m => (if b then 0 else l.length + 1) + uw N m
  | _, _ => 0
theorem uw_set : ∀ {N : List (List Nat)} {m : List Bool} {c : Nat}, m.length = N.length → m.getD c true = false → uw N (m.set c true) + ((N.getD c []).length + 1) = uw N m
  | [], m, c, hl, h => by
    have : m = [] := List.eq_nil_of_length_eq_zero (by simpa using hl)
    subst this; cases h
  | l :: N, [], c, hl, h => by cases h
  | l :: N, b :: m, 0, hl, h => by
    have : b = false := h
    subst this
    simp [uw]; omega
  | l :: N, b :: m, c + 1, hl, h => by
    have ih := uw_set (N := N) (m := m) (c := c) (by simpa using hl) h
    show (if b then 0 else l.length + 1) + uw N (m.set c true) + ((N.getD c []).length + 1) = _
    show _ = (if b then 0 else l.length + 1) + uw N m
    omega
def fuelS (N : List (List Nat)) (seen : List Bool) (st : List RsD) : Nat := uw N seen + (st.map fun s => s.l.length + 1).sum
structure PS (N : List (List Nat)) (st : List RsD) (out : List Nat) (seen : List Bool) (d : List Nat) : Prop where
  vis : Lv.VisS N (st.map RsD.p) seen out d
  len : seen.length = N.length
  cnt : st.length + out.length + seen.count false = N.length
  lt : ∀ s ∈ st, s.x < N.length ∧ ∀ t ∈ s.l, t < N.length
section
variable {N : List (List Nat)} {st r : List RsD} {out : List Nat} {seen : List Bool} {d : List Nat} {x t c : Nat} {a : Option Addr} {l : List Nat}
theorem PS.pop (h : PS N (⟨x, a, [], c⟩ :: r) out seen d) : PS N r (out ++ [x]) seen d ∧ fuelS N seen r < fuelS N seen (⟨x, a, [], c⟩ :: r) :=
  ⟨⟨h.vis.pop, h.len, by have := h.cnt; simp at this ⊢; omega, fun s hs => h.lt s (List.mem_cons_of_mem _ hs)⟩, by simp [fuelS]⟩
theorem PS.skip {a' : Option Addr} {c' : Nat} (h : PS N (⟨x, a, t :: l, c⟩ :: r) out seen d) (hs : seen.getD t true = true) : PS N (⟨x, a', l, c'⟩ :: r) out seen d ∧ fuelS N seen (⟨x, a', l, c'⟩ :: r) < fuelS N seen (⟨x, a, t :: l, c⟩ :: r) := by
  refine ⟨⟨h.vis.skip hs, h.len, by have := h.cnt; simpa using this, fun s hs => ?_⟩, by simp [fuelS]⟩
  rcases List.mem_cons.1 hs with rfl | hs
  · have := h.lt _ (List.mem_cons_self ..)
    exact ⟨this.1, fun t ht => this.2 t (List.mem_cons_of_mem _ ht)⟩
  · exact h.lt s (List.mem_cons_of_mem _ hs)
theorem PS.push {a' b : Option Addr} {c' e : Nat} (hN : ∀ l ∈ N, ∀ t ∈ l, t < N.length) (h : PS N (⟨x, a, t :: l, c⟩ :: r) out seen d) (hs : seen.getD t true = false) :
    PS N (⟨t, b, N.getD t [], e⟩ :: ⟨x, a', l, c'⟩ :: r) out (seen.set t true) d ∧ fuelS N (seen.set t true) (⟨t, b, N.getD t [], e⟩ :: ⟨x, a', l, c'⟩ :: r) < fuelS N seen (⟨x, a, t :: l, c⟩ :: r) := by
  have h1 := Lv.count_set hs
  have h2 := uw_set h.len hs
  refine ⟨⟨h.vis.push hs, by rw [List.length_set]; exact h.len, by have := h.cnt; simp at this ⊢; omega, fun s hs => ?_⟩, by simp only [fuelS, List.map_cons, List.sum_cons, List.length_cons]; omega⟩
  rcases List.mem_cons.1 hs with rfl | hs
  · refine ⟨(h.lt _ (List.mem_cons_self ..)).2 t (List.mem_cons_self ..), fun u hu => ?_⟩
    rw [List.getD_eq_getElem?_getD] at hu
    cases hg : N[t]? with
    | none => rw [hg] at hu; simp at hu
    | some l0 => rw [hg] at hu; exact hN l0 (List.mem_of_getElem? hg) u hu
  rcases List.mem_cons.1 hs with rfl | hs
  · have := h.lt _ (List.mem_cons_self ..)
    exact ⟨this.1, fun t ht => this.2 t (List.mem_cons_of_mem _ ht)⟩
  · exact h.lt s (List.mem_cons_of_mem _ hs)
theorem PS.tlt (h : PS N (⟨x, a, t :: l, c⟩ :: r) out seen d) : t < N.length := (h.lt _ (List.mem_cons_self ..)).2 t (List.mem_cons_self ..)
end

/-! ### The search, in memory -/

def rsC (s : RsD) : List Value := [.int .i64 (s.x : Int), .slice s.a s.l.length s.c]
theorem elS : ElT Try.prog 76 75 2 32 rsC where
  slice := Try.underlying76
  info := info_of (z := .agg #[.int .i64 0, .slice none 0 0]) (by kernel_rfl) rfl
  pos := by omega
  len := fun _ => rfl
  one := fun x u hu => by simp [rsC] at hu; rcases hu with rfl | rfl <;> rfl
/-- What is left of a row lies in a block of numbers that is not that of vo. -/
def Rst (w : World) (base : Nat) (vo : Value) (s : RsD) : Prop :=
  Seg w s.a ((ints s.l).flatMap intC) ∧ s.l.length ≤ s.c ∧ s.c ≤ maxLen ∧ (s.l ≠ [] → ∃ ad v L, s.a = some ad ∧ Own intC 1 3 w base v L ∧ v.ownBlock = some ad.block ∧ vo.ownBlock ≠ some ad.block)
section
variable {w w' : World} {base : Nat} {vo vo' : Value} {s : RsD}
theorem Rst.ext {S : Nat → Prop} (h : Rst w base vo s) (hE : Ext S w w') (hS : ∀ v (L : List Int) k, Own intC 1 3 w base v L → v.ownBlock = some k → vo.ownBlock ≠ some k → ¬ S k) : Rst w' base vo s := by
  obtain ⟨h1, h2, h3, h4⟩ := h
  by_cases hl : s.l = []
  · exact ⟨by rw [hl]; show Seg w' s.a []; exact Seg.nil _ _, h2, h3, fun h => absurd hl h⟩
  · obtain ⟨ad, v, L, e1, e2, e3, e4⟩ := h4 hl
    refine ⟨h1.ext hE (fun ad' he _ => ?_), h2, h3, fun _ => ⟨ad, v, L, e1, e2.ext hE (fun k hk => hS v L k e2 hk (by rw [e3] at hk; cases hk; exact e4)), e3, e4⟩⟩
    rw [e1] at he; cases he
    exact hS v L _ e2 e3 e4
theorem Rst.grow (h : Rst w base vo s) (hE : Ext (fun q => vo.ownBlock = some q) w w') (hv : vo'.ownBlock = vo.ownBlock ∨ ∃ k, vo'.ownBlock = some k ∧ w.heap.size ≤ k) : Rst w' base vo' s := by
  obtain ⟨h1, h2, h3, h4⟩ := h.ext hE (fun v L k _ _ hne e => hne e)
  refine ⟨h1, h2, h3, fun hl => ?_⟩
  obtain ⟨ad, v, L, e1, e2, e3, e4⟩ := h4 hl
  obtain ⟨_, _, _, h5⟩ := h
  obtain ⟨ad', v', L', e1', e2', e3', _⟩ := h5 hl
  rw [e1] at e1'; cases e1'
  refine ⟨ad, v, L, e1, e2, e3, ?_⟩
  rcases hv with hv | ⟨k, hv, hk⟩
  · rw [hv]; exact e4
  · intro e; rw [hv] at e; cases e
    have := (e2'.lt _ e3').2
    omega
theorem Rst.tail {x t c : Nat} {b o : Nat} {l : List Nat} {a2 : Option Addr} (ha : l ≠ [] → a2 = some ⟨b, o + 1, none⟩) (h : Rst w base vo ⟨x, some ⟨b, o, none⟩, t :: l, c⟩) : Rst w base vo ⟨x, a2, l, c - 1⟩ := by
  obtain ⟨h1, h2, h3, h4⟩ := h
  obtain ⟨ad, v, L, e1, e2, e3, e4⟩ := h4 (by simp)
  cases e1
  simp only [List.length_cons] at h2
  refine ⟨?_, by show l.length ≤ c - 1; omega, by show c - 1 ≤ maxLen; have h3 : c ≤ maxLen := h3; omega, fun hl => ⟨_, v, L, ha hl, e2, e3, e4⟩⟩
  show Seg w a2 ((ints l).flatMap intC)
  by_cases hl : l = []
  · subst hl; exact Seg.nil _ _
  · rw [ha hl]
    have := h1.drop 1
    simpa [ints, intC, Addr.add] using this
end
/-- The search in memory. -/
structure OM (w0 w : World) (bs : Nat) (st : List RsD) (out : List Nat) (seen : List Bool) (vs vo : Value) : Prop where
  seen : BBlk w bs 4 seen
  stk : Own rsC 2 75 w w0.heap.size vs st.reverse
  out : Own intC 1 3 w w0.heap.size vo (ints out)
  rest : ∀ s ∈ st, Rst w w0.heap.size vo s
  keep : Keep w0 w
  base : w0.heap.size ≤ bs

section
variable {w0 w w' : World} {bs : Nat} {st r : List RsD} {out : List Nat} {seen : List Bool} {vs vo : Value} {s : RsD}
theorem OM.far (h : OM w0 w bs st out seen vs vo) (hk : Keep w w') : OM w0 w' bs st out seen vs vo :=
  ⟨h.seen.keep hk, h.stk.keep hk, h.out.keep hk, fun s hs => (h.rest s hs).ext (hk.ext (fun _ => False)) (fun _ _ _ _ _ _ hf => hf), h.keep.trans hk, h.base⟩
theorem OM.top (h : OM w0 w bs (s :: r) out seen vs vo) : ∃ g c, vs = .slice (some ⟨g, 0, none⟩) (r.length + 1) c ∧ r.length + 1 ≤ c ∧ c ≤ maxLen ∧ g < w.heap.size ∧ w0.heap.size ≤ g ∧ w.cell? ⟨g, r.length * 2, none⟩ = some (.int .i64 (s.x : Int)) ∧ w.cell? ⟨g, r.length * 2 + 1, none⟩ = some (.slice s.a s.l.length s.c) ∧ (∀ j, w.frozen? ⟨g, j, none⟩ = false) ∧ g ≠ bs := by
  have hl : (s :: r).reverse.length = r.length + 1 := by simp
  obtain ⟨g, c, hv, hg, hb, hc⟩ := own_at h.stk (by omega)
  obtain ⟨A, c', hv', h1, h2⟩ := h.stk.form
  have hs := h.stk
  rw [hv] at hs
  rw [hv, hl] at hv'
  cases hv'
  have hcell := fun (j : Nat) (u : Value) => hc (r.length * 2 + j) u
  have hlast : ((s :: r).reverse)[r.length]'(by omega) = s := by simp
  have hget : ∀ j, j < 2 → ((s :: r).reverse.flatMap rsC)[r.length * 2 + j]? = (rsC s)[j]? := fun j hj => by
    rw [flat_get rsC 2 (fun _ => rfl) (s :: r).reverse r.length j (by omega) hj, hlast]
  exact ⟨g, c, by rw [hv, hl], by omega, h2, hg, hb, hcell 0 _ (hget 0 (by omega)), hcell 1 _ (hget 1 (by omega)), fun j => hs.thawed j, h.stk.blk_apart h.seen (by decide) (by rw [hv]; rfl)⟩
theorem flat_bump (l : List RsD) (x : Nat) (a a' : Option Addr) (k k' : List Nat) (c c' : Nat) : (l ++ [(⟨x, a', k', c'⟩ : RsD)]).flatMap rsC = ((l ++ [(⟨x, a, k, c⟩ : RsD)]).flatMap rsC).set (l.length * 2 + 1) (.slice a' k'.length c') := by
  have hl := flat_length rsC 2 (fun _ => rfl) l
  rw [List.flatMap_append, List.flatMap_append, List.set_append, if_neg (by omega), hl]
  rw [show l.length * 2 + 1 - l.length * 2 = 1 by omega]
  rfl
theorem OM.bump {x t c b o : Nat} {l : List Nat} {a2 : Option Addr} (ha : l ≠ [] → a2 = some ⟨b, o + 1, none⟩) (h : OM w0 w bs (⟨x, some ⟨b, o, none⟩, t :: l, c⟩ :: r) out seen vs vo) {g cc : Nat} (hv : vs = .slice (some ⟨g, 0, none⟩) (r.length + 1) cc) :
    OM w0 (w.setCell ⟨g, r.length * 2 + 1, none⟩ (.slice a2 l.length (c - 1))) bs (⟨x, a2, l, c - 1⟩ :: r) out seen vs vo := by
  subst hv
  have hb : w0.heap.size ≤ g := (h.stk.lt g rfl).1
  have hE := Ext.one (w := w) g (r.length * 2 + 1) (.slice a2 l.length (c - 1))
  have hR : ∀ s, Rst w w0.heap.size vo s → Rst (w.setCell ⟨g, r.length * 2 + 1, none⟩ (.slice a2 l.length (c - 1))) w0.heap.size vo s := fun s hs =>
    hs.ext hE (fun v L k ho hk _ e => ho.kinds h.stk (by decide) hk (by rw [e]; rfl))
  refine ⟨h.seen.far (p := ⟨g, r.length * 2 + 1, none⟩) (fun e => h.stk.blk_apart h.seen (by decide) rfl e.symm) _, ?_, h.out.put_far (fun q hq e => h.out.kinds h.stk (by decide) hq (by rw [e]; rfl)) _, ?_, h.keep.setCell (p := ⟨g, r.length * 2 + 1, none⟩) hb _, h.base⟩
  · refine Own.put (f := rsC) (s := 2) (ys := (⟨x, a2, l, c - 1⟩ :: r).reverse) (fun _ => rfl) h.stk _ _ ?_ (by simp)
    rw [List.reverse_cons, List.reverse_cons]
    have := flat_bump r.reverse x (some ⟨b, o, none⟩) a2 (t :: l) l c (c - 1)
    rw [List.length_reverse] at this
    exact this
  · intro s hs
    rcases List.mem_cons.1 hs with rfl | hs
    · exact hR _ ((h.rest _ (List.mem_cons_self ..)).tail ha)
    · exact hR _ (h.rest s (List.mem_cons_of_mem _ hs))
theorem OM.push (h : OM w0 w bs st out seen vs vo) (hn : st.length < 900000) (s : RsD) (hs : Rst w w0.heap.size vo s) : ∃ A c, vs = .slice A st.length c ∧ ∃ A' c' w2,
    (Builtin.append_ #[76, 76] 76 #[.slice A st.length c, .slice (some ⟨w.heap.size, 0, none⟩) 1 1]).run Try.prog (w.alloc (.cells #[.int .i64 (s.x : Int), .slice s.a s.l.length s.c] 75)) = .ok (.slice A' (st.length + 1) c') w2 ∧
      OM w0 w2 bs (s :: st) out seen (.slice A' (st.length + 1) c') vo := by
  obtain ⟨A, c, hv, A', c', w2, hrun, hown, hE, hbl, hB⟩ := h.stk.push1 elS s (by simp; omega) (by omega) h.keep.size 76
  rw [List.length_reverse] at hv hrun hown
  rw [hv] at hrun
  refine ⟨A, c, hv, A', c', w2, hrun, ?_⟩
  have hE2 : Ext (fun q => q < w.heap.size → vs.ownBlock = some q) w w2 := ⟨hE.os, hE.tape, hE.output, hE.size, fun q hq hnq => hbl q hq (fun e => hnq (fun _ => e))⟩
  have hR : ∀ s, Rst w w0.heap.size vo s → Rst w2 w0.heap.size vo s := fun s hs =>
    hs.ext hE2 (fun v L k ho hk _ e => ho.kinds h.stk (by decide) hk (e (ho.lt k hk).2))
  refine ⟨hB _ _ _ h.seen (by decide), by rw [List.reverse_cons]; exact hown, ?_, ?_, Keep.of_ext h.keep hE (fun i hi h => by omega), h.base⟩
  · refine h.out.ext hE2 (fun q hq hs => ?_)
    exact h.out.kinds h.stk (by decide) hq (hs (h.out.lt q hq).2)
  · intro s' hs'
    rcases List.mem_cons.1 hs' with rfl | hs'
    · exact hR _ hs
    · exact hR _ (h.rest s' hs')
theorem OM.mark (h : OM w0 w bs st out seen vs vo) (b : Nat) : OM w0 (w.setCell ⟨bs, b, none⟩ (.bool true)) bs st out (seen.set b true) vs vo :=
  ⟨h.seen.put b true, h.stk.put_far (fun q hq => h.stk.blk_apart h.seen (by decide) hq) _, h.out.put_far (fun q hq => h.out.blk_apart h.seen (by decide) hq) _,
   fun s hs => (h.rest s hs).ext (Ext.one bs b _) (fun v L k ho hk _ e => ho.blk_apart h.seen (by decide) hk e), h.keep.setCell (p := ⟨bs, b, none⟩) h.base _, h.base⟩
theorem ints_snoc (l : List Nat) (x : Nat) : ints (l ++ [x]) = ints l ++ [(x : Int)] := by simp [ints]
theorem OM.leave (h : OM w0 w bs (s :: r) out seen vs vo) (hn : out.length < 900000) {g c : Nat} (hv : vs = .slice (some ⟨g, 0, none⟩) (r.length + 1) c) : ∃ A c0, vo = .slice A out.length c0 ∧ ∃ A' c' w2,
    (Builtin.append_ #[33, 33] 33 #[.slice A out.length c0, .slice (some ⟨w.heap.size, 0, none⟩) 1 1]).run Try.prog (w.alloc (.cells #[.int .i64 (s.x : Int)] 3)) = .ok (.slice A' (out.length + 1) c') w2 ∧
      OM w0 w2 bs r (out ++ [s.x]) seen (.slice (some ⟨g, 0, none⟩) r.length c) (.slice A' (out.length + 1) c') := by
  obtain ⟨A, c0, hvo, _⟩ := h.out.form
  rw [ints_len] at hvo
  have hka : Keep w (w.alloc (.cells #[.int .i64 (s.x : Int)] 3)) := (Keep.refl _).alloc _
  have hseg : Seg (w.alloc (.cells #[.int .i64 (s.x : Int)] 3)) (some ⟨w.heap.size, 0, none⟩) (([(s.x : Int)] : List Int).flatMap intC) := Seg.of_blk (Blk.new w 3 [.int .i64 (s.x : Int)])
  obtain ⟨v', w2, hrun, hown, hg, hgb⟩ := append_run (ys := [(s.x : Int)]) elI (h.out.keep hka) hseg 1 33 (by simp [maxLen, ints_len]; omega) (by simp [ints_len]; omega) (Nat.le_trans h.keep.size hka.size)
  obtain ⟨A', c', rfl, _⟩ := hown.form
  have e : (ints out ++ [(s.x : Int)]).length = out.length + 1 := by simp [ints_len]
  rw [e] at hrun hown hgb
  have hrun' := hrun
  rw [hvo] at hrun'
  refine ⟨A, c0, hvo, A', c', w2, hrun', ?_⟩
  have hE : Ext (fun q => vo.ownBlock = some q) w w2 := (hka.ext _).grown hg (fun k hk _ => hk)
  subst hv
  have hstk2 : Own rsC 2 75 w2 w0.heap.size (.slice (some ⟨g, 0, none⟩) (r.length + 1) c) (s :: r).reverse :=
    h.stk.ext hE (fun q hq hs => h.stk.kinds h.out (by decide) hq hs)
  have hfr := Own.front (f := rsC) (s := 2) (fun _ => rfl) hstk2 (m := r.length) (by simp)
  rw [List.reverse_cons, List.take_left' (by simp)] at hfr
  refine ⟨h.seen.ext hE (fun e => h.out.blk_apart h.seen (by decide) e rfl), hfr, by rw [ints_snoc]; exact hown, fun s' hs' => (show Rst w w0.heap.size vo s' from h.rest s' (List.mem_cons_of_mem _ hs')).grow hE ?_, Keep.of_ext h.keep hE (fun i hi e => by have := (h.out.lt i e).1; omega), h.base⟩
  rcases hgb with e | e
  · exact .inl e
  · exact .inr ⟨_, e, hka.size⟩
end

def SsD.N (x : SsD) : List (List Nat) := x.F.map (·.next)
theorem SsD.N_len (x : SsD) : x.N.length = x.blocks.l.length := by simp [SsD.N, SsD.F]
theorem SsD.N_get {x : SsD} {b : Nat} {y : BkD} (hy : x.blocks.l[b]? = some y) : x.N.getD b [] = nat (y.nextI x.blocks.l.length) := by
  unfold SsD.N SsD.F
  rw [List.getD_eq_getElem?_getD, List.getElem?_map, List.getElem?_map, hy]; rfl
theorem SsD.nextI_mem {y : BkD} {n : Nat} {t : Int} (h : t ∈ y.nextI n) : 0 ≤ t ∧ t < (n : Int) := by
  unfold BkD.nextI at h
  simpa using (List.mem_filter.1 h).2
theorem SsD.N_lt (x : SsD) : ∀ l ∈ x.N, ∀ t ∈ l, t < x.N.length := by
  intro l hl t ht
  rw [SsD.N_len]
  unfold SsD.N SsD.F at hl
  obtain ⟨p, hp, rfl⟩ := List.mem_map.1 hl
  obtain ⟨y, _, rfl⟩ := List.mem_map.1 hp
  obtain ⟨u, hu, rfl⟩ := List.mem_map.1 (show t ∈ nat (y.nextI x.blocks.l.length) from ht)
  have := SsD.nextI_mem hu
  omega
theorem next2 (x : SsD) (b : Nat) (w : World) (h : SsOk w x) (hto : ∀ y ∈ x.blocks.l, y.to.l.length < 17592186044416) (hb : b < x.N.length) :
    Calls Try.prog 21 #[.agg (ssC x).toArray, .int .i64 (b : Int)] w fun e w' => ∃ A c, e = .returned (.slice A (x.N.getD b []).length c) ∧ Own intC 1 3 w' w.heap.size (.slice A (x.N.getD b []).length c) (ints (x.N.getD b [])) ∧ Keep w w' ∧ (x.N.getD b []).length ≤ c ∧ c ≤ maxLen := by
  rw [SsD.N_len] at hb
  obtain ⟨y, hy⟩ := get_some hb
  refine (next_calls x b y w h hy (hto y (List.mem_of_getElem? hy))).mono ?_
  rintro e w' ⟨v, rfl, hown, hk⟩
  obtain ⟨A, c, rfl, h1, h2⟩ := hown.form
  have e1 : ints (x.N.getD b []) = y.nextI x.blocks.l.length := by
    rw [SsD.N_get hy]; exact ints_nat fun t ht => (SsD.nextI_mem ht).1
  have e2 : (x.N.getD b []).length = (y.nextI x.blocks.l.length).length := by rw [← e1, ints_len]
  exact ⟨A, c, by rw [e2], by rw [e1, e2]; exact hown, hk, by rw [e2]; exact h1, h2⟩
theorem Rst.made {w : World} {base base0 : Nat} {vo : Value} {A : Option Addr} {l : List Nat} {c : Nat} (x : Nat) (h : Own intC 1 3 w base0 (.slice A l.length c) (ints l)) (hb : base ≤ base0) (hv : ∀ k, vo.ownBlock = some k → k < base0) : Rst w base vo ⟨x, A, l, c⟩ := by
  obtain ⟨A', c', e, h1, h2⟩ := h.form
  rw [ints_len] at e h1
  cases e
  refine ⟨h.segN.2, h1, h2, fun hl => ?_⟩
  have hp : 0 < (ints l).length := by rw [ints_len]; exact List.length_pos_iff.2 hl
  obtain ⟨g, c2, e, _, h4, _⟩ := own_at h hp
  rw [ints_len] at e
  cases e
  exact ⟨_, _, _, rfl, h.mono hb, rfl, fun e => absurd (hv g e) (by omega)⟩

/-- What Order says: the nodes in the turned order of leaving. -/
def OrdOk (x : SsD) (ds : List Nat) : Prop := if x.blocks.l = [] then ds = [] else Lv.IsPost x.N ds.reverse
end Go.Proofs.Ytjpmiejgcnfiiaa
