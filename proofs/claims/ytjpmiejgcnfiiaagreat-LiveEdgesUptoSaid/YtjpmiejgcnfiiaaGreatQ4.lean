import Derived.Test.YtjpmiejgcnfiiaaGreatQ1
set_option linter.unusedVariables false
set_option linter.unusedSimpArgs false
namespace Go.Proofs.YtjpmiejgcnfiiaaGreat
open Go Go.RowKit

/-- A row as a value. -/
structure RowG (α : Type) where
 a : Option Addr
 l : List α
 c : Nat
def RowG.v {α : Type} (x : RowG α) : Value := .slice x.a x.l.length x.c
def rowG {α : Type} (x : RowG α) : List Value := [x.v]
theorem rowG_of {α : Type} {f : α → List Value} {s : Nat} {e : TypeId} {w : World} {base : Nat} {v : Value} {l : List α} (h : Own f s e w base v l) : ∃ x : RowG α, x.l = l ∧ x.v = v := by
 obtain ⟨A, c, rfl, _⟩ := h.form
 exact ⟨⟨A, l, c⟩, rfl, rfl⟩

theorem Own.kinds {α β : Type} {f : α → List Value} {g : β → List Value} {s s' : Nat} {e e' : TypeId} {w : World} {base base' : Nat} {v v' : Value} {xs : List α} {ys : List β} (h : Own f s e w base v xs) (h' : Own g s' e' w base' v' ys) (hne : e ≠ e') {k : Nat} (hk : v.ownBlock = some k) : v'.ownBlock ≠ some k := by
 intro hk'
 rcases h.2 with ⟨rfl, _⟩ | ⟨g1, cap, cur, rfl, _, hh, _⟩
 ·cases hk
 ·rcases h'.2 with ⟨rfl, _⟩ | ⟨g2, cap', cur', rfl, _, hh', _⟩
  ·cases hk'
  ·simp only [Value.ownBlock, Option.some.injEq] at hk hk'
   subst hk
   subst hk'
   rw [hh] at hh'
   cases hh'
   exact hne rfl

theorem rep_get {β : Type} {n i : Nat} {z v : β} (h : (List.replicate n z)[i]? = some v) : v = z := by
 rw [List.getElem?_replicate] at h
 split at h
 ·exact (Option.some.inj h).symm
 ·cases h

section
variable {α : Type}
/-- A row of rows of the call's own. -/
def OutRows (f : α → List Value) (s : Nat) (ei eo : TypeId) (w : World) (base : Nat) (v : Value) (L : List (List α)) : Prop :=
 ∃ rs : List (RowG α), rs.map (·.l) = L ∧ Own rowG 1 eo w base v rs ∧ ∀ x ∈ rs, Own f s ei w base x.v x.l
variable {f : α → List Value} {s : Nat} {ei eo : TypeId} {w w' : World} {base : Nat} {v : Value} {L : List (List α)}
theorem OutRows.nil (f : α → List Value) (s : Nat) (ei eo : TypeId) (w : World) (base : Nat) : OutRows f s ei eo w base (.slice none 0 0) [] :=
 ⟨[], rfl, Own.nil _ _ _ _ _, fun x hx => by simp at hx⟩
theorem OutRows.keep (h : OutRows f s ei eo w base v L) (hk : Keep w w') : OutRows f s ei eo w' base v L := by
 obtain ⟨rs, e, h1, h2⟩ := h
 exact ⟨rs, e, h1.keep hk, fun x hx => (h2 x hx).keep hk⟩
theorem OutRows.mono {base' : Nat} (h : OutRows f s ei eo w base v L) (hb : base' ≤ base) : OutRows f s ei eo w base' v L := by
 obtain ⟨rs, e, h1, h2⟩ := h
 exact ⟨rs, e, h1.mono hb, fun x hx => (h2 x hx).mono hb⟩
theorem OutRows.form (h : OutRows f s ei eo w base v L) : ∃ A c, v = .slice A L.length c ∧ L.length ≤ c ∧ c ≤ maxLen := by
 obtain ⟨rs, e, h1, _⟩ := h
 obtain ⟨A, c, e1, h2, h3⟩ := h1.form
 have : L.length = rs.length := by rw [← e]; simp
 exact ⟨A, c, by rw [e1, this], by omega, h3⟩
theorem OutRows.push {P : Program} {to : TypeId} {bytes : Nat} (E : ElT P to eo 1 bytes (rowG (α := α))) (hne : ei ≠ eo) (h : OutRows f s ei eo w base v L) (x : RowG α) (hx : Own f s ei w base x.v x.l) (hn : L.length < 1000000) (hb : bytes ≤ 1000) (hbase : base ≤ w.heap.size) (ty : TypeId) :
  ∃ v' w2, (Builtin.append_ #[to, to] ty #[v, .slice (some ⟨w.heap.size, 0, none⟩) 1 1]).run P (w.alloc (.cells #[x.v] eo)) = .ok v' w2 ∧ OutRows f s ei eo w2 base v' (L ++ [x.l]) ∧ Ext (fun k => base ≤ k) w w2 := by
 obtain ⟨rs, e, h1, h2⟩ := h
 have hlen : L.length = rs.length := by rw [← e]; simp
 have hka : Keep w (w.alloc (.cells #[x.v] eo)) := (Keep.refl _).alloc _
 have hseg : Seg (w.alloc (.cells #[x.v] eo)) (some ⟨w.heap.size, 0, none⟩) ([x].flatMap rowG) := Seg.of_blk (Blk.new w eo ([x].flatMap rowG))
 have hmul : (rs.length + 1) * bytes ≤ (rs.length + 1) * 1000 := Nat.mul_le_mul_left _ hb
 obtain ⟨v', w2, hrun, ho, hg, _⟩ := append_run (ys := [x]) E (h1.keep hka) hseg 1 ty (by simp [maxLen]; omega) (by simp; omega) (Nat.le_trans hbase hka.size)
 have hlow : ∀ k, v.ownBlock = some k → base ≤ k := fun k hk => (h1.lt k hk).1
 refine ⟨v', w2, hrun, ⟨rs ++ [x], by simp [e], ho, fun y hy => ?_⟩, (hka.ext _).grown hg (fun k hk _ => hlow k hk)⟩
 have hy' : Own f s ei w base y.v y.l := by
  rcases List.mem_append.1 hy with h3 | h3
  ·exact h2 y h3
  ·obtain rfl : y = x := by simpa using h3
   exact hx
 refine (hy'.keep hka).grown hg ?_
 cases hq : y.v.ownBlock with
 | none => exact .inl rfl
 | some k => exact .inr fun e => hy'.kinds h1 hne hq e.symm
/-- As rows that can be read. -/
theorem OutRows.read (h : OutRows f s ei eo w base v L) : ∃ (rs : List (RowG α)) (A : Option Addr) (c : Nat), rs.map (·.l) = L ∧ v = .slice A rs.length c ∧ Seg w A (rs.flatMap rowG) ∧ (∀ x ∈ rs, Seg w x.a (x.l.flatMap f)) ∧ rs.length ≤ maxLen ∧ ∀ x ∈ rs, x.l.length ≤ maxLen := by
 obtain ⟨rs, e, h1, h2⟩ := h
 obtain ⟨A, c, rfl, h3, h4⟩ := h1.form
 refine ⟨rs, A, c, e, rfl, h1.seg, fun x hx => (h2 x hx).segN.2, Nat.le_trans h3 h4, fun x hx => ?_⟩
 obtain ⟨B, d, e1, h5, h6⟩ := (h2 x hx).form
 exact Nat.le_trans h5 h6

/-- An array, made whole, of rows of the call's own, no two in one block. -/
def RowsAt (f : α → List Value) (s : Nat) (ei eo : TypeId) (w : World) (b base : Nat) (L : List (List α)) : Prop :=
 ∃ vs : List Value, Blk w b eo vs ∧ vs.length = L.length ∧ (∀ (i : Nat) v l, vs[i]? = some v → L[i]? = some l → Own f s ei w base v l) ∧
  ∀ (i j : Nat) v u k, i ≠ j → vs[i]? = some v → vs[j]? = some u → v.ownBlock = some k → u.ownBlock ≠ some k
theorem RowsAt.made {b : Nat} (f : α → List Value) (s : Nat) (ei : TypeId) (base n : Nat) (h : Blk w b eo (List.replicate n (.slice none 0 0))) : RowsAt f s ei eo w b base (List.replicate n []) := by
 refine ⟨_, h, by simp, fun i v l hv hl => ?_, fun i j v u k _ hv _ hk => ?_⟩
 ·obtain rfl := rep_get hv
  obtain rfl := rep_get hl
  exact Own.nil _ _ _ _ _
 ·obtain rfl := rep_get hv
  cases hk
theorem RowsAt.ext {b : Nat} {S : Nat → Prop} (h : RowsAt f s ei eo w b base L) (hE : Ext S w w') (hb : ¬ S b) (hs : ∀ k, base ≤ k → ¬ S k) : RowsAt f s ei eo w' b base L := by
 obtain ⟨vs, h1, h2, h3, h4⟩ := h
 exact ⟨vs, h1.ext hE hb, h2, fun i v l hv hl => (h3 i v l hv hl).ext hE (fun k hk => hs k ((h3 i v l hv hl).lt k hk).1), h4⟩
theorem RowsAt.keep {b : Nat} (h : RowsAt f s ei eo w b base L) (hk : Keep w w') : RowsAt f s ei eo w' b base L := by
 obtain ⟨vs, h1, h2, h3, h4⟩ := h
 exact ⟨vs, h1.keep hk, h2, fun i v l hv hl => (h3 i v l hv hl).keep hk, h4⟩
/-- Some other array is written. -/
theorem RowsAt.put_far {b : Nat} (h : RowsAt f s ei eo w b base L) {g i : Nat} {t : TypeId} {cs : List Value} (hg : Blk w g t cs) (h1 : g ≠ b) (h2 : g < base ∨ t ≠ ei) (u : Value) : RowsAt f s ei eo (w.setCell ⟨g, i, none⟩ u) b base L := by
 obtain ⟨vs, a1, a2, a3, a4⟩ := h
 refine ⟨vs, a1.far (p := ⟨g, i, none⟩) (fun e => h1 e.symm) u, a2, fun i v l hv hl => (a3 i v l hv hl).put_far (fun k hk => ?_) u, a4⟩
 rcases h2 with h2 | h2
 ·have := ((a3 i v l hv hl).lt k hk).1
  show k ≠ g
  omega
 ·exact (a3 i v l hv hl).blk_apart hg (fun e => h2 e.symm) hk
theorem RowsAt.push {P : Program} {ti : TypeId} {bytes : Nat} (E : ElT P ti ei s bytes f) (hne : ei ≠ eo) {b : Nat} (h : RowsAt f s ei eo w b base L) {a : Nat} (ha : a < L.length) (x : α) (hn : L[a].length < 1000000) (hby : bytes ≤ 1000) (hbase : base ≤ w.heap.size) (ty : TypeId) :
  ∃ A c, w.cell? ⟨b, a, none⟩ = some (.slice A L[a].length c) ∧ ∃ v' w2, (∃ A' c', v' = .slice A' (L[a].length + 1) c') ∧ (Builtin.append_ #[ti, ti] ty #[.slice A L[a].length c, .slice (some ⟨w.heap.size, 0, none⟩) 1 1]).run P (w.alloc (.cells (f x).toArray ei)) = .ok v' w2 ∧
   w2.cell? ⟨b, a, none⟩ = some (.slice A L[a].length c) ∧ w2.frozen? ⟨b, a, none⟩ = false ∧ b < w2.heap.size ∧
   RowsAt f s ei eo (w2.setCell ⟨b, a, none⟩ v') b base (L.set a (L[a] ++ [x])) ∧ Ext (fun k => k = b ∨ base ≤ k) w (w2.setCell ⟨b, a, none⟩ v') ∧ ∀ g t cs, Blk w g t cs → g ≠ b → t ≠ ei → Blk (w2.setCell ⟨b, a, none⟩ v') g t cs := by
 obtain ⟨vs, h1, h2, h3, h4⟩ := h
 have hv : vs[a]? = some vs[a] := List.getElem?_eq_getElem (by omega)
 have hl : L[a]? = some L[a] := List.getElem?_eq_getElem ha
 have ho := h3 a _ _ hv hl
 obtain ⟨A, c, hform, _⟩ := ho.form
 have hka : Keep w (w.alloc (.cells (f x).toArray ei)) := (Keep.refl _).alloc _
 have hseg : Seg (w.alloc (.cells (f x).toArray ei)) (some ⟨w.heap.size, 0, none⟩) ([x].flatMap f) := by
  have : [x].flatMap f = f x := by simp
  rw [this]
  exact Seg.of_blk (Blk.new w ei (f x))
 have hmul : (L[a].length + 1) * bytes ≤ (L[a].length + 1) * 1000 := Nat.mul_le_mul_left _ hby
 obtain ⟨v', w2, hrun, hown, hg, hgb⟩ := append_run (ys := [x]) E (ho.keep hka) hseg 1 ty (by simp [maxLen]; omega) (by simp; omega) (Nat.le_trans hbase hka.size)
 have hbr : ∀ k, vs[a].ownBlock = some k → k ≠ b := fun k hk => ho.blk_apart h1 hne hk
 have hb2 : Blk w2 b eo vs := by
  have hbk := h1.keep hka
  exact (hg.block b hbk.lt (fun e => hbr b e.symm rfl)).trans hbk
 have hE : Ext (fun k => k = b ∨ base ≤ k) w (w2.setCell ⟨b, a, none⟩ v') :=
  ((hka.ext _).grown hg (fun k hk _ => .inr (ho.lt k hk).1)).setCell (p := ⟨b, a, none⟩) (fun _ => .inl rfl) v'
 refine ⟨A, c, ?_, v', w2, (by obtain ⟨A', c', e', _⟩ := hown.form; exact ⟨A', c', by rw [e']; simp⟩), by rw [← hform]; exact hrun, ?_, hb2.frozen a, hb2.lt, ⟨vs.set a v', hb2.set_ a v', by simp [h2], ?_, ?_⟩, hE, ?_⟩
 ·rw [h1.cell, hv, hform]
 ·rw [hb2.cell, hv, hform]
 ·intro i v l hi hli
  by_cases e : a = i
  ·subst e
   rw [List.getElem?_set_self (by omega)] at hi hli
   cases hi
   cases hli
   exact hown.put_far (fun k hk => hown.blk_apart hb2 hne hk) _
  ·rw [List.getElem?_set_ne e] at hi hli
   have hoi := h3 i v l hi hli
   have hoi2 : Own f s ei w2 base v l := (hoi.keep hka).grown hg (by
    cases hq : v.ownBlock with
    | none => exact .inl rfl
    | some k => exact .inr fun e1 => h4 a i _ _ k e hv hi e1.symm hq)
   exact hoi2.put_far (fun k hk => hoi2.blk_apart hb2 hne hk) _
 ·intro i j v u k hij hi hj hk
  by_cases ei' : a = i
  ·subst ei'
   rw [List.getElem?_set_self (by omega)] at hi
   cases hi
   rw [List.getElem?_set_ne hij] at hj
   rcases hgb with e | e
   ·exact h4 a j _ _ k hij hv hj (e ▸ hk)
   ·intro hu
    have hjl : j < L.length := by have := (List.getElem?_eq_some_iff.1 hj).1; omega
    have h5 : k < w.heap.size := ((h3 j u L[j] hj (List.getElem?_eq_getElem hjl)).lt k hu).2
    rw [hk] at e
    have h6 := Option.some.inj e
    have h7 := hka.size
    omega
  ·rw [List.getElem?_set_ne ei'] at hi
   by_cases ej : a = j
   ·subst ej
    rw [List.getElem?_set_self (by omega)] at hj
    cases hj
    intro hu
    rcases hgb with e | e
    ·exact h4 i a _ _ k hij hi hv hk (e ▸ hu)
    ·have hil : i < L.length := by have := (List.getElem?_eq_some_iff.1 hi).1; omega
     have h5 : k < w.heap.size := ((h3 i v L[i] hi (List.getElem?_eq_getElem hil)).lt k hk).2
     rw [hu] at e
     have h6 := Option.some.inj e
     have h7 := hka.size
     omega
   ·rw [List.getElem?_set_ne ej] at hj
    exact h4 i j v u k hij hi hj hk
 ·intro g t cs hgB hgb' hte
  have hB2 : Blk w2 g t cs := (hg.block g (hgB.keep hka).lt (fun e => ho.blk_apart hgB (fun e' => hte e'.symm) e.symm rfl)).trans (hgB.keep hka)
  exact hB2.far (p := ⟨b, a, none⟩) hgb' v'
/-- As rows that can be read. -/
theorem RowsAt.read {b : Nat} (h : RowsAt f s ei eo w b base L) : ∃ rs : List (RowG α), rs.map (·.l) = L ∧ Seg w (some ⟨b, 0, none⟩) (rs.flatMap rowG) ∧ (∀ x ∈ rs, Seg w x.a (x.l.flatMap f)) ∧ rs.length = L.length ∧ (∀ x ∈ rs, x.l.length ≤ maxLen) ∧ ∀ x ∈ rs, ∀ ad, x.a = some ad → base ≤ ad.block := by
 obtain ⟨vs, h1, h2, h3, h4⟩ := h
 have key : ∀ m, m ≤ L.length → ∃ rs : List (RowG α), rs.map (·.l) = L.take m ∧ rs.map RowG.v = vs.take m ∧ (∀ x ∈ rs, Seg w x.a (x.l.flatMap f)) ∧ (∀ x ∈ rs, x.l.length ≤ maxLen) ∧ ∀ x ∈ rs, ∀ ad, x.a = some ad → base ≤ ad.block := by
  intro m
  induction m with
  | zero => exact fun _ => ⟨[], rfl, rfl, fun x hx => by simp at hx, fun x hx => by simp at hx, fun x hx => by simp at hx⟩
  | succ m ih =>
   intro hm
   obtain ⟨rs, e1, e2, e3, e4, e5⟩ := ih (by omega)
   have ho := h3 m _ _ (List.getElem?_eq_getElem (by omega)) (List.getElem?_eq_getElem (show m < L.length by omega))
   obtain ⟨A, c, hf, h5, h6⟩ := ho.form
   rw [hf] at ho
   refine ⟨rs ++ [⟨A, L[m], c⟩], ?_, ?_, ?_, ?_, ?_⟩
   ·rw [List.map_append, e1, take_snoc L (by omega)]; rfl
   ·rw [List.map_append, e2, take_snoc vs (by omega), hf]; rfl
   ·intro x hx
    rcases List.mem_append.1 hx with h | h
    ·exact e3 x h
    ·obtain rfl : x = ⟨A, L[m], c⟩ := by simpa using h
     exact ho.segN.2
   ·intro x hx
    rcases List.mem_append.1 hx with h | h
    ·exact e4 x h
    ·obtain rfl : x = ⟨A, L[m], c⟩ := by simpa using h
     exact Nat.le_trans h5 h6
   ·intro x hx
    rcases List.mem_append.1 hx with h | h
    ·exact e5 x h
    ·obtain rfl : x = ⟨A, L[m], c⟩ := by simpa using h
     exact fun ad e => ho.addr_ge e
 obtain ⟨rs, e1, e2, e3, e4, e5⟩ := key L.length (Nat.le_refl _)
 rw [List.take_length] at e1
 rw [List.take_of_length_le (by omega)] at e2
 have hfl : rs.flatMap rowG = vs := by
  rw [← e2]
  clear e1 e2 e3 e4 e5
  induction rs with
  | nil => rfl
  | cons x r ih => rw [List.flatMap_cons, ih]; rfl
 exact ⟨rs, e1, by rw [hfl]; exact Seg.of_blk h1, e3, by rw [← e1]; simp, e4, e5⟩
end
end Go.Proofs.YtjpmiejgcnfiiaaGreat
namespace Go.Proofs.YtjpmiejgcnfiiaaGreat.Lv

/-- From m and d on, the nodes of l that are not in m are visited in turn: this ends with m' and d'. -/
inductive Vis (N : List (List Nat)) : List Nat → List Bool → List Nat → List Bool → List Nat → Prop
 | nil (m d) : Vis N [] m d m d
 | skip {c l m d m' d'} : m.getD c true = true → Vis N l m d m' d' → Vis N (c :: l) m d m' d'
 | go {c l m d m1 d1 m' d'} : m.getD c true = false → Vis N (N.getD c []) (m.set c true) d m1 d1 → Vis N l m1 (d1 ++ [c]) m' d' → Vis N (c :: l) m d m' d'

variable {N : List (List Nat)}

theorem Vis.det {l : List Nat} {m : List Bool} {d : List Nat} {m1 m2 : List Bool} {d1 d2 : List Nat} (h : Vis N l m d m1 d1) (k : Vis N l m d m2 d2) : m1 = m2 ∧ d1 = d2 := by
 induction h generalizing m2 d2 with
 | nil => cases k; exact ⟨rfl, rfl⟩
 | skip hs _ ih =>
  cases k with
  | skip _ k' => exact ih k'
  | go hs' _ _ => rw [hs] at hs'; cases hs'
 | go hs _ _ ih1 ih2 =>
  cases k with
  | skip hs' _ => rw [hs] at hs'; cases hs'
  | go _ k1 k2 =>
   obtain ⟨rfl, rfl⟩ := ih1 k1
   exact ih2 k2

theorem getD_false_lt {m : List Bool} {c : Nat} (h : m.getD c true = false) : c < m.length := by
 rcases Nat.lt_or_ge c m.length with hc | hc
 ·exact hc
 ·rw [List.getD_eq_getElem?_getD, List.getElem?_eq_none hc] at h; cases h
theorem count_set {m : List Bool} {c : Nat} (h : m.getD c true = false) : (m.set c true).count false + 1 = m.count false := by
 induction m generalizing c with
 | nil => cases h
 | cons b m ih =>
  cases c with
  | zero =>
   have : b = false := h
   subst this
   simp
  | succ c =>
   have h' : m.getD c true = false := h
   have := ih h'
   cases b <;> simp <;> omega
theorem Vis.len {l : List Nat} {m : List Bool} {d : List Nat} {m' : List Bool} {d' : List Nat} (h : Vis N l m d m' d') : m'.length = m.length := by
 induction h with
 | nil => rfl
 | skip _ _ ih => exact ih
 | go _ _ _ ih1 ih2 => rw [ih2, ih1, List.length_set]
theorem Vis.count {l : List Nat} {m : List Bool} {d : List Nat} {m' : List Bool} {d' : List Nat} (h : Vis N l m d m' d') : m'.count false ≤ m.count false := by
 induction h with
 | nil => exact Nat.le_refl _
 | skip _ _ ih => exact ih
 | go hs _ _ ih1 ih2 => have := count_set hs; omega
/-- Every search ends. -/
theorem Vis.ex : ∀ (f : Nat) (m : List Bool), m.count false ≤ f → ∀ (l d : List Nat), ∃ m' d', Vis N l m d m' d'
 | f, m, hf, [], d => ⟨m, d, .nil m d⟩
 | f, m, hf, c :: l, d => by
  cases hc : m.getD c true with
  | true =>
   obtain ⟨m', d', h⟩ := Vis.ex f m hf l d
   exact ⟨m', d', .skip hc h⟩
  | false =>
   have h1 := count_set hc
   cases f with
   | zero => omega
   | succ f =>
    obtain ⟨m1, d1, h2⟩ := Vis.ex f (m.set c true) (by omega) (N.getD c []) d
    have h3 := h2.count
    obtain ⟨m', d', h4⟩ := Vis.ex f m1 (by omega) l (d1 ++ [c])
    exact ⟨m', d', .go hc h2 h4⟩
 termination_by f _ _ l => (f, l.length)

/-- What is left of a search with a stack. -/
inductive VisS (N : List (List Nat)) : List (Nat × List Nat) → List Bool → List Nat → List Nat → Prop
 | nil (m d) : VisS N [] m d d
 | cons {x l st m d m1 d1 d'} : Vis N l m d m1 d1 → VisS N st m1 (d1 ++ [x]) d' → VisS N ((x, l) :: st) m d d'
theorem VisS.done {m : List Bool} {d d' : List Nat} (h : VisS N [] m d d') : d' = d := by cases h; rfl
theorem VisS.pop {x : Nat} {st : List (Nat × List Nat)} {m : List Bool} {d d' : List Nat} (h : VisS N ((x, []) :: st) m d d') : VisS N st m (d ++ [x]) d' := by
 cases h with
 | cons h1 h2 => cases h1; exact h2
theorem VisS.skip {x c : Nat} {l : List Nat} {st : List (Nat × List Nat)} {m : List Bool} {d d' : List Nat} (h : VisS N ((x, c :: l) :: st) m d d') (hc : m.getD c true = true) : VisS N ((x, l) :: st) m d d' := by
 cases h with
 | cons h1 h2 =>
  cases h1 with
  | skip _ h1 => exact .cons h1 h2
  | go hs _ _ => rw [hc] at hs; cases hs
theorem VisS.push {x c : Nat} {l : List Nat} {st : List (Nat × List Nat)} {m : List Bool} {d d' : List Nat} (h : VisS N ((x, c :: l) :: st) m d d') (hc : m.getD c true = false) : VisS N ((c, N.getD c []) :: (x, l) :: st) (m.set c true) d d' := by
 cases h with
 | cons h1 h2 =>
  cases h1 with
  | skip hs _ => rw [hc] at hs; cases hs
  | go _ h3 h4 => exact .cons h3 (.cons h4 h2)

/-- The nodes in the order in which the search leaves them. -/
def IsPost (N : List (List Nat)) (d : List Nat) : Prop := ∃ m' d1, Vis N (N.getD 0 []) ((List.replicate N.length false).set 0 true) [] m' d1 ∧ d = d1 ++ [0]
theorem IsPost.ex (N : List (List Nat)) : ∃ d, IsPost N d := by
 obtain ⟨m', d1, h⟩ := Vis.ex (N := N) _ ((List.replicate N.length false).set 0 true) (Nat.le_refl _) (N.getD 0 []) []
 exact ⟨d1 ++ [0], m', d1, h, rfl⟩
theorem IsPost.unique {d d' : List Nat} (h : IsPost N d) (k : IsPost N d') : d = d' := by
 obtain ⟨_, d1, h1, rfl⟩ := h
 obtain ⟨_, d2, h2, rfl⟩ := k
 rw [(h1.det h2).2]
theorem IsPost.stack {d : List Nat} (h : IsPost N d) : VisS N [(0, N.getD 0 [])] ((List.replicate N.length false).set 0 true) [] d := by
 obtain ⟨m', d1, h1, rfl⟩ := h
 exact .cons h1 (.nil _ _)

/-- What a search does: it leaves each node once, marks what it leaves, and only what was not marked. -/
theorem Vis.marks {l : List Nat} {m : List Bool} {d : List Nat} {m' : List Bool} {d' : List Nat} (h : Vis N l m d m' d') :
  ∃ e, d' = d ++ e ∧ e.Nodup ∧ (∀ x, x ∈ e ↔ m.getD x true = false ∧ m'.getD x true = true) ∧ ∀ x, m.getD x true = true → m'.getD x true = true := by
 induction h with
 | nil m d => exact ⟨[], by simp, List.nodup_nil, fun x => by constructor <;> simp_all, fun x hx => hx⟩
 | skip _ _ ih => exact ih
 | @go c l m d m1 d1 m' d' hs h1 h2 ih1 ih2 =>
  obtain ⟨e1, rfl, n1, s1, k1⟩ := ih1
  obtain ⟨e2, rfl, n2, s2, k2⟩ := ih2
  have hcl := getD_false_lt hs
  have hset : ∀ x, (m.set c true).getD x true = if x = c then true else m.getD x true := fun x => by
   rw [List.getD_eq_getElem?_getD, List.getD_eq_getElem?_getD, List.getElem?_set]
   by_cases e : c = x
   ·subst e; simp [hcl]
   ·rw [if_neg e, if_neg (fun h => e h.symm)]
  have hc1 : m1.getD c true = true := k1 c (by rw [hset, if_pos rfl])
  refine ⟨e1 ++ [c] ++ e2, by simp [List.append_assoc], ?_, fun x => ?_, fun x hx => k2 x (k1 x (by rw [hset]; split <;> simp_all))⟩
  ·rw [List.nodup_append, List.nodup_append]
   refine ⟨⟨n1, by simp, fun a ha b hb e => ?_⟩, n2, fun a ha b hb e => ?_⟩
   ·have hb' : b = c := by simpa using hb
    have := (s1 a).1 ha
    rw [e, hb', hset, if_pos rfl] at this
    cases this.1
   ·have h3 := (s2 b).1 hb
    rw [← e] at h3
    rcases List.mem_append.1 ha with h4 | h4
    ·have h5 := (s1 a).1 h4
     rw [h5.2] at h3; cases h3.1
    ·have h5 : a = c := by simpa using h4
     rw [h5, hc1] at h3; cases h3.1
  ·rw [List.mem_append, List.mem_append, s1, s2, hset]
   constructor
   ·rintro ((⟨h3, h4⟩ | h3) | ⟨h3, h4⟩)
    ·by_cases e : x = c
     ·rw [if_pos e] at h3; cases h3
     ·rw [if_neg e] at h3; exact ⟨h3, k2 x h4⟩
    ·have e : x = c := by simpa using h3
     rw [e]; exact ⟨hs, k2 c hc1⟩
    ·refine ⟨?_, h4⟩
     cases h5 : m.getD x true with
     | false => rfl
     | true => rw [k1 x (by rw [hset]; split <;> simp_all)] at h3; cases h3
   ·rintro ⟨h3, h4⟩
    by_cases e : x = c
    ·exact .inl (.inr (by simp [e]))
    ·cases h5 : m1.getD x true with
     | true => exact .inl (.inl ⟨by rw [if_neg e]; exact h3, rfl⟩)
     | false => exact .inr ⟨rfl, h4⟩
end Go.Proofs.YtjpmiejgcnfiiaaGreat.Lv
namespace Go.Proofs.YtjpmiejgcnfiiaaGreat.Lv

/-- A path from c to x; in front of x the nodes of the list. -/
inductive Pth (N : List (List Nat)) : Nat → List Nat → Nat → Prop
 | refl (x) : Pth N x [] x
 | step {c c' vs x} : c' ∈ N.getD c [] → Pth N c' vs x → Pth N c (c :: vs) x
/-- y comes behind x in e. -/
def After (e : List Nat) (x y : Nat) : Prop := ∃ e1 e2, e = e1 ++ x :: e2 ∧ y ∈ e2
theorem After.left {e : List Nat} {x y : Nat} (h : After e x y) (k : List Nat) : After (k ++ e) x y := by
 obtain ⟨e1, e2, rfl, hy⟩ := h
 exact ⟨k ++ e1, e2, by simp, hy⟩
theorem After.right {e : List Nat} {x y : Nat} (h : After e x y) (k : List Nat) : After (e ++ k) x y := by
 obtain ⟨e1, e2, rfl, hy⟩ := h
 exact ⟨e1, e2 ++ k, by simp, by simp [hy]⟩
theorem After.cross {e k : List Nat} {x y : Nat} (hx : x ∈ e) (hy : y ∈ k) : After (e ++ k) x y := by
 obtain ⟨e1, e2, rfl⟩ := List.append_of_mem hx
 exact ⟨e1, e2 ++ k, by simp, by simp [hy]⟩
variable {N : List (List Nat)}
theorem Vis.paths {l : List Nat} {m : List Bool} {d : List Nat} {m' : List Bool} {d' : List Nat} (h : Vis N l m d m' d') :
  ∃ e, d' = d ++ e ∧ ∀ x ∈ e, ∃ c ∈ l, ∃ vs, Pth N c vs x ∧ ∀ y ∈ vs, After e x y := by
 induction h with
 | nil m d => exact ⟨[], by simp, by simp⟩
 | skip _ _ ih =>
  obtain ⟨e, h1, h2⟩ := ih
  refine ⟨e, h1, fun x hx => ?_⟩
  obtain ⟨c, hc, vs, h3⟩ := h2 x hx
  exact ⟨c, by simp [hc], vs, h3⟩
 | @go c l m d m1 d1 m' d' _ _ _ ih1 ih2 =>
  obtain ⟨e1, rfl, h1⟩ := ih1
  obtain ⟨e2, rfl, h2⟩ := ih2
  refine ⟨e1 ++ [c] ++ e2, by simp, fun x hx => ?_⟩
  rcases List.mem_append.1 hx with hx | hx
  ·rcases List.mem_append.1 hx with hx1 | hx1
   ·obtain ⟨c1, hc1, vs, hp, ha⟩ := h1 x hx1
    refine ⟨c, by simp, c :: vs, .step hc1 hp, fun y hy => ?_⟩
    rcases List.mem_cons.1 hy with rfl | hy
    ·exact (show After (e1 ++ [y]) x y from After.cross hx1 (List.mem_singleton.2 rfl)).right e2
    ·exact ((ha y hy).right [c]).right e2
   ·have : x = c := by simpa using hx1
    subst this
    exact ⟨x, by simp, [], .refl x, by simp⟩
  ·obtain ⟨c2, hc2, vs, hp, ha⟩ := h2 x hx
   exact ⟨c2, by simp [hc2], vs, hp, fun y hy => (ha y hy).left _⟩
/-- In the order in which the nodes are left: to each leads a path from the root, of nodes that are left behind it. -/
theorem IsPost.paths {d : List Nat} (h : IsPost N d) {x : Nat} (hx : x ∈ d) : ∃ vs, Pth N 0 vs x ∧ ∀ y ∈ vs, After d x y := by
 obtain ⟨m', d1, h1, rfl⟩ := h
 obtain ⟨e, he, h2⟩ := h1.paths
 have he' : d1 = e := by simpa using he
 subst he'
 rcases List.mem_append.1 hx with hx1 | hx1
 ·obtain ⟨c, hc, vs, hp, ha⟩ := h2 x hx1
  refine ⟨0 :: vs, .step hc hp, fun y hy => ?_⟩
  rcases List.mem_cons.1 hy with rfl | hy
  ·exact After.cross hx1 (List.mem_singleton.2 rfl)
  ·exact (ha y hy).right [0]
 ·have : x = 0 := by simpa using hx1
  subst this
  exact ⟨[], .refl 0, by simp⟩
/-- Each node is left once. -/
theorem IsPost.nodup {d : List Nat} (h : IsPost N d) (hN : 0 < N.length) : d.Nodup ∧ 0 ∈ d ∧ ∀ x ∈ d, x < N.length := by
 obtain ⟨m', d1, h1, rfl⟩ := h
 obtain ⟨e, he, n1, s1, _⟩ := h1.marks
 have he' : d1 = e := by simpa using he
 subst he'
 have h0 : ((List.replicate N.length false).set 0 true).getD 0 true = true := by
  rw [List.getD_eq_getElem?_getD, List.getElem?_set_self (by simpa using hN)]; rfl
 refine ⟨?_, by simp, fun x hx => ?_⟩
 ·rw [List.nodup_append]
  refine ⟨n1, by simp, fun a ha b hb e => ?_⟩
  have hb' : b = 0 := by simpa using hb
  have h2 := (s1 a).1 ha
  rw [e, hb', h0] at h2
  cases h2.1
 ·rcases List.mem_append.1 hx with hx | hx
  ·have h2 := getD_false_lt ((s1 x).1 hx).1
   simpa using h2
  ·have : x = 0 := by simpa using hx
   rw [this]; exact hN
/-- All that the nodes lead to are left, too. -/
theorem Vis.closed {l : List Nat} {m : List Bool} {d : List Nat} {m' : List Bool} {d' : List Nat} (h : Vis N l m d m' d') : (∀ c ∈ l, m'.getD c true = true) ∧ ∀ x, m.getD x true = false → m'.getD x true = true → ∀ c ∈ N.getD x [], m'.getD c true = true := by
 induction h with
 | nil m d => exact ⟨by simp, fun x h1 h2 => by rw [h1] at h2; cases h2⟩
 | @skip c l m d m' d' hs hv ih =>
  refine ⟨fun c' hc' => ?_, ih.2⟩
  rcases List.mem_cons.1 hc' with rfl | hc'
  ·obtain ⟨_, _, _, _, k⟩ := hv.marks
   exact k _ hs
  ·exact ih.1 c' hc'
 | @go c l m d m1 d1 m' d' hs h1 h2 ih1 ih2 =>
  obtain ⟨_, _, _, _, k1⟩ := h1.marks
  obtain ⟨_, _, _, _, k2⟩ := h2.marks
  have hcl := getD_false_lt hs
  have hset : ∀ x, (m.set c true).getD x true = if x = c then true else m.getD x true := fun x => by
   rw [List.getD_eq_getElem?_getD, List.getD_eq_getElem?_getD, List.getElem?_set]
   by_cases e : c = x
   ·subst e; simp [hcl]
   ·rw [if_neg e, if_neg (fun h => e h.symm)]
  refine ⟨fun c' hc' => ?_, fun x hx hx' y hy => ?_⟩
  ·rcases List.mem_cons.1 hc' with rfl | hc'
   ·exact k2 _ (k1 _ (by rw [hset, if_pos rfl]))
   ·exact ih2.1 c' hc'
  ·by_cases e : x = c
   ·rw [e] at hy
    exact k2 _ (ih1.1 y hy)
   ·cases h5 : m1.getD x true with
    | true => exact k2 _ (ih1.2 x (by rw [hset, if_neg e]; exact hx) h5 y hy)
    | false => exact ih2.2 x h5 hx' y hy
end Go.Proofs.YtjpmiejgcnfiiaaGreat.Lv
