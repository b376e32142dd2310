/-
  Slices of slices that a call makes: a row of rows that grows at its end; an array of rows each of which grows.
-/
import Derived.Test.YtjpmiejgcnfiiaaArr
set_option linter.unusedVariables false
set_option linter.unusedSimpArgs false
namespace Go.Proofs.Ytjpmiejgcnfiiaa
open Go Go.RowKit

/-- A row as a value. -/
structure RowG (α : Type) where
  a : Option Addr
  l : List α
  c : Nat
def RowG.v {α : Type} (x : RowG α) : Value := .slice x.a x.l.length x.c
def rowG {α : Type} (x : RowG α) : List Value := [x.v]
theorem rowG_of {α : Type} {f : α → List Value} {s : Nat} {e : TypeId} {w : World} {base : Nat} {v : Value} {l : List α} (h : Own f s e w base v l) : ∃ x : RowG α, x.l = l ∧ x.v = v := by
  obtain ⟨A, c, rfl, _⟩ := h.form
  exact ⟨⟨A, l, c⟩, rfl, rfl⟩

theorem Own.kinds {α β : Type} {f : α → List Value} {g : β → List Value} {s s' : Nat} {e e' : TypeId} {w : World} {base base' : Nat} {v v' : Value} {xs : List α} {ys : List β} (h : Own f s e w base v xs) (h' : Own g s' e' w base' v' ys) (hne : e ≠ e') {k : Nat} (hk : v.ownBlock = some k) : v'.ownBlock ≠ some k := by
  intro hk'
  rcases h.2 with ⟨rfl, _⟩ | ⟨g1, cap, cur, rfl, _, hh, _⟩
  · cases hk
  · rcases h'.2 with ⟨rfl, _⟩ | ⟨g2, cap', cur', rfl, _, hh', _⟩
    · cases hk'
    · simp only [Value.ownBlock, Option.some.injEq] at hk hk'
      subst hk
      subst hk'
      rw [hh] at hh'
      cases hh'
      exact hne rfl

theorem rep_get {β : Type} {n i : Nat} {z v : β} (h : (List.replicate n z)[i]? = some v) : v = z := by
  rw [List.getElem?_replicate] at h
  split at h
  · exact (Option.some.inj h).symm
  · cases h

section
variable {α : Type}
/-- A row of rows of the call's own. -/
def OutRows (f : α → List Value) (s : Nat) (ei eo : TypeId) (w : World) (base : Nat) (v : Value) (L : List (List α)) : Prop :=
  ∃ rs : List (RowG α), rs.map (·.l) = L ∧ Own rowG 1 eo w base v rs ∧ ∀ x ∈ rs, Own f s ei w base x.v x.l
variable {f : α → List Value} {s : Nat} {ei eo : TypeId} {w w' : World} {base : Nat} {v : Value} {L : List (List α)}
theorem OutRows.nil (f : α → List Value) (s : Nat) (ei eo : TypeId) (w : World) (base : Nat) : OutRows f s ei eo w base (.slice none 0 0) [] :=
  ⟨[], rfl, Own.nil _ _ _ _ _, fun x hx => by simp at hx⟩
theorem OutRows.keep (h : OutRows f s ei eo w base v L) (hk : Keep w w') : OutRows f s ei eo w' base v L := by
  obtain ⟨rs, e, h1, h2⟩ := h
  exact ⟨rs, e, h1.keep hk, fun x hx => (h2 x hx).keep hk⟩
theorem OutRows.mono {base' : Nat} (h : OutRows f s ei eo w base v L) (hb : base' ≤ base) : OutRows f s ei eo w base' v L := by
  obtain ⟨rs, e, h1, h2⟩ := h
  exact ⟨rs, e, h1.mono hb, fun x hx => (h2 x hx).mono hb⟩
theorem OutRows.form (h : OutRows f s ei eo w base v L) : ∃ A c, v = .slice A L.length c ∧ L.length ≤ c ∧ c ≤ maxLen := by
  obtain ⟨rs, e, h1, _⟩ := h
  obtain ⟨A, c, e1, h2, h3⟩ := h1.form
  have : L.length = rs.length := by rw [← e]; simp
  exact ⟨A, c, by rw [e1, this], by omega, h3⟩
theorem OutRows.push {P : Program} {to : TypeId} {bytes : Nat} (E : ElT P to eo 1 bytes (rowG (α := α))) (hne : ei ≠ eo) (h : OutRows f s ei eo w base v L) (x : RowG α) (hx : Own f s ei w base x.v x.l) (hn : L.length < 1000000) (hb : bytes ≤ 1000) (hbase : base ≤ w.heap.size) (ty : TypeId) :
    ∃ v' w2, (Builtin.append_ #[to, to] ty #[v, .slice (some ⟨w.heap.size, 0, none⟩) 1 1]).run P (w.alloc (.cells #[x.v] eo)) = .ok v' w2 ∧ OutRows f s ei eo w2 base v' (L ++ [x.l]) ∧ Ext (fun k => base ≤ k) w w2 := by
  obtain ⟨rs, e, h1, h2⟩ := h
  have hlen : L.length = rs.length := by rw [← e]; simp
  have hka : Keep w (w.alloc (.cells #[x.v] eo)) := (Keep.refl _).alloc _
  have hseg : Seg (w.alloc (.cells #[x.v] eo)) (some ⟨w.heap.size, 0, none⟩) ([x].flatMap rowG) := Seg.of_blk (Blk.new w eo ([x].flatMap rowG))
  have hmul : (rs.length + 1) * bytes ≤ (rs.length + 1) * 1000 := Nat.mul_le_mul_left _ hb
  obtain ⟨v', w2, hrun, ho, hg, _⟩ := append_run (ys := [x]) E (h1.keep hka) hseg 1 ty (by simp [maxLen]; omega) (by simp; omega) (Nat.le_trans hbase hka.size)
  have hlow : ∀ k, v.ownBlock = some k → base ≤ k := fun k hk => (h1.lt k hk).1
  refine ⟨v', w2, hrun, ⟨rs ++ [x], by simp [e], ho, fun y hy => ?_⟩, (hka.ext _).grown hg (fun k hk _ => hlow k hk)⟩
  have hy' : Own f s ei w base y.v y.l := by
    rcases List.mem_append.1 hy with h3 | h3
    · exact h2 y h3
    · obtain rfl : y = x := by simpa using h3
      exact hx
  refine (hy'.keep hka).grown hg ?_
  cases hq : y.v.ownBlock with
  | none => exact .inl rfl
  | some k => exact .inr fun e => hy'.kinds h1 hne hq e.symm
/-- As rows that can be read. -/
theorem OutRows.read (h : OutRows f s ei eo w base v L) : ∃ (rs : List (RowG α)) (A : Option Addr) (c : Nat), rs.map (·.l) = L ∧ v = .slice A rs.length c ∧ Seg w A (rs.flatMap rowG) ∧ (∀ x ∈ rs, Seg w x.a (x.l.flatMap f)) ∧ rs.length ≤ maxLen ∧ ∀ x ∈ rs, x.l.length ≤ maxLen := by
  obtain ⟨rs, e, h1, h2⟩ := h
  obtain ⟨A, c, rfl, h3, h4⟩ := h1.form
  refine ⟨rs, A, c, e, rfl, h1.seg, fun x hx => (h2 x hx).segN.2, Nat.le_trans h3 h4, fun x hx => ?_⟩
  obtain ⟨B, d, e1, h5, h6⟩ := (h2 x hx).form
  exact Nat.le_trans h5 h6

/-- An array, made whole, of rows of the call's own, no two in one block. -/
def RowsAt (f : α → List Value) (s : Nat) (ei eo : TypeId) (w : World) (b base : Nat) (L : List (List α)) : Prop :=
  ∃ vs : List Value, Blk w b eo vs ∧ vs.length = L.length ∧ (∀ (i : Nat) v l, vs[i]? = some v → L[i]? = some l → Own f s ei w base v l) ∧
    ∀ (i j : Nat) v u k, i ≠ j → vs[i]? = some v → vs[j]? = some u → v.ownBlock = some k → u.ownBlock ≠ some k
theorem RowsAt.made {b : Nat} (f : α → List Value) (s : Nat) (ei : TypeId) (base n : Nat) (h : Blk w b eo (List.replicate n (.slice none 0 0))) : RowsAt f s ei eo w b base (List.replicate n []) := by
  refine ⟨_, h, by simp, fun i v l hv hl => ?_, fun i j v u k _ hv _ hk => ?_⟩
  · obtain rfl := rep_get hv
    obtain rfl := rep_get hl
    exact Own.nil _ _ _ _ _
  · obtain rfl := rep_get hv
    cases hk
theorem RowsAt.ext {b : Nat} {S : Nat → Prop} (h : RowsAt f s ei eo w b base L) (hE : Ext S w w') (hb : ¬ S b) (hs : ∀ k, base ≤ k → ¬ S k) : RowsAt f s ei eo w' b base L := by
  obtain ⟨vs, h1, h2, h3, h4⟩ := h
  exact ⟨vs, h1.ext hE hb, h2, fun i v l hv hl => (h3 i v l hv hl).ext hE (fun k hk => hs k ((h3 i v l hv hl).lt k hk).1), h4⟩
theorem RowsAt.keep {b : Nat} (h : RowsAt f s ei eo w b base L) (hk : Keep w w') : RowsAt f s ei eo w' b base L := by
  obtain ⟨vs, h1, h2, h3, h4⟩ := h
  exact ⟨vs, h1.keep hk, h2, fun i v l hv hl => (h3 i v l hv hl).keep hk, h4⟩
/-- Some other array is written. -/
theorem RowsAt.put_far {b : Nat} (h : RowsAt f s ei eo w b base L) {g i : Nat} {t : TypeId} {cs : List Value} (hg : Blk w g t cs) (h1 : g ≠ b) (h2 : g < base ∨ t ≠ ei) (u : Value) : RowsAt f s ei eo (w.setCell ⟨g, i, none⟩ u) b base L := by
  obtain ⟨vs, a1, a2, a3, a4⟩ := h
  refine ⟨vs, a1.far (p := ⟨g, i, none⟩) (fun e => h1 e.symm) u, a2, fun i v l hv hl => (a3 i v l hv hl).put_far (fun k hk => ?_) u, a4⟩
  rcases h2 with h2 | h2
  · have := ((a3 i v l hv hl).lt k hk).1
    show k ≠ g
    omega
  · exact (a3 i v l hv hl).blk_apart hg (fun e => h2 e.symm) hk
theorem RowsAt.push {P : Program} {ti : TypeId} {bytes : Nat} (E : ElT P ti ei s bytes f) (hne : ei ≠ eo) {b : Nat} (h : RowsAt f s ei eo w b base L) {a : Nat} (ha : a < L.length) (x : α) (hn : L[a].length < 1000000) (hby : bytes ≤ 1000) (hbase : base ≤ w.heap.size) (ty : TypeId) :
    ∃ A c, w.cell? ⟨b, a, none⟩ = some (.slice A L[a].length c) ∧ ∃ v' w2, (∃ A' c', v' = .slice A' (L[a].length + 1) c') ∧ (Builtin.append_ #[ti, ti] ty #[.slice A L[a].length c, .slice (some ⟨w.heap.size, 0, none⟩) 1 1]).run P (w.alloc (.cells (f x).toArray ei)) = .ok v' w2 ∧
      w2.cell? ⟨b, a, none⟩ = some (.slice A L[a].length c) ∧ w2.frozen? ⟨b, a, none⟩ = false ∧ b < w2.heap.size ∧
      RowsAt f s ei eo (w2.setCell ⟨b, a, none⟩ v') b base (L.set a (L[a] ++ [x])) ∧ Ext (fun k => k = b ∨ base ≤ k) w (w2.setCell ⟨b, a, none⟩ v') ∧ ∀ g t cs, Blk w g t cs → g ≠ b → t ≠ ei → Blk (w2.setCell ⟨b, a, none⟩ v') g t cs := by
  obtain ⟨vs, h1, h2, h3, h4⟩ := h
  have hv : vs[a]? = some vs[a] := List.getElem?_eq_getElem (by omega)
  have hl : L[a]? = some L[a] := List.getElem?_eq_getElem ha
  have ho := h3 a _ _ hv hl
  obtain ⟨A, c, hform, _⟩ := ho.form
  have hka : Keep w (w.alloc (.cells (f x).toArray ei)) := (Keep.refl _).alloc _
  have hseg : Seg (w.alloc (.cells (f x).toArray ei)) (some ⟨w.heap.size, 0, none⟩) ([x].flatMap f) := by
    have : [x].flatMap f = f x := by simp
    rw [this]
    exact Seg.of_blk (Blk.new w ei (f x))
  have hmul : (L[a].length + 1) * bytes ≤ (L[a].length + 1) * 1000 := Nat.mul_le_mul_left _ hby
  obtain ⟨v', w2, hrun, hown, hg, hgb⟩ := append_run (ys := [x]) E (ho.keep hka) hseg 1 ty (by simp [maxLen]; omega) (by simp; omega) (Nat.le_trans hbase hka.size)
  have hbr : ∀ k, vs[a].ownBlock = some k → k ≠ b := fun k hk => ho.blk_apart h1 hne hk
  have hb2 : Blk w2 b eo vs := by
    have hbk := h1.keep hka
    exact (hg.block b hbk.lt (fun e => hbr b e.symm rfl)).trans hbk
  have hE : Ext (fun k => k = b ∨ base ≤ k) w (w2.setCell ⟨b, a, none⟩ v') :=
    ((hka.ext _).grown hg (fun k hk _ => .inr (ho.lt k hk).1)).setCell (p := ⟨b, a, none⟩) (fun _ => .inl rfl) v'
  refine ⟨A, c, ?_, v', w2, (by obtain ⟨A', c', e', _⟩ := hown.form; exact ⟨A', c', by rw [e']; simp⟩), by rw [← hform]; exact hrun, ?_, hb2.frozen a, hb2.lt, ⟨vs.set a v', hb2.set_ a v', by simp [h2], ?_, ?_⟩, hE, ?_⟩
  · rw [h1.cell, hv, hform]
  · rw [hb2.cell, hv, hform]
  · intro i v l hi hli
    by_cases e : a = i
    · subst e
      rw [List.getElem?_set_self (by omega)] at hi hli
      cases hi
      cases hli
      exact hown.put_far (fun k hk => hown.blk_apart hb2 hne hk) _
    · rw [List.getElem?_set_ne e] at hi hli
      have hoi := h3 i v l hi hli
      have hoi2 : Own f s ei w2 base v l := (hoi.keep hka).grown hg (by
        cases hq : v.ownBlock with
        | none => exact .inl rfl
        | some k => exact .inr fun e1 => h4 a i _ _ k e hv hi e1.symm hq)
      exact hoi2.put_far (fun k hk => hoi2.blk_apart hb2 hne hk) _
  · intro i j v u k hij hi hj hk
    by_cases ei' : a = i
    · subst ei'
      rw [List.getElem?_set_self (by omega)] at hi
      cases hi
      rw [List.getElem?_set_ne hij] at hj
      rcases hgb with e | e
      · exact h4 a j _ _ k hij hv hj (e ▸ hk)
      · intro hu
        have hjl : j < L.length := by have := (List.getElem?_eq_some_iff.1 hj).1; omega
        have h5 : k < w.heap.size := ((h3 j u L[j] hj (List.getElem?_eq_getElem hjl)).lt k hu).2
        rw [hk] at e
        have h6 := Option.some.inj e
        have h7 := hka.size
        omega
    · rw [List.getElem?_set_ne ei'] at hi
      by_cases ej : a = j
      · subst ej
        rw [List.getElem?_set_self (by omega)] at hj
        cases hj
        intro hu
        rcases hgb with e | e
        · exact h4 i a _ _ k hij hi hv hk (e ▸ hu)
        · have hil : i < L.length := by have := (List.getElem?_eq_some_iff.1 hi).1; omega
          have h5 : k < w.heap.size := ((h3 i v L[i] hi (List.getElem?_eq_getElem hil)).lt k hk).2
          rw [hu] at e
          have h6 := Option.some.inj e
          have h7 := hka.size
          omega
      · rw [List.getElem?_set_ne ej] at hj
        exact h4 i j v u k hij hi hj hk
  · intro g t cs hgB hgb' hte
    have hB2 : Blk w2 g t cs := (hg.block g (hgB.keep hka).lt (fun e => ho.blk_apart hgB (fun e' => hte e'.symm) e.symm rfl)).trans (hgB.keep hka)
    exact hB2.far (p := ⟨b, a, none⟩) hgb' v'
/-- As rows that can be read. -/
theorem RowsAt.read {b : Nat} (h : RowsAt f s ei eo w b base L) : ∃ rs : List (RowG α), rs.map (·.l) = L ∧ Seg w (some ⟨b, 0, none⟩) (rs.flatMap rowG) ∧ (∀ x ∈ rs, Seg w x.a (x.l.flatMap f)) ∧ rs.length = L.length ∧ (∀ x ∈ rs, x.l.length ≤ maxLen) ∧ ∀ x ∈ rs, ∀ ad, x.a = some ad → base ≤ ad.block := by
  obtain ⟨vs, h1, h2, h3, h4⟩ := h
  have key : ∀ m, m ≤ L.length → ∃ rs : List (RowG α), rs.map (·.l) = L.take m ∧ rs.map RowG.v = vs.take m ∧ (∀ x ∈ rs, Seg w x.a (x.l.flatMap f)) ∧ (∀ x ∈ rs, x.l.length ≤ maxLen) ∧ ∀ x ∈ rs, ∀ ad, x.a = some ad → base ≤ ad.block := by
    intro m
    induction m with
    | zero => exact fun _ => ⟨[], rfl, rfl, fun x hx => by simp at hx, fun x hx => by simp at hx, fun x hx => by simp at hx⟩
    | succ m ih =>
      intro hm
      obtain ⟨rs, e1, e2, e3, e4, e5⟩ := ih (by omega)
      have ho := h3 m _ _ (List.getElem?_eq_getElem (by omega)) (List.getElem?_eq_getElem (show m < L.length by omega))
      obtain ⟨A, c, hf, h5, h6⟩ := ho.form
      rw [hf] at ho
      refine ⟨rs ++ [⟨A, L[m], c⟩], ?_, ?_, ?_, ?_, ?_⟩
      · rw [List.map_append, e1, take_snoc L (by omega)]; rfl
      · rw [List.map_append, e2, take_snoc vs (by omega), hf]; rfl
      · intro x hx
        rcases List.mem_append.1 hx with h | h
        · exact e3 x h
        · obtain rfl : x = ⟨A, L[m], c⟩ := by simpa using h
          exact ho.segN.2
      · intro x hx
        rcases List.mem_append.1 hx with h | h
        · exact e4 x h
        · obtain rfl : x = ⟨A, L[m], c⟩ := by simpa using h
          exact Nat.le_trans h5 h6
      · intro x hx
        rcases List.mem_append.1 hx with h | h
        · exact e5 x h
        · obtain rfl : x = ⟨A, L[m], c⟩ := by simpa using h
          exact fun ad e => ho.addr_ge e
  obtain ⟨rs, e1, e2, e3, e4, e5⟩ := key L.length (Nat.le_refl _)
  rw [List.take_length] at e1
  rw [List.take_of_length_le (by omega)] at e2
  have hfl : rs.flatMap rowG = vs := by
    rw [← e2]
    clear e1 e2 e3 e4 e5
    induction rs with
    | nil => rfl
    | cons x r ih => rw [List.flatMap_cons, ih]; rfl
  exact ⟨rs, e1, by rw [hfl]; exact Seg.of_blk h1, e3, by rw [← e1]; simp, e4, e5⟩
end
end Go.Proofs.Ytjpmiejgcnfiiaa
