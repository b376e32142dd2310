/-
  Arrays that a call makes: rows known whole; a part of a row of the call's own; an element set.
-/
import Derived.Test.YtjpmiejgcnfiiaaMem
import Derived.Laws.CopyRow
import Derived.Laws.OwnMore
set_option linter.unusedVariables false
set_option linter.unusedSimpArgs false
namespace Go.Proofs.Ytjpmiejgcnfiiaa
open Go Go.RowKit

section
variable {P : Program} {t e : TypeId} {s bytes : Nat} {α : Type} {f : α → List Value}
theorem wpList_make_eq {P : Program} {w : World} {ops : Array Oper} {rest : List Oper} {o : Oper} {a : Act} {Q : Exit → Act → World → Prop} (hgd : o.guard = none) (x y : Operand) (t : TypeId) (ho : o.op = .makeSlice t x y) (v u : Value) (hx : a.eval x = v) (hy : a.eval y = u)
    (v' : Value) (w' : World) (hrun : (Instr.makeSlice t v u).run P w = .ok v' w') (h : wpList P ops Q rest (a.put o.dst v') w') : wpList P ops Q (o :: rest) a w := by
  refine wpList_plain hgd fun K hK => ?_
  unfold Oper.wp
  simp [execOp, ho, hx, hy, hrun, Result.andThen]
  exact hK _ _ h

/-- make of one-cell zeros. -/
theorem make_zero {z : Value} (ht : P.underlying t = some (.slice e)) (hi : (P.info? e).map (fun i => (i.zero, i.size, i.bytes)) = some (some z, 1, bytes)) (hz : z.cells = #[z]) (w : World) (n : Nat) (hbytes : bytes * n ≤ 281474976710656) (h63 : n ≤ maxLen) :
    ∃ w', (Instr.makeSlice t (.int .i64 (n : Int)) (.int .i64 (n : Int))).run P w = .ok (.slice (some ⟨w.heap.size, 0, none⟩) n n) w' ∧ Blk w' w.heap.size e (List.replicate n z) ∧ Keep w w' := by
  obtain ⟨i, z', hi1, hz1, hsz, hby, _⟩ := info_of hi (by rw [hz]; rfl)
  have hzz : z' = z := by
    simp [hi1] at hi
    rw [hz1] at hi
    exact Option.some.inj hi.1
  subst hzz
  obtain ⟨w', hrun, ho, hg⟩ := run_make_full (P := P) (w := w) w.heap.size t e i z' 1 ht hi1 hz1 hsz .i64 .i64 n (by rw [hby]; exact hbytes) h63 (Nat.le_refl _)
  have hk : Keep w w' := (Keep.refl w).grown hg (fun k hk => by cases hk)
  rcases ho.2 with ⟨hv, _⟩ | ⟨g, cap, cur, hv, _, hh, _, _, hc, htake⟩
  · cases hv
  · injection hv with h1 h2 h3
    injection h1 with h1
    injection h1 with h1
    subst h1
    subst h3
    refine ⟨w', hrun, ?_, hk⟩
    unfold Blk
    rw [hh]
    rw [hz, Nat.mul_one, toList_madeCells_one, List.take_of_length_le (by simp; omega)] at htake
    rw [← htake]
end

section
variable {α : Type} {f : α → List Value} {s : Nat} {e : TypeId} {w : World} {base : Nat} {v : Value} {xs : List α}
theorem Own.empty_made (f : α → List Value) (s : Nat) (e : TypeId) (w : World) {base : Nat} (hb : base ≤ w.heap.size) : Own f s e (w.alloc (.cells #[] e)) base (.slice (some ⟨w.heap.size, 0, none⟩) 0 0) [] := by
  show World.ownsRow _ base e s _ 0 []
  exact World.ownsRow_made w #[] 0 hb (by simp [maxLen]) (by simp)
theorem Own.blk_apart {t : TypeId} {b : Nat} {cs : List Value} (h : Own f s e w base v xs) (h' : Blk w b t cs) (hne : e ≠ t) {k : Nat} (hk : v.ownBlock = some k) : k ≠ b := by
  rintro rfl
  rcases h.2 with ⟨rfl, _⟩ | ⟨g1, cap, cur, rfl, _, hh, _⟩
  · cases hk
  · simp only [Value.ownBlock, Option.some.injEq] at hk
    subst hk
    unfold Blk at h'
    rw [hh] at h'
    cases h'
    exact hne rfl
theorem Own.put_far (h : Own f s e w base v xs) {p : Addr} (hp : ∀ k, v.ownBlock = some k → k ≠ p.block) (u : Value) : Own f s e (w.setCell p u) base v xs :=
  h.ext (S := fun k => k = p.block) ((Ext.refl (fun k => k = p.block) w).setCell (p := p) (fun _ => rfl) u) hp
theorem Own.of_row {g : Nat} (h : Blk w g e (xs.flatMap f)) (hf : ∀ x, (f x).length = s) (hb : base ≤ g) (hm : xs.length ≤ maxLen) : Own f s e w base (.slice (some ⟨g, 0, none⟩) xs.length xs.length) xs := by
  have hl := flat_length f s hf xs
  refine ⟨hl, .inr ⟨g, xs.length, _, rfl, hb, h, Nat.le_refl _, hm, by simpa using hl, ?_⟩⟩
  simp
  exact List.take_of_length_le (by omega)
theorem Own.front {A : Option Addr} {n c : Nat} (hf : ∀ x, (f x).length = s) (h : Own f s e w base (.slice A n c) xs) {m : Nat} (hm : m ≤ xs.length) :
    Own f s e w base (.slice A m c) (xs.take m) := by
  obtain ⟨hn, _⟩ := h.segN
  subst hn
  have hl : (xs.take m).length = m := by simp; omega
  refine ⟨?_, ?_⟩
  · rw [← flat_take f s hf, List.length_take, h.1, hl]
    exact Nat.min_eq_left (Nat.mul_le_mul_right _ hm)
  · rcases h.2 with ⟨hv, hn⟩ | ⟨g, cap, cur, hv, hb, hh, hn, hcm, hcs, ht⟩
    · left
      injection hv with h1 h2 h3
      subst h1 h3
      have : m = 0 := by omega
      subst this
      exact ⟨rfl, by simp⟩
    · right
      injection hv with h1 h2 h3
      subst h1 h3
      refine ⟨g, c, cur, by rw [hl], hb, hh, by rw [hl]; omega, hcm, hcs, ?_⟩
      rw [hl, ← flat_take f s hf, ← ht, List.take_take, Nat.min_eq_left (Nat.mul_le_mul_right _ hm)]
theorem Own.addr_ge {A : Option Addr} {n c : Nat} (h : Own f s e w base (.slice A n c) xs) {ad : Addr} (ha : A = some ad) : base ≤ ad.block := by
  subst ha
  exact (h.lt ad.block rfl).1
theorem Own.addr_lt {A : Option Addr} {n c : Nat} (h : Own f s e w base (.slice A n c) xs) {ad : Addr} (ha : A = some ad) : ad.block < w.heap.size := by
  subst ha
  exact (h.lt ad.block rfl).2
/-- A cell of a row of the call's own is written. -/
theorem Own.put {g n c : Nat} (hf : ∀ x, (f x).length = s) (h : Own f s e w base (.slice (some ⟨g, 0, none⟩) n c) xs) (j : Nat) (u : Value) {ys : List α} (hy : ys.flatMap f = (xs.flatMap f).set j u) (hl : ys.length = xs.length) :
    Own f s e (w.setCell ⟨g, j, none⟩ u) base (.slice (some ⟨g, 0, none⟩) n c) ys := by
  obtain ⟨hn, _⟩ := h.segN
  subst hn
  have := (World.ownsRow.stored (g := g) h j u).1
  unfold Own
  rw [hy, hl]
  exact this
theorem Own.thawed {g n c : Nat} (h : Own f s e w base (.slice (some ⟨g, 0, none⟩) n c) xs) (j : Nat) : w.frozen? ⟨g, j, none⟩ = false := by
  obtain ⟨hn, _⟩ := h.segN
  subst hn
  exact World.ownsRow.frozenAt h j
/-- append of one element. -/
theorem Own.push1 {P : Program} {t : TypeId} {bytes : Nat} (E : ElT P t e s bytes f) (h : Own f s e w base v xs) (x : α) (hn : xs.length < 1000000) (hby : bytes ≤ 1000) (hbase : base ≤ w.heap.size) (ty : TypeId) :
    ∃ A c, v = .slice A xs.length c ∧ ∃ A' c' w2, (Builtin.append_ #[t, t] ty #[v, .slice (some ⟨w.heap.size, 0, none⟩) 1 1]).run P (w.alloc (.cells (f x).toArray e)) = .ok (.slice A' (xs.length + 1) c') w2 ∧
      Own f s e w2 base (.slice A' (xs.length + 1) c') (xs ++ [x]) ∧ Ext (fun k => base ≤ k) w w2 ∧ (∀ k, k < w.heap.size → v.ownBlock ≠ some k → w2.heap[k]? = w.heap[k]?) ∧ ∀ g t cs, Blk w g t cs → t ≠ e → Blk w2 g t cs := by
  obtain ⟨A, c, hform, _⟩ := h.form
  have hka : Keep w (w.alloc (.cells (f x).toArray e)) := (Keep.refl _).alloc _
  have hseg : Seg (w.alloc (.cells (f x).toArray e)) (some ⟨w.heap.size, 0, none⟩) ([x].flatMap f) := by
    have : [x].flatMap f = f x := by simp
    rw [this]
    exact Seg.of_blk (Blk.new w e (f x))
  have hmul : (xs.length + 1) * bytes ≤ (xs.length + 1) * 1000 := Nat.mul_le_mul_left _ hby
  obtain ⟨v', w2, hrun, hown, hg, _⟩ := append_run (ys := [x]) E (h.keep hka) hseg 1 ty (by simp [maxLen]; omega) (by simp; omega) (Nat.le_trans hbase hka.size)
  obtain ⟨A', c', rfl, _⟩ := hown.form
  refine ⟨A, c, hform, A', c', w2, by simpa using hrun, by simpa using hown, (hka.ext _).grown hg (fun k hk _ => (h.lt k hk).1), fun k hk hne => ?_, fun g t cs hb ht => ?_⟩
  · exact (hg.block k (Nat.lt_of_lt_of_le hk hka.size) (fun e => hne e.symm)).trans (hka.block k hk)
  · exact (hg.block g (hb.keep hka).lt (fun e' => h.blk_apart hb (fun e1 => ht e1.symm) e'.symm rfl)).trans (hb.keep hka)
end

/-! ### Integers, truth values -/
def intC (n : Int) : List Value := [.int .i64 n]
def boolC (b : Bool) : List Value := [.bool b]
theorem flat_int (l : List Int) : l.flatMap intC = l.map (Value.int .i64) := by
  induction l with
  | nil => rfl
  | cons x l ih => rw [List.flatMap_cons, ih]; rfl
theorem flat_bool (l : List Bool) : l.flatMap boolC = l.map Value.bool := by
  induction l with
  | nil => rfl
  | cons x l ih => rw [List.flatMap_cons, ih]; rfl
theorem int_at {w wr : World} {A : Option Addr} {l : List Int} (h : Seg w A (l.flatMap intC)) (hkeep : Keep w wr) {k : Nat} (hk : k < l.length) :
    ∃ b off, A = some ⟨b, off, none⟩ ∧ b < w.heap.size ∧ wr.cell? ⟨b, off + k, none⟩ = some (.int .i64 l[k]) := by
  obtain ⟨b, off, e, hb, hc⟩ := h.elem 1 (fun _ => rfl) (by omega) hk
  exact ⟨b, off, e, hb, by have := hkeep.cell (hc 0 _ rfl); simpa using this⟩
theorem bool_at {w wr : World} {A : Option Addr} {l : List Bool} (h : Seg w A (l.flatMap boolC)) (hkeep : Keep w wr) {k : Nat} (hk : k < l.length) :
    ∃ b off, A = some ⟨b, off, none⟩ ∧ b < w.heap.size ∧ wr.cell? ⟨b, off + k, none⟩ = some (.bool l[k]) := by
  obtain ⟨b, off, e, hb, hc⟩ := h.elem 1 (fun _ => rfl) (by omega) hk
  exact ⟨b, off, e, hb, by have := hkeep.cell (hc 0 _ rfl); simpa using this⟩

/-- An array of integers, known whole. -/
abbrev IBlk (w : World) (b : Nat) (t : TypeId) (l : List Int) : Prop := Blk w b t (l.map (Value.int .i64))
abbrev BBlk (w : World) (b : Nat) (t : TypeId) (l : List Bool) : Prop := Blk w b t (l.map Value.bool)
section
variable {w : World} {b : Nat} {t : TypeId}
theorem IBlk.get {l : List Int} (h : IBlk w b t l) {k : Nat} (hk : k < l.length) : w.cell? ⟨b, k, none⟩ = some (.int .i64 l[k]) := by
  rw [h.cell]; simp [hk]
theorem BBlk.get {l : List Bool} (h : BBlk w b t l) {k : Nat} (hk : k < l.length) : w.cell? ⟨b, k, none⟩ = some (.bool l[k]) := by
  rw [h.cell]; simp [hk]
theorem IBlk.put {l : List Int} (h : IBlk w b t l) (k : Nat) (x : Int) : IBlk (w.setCell ⟨b, k, none⟩ (.int .i64 x)) b t (l.set k x) := by
  have := h.set_ k (.int .i64 x)
  rwa [← List.map_set] at this
theorem BBlk.put {l : List Bool} (h : BBlk w b t l) (k : Nat) (x : Bool) : BBlk (w.setCell ⟨b, k, none⟩ (.bool x)) b t (l.set k x) := by
  have := h.set_ k (.bool x)
  rwa [← List.map_set] at this
theorem IBlk.seg {l : List Int} (h : IBlk w b t l) : Seg w (some ⟨b, 0, none⟩) (l.flatMap intC) := by
  rw [flat_int]; exact Seg.of_blk h
theorem BBlk.seg {l : List Bool} (h : BBlk w b t l) : Seg w (some ⟨b, 0, none⟩) (l.flatMap boolC) := by
  rw [flat_bool]; exact Seg.of_blk h
theorem IBlk.own {l : List Int} (h : IBlk w b t l) {base : Nat} (hb : base ≤ b) (hm : l.length ≤ maxLen) : Own intC 1 t w base (.slice (some ⟨b, 0, none⟩) l.length l.length) l :=
  Own.of_row (by rw [flat_int]; exact h) (fun _ => rfl) hb hm
theorem BBlk.own {l : List Bool} (h : BBlk w b t l) {base : Nat} (hb : base ≤ b) (hm : l.length ≤ maxLen) : Own boolC 1 t w base (.slice (some ⟨b, 0, none⟩) l.length l.length) l :=
  Own.of_row (by rw [flat_bool]; exact h) (fun _ => rfl) hb hm
end
/-- Only block b has changed. -/
theorem Ext.one {w : World} (b i : Nat) (u : Value) : Ext (fun k => k = b) w (w.setCell ⟨b, i, none⟩ u) := (Ext.refl (fun k => k = b) w).setCell (p := ⟨b, i, none⟩) (fun _ => rfl) u
theorem Keep.of_ext {S : Nat → Prop} {a b c : World} (h : Keep a b) (hE : Ext S b c) (hs : ∀ k, k < a.heap.size → ¬ S k) : Keep a c :=
  ⟨hE.os.trans h.os, hE.tape.trans h.tape, hE.output.trans h.output, Nat.le_trans h.size hE.size, fun k hk => (hE.block k (Nat.lt_of_lt_of_le hk h.size) (hs k hk)).trans (h.block k hk)⟩
end Go.Proofs.Ytjpmiejgcnfiiaa
