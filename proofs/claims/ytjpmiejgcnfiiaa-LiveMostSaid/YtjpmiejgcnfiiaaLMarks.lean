/-
  What the program's found stands on: marks, a loop whose frame gathers marks, rows made.
-/
import Derived.Test.YtjpmiejgcnfiiaaLEqual
set_option linter.unusedVariables false
set_option linter.unusedSimpArgs false
namespace Go.Proofs.Ytjpmiejgcnfiiaa
open Go Go.RowKit Go.Shelf

/-- Marks that loops over functions have left: each at its own shut block. -/
def Marks (B : Nat) (w : World) : List Deferred → Prop
  | [] => True
  | d :: ds => ∃ D, d = { target := .collected D, args := #[] } ∧ B ≤ D ∧ w.heap[D]? = some (.deferred (some [])) ∧ (∀ e ∈ ds, e.target ≠ .collected D) ∧ Marks B w ds
theorem Marks.keep {B : Nat} {w w' : World} (hk : ∀ (k : Nat) (o : Obj), w.heap[k]? = some o → o.isCells = false → w'.heap[k]? = some o) : ∀ {ds : List Deferred}, Marks B w ds → Marks B w' ds
  | [], _ => trivial
  | d :: ds, ⟨D, h1, h2, h3, h4, h5⟩ => ⟨D, h1, h2, hk D _ h3 rfl, h4, Marks.keep hk h5⟩
theorem Marks.put {B : Nat} {w : World} {D : Nat} (o : Obj) : ∀ {ds : List Deferred}, (∀ e ∈ ds, e.target ≠ .collected D) → Marks B w ds → Marks B (w.putObj D o) ds
  | [], _, _ => trivial
  | d :: ds, hn, ⟨D', h1, h2, h3, h4, h5⟩ => ⟨D', h1, h2, by
      rw [World.putObj_heap_other (by
        intro e
        exact hn d (by simp) (by rw [h1, e]))]
      exact h3, h4, Marks.put o (fun e he => hn e (by simp [he])) h5⟩
theorem Marks.fresh {B : Nat} {w : World} : ∀ {ds : List Deferred}, Marks B w ds → ∀ e ∈ ds, ∀ D, e.target = .collected D → D < w.heap.size
  | [], _, e, he, _, _ => by simp at he
  | d :: ds, ⟨D, h1, h2, h3, h4, h5⟩, e, he, D', hD => by
    rcases List.mem_cons.1 he with rfl | he
    · subst h1
      injection hD with hD
      subst hD
      exact (Array.getElem?_eq_some_iff.1 h3).1
    · exact Marks.fresh h5 e he D' hD
theorem Marks.push {B : Nat} {w0 w : World} {ds : List Deferred} (h0 : Marks B w0 ds) (h : Marks B w ds) {D : Nat} (hD : w0.heap.size ≤ D) (hB : B ≤ D) (hK : w.heap[D]? = some (.deferred (some []))) : Marks B w ({ target := .collected D, args := #[] } :: ds) :=
  ⟨D, rfl, hB, hK, fun e he heq => by have := h0.fresh e he D heq; omega, h⟩
/-- Blocks from B on that are no cells. -/
def NoCells (B : Nat) (w : World) (k : Nat) : Prop := B ≤ k ∧ ∃ o, w.heap[k]? = some o ∧ o.isCells = false
/-- A function leaves with its marks: only they are shut. -/
theorem leaves_marks {F : Fence} {n : Nat} {P : Program} {fn : Func} {tmps : Array Value} {R : Ending → World → Prop} {B : Nat} : ∀ (ds : List Deferred) (w : World), Marks B w ds →
    (∀ w', Ext (NoCells B w) w w' → LeavesInM F n P fn tmps R [] .returning w') → LeavesInM F n P fn tmps R ds .returning w
  | [], w, _, h => h w (Ext.refl _ _)
  | d :: ds, w, ⟨D, h1, h2, h3, h4, h5⟩, h => by
    refine ⟨by simp, .inl ⟨D, _, by rw [h1], run_takeDeferred h3, ?_⟩⟩
    refine leaves_marks ds _ (Marks.put _ h4 h5) fun w' hE => h w' ?_
    have h0 : Ext (NoCells B w) w (w.putObj D (.deferred none)) := ext_putObj _ h3 ⟨h2, _, h3, rfl⟩
    refine h0.trans hE fun k hk ⟨k1, o, k2, k3⟩ => ?_
    by_cases e : k = D
    · subst e; exact ⟨k1, _, h3, rfl⟩
    · rw [World.putObj_heap_other e] at k2
      exact ⟨k1, o, k2, k3⟩
/-- Rows none of which lies in block av. -/
def NRowsA (w : World) (b base av : Nat) (L : List (List Bool)) : Prop :=
  ∃ vs : List Value, Blk w b 68 vs ∧ vs.length = L.length ∧ (∀ (i : Nat) v l, vs[i]? = some v → L[i]? = some l → Own boolC 1 4 w base v l) ∧ ∀ (i : Nat) v, vs[i]? = some v → v.ownBlock ≠ some av
section
variable {w w' : World} {b base av B : Nat} {L : List (List Bool)}
theorem NRowsA.rows (h : NRowsA w b base av L) : NRows w b base L := by
  obtain ⟨vs, h1, h2, h3, _⟩ := h
  exact ⟨vs, h1, h2, h3⟩
theorem NRows.away (h : NRows w b base L) (hk : Keep w w') (hav : w.heap.size ≤ av) : NRowsA w' b base av L := by
  obtain ⟨vs, h1, h2, h3⟩ := h
  refine ⟨vs, h1.keep hk, h2, fun i v l hv hl => (h3 i v l hv hl).keep hk, fun i v hv e => ?_⟩
  obtain ⟨l, hl⟩ := get_some (l := L) (k := i) (by have := (List.getElem?_eq_some_iff.1 hv).1; omega)
  have := ((h3 i v l hv hl).lt av e).2
  omega
theorem NRowsA.keep (h : NRowsA w b base av L) (hk : Keep w w') : NRowsA w' b base av L := by
  obtain ⟨vs, h1, h2, h3, h4⟩ := h
  exact ⟨vs, h1.keep hk, h2, fun i v l hv hl => (h3 i v l hv hl).keep hk, h4⟩
theorem NRowsA.marks (h : NRowsA w b base av L) (hE : Ext (NoCells B w) w w') : NRowsA w' b base av L := by
  obtain ⟨vs, h1, h2, h3, h4⟩ := h
  refine ⟨vs, h1.ext hE (fun ⟨_, o, ho, hc⟩ => ?_), h2, fun i v l hv hl => (h3 i v l hv hl).ext hE (fun k hk ⟨_, o, ho, hc⟩ => ?_), h4⟩
  · unfold Blk at h1
    rw [h1] at ho; cases ho; cases hc
  · rcases (h3 i v l hv hl).2 with ⟨rfl, _⟩ | ⟨g1, cap, cur, rfl, _, hh, _⟩
    · cases hk
    · simp only [Value.ownBlock, Option.some.injEq] at hk
      subst hk
      rw [hh] at ho; cases ho; cases hc
theorem NRowsA.turn {row : Option Nat} (h : NRowsA w b base av L) (hg : w.grownBy w' row) (hr : ∀ r, row = some r → B ≤ r ∧ ∃ o : Obj, w.heap[r]? = some o ∧ o.isCells = false) : NRowsA w' b base av L :=
  h.marks (B := 0) ((Ext.of_grown hg).mono fun k _ e => ⟨Nat.zero_le _, (hr k e).2⟩)
theorem NRowsA.other (h : NRowsA w b base av L) (hne : b ≠ av) (j : Nat) (u : Value) : NRowsA (w.setCell ⟨av, j, none⟩ u) b base av L := by
  obtain ⟨vs, h1, h2, h3, h4⟩ := h
  exact ⟨vs, h1.far (p := ⟨av, j, none⟩) hne u, h2, fun i v l hv hl => (h3 i v l hv hl).put_far (fun q hq e => h4 i v hv (by rw [hq, e])) u, h4⟩
theorem NRowsA.put (h : NRowsA w b base av L) {i : Nat} {A : Option Addr} {c : Nat} {l : List Bool} (hl : Own boolC 1 4 w base (.slice A l.length c) l) (hav : (Value.slice A l.length c).ownBlock ≠ some av) : NRowsA (w.setCell ⟨b, i, none⟩ (.slice A l.length c)) b base av (L.set i l) := by
  obtain ⟨vs, h1, h2, h3, h4⟩ := h
  refine ⟨_, h1.set_ i _, by simp [h2], fun j v k hv hk => ?_, fun j v hv => ?_⟩
  · by_cases e : i = j
    · subst e
      have hi := (List.getElem?_eq_some_iff.1 hv).1
      rw [List.length_set] at hi
      rw [List.getElem?_set_self hi] at hv
      rw [List.getElem?_set_self (by omega)] at hk
      cases hv; cases hk
      exact hl.put_far (fun q hq => hl.blk_apart h1 (by decide) hq) _
    · rw [List.getElem?_set_ne e] at hv hk
      exact (h3 j v k hv hk).put_far (fun q hq => (h3 j v k hv hk).blk_apart h1 (by decide) hq) _
  · by_cases e : i = j
    · subst e
      have hi := (List.getElem?_eq_some_iff.1 hv).1
      rw [List.length_set] at hi
      rw [List.getElem?_set_self hi] at hv
      cases hv; exact hav
    · rw [List.getElem?_set_ne e] at hv
      exact h4 j v hv
end
theorem others_of_ext2 {w w' : World} {b base c : Nat} {L : List (List Bool)} {t : TypeId} {cs : List Value} (h : NRows w b base L) (hc : Blk w c t cs) (hE : Ext (fun k => k = b ∨ k = c) w w') (k : Nat) (o : Obj) (ho : w.heap[k]? = some o) (hn : o.isCells = false) : w'.heap[k]? = some o := by
  have hk := (Array.getElem?_eq_some_iff.1 ho).1
  rw [hE.block k hk (fun e => ?_)]
  · exact ho
  · obtain ⟨vs, h1, _⟩ := h
    unfold Blk at h1 hc
    rcases e with rfl | rfl
    · rw [h1] at ho; cases ho; cases hn
    · rw [hc] at ho; cases ho; cases hn

/-! ### A loop three slots of whose frame turn, and that gathers marks -/

def fr3 (tm : Array Value) (i j k : Nat) (x y z : Value) : Array Value := ((tm.setIfInBounds i x).setIfInBounds j y).setIfInBounds k z
theorem wp_loop_fr3 {P : Program} {Q : Exit → Act → World → Prop} {c : Code} {tm : Array Value} {w : World} (i j k : Nat) (x0 y0 z0 : Value) (htm : tm = fr3 tm i j k x0 y0 z0) (I : Nat → List Deferred → World → Prop) (n₀ : Nat) (h₀ : I n₀ [] w)
    (round : ∀ n ds x y z W, I n ds W → ∀ (J : Act → World → Prop), (∀ n' ds' x' y' z' a' W', n' < n → a' = { tmps := fr3 tm i j k x' y' z', defers := ds' } → I n' ds' W' → J a' W') → c.wp P (Exit.then J Q) { tmps := fr3 tm i j k x y z, defers := ds } W) :
    (Code.loop c).wp P Q { tmps := tm, defers := [] } w := by
  refine wp_loop_ghost (fun n a W => ∃ ds x y z, a = { tmps := fr3 tm i j k x y z, defers := ds } ∧ I n ds W) n₀ ⟨[], x0, y0, z0, by rw [← htm], h₀⟩ ?_
  rintro n a W ⟨ds, x, y, z, rfl, hI⟩
  exact round n ds x y z W hI _ (fun n' ds' x' y' z' a' W' h1 h2 h3 => ⟨n', h1, ds', x', y', z', h2, h3⟩)

/-! ### Rows made -/

theorem make_rows (w : World) (n : Nat) (h : n ≤ 1000000) : ∃ w', (Instr.makeSlice 64 (.int .i64 (n : Int)) (.int .i64 (n : Int))).run Try.prog w = .ok (.slice (some ⟨w.heap.size, 0, none⟩) n n) w' ∧ Blk w' w.heap.size 68 (List.replicate n (.slice none 0 0)) ∧ Keep w w' :=
  make_zero (P := Try.prog) (z := .slice none 0 0) (bytes := 24) Try.underlying64 (by kernel_rfl) rfl w n (by omega) (by unfold maxLen; omega)
theorem wp_make_eq {P : Program} {w : World} {o : Oper} {a : Act} {K : Act → World → Prop} {Q : Exit → Act → World → Prop} (x y : Operand) (t : TypeId) (ho : o.op = .makeSlice t x y) (v u : Value) (hx : a.eval x = v) (hy : a.eval y = u)
    (v' : Value) (w' : World) (hrun : (Instr.makeSlice t v u).run P w = .ok v' w') (h : K (a.put o.dst v') w') : o.wp P a w K Q := by
  unfold Oper.wp
  simp [execOp, ho, hx, hy, hrun, Result.andThen]
  exact h
/-- The first k rows are made. -/
def rowsK (n nv k : Nat) : List (List Bool) := (List.range n).map fun i => if i < k then List.replicate nv false else []
theorem rowsK_zero (n nv : Nat) : rowsK n nv 0 = List.replicate n [] := by
  unfold rowsK
  refine List.ext_getElem? fun i => ?_
  rw [List.getElem?_map, List.getElem?_replicate]
  rcases Nat.lt_or_ge i n with h | h
  · rw [List.getElem?_range h, if_pos h]; rfl
  · rw [List.getElem?_eq_none (by simpa using h), if_neg (by omega)]; rfl
theorem rowsK_succ {n nv k : Nat} (hk : k < n) : (rowsK n nv k).set k (List.replicate nv false) = rowsK n nv (k + 1) := by
  unfold rowsK
  refine List.ext_getElem? fun i => ?_
  rw [List.getElem?_set, List.getElem?_map, List.getElem?_map]
  by_cases e : k = i
  · subst e
    rw [if_pos rfl, if_pos (by simpa using hk), List.getElem?_range hk]
    show _ = some (if k < k + 1 then _ else _)
    rw [if_pos (by omega)]
  · rw [if_neg e]
    cases h : (List.range n)[i]? with
    | none => rfl
    | some j =>
      have : j = i := by
        obtain ⟨hl, h1⟩ := List.getElem?_eq_some_iff.1 h
        rw [← h1, List.getElem_range]
      subst this
      show some (if j < k then _ else _) = some (if j < k + 1 then _ else _)
      by_cases g : j < k
      · rw [if_pos g, if_pos (by omega)]
      · rw [if_neg g, if_neg (by omega)]
theorem rowsK_end (n nv : Nat) : rowsK n nv n = List.replicate n (List.replicate nv false) := by
  unfold rowsK
  refine List.ext_getElem? fun i => ?_
  rw [List.getElem?_map, List.getElem?_replicate]
  rcases Nat.lt_or_ge i n with h | h
  · rw [List.getElem?_range h, if_pos h]
    show some (if i < n then _ else _) = _
    rw [if_pos h]
  · rw [List.getElem?_eq_none (by simpa using h), if_neg (by omega)]; rfl
theorem NRows.made {w : World} {b n : Nat} (base nv : Nat) (h : Blk w b 68 (List.replicate n (.slice none 0 0))) : NRows w b base (rowsK n nv 0) := by
  rw [rowsK_zero]
  refine ⟨_, h, by simp, fun i v l hv hl => ?_⟩
  obtain rfl := rep_get hv
  obtain rfl := rep_get hl
  exact Own.nil _ _ _ _ _
/-- The form that the search sees. -/
theorem SsD.fok (x : SsD) (hin : ∀ b y, b ∈ x.ord → x.blocks.l[b]? = some y → y.In x.vals.l.length) : Lv.FOk x.F x.ord x.vals.l.length where
  lt := fun b hb => by
    have := x.ord_spec.2 b hb
    simpa [SsD.F] using this
  inn := fun b hb => by
    obtain ⟨y, hy⟩ := get_some (x.ord_spec.2 b hb)
    rw [SsD.F_get hy]
    exact (hin b y hb hy).p _
  next := fun b hb t ht => by
    obtain ⟨y, hy⟩ := get_some (x.ord_spec.2 b hb)
    rw [SsD.F_get hy] at ht
    obtain ⟨u, hu, rfl⟩ := List.mem_map.1 (show t ∈ nat (y.nextI x.blocks.l.length) from ht)
    have := SsD.nextI_mem hu
    simp [SsD.F]
    omega
theorem mem_dn {n : Nat} (i : Fin n) : ∀ (k : Nat) (h : k ≤ n), n - k ≤ i.1 → i ∈ dn k h
  | 0, _, h => by have := i.2; omega
  | k + 1, hk, h => by
    rw [dn, List.mem_append]
    by_cases e : n - k ≤ i.1
    · exact .inl (mem_dn i k (by omega) e)
    · refine .inr (List.mem_singleton.2 (Fin.ext ?_))
      show i.1 = n - 1 - k
      omega
end Go.Proofs.Ytjpmiejgcnfiiaa
