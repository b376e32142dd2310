import Derived.Test.YtjpmiejgcnfiiaaGreatQ9
set_option linter.unusedVariables false
set_option linter.unusedSimpArgs false
namespace Go.Proofs.YtjpmiejgcnfiiaaGreat
open Go Go.RowKit

set_option maxHeartbeats 2000000 in
theorem equal_drew (a b : List Bool) (A B : Option Addr) (c d : Nat) (w : World) (hs : Seg w A (a.flatMap boolC)) (ht : Seg w B (b.flatMap boolC)) (hl : b.length = a.length) (hn : a.length ≤ 1000000) :
  Calls Tryz.prog 49 #[.slice A a.length c, .slice B b.length d] w fun e w' => e = .returned (.bool (decide (a = b))) ∧ ∃ nq, w' = w.drewN nq := by
 obtain ⟨n, hna⟩ : ∃ n, a.length = n := ⟨_, rfl⟩
 have Ha := Lib.hid hna
 have Hb := Lib.hid (show b.length = n by omega)
 rw [hl, hna]
 rw [hna] at hn
 clear hl hna
 have hll : ((n : Int) != (n : Int)) = false := by simp
 have Hs := Lib.hid hs
 have Ht := Lib.hid ht
 obtain ⟨rr, hr⟩ : ∃ r, decide (a = b) = r := ⟨_, rfl⟩
 have Hr := Lib.hid hr
 rw [hr]
 clear hs ht hr
 go_enter Tryz.func49, Tryz.ntmps49
 go_wp2
 go_loopw [13] (fun i wr => ∃ k : Nat, k ≤ n ∧ i = .int .i64 k ∧ Hid (a.take k = b.take k) ∧ ∃ nq, wr = w.drewN nq) (fun i _ => n - (intOf i).toNat)
 case atStart => exact ⟨0, Nat.zero_le _, rfl, Lib.hid rfl, 0, rfl⟩
 case round =>
  obtain ⟨k, hk, rfl, hpre, nw, hnw⟩ := hrel
  have hkeep : Keep w wr := by rw [hnw]; exact (Keep.refl _).drewN _
  have Hnw := Lib.hid hnw
  clear hnw
  by_cases hlt : k < n
  ·have hka : k < a.length := by rw [Ha.out]; exact hlt
   have hkb : k < b.length := by rw [Hb.out]; exact hlt
   have hkk : (k : Int) < (n : Int) := by omega
   have hk0 : (0 : Int) ≤ (k : Int) := by omega
   obtain ⟨b1, o1, rfl, hb1, c0⟩ := bool_at Hs.out hkeep hka
   obtain ⟨b2, o2, rfl, hb2, d0⟩ := bool_at Ht.out hkeep hkb
   obtain ⟨u, hu⟩ : ∃ u, a[k] = u := ⟨_, rfl⟩
   obtain ⟨v, hv⟩ : ∃ v, b[k] = v := ⟨_, rfl⟩
   rw [hu] at c0
   rw [hv] at d0
   have Hstep := Lib.hid (show u = v → a.take (k + 1) = b.take (k + 1) from fun e => by
    rw [List.take_succ_eq_append_getElem hka, List.take_succ_eq_append_getElem hkb, hpre.out, hu, hv, e])
   have Hno := Lib.hid (show u ≠ v → rr = false from fun e => by
    rw [← Hr.out, decide_eq_false]
    intro e'
    subst e'
    exact e (hu.symm.trans hv))
   clear hu hv hka hkb
   by_cases huv : u = v
   ·subst huv
    have Hs1 := Lib.hid (Hstep.out rfl)
    have hne : (u != u) = false := by simp
    clear Hstep Hno
    cases u <;> (
     go_wp2_with fail
     go_quiet (fail)
     go_wp2
     go_roundw
     case rel => exact ⟨k + 1, hlt, by go_num, Hs1, _, by rw [Hnw.out, World.drewN_drewN]⟩
     case measure => simp [intOf]; omega)
   ·have Hn1 := Lib.hid (Hno.out huv)
    have Hnq := Lib.hid (show ∀ m, ∃ nq, wr.drewN m = w.drewN nq from fun m => ⟨_, by rw [Hnw.out, World.drewN_drewN]⟩)
    clear Hstep Hno
    have huv2 : v = !u := by cases u <;> cases v <;> simp_all
    subst huv2
    clear huv
    cases u <;> (
     go_wp2_with fail
     go_quiet (fail)
     go_wp2
     go_ret
     exact ⟨by rw [Hn1.out]; rfl, Hnq.out _⟩)
  ·have Hfin := Lib.hid (show rr = true by
    rw [← Hr.out, decide_eq_true_iff]
    have := hpre.out
    rwa [List.take_of_length_le (by rw [Ha.out]; omega), List.take_of_length_le (by rw [Hb.out]; omega)] at this)
   clear hpre
   go_wp2
   go_ret
   exact ⟨by rw [Hfin.out]; rfl, nw, Hnw.out⟩
theorem equal_calls (a b : List Bool) (A B : Option Addr) (c d : Nat) (w : World) (hs : Seg w A (a.flatMap boolC)) (ht : Seg w B (b.flatMap boolC)) (hl : b.length = a.length) (hn : a.length ≤ 1000000) :
  Calls Tryz.prog 49 #[.slice A a.length c, .slice B b.length d] w fun e w' => e = .returned (.bool (decide (a = b))) ∧ Keep w w' :=
 (equal_drew a b A B c d w hs ht hl hn).mono fun e w' ⟨h1, nq, h2⟩ => ⟨h1, by rw [h2]; exact (Keep.refl _).drewN _⟩
end Go.Proofs.YtjpmiejgcnfiiaaGreat
namespace Go.Proofs.YtjpmiejgcnfiiaaGreat
open Go Go.RowKit Go.Shelf

/-- Marks that loops over functions have left: each at its own shut block. -/
def Marks (B : Nat) (w : World) : List Deferred → Prop
 | [] => True
 | d :: ds => ∃ D, d = { target := .collected D, args := #[] } ∧ B ≤ D ∧ w.heap[D]? = some (.deferred (some [])) ∧ (∀ e ∈ ds, e.target ≠ .collected D) ∧ Marks B w ds
theorem Marks.keep {B : Nat} {w w' : World} (hk : ∀ (k : Nat) (o : Obj), w.heap[k]? = some o → o.isCells = false → w'.heap[k]? = some o) : ∀ {ds : List Deferred}, Marks B w ds → Marks B w' ds
 | [], _ => trivial
 | d :: ds, ⟨D, h1, h2, h3, h4, h5⟩ => ⟨D, h1, h2, hk D _ h3 rfl, h4, Marks.keep hk h5⟩
theorem Marks.put {B : Nat} {w : World} {D : Nat} (o : Obj) : ∀ {ds : List Deferred}, (∀ e ∈ ds, e.target ≠ .collected D) → Marks B w ds → Marks B (w.putObj D o) ds
 | [], _, _ => trivial
 | d :: ds, hn, ⟨D', h1, h2, h3, h4, h5⟩ => ⟨D', h1, h2, by
   rw [World.putObj_heap_other (by
    intro e
    exact hn d (by simp) (by rw [h1, e]))]
   exact h3, h4, Marks.put o (fun e he => hn e (by simp [he])) h5⟩
theorem Marks.fresh {B : Nat} {w : World} : ∀ {ds : List Deferred}, Marks B w ds → ∀ e ∈ ds, ∀ D, e.target = .collected D → D < w.heap.size
 | [], _, e, he, _, _ => by simp at he
 | d :: ds, ⟨D, h1, h2, h3, h4, h5⟩, e, he, D', hD => by
  rcases List.mem_cons.1 he with rfl | he
  ·subst h1
   injection hD with hD
   subst hD
   exact (Array.getElem?_eq_some_iff.1 h3).1
  ·exact Marks.fresh h5 e he D' hD
theorem Marks.push {B : Nat} {w0 w : World} {ds : List Deferred} (h0 : Marks B w0 ds) (h : Marks B w ds) {D : Nat} (hD : w0.heap.size ≤ D) (hB : B ≤ D) (hK : w.heap[D]? = some (.deferred (some []))) : Marks B w ({ target := .collected D, args := #[] } :: ds) :=
 ⟨D, rfl, hB, hK, fun e he heq => by have := h0.fresh e he D heq; omega, h⟩
/-- Blocks from B on that are no cells. -/
def NoCells (B : Nat) (w : World) (k : Nat) : Prop := B ≤ k ∧ ∃ o, w.heap[k]? = some o ∧ o.isCells = false
/-- A function leaves with its marks: only they are shut. -/
theorem leaves_marks {F : Fence} {n : Nat} {P : Program} {fn : Func} {tmps : Array Value} {R : Ending → World → Prop} {B : Nat} : ∀ (ds : List Deferred) (w : World), Marks B w ds →
  (∀ w', Ext (NoCells B w) w w' → LeavesInM F n P fn tmps R [] .returning w') → LeavesInM F n P fn tmps R ds .returning w
 | [], w, _, h => h w (Ext.refl _ _)
 | d :: ds, w, ⟨D, h1, h2, h3, h4, h5⟩, h => by
  refine ⟨by simp, .inl ⟨D, _, by rw [h1], run_takeDeferred h3, ?_⟩⟩
  refine leaves_marks ds _ (Marks.put _ h4 h5) fun w' hE => h w' ?_
  have h0 : Ext (NoCells B w) w (w.putObj D (.deferred none)) := ext_putObj _ h3 ⟨h2, _, h3, rfl⟩
  refine h0.trans hE fun k hk ⟨k1, o, k2, k3⟩ => ?_
  by_cases e : k = D
  ·subst e; exact ⟨k1, _, h3, rfl⟩
  ·rw [World.putObj_heap_other e] at k2
   exact ⟨k1, o, k2, k3⟩
/-- Rows none of which lies in block av. -/
def NRowsA (w : World) (b base av : Nat) (L : List (List Bool)) : Prop :=
 ∃ vs : List Value, Blk w b 80 vs ∧ vs.length = L.length ∧ (∀ (i : Nat) v l, vs[i]? = some v → L[i]? = some l → Own boolC 1 4 w base v l) ∧ ∀ (i : Nat) v, vs[i]? = some v → v.ownBlock ≠ some av
section
variable {w w' : World} {b base av B : Nat} {L : List (List Bool)}
theorem NRowsA.rows (h : NRowsA w b base av L) : NRows w b base L := by
 obtain ⟨vs, h1, h2, h3, _⟩ := h
 exact ⟨vs, h1, h2, h3⟩
theorem NRows.away (h : NRows w b base L) (hk : Keep w w') (hav : w.heap.size ≤ av) : NRowsA w' b base av L := by
 obtain ⟨vs, h1, h2, h3⟩ := h
 refine ⟨vs, h1.keep hk, h2, fun i v l hv hl => (h3 i v l hv hl).keep hk, fun i v hv e => ?_⟩
 obtain ⟨l, hl⟩ := get_some (l := L) (k := i) (by have := (List.getElem?_eq_some_iff.1 hv).1; omega)
 have := ((h3 i v l hv hl).lt av e).2
 omega
theorem NRowsA.keep (h : NRowsA w b base av L) (hk : Keep w w') : NRowsA w' b base av L := by
 obtain ⟨vs, h1, h2, h3, h4⟩ := h
 exact ⟨vs, h1.keep hk, h2, fun i v l hv hl => (h3 i v l hv hl).keep hk, h4⟩
theorem NRowsA.marks (h : NRowsA w b base av L) (hE : Ext (NoCells B w) w w') : NRowsA w' b base av L := by
 obtain ⟨vs, h1, h2, h3, h4⟩ := h
 refine ⟨vs, h1.ext hE (fun ⟨_, o, ho, hc⟩ => ?_), h2, fun i v l hv hl => (h3 i v l hv hl).ext hE (fun k hk ⟨_, o, ho, hc⟩ => ?_), h4⟩
 ·unfold Blk at h1
  rw [h1] at ho; cases ho; cases hc
 ·rcases (h3 i v l hv hl).2 with ⟨rfl, _⟩ | ⟨g1, cap, cur, rfl, _, hh, _⟩
  ·cases hk
  ·simp only [Value.ownBlock, Option.some.injEq] at hk
   subst hk
   rw [hh] at ho; cases ho; cases hc
theorem NRowsA.turn {row : Option Nat} (h : NRowsA w b base av L) (hg : w.grownBy w' row) (hr : ∀ r, row = some r → B ≤ r ∧ ∃ o : Obj, w.heap[r]? = some o ∧ o.isCells = false) : NRowsA w' b base av L :=
 h.marks (B := 0) ((Ext.of_grown hg).mono fun k _ e => ⟨Nat.zero_le _, (hr k e).2⟩)
theorem NRowsA.other (h : NRowsA w b base av L) (hne : b ≠ av) (j : Nat) (u : Value) : NRowsA (w.setCell ⟨av, j, none⟩ u) b base av L := by
 obtain ⟨vs, h1, h2, h3, h4⟩ := h
 exact ⟨vs, h1.far (p := ⟨av, j, none⟩) hne u, h2, fun i v l hv hl => (h3 i v l hv hl).put_far (fun q hq e => h4 i v hv (by rw [hq, e])) u, h4⟩
theorem NRowsA.put (h : NRowsA w b base av L) {i : Nat} {A : Option Addr} {c : Nat} {l : List Bool} (hl : Own boolC 1 4 w base (.slice A l.length c) l) (hav : (Value.slice A l.length c).ownBlock ≠ some av) : NRowsA (w.setCell ⟨b, i, none⟩ (.slice A l.length c)) b base av (L.set i l) := by
 obtain ⟨vs, h1, h2, h3, h4⟩ := h
 refine ⟨_, h1.set_ i _, by simp [h2], fun j v k hv hk => ?_, fun j v hv => ?_⟩
 ·by_cases e : i = j
  ·subst e
   have hi := (List.getElem?_eq_some_iff.1 hv).1
   rw [List.length_set] at hi
   rw [List.getElem?_set_self hi] at hv
   rw [List.getElem?_set_self (by omega)] at hk
   cases hv; cases hk
   exact hl.put_far (fun q hq => hl.blk_apart h1 (by decide) hq) _
  ·rw [List.getElem?_set_ne e] at hv hk
   exact (h3 j v k hv hk).put_far (fun q hq => (h3 j v k hv hk).blk_apart h1 (by decide) hq) _
 ·by_cases e : i = j
  ·subst e
   have hi := (List.getElem?_eq_some_iff.1 hv).1
   rw [List.length_set] at hi
   rw [List.getElem?_set_self hi] at hv
   cases hv; exact hav
  ·rw [List.getElem?_set_ne e] at hv
   exact h4 j v hv
end
theorem others_of_ext2 {w w' : World} {b base c : Nat} {L : List (List Bool)} {t : TypeId} {cs : List Value} (h : NRows w b base L) (hc : Blk w c t cs) (hE : Ext (fun k => k = b ∨ k = c) w w') (k : Nat) (o : Obj) (ho : w.heap[k]? = some o) (hn : o.isCells = false) : w'.heap[k]? = some o := by
 have hk := (Array.getElem?_eq_some_iff.1 ho).1
 rw [hE.block k hk (fun e => ?_)]
 ·exact ho
 ·obtain ⟨vs, h1, _⟩ := h
  unfold Blk at h1 hc
  rcases e with rfl | rfl
  ·rw [h1] at ho; cases ho; cases hn
  ·rw [hc] at ho; cases ho; cases hn

/-! ### A loop three slots of whose frame turn, and that gathers marks -/

def fr3 (tm : Array Value) (i j k : Nat) (x y z : Value) : Array Value := ((tm.setIfInBounds i x).setIfInBounds j y).setIfInBounds k z
theorem wp_loop_fr3 {P : Program} {Q : Exit → Act → World → Prop} {c : Code} {tm : Array Value} {w : World} (i j k : Nat) (x0 y0 z0 : Value) (htm : tm = fr3 tm i j k x0 y0 z0) (I : Nat → List Deferred → World → Prop) (n₀ : Nat) (h₀ : I n₀ [] w)
  (round : ∀ n ds x y z W, I n ds W → ∀ (J : Act → World → Prop), (∀ n' ds' x' y' z' a' W', n' < n → a' = { tmps := fr3 tm i j k x' y' z', defers := ds' } → I n' ds' W' → J a' W') → c.wp P (Exit.then J Q) { tmps := fr3 tm i j k x y z, defers := ds } W) :
  (Code.loop c).wp P Q { tmps := tm, defers := [] } w := by
 refine wp_loop_ghost (fun n a W => ∃ ds x y z, a = { tmps := fr3 tm i j k x y z, defers := ds } ∧ I n ds W) n₀ ⟨[], x0, y0, z0, by rw [← htm], h₀⟩ ?_
 rintro n a W ⟨ds, x, y, z, rfl, hI⟩
 exact round n ds x y z W hI _ (fun n' ds' x' y' z' a' W' h1 h2 h3 => ⟨n', h1, ds', x', y', z', h2, h3⟩)

/-! ### Rows made -/

theorem make_rows (w : World) (n : Nat) (h : n ≤ 1000000) : ∃ w', (Instr.makeSlice 78 (.int .i64 (n : Int)) (.int .i64 (n : Int))).run Tryz.prog w = .ok (.slice (some ⟨w.heap.size, 0, none⟩) n n) w' ∧ Blk w' w.heap.size 80 (List.replicate n (.slice none 0 0)) ∧ Keep w w' :=
 make_zero (P := Tryz.prog) (z := .slice none 0 0) (bytes := 24) Tryz.underlying78 (by kernel_rfl) rfl w n (by omega) (by unfold maxLen; omega)
theorem wp_make_eq {P : Program} {w : World} {o : Oper} {a : Act} {K : Act → World → Prop} {Q : Exit → Act → World → Prop} (x y : Operand) (t : TypeId) (ho : o.op = .makeSlice t x y) (v u : Value) (hx : a.eval x = v) (hy : a.eval y = u)
  (v' : Value) (w' : World) (hrun : (Instr.makeSlice t v u).run P w = .ok v' w') (h : K (a.put o.dst v') w') : o.wp P a w K Q := by
 unfold Oper.wp
 simp [execOp, ho, hx, hy, hrun, Result.andThen]
 exact h
/-- The first k rows are made. -/
def rowsK (n nv k : Nat) : List (List Bool) := (List.range n).map fun i => if i < k then List.replicate nv false else []
theorem rowsK_zero (n nv : Nat) : rowsK n nv 0 = List.replicate n [] := by
 unfold rowsK
 refine List.ext_getElem? fun i => ?_
 rw [List.getElem?_map, List.getElem?_replicate]
 rcases Nat.lt_or_ge i n with h | h
 ·rw [List.getElem?_range h, if_pos h]; rfl
 ·rw [List.getElem?_eq_none (by simpa using h), if_neg (by omega)]; rfl
theorem rowsK_succ {n nv k : Nat} (hk : k < n) : (rowsK n nv k).set k (List.replicate nv false) = rowsK n nv (k + 1) := by
 unfold rowsK
 refine List.ext_getElem? fun i => ?_
 rw [List.getElem?_set, List.getElem?_map, List.getElem?_map]
 by_cases e : k = i
 ·subst e
  rw [if_pos rfl, if_pos (by simpa using hk), List.getElem?_range hk]
  show _ = some (if k < k + 1 then _ else _)
  rw [if_pos (by omega)]
 ·rw [if_neg e]
  cases h : (List.range n)[i]? with
  | none => rfl
  | some j =>
   have : j = i := by
    obtain ⟨hl, h1⟩ := List.getElem?_eq_some_iff.1 h
    rw [← h1, List.getElem_range]
   subst this
   show some (if j < k then _ else _) = some (if j < k + 1 then _ else _)
   by_cases g : j < k
   ·rw [if_pos g, if_pos (by omega)]
   ·rw [if_neg g, if_neg (by omega)]
theorem rowsK_end (n nv : Nat) : rowsK n nv n = List.replicate n (List.replicate nv false) := by
 unfold rowsK
 refine List.ext_getElem? fun i => ?_
 rw [List.getElem?_map, List.getElem?_replicate]
 rcases Nat.lt_or_ge i n with h | h
 ·rw [List.getElem?_range h, if_pos h]
  show some (if i < n then _ else _) = _
  rw [if_pos h]
 ·rw [List.getElem?_eq_none (by simpa using h), if_neg (by omega)]; rfl
theorem NRows.made {w : World} {b n : Nat} (base nv : Nat) (h : Blk w b 80 (List.replicate n (.slice none 0 0))) : NRows w b base (rowsK n nv 0) := by
 rw [rowsK_zero]
 refine ⟨_, h, by simp, fun i v l hv hl => ?_⟩
 obtain rfl := rep_get hv
 obtain rfl := rep_get hl
 exact Own.nil _ _ _ _ _
/-- The form that the search sees. -/
theorem SsD.fok (x : SsD) (hin : ∀ b y, b ∈ x.ord → x.blocks.l[b]? = some y → y.In x.vals.l.length) : Lv.FOk x.F x.ord x.vals.l.length where
 lt := fun b hb => by
  have := x.ord_spec.2 b hb
  simpa [SsD.F] using this
 inn := fun b hb => by
  obtain ⟨y, hy⟩ := get_some (x.ord_spec.2 b hb)
  rw [SsD.F_get hy]
  exact (hin b y hb hy).p _
 next := fun b hb t ht => by
  obtain ⟨y, hy⟩ := get_some (x.ord_spec.2 b hb)
  rw [SsD.F_get hy] at ht
  obtain ⟨u, hu, rfl⟩ := List.mem_map.1 (show t ∈ nat (y.nextI x.blocks.l.length) from ht)
  have := SsD.nextI_mem hu
  simp [SsD.F]
  omega
theorem mem_dn {n : Nat} (i : Fin n) : ∀ (k : Nat) (h : k ≤ n), n - k ≤ i.1 → i ∈ dn k h
 | 0, _, h => by have := i.2; omega
 | k + 1, hk, h => by
  rw [dn, List.mem_append]
  by_cases e : n - k ≤ i.1
  ·exact .inl (mem_dn i k (by omega) e)
  ·refine .inr (List.mem_singleton.2 (Fin.ext ?_))
   show i.1 = n - 1 - k
   omega
end Go.Proofs.YtjpmiejgcnfiiaaGreat
namespace Go.Proofs.YtjpmiejgcnfiiaaGreat
open Go Go.RowKit Go.Shelf
attribute [local go_sem] Oper.semAt_some

/-- Where the search stands. -/
structure FI (x : SsD) (S : List (List Bool)) : Prop where
 fs : Lv.FSt x.F x.ord x.vals.l.length S
 sound : (∀ b ∈ x.ord, ∀ v, (x.F.getD b default).Fit v) → Lv.Sound x.F x.ord S
/-- Nothing changes any more. -/
def Shut (x : SsD) (S : List (List Bool)) : Prop := ∀ b ∈ x.ord, Lv.newAt x.F x.vals.l.length S b = S.getD b []
/-- One pass: where it began, what has come, where it stands. -/
structure Pass (x : SsD) (S0 : List (List Bool)) (pre : List (Fin (ints x.ord).length)) (S : List (List Bool)) (chg : Bool) : Prop where
 fi : FI x S
 no : chg = false → S = S0 ∧ ∀ i ∈ pre, ∀ b, x.ord[i.1]? = some b → Lv.newAt x.F x.vals.l.length S0 b = S0.getD b []
 yes : chg = true → Lv.total S0 < Lv.total S
theorem Pass.start {x : SsD} {S : List (List Bool)} (h : FI x S) : Pass x S [] S false := ⟨h, fun _ => ⟨rfl, fun _ hi => by simp at hi⟩, fun h => by cases h⟩
section
variable {x : SsD} {S0 S : List (List Bool)} {pre : List (Fin (ints x.ord).length)} {chg : Bool}
theorem FI.get (h : FI x S) {b : Nat} (hb : b < x.blocks.l.length) : ∃ l, S[b]? = some l ∧ l.length = x.vals.l.length ∧ S.getD b [] = l := by
 have hl : b < S.length := by rw [h.fs.len]; simpa [SsD.F] using hb
 have h1 := h.fs.lens b (by simpa [SsD.F] using hb)
 rw [List.getD_eq_getElem?_getD, List.getElem?_eq_getElem hl] at h1
 exact ⟨_, List.getElem?_eq_getElem hl, h1, by rw [List.getD_eq_getElem?_getD, List.getElem?_eq_getElem hl]; rfl⟩
theorem FI.len (h : FI x S) : S.length = x.blocks.l.length := by rw [h.fs.len]; simp [SsD.F]
theorem FI.row (h : FI x S) : ∀ l ∈ S, l.length = x.vals.l.length := fun l hl => by
 obtain ⟨i, hi, e⟩ := List.getElem_of_mem hl
 obtain ⟨l', h1, h2, _⟩ := h.get (b := i) (by rw [← h.len]; exact hi)
 rw [List.getElem?_eq_getElem hi] at h1
 rw [← e, Option.some.inj h1]; exact h2
theorem Pass.same (hp : Pass x S0 pre S chg) {i : Fin (ints x.ord).length} {b : Nat} (hb : x.ord[i.1]? = some b) (he : Lv.newAt x.F x.vals.l.length S b = S.getD b []) : Pass x S0 (pre ++ [i]) S chg :=
 ⟨hp.fi, fun h => by
  obtain ⟨h1, h2⟩ := hp.no h
  refine ⟨h1, fun j hj c hc => ?_⟩
  rcases List.mem_append.1 hj with hj | hj
  ·exact h2 j hj c hc
  ·rw [List.mem_singleton.1 hj, hb] at hc
   cases hc
   rw [← h1]; exact he, hp.yes⟩
theorem Pass.new (hok : Lv.FOk x.F x.ord x.vals.l.length) (hp : Pass x S0 pre S chg) {i : Fin (ints x.ord).length} {b : Nat} (hb : x.ord[i.1]? = some b) (he : Lv.newAt x.F x.vals.l.length S b ≠ S.getD b []) :
  Pass x S0 (pre ++ [i]) (S.set b (Lv.newAt x.F x.vals.l.length S b)) true := by
 have hm := List.mem_of_getElem? hb
 refine ⟨⟨hp.fi.fs.step hok hm, fun hf => (hp.fi.sound hf).step hok hf hp.fi.fs hm⟩, (fun h => by cases h), fun _ => ?_⟩
 have h1 := hp.fi.fs.climb hok hm he
 cases chg with
 | false => rw [(hp.no rfl).1] at h1 ⊢; exact h1
 | true => have := hp.yes rfl; omega
theorem Pass.shut (hp : Pass x S0 (dn (ints x.ord).length (Nat.le_refl _)) S false) : Shut x S := by
 obtain ⟨rfl, h2⟩ := hp.no rfl
 intro b hb
 obtain ⟨i, hi, e⟩ := List.getElem_of_mem hb
 have hi' : i < (ints x.ord).length := by rw [ints_len]; exact hi
 exact h2 ⟨i, hi'⟩ (mem_dn _ _ _ (by show _ - _ ≤ i; omega)) b (by show x.ord[i]? = _; rw [List.getElem?_eq_getElem hi, e])
end
/-- What the search has still ahead. -/
def fuelF (x : SsD) (S : List (List Bool)) (chg : Bool) : Nat := 2 * (x.blocks.l.length * x.vals.l.length - Lv.total S) + (if chg then 1 else 0)
theorem Pass.fuel {x : SsD} {S0 S : List (List Bool)} {pre : List (Fin (ints x.ord).length)} {chg : Bool} (h0 : FI x S0) (hp : Pass x S0 pre S chg) : fuelF x S chg < fuelF x S0 true := by
 have h1 := hp.fi.fs.bound
 have e : x.F.length = x.blocks.l.length := by simp [SsD.F]
 rw [e] at h1
 unfold fuelF
 cases chg with
 | false => rw [(hp.no rfl).1]; simp
 | true => have := hp.yes rfl; simp only [if_true]; omega
theorem FI.zero (x : SsD) : FI x (List.replicate x.blocks.l.length (List.replicate x.vals.l.length false)) := by
 have e : x.F.length = x.blocks.l.length := by simp [SsD.F]
 exact ⟨by rw [← e]; exact Lv.FSt.zero _ _ _, fun _ => by rw [← e]; exact Lv.Sound.zero _ _ _⟩

set_option maxHeartbeats 4000000 in
set_option maxRecDepth 100000 in
theorem found_calls (x : SsD) (A : Option Addr) (c base : Nat) (w : World) (h : SsOk w x) (hs : Small x) (hown : Own intC 1 3 w base (.slice A x.ord.length c) (ints x.ord)) (hin : ∀ b y, b ∈ x.ord → x.blocks.l[b]? = some y → y.In x.vals.l.length) :
  Calls Tryz.prog 24 #[.agg (ssC x).toArray, .slice A x.ord.length c] w fun e w' => ∃ bn S, e = .returned (.slice (some ⟨bn, 0, none⟩) x.blocks.l.length x.blocks.l.length) ∧ w.heap.size ≤ bn ∧ NRows w' bn w.heap.size S ∧ Keep w w' ∧ FI x S ∧ Shut x S := by
 obtain ⟨vp, vr, va, nv, vc, ba, nb, bc, hop⟩ := x.opened
 have hbeg := fun (W : World) (hk : Keep w W) (b bn : Nat) (y : BkD) (S : List (List Bool)) (hb : x.blocks.l[b]? = some y) (hm : b ∈ x.ord) (hS : NRows W bn w.heap.size S) (hf : FI x S) =>
  begin_calls x b bn w.heap.size x.blocks.l.length y S W (h.keep hk) hs hb (hin b y hm hb) hS hf.len hf.row
 have Hok := Lib.hid (x.fok hin)
 have Hz := Lib.hid (FI.zero x)
 have Hfl := Lib.hid (fun (S0 S : List (List Bool)) (pre : List (Fin (ints x.ord).length)) (chg : Bool) (h0 : FI x S0) (hp : Pass x S0 pre S chg) => hp.fuel h0)
 have Hlt := Lib.hid (show ∀ b ∈ x.ord, b < x.blocks.l.length from x.ord_spec.2)
 rw [hop.agg] at hbeg ⊢
 rw [hop.nv, hop.nb] at hbeg
 rw [hop.nv, hop.nb] at Hz
 rw [hop.nb] at Hlt ⊢
 have hnb : nb ≤ 1000 := by rw [← hop.nb]; exact hs.blocks
 have hnv : nv ≤ 1000 := by rw [← hop.nv]; exact hs.vals
 have hol : x.ord.length ≤ nb := by rw [← hop.nb]; exact x.ord_len
 obtain ⟨W, hW, hk, c0, c1, c2, c3, lt⟩ := box4 w 39 vp vr (.slice va nv vc) (.slice ba nb bc)
 obtain ⟨W1, hmake, hblk, hk1⟩ := make_rows W nb (by omega)
 obtain ⟨bn, hbn⟩ : ∃ bn, W.heap.size = bn := ⟨_, rfl⟩
 rw [hbn] at hmake hblk
 obtain ⟨W2, hW2⟩ : ∃ W2, W1.alloc (.cells #[.slice (some ⟨bn, 0, none⟩) nb nb] 78) = W2 := ⟨_, rfl⟩
 have hk2 : Keep W1 W2 := by rw [← hW2]; exact (Keep.refl _).alloc _
 have ho : Blk W2 W1.heap.size 78 [.slice (some ⟨bn, 0, none⟩) nb nb] := by rw [← hW2]; exact Blk.new W1 _ _
 obtain ⟨nx, hnx⟩ : ∃ nx, W1.heap.size = nx := ⟨_, rfl⟩
 rw [hnx] at ho
 have hbnx : bn < nx := by rw [← hnx]; exact hblk.lt
 have hwb : w.heap.size < bn := by omega
 have Hnop := Lib.hid hop.nv
 have Hbop := Lib.hid hop.nb
 have Hbeg := Lib.hid hbeg
 have HkW := Lib.hid ((hk.trans hk1).trans hk2)
 have HNR := Lib.hid (NRows.made w.heap.size nv (hblk.keep hk2))
 have Hown := Lib.hid hown
 have d0 := (hk1.trans hk2).cell c0
 have d1 := (hk1.trans hk2).cell c1
 have d2 := (hk1.trans hk2).cell c2
 have d3 := (hk1.trans hk2).cell c3
 have q0 : W2.cell? ⟨nx, 0, none⟩ = some (.slice (some ⟨bn, 0, none⟩) nb nb) := ho.cell 0
 have lw2 := Nat.lt_of_lt_of_le lt (hk1.trans hk2).size
 have lnx := ho.lt
 clear hbeg hblk hk1 hk2 ho hown hop hs h hin hk
 refine (callsIn_wide (n := 6)).1 ?_
 refine callsIn_of_wp_marks Tryz.func24 rfl trivial ?_ rfl
 simp only [Tryz.ntmps24, List.size_toArray, List.length_cons, List.length_nil, Nat.reduceAdd, Nat.reduceSub, Array.replicate_succ, Array.replicate_zero, List.push_toArray, List.append_toArray, List.nil_append, List.cons_append]
 refine wpIn_wide.2 ?_
 go_wp2_with (refine wpList_make_eq rfl _ _ _ rfl _ _ rfl rfl _ _ hmake ?_; clear hmake)
 clear hW hW2 hnx hbn c0 c1 c2 c3 lt
 go_loopw [6, 17] (fun _ vi wr => ∃ k : Nat, k ≤ nb ∧ vi = .int .i64 k ∧ Hid (NRows wr bn w.heap.size (rowsK nb nv k)) ∧ Hid (Ext (fun k => k = bn) W2 wr)) (fun _ vi _ => nb - (intOf vi).toNat)
 case atStart => exact ⟨0, Nat.zero_le _, rfl, HNR, Lib.hid (Ext.refl _ _)⟩
 case round =>
  clear HNR
  obtain ⟨k, hk, rfl, hnr, hE⟩ := hrel
  have zq0 := (World.cell?_of_block (hE.out.block nx lnx (by omega))).trans q0
  have z1 := (World.cell?_of_block (hE.out.block w.heap.size lw2 (by omega))).trans d2
  by_cases hin : k < nb
  ·have hd : Keep wr wr.drew := (Keep.refl _).drew
   have kq := fun z : KE (fun k => k = bn) wr => z.cell zq0 (by show ¬ nx = bn; omega)
   have k1 := fun z : KE (fun k => k = bn) wr => z.cell z1 (by show ¬ w.heap.size = bn; omega)
   obtain ⟨wm, hmk, hbm, hkm⟩ := make_bools wr.drew nv (by omega)
   have hfz := hnr.out.frozen k
   have hrl := hnr.out.lt
   obtain ⟨Ak, ck, hck, _⟩ := hnr.out.get (i := k) (l := []) (by unfold rowsK; rw [List.getElem?_map, List.getElem?_range hin]; show some (if k < k then _ else _) = _; rw [if_neg (by omega)])
   have hkwm : Keep wr wm := hd.trans hkm
   have m0 := hkwm.cell hck
   have m1 := (hnr.out.keep hkwm).frozen k
   have m2 := Nat.lt_of_lt_of_le hrl hkwm.size
   have hro : Own boolC 1 4 wm w.heap.size (.slice (some ⟨wr.drew.heap.size, 0, none⟩) nv nv) (List.replicate nv false) := by
    have := BBlk.own (l := List.replicate nv false) hbm (base := w.heap.size) (by show w.heap.size ≤ wr.heap.size; have := hE.out.size; omega) (by simp; unfold maxLen; omega)
    simpa using this
   have Hn := Lib.hid (show NRows (wm.setCell ⟨bn, k, none⟩ (.slice (some ⟨wr.heap.size, 0, none⟩) nv nv)) bn w.heap.size (rowsK nb nv (k + 1)) ∧ Ext (fun k => k = bn) W2 (wm.setCell ⟨bn, k, none⟩ (.slice (some ⟨wr.heap.size, 0, none⟩) nv nv)) from
    ⟨by
     have h1 := (hnr.out.keep hkwm).put (i := k) (A := some ⟨wr.heap.size, 0, none⟩) (c := nv) (l := List.replicate nv false) (by simpa using hro)
     rw [rowsK_succ hin] at h1
     simpa using h1, (hE.out.keepTrans hkwm).setCell (p := ⟨bn, k, none⟩) (fun _ => rfl) _⟩)
   have hkk : (k : Int) < (nb : Int) := by omega
   have hk0 : (0 : Int) ≤ (k : Int) := by omega
   have Hkwm := Lib.hid hkwm
   have hmk' : (Instr.makeSlice 80 (.int .i64 (nv : Int)) (.int .i64 (nv : Int))).run Tryz.prog wr.drew = .ok (.slice (some ⟨wr.heap.size, 0, none⟩) nv nv) wm := hmk
   have Hmk := Lib.hid hmk'
   clear hnr hE hbm hkm hck hro hkwm hmk hmk'
   go_wp2_with fail
   refine region_begin (S := fun w' => ∃ z : KE (fun k => k = bn) wr, w' = z.val) (by kernel_rfl) ?_
   refine region_take [0, 1, 2, 3, 4] [] 3 (by kernel_rfl) (by kernel_rfl) (KE.mk' (hd.ext _)) ?_
   show wpQuiet _ _ _ _ [_, _, _, _, _] _
   repeat (go_big_quiet_step (fail))
   refine wpQuiet_nil ?_
   refine region_fixU (i := 5) (fuel := 2) rfl rfl (by kernel_rfl) (fun K hK => ?_)
   refine wp_make_eq _ _ _ rfl _ _ rfl rfl _ _ Hmk.out ?_
   refine hK _ _ (KE.mk' (Hkwm.out.ext _)) ?_
   clear hK K
   refine region_fixU (i := 6) (fuel := 1) rfl rfl (by kernel_rfl) (fun K hK => ?_)
   go_simp
   refine hK _ _ (KE.mk' (Hkwm.out.ext _)) ?_
   clear hK K
   refine region_fixU (i := 7) (fuel := 0) rfl rfl (by kernel_rfl) (fun K hK => ?_)
   go_simp
   refine hK _ _ (KE.mk' ((Hkwm.out.ext (fun k => k = bn)).setCell (p := ⟨bn, k, none⟩) (fun _ => rfl) _)) ?_
   clear hK K
   refine region_done (by kernel_rfl) ?_
   clear kq k1
   go_wp2
   go_roundw
   case rel => exact ⟨k + 1, hin, by go_num, Lib.hid Hn.out.1, Lib.hid Hn.out.2⟩
   case measure => simp [intOf]; omega
  ·obtain rfl : k = nb := by omega
   obtain ⟨W5, hW5⟩ : ∃ W5, wr.alloc (.cells #[.bool true] 4) = W5 := ⟨_, rfl⟩
   have hk5 : Keep wr W5 := by rw [← hW5]; exact (Keep.refl _).alloc _
   have hb5 : Blk W5 wr.heap.size 4 [.bool true] := by rw [← hW5]; exact Blk.new wr _ _
   obtain ⟨cb, hcb⟩ : ∃ cb, wr.heap.size = cb := ⟨_, rfl⟩
   rw [hcb] at hb5
   have hsz := hE.out.size
   have hbc : bn < cb := by omega
   have hnc : nx < cb := by omega
   have hwc : w.heap.size < cb := by omega
   have HNR5 := Lib.hid (show NRowsA W5 bn w.heap.size cb (List.replicate k (List.replicate nv false)) from by
    have := hnr.out.away hk5 (av := cb) (by omega)
    rwa [rowsK_end] at this)
   have HB5 := Lib.hid hb5
   have HK5 := Lib.hid (show Keep w W5 from Keep.of_ext HkW.out (hE.out.keepTrans hk5) (fun k hk e => by omega))
   have y0 := (World.cell?_of_block ((hE.out.keepTrans hk5).block nx lnx (by omega))).trans q0
   have x0 := (World.cell?_of_block ((hE.out.keepTrans hk5).block w.heap.size lw2 (by omega))).trans d0
   have x1 := (World.cell?_of_block ((hE.out.keepTrans hk5).block w.heap.size lw2 (by omega))).trans d1
   have x2 := (World.cell?_of_block ((hE.out.keepTrans hk5).block w.heap.size lw2 (by omega))).trans d2
   have x3 := (World.cell?_of_block ((hE.out.keepTrans hk5).block w.heap.size lw2 (by omega))).trans d3
   clear hnr hE hk5 hb5 d0 d1 d2 d3 q0 zq0 z1 lw2 lnx HkW hsz
   go_wp2_with fail
   refine wp_loop_fr3 28 29 30 undef undef undef (by unfold fr3; simp) (fun g ds W => ∃ S chg, NRowsA W bn w.heap.size cb S ∧ FI x S ∧ Blk W cb 4 [.bool chg] ∧ (chg = false → Shut x S) ∧ fuelF x S chg ≤ g ∧ Marks W5.heap.size W ds ∧ Ext (fun k => k = bn ∨ k = cb) W5 W)
    (fuelF x (List.replicate k (List.replicate nv false)) true) ⟨_, true, HNR5.out, Hz.out, HB5.out, (fun h => by cases h), Nat.le_refl _, trivial, Ext.refl _ _⟩ ?_
   intro g ds vx vy vz Wr hI J hJ
   obtain ⟨S, chg, hnr, hfi, hcbk, hsh, hfu, hmk, hE⟩ := hI
   have zz0 := (World.cell?_of_block (hE.block nx (World.block_lt_of_cell? _ _ y0) (by show ¬ (nx = bn ∨ nx = cb); omega))).trans y0
   have zx0 := (World.cell?_of_block (hE.block w.heap.size (World.block_lt_of_cell? _ _ x0) (by show ¬ (w.heap.size = bn ∨ w.heap.size = cb); omega))).trans x0
   have zx1 := (World.cell?_of_block (hE.block w.heap.size (World.block_lt_of_cell? _ _ x1) (by show ¬ (w.heap.size = bn ∨ w.heap.size = cb); omega))).trans x1
   have zx2 := (World.cell?_of_block (hE.block w.heap.size (World.block_lt_of_cell? _ _ x2) (by show ¬ (w.heap.size = bn ∨ w.heap.size = cb); omega))).trans x2
   have zx3 := (World.cell?_of_block (hE.block w.heap.size (World.block_lt_of_cell? _ _ x3) (by show ¬ (w.heap.size = bn ∨ w.heap.size = cb); omega))).trans x3
   have zc0 : Wr.cell? ⟨cb, 0, none⟩ = some (.bool chg) := hcbk.cell 0
   have zcf := hcbk.frozen 0
   have zcl := hcbk.lt
   have HJ := Lib.hid hJ
   have Hmk := Lib.hid hmk
   have Hnr := Lib.hid hnr
   have Hfi := Lib.hid hfi
   have Hcbk := Lib.hid hcbk
   have HEr := Lib.hid hE
   have Hsh := Lib.hid hsh
   have Hfu := Lib.hid hfu
   clear hnr hfi hcbk hsh hfu hmk hE hJ
   unfold fr3
   cases chg with
   | false =>
    go_wp2_with fail
    refine leaves_marks ds Wr Hmk.out fun w' hE => ?_
    have hszE := HEr.out.size
    refine ⟨_, results_tmp rfl _ _ _, bn, rfl, by omega, S, (Hnr.out.marks hE).rows, ?_, Hfi.out, Hsh.out (by simp)⟩
    have hlt5 := World.block_lt_of_cell? _ _ x0
    replace hlt5 : w.heap.size < W5.heap.size := hlt5
    exact Keep.of_ext (Keep.of_ext HK5.out HEr.out (fun k hk e => by omega)) hE (fun k hk e => by have := e.1; omega)
   | true =>
    have hkq : Ext (fun k => k = bn ∨ k = cb) Wr (Wr.setCell ⟨cb, 0, none⟩ (.bool false)) := (Ext.refl _ _).setCell (p := ⟨cb, 0, none⟩) (fun _ => .inr rfl) _
    go_wp2_with fail
    refine (callsIn_wide.1 (backI_calls Fence.wide 5 trivial rfl _ _ _ _)).mono ?_
    rintro e w4 ⟨rfl, hw4⟩
    obtain ⟨Wq, hWq⟩ : ∃ Wq, Wr.setCell ⟨cb, 0, none⟩ (.bool false) = Wq := ⟨_, rfl⟩
    rw [hWq] at hw4 hkq ⊢
    have hk4 : Keep Wq w4 := by rw [hw4]; exact (Keep.refl _).alloc _
    have hb4 : Blk w4 Wq.heap.size 45 [.slice A x.ord.length c] := by rw [hw4]; exact Blk.new Wq _ _
    have hszq : Wq.heap.size = Wr.heap.size := by rw [← hWq]; simp [World.setCell]
    have hs4 : w4.heap.size = Wr.heap.size + 1 := by rw [hw4]; simp [hszq]
    rw [hszq] at hb4
    have hcb4 : Blk w4 cb 4 [.bool false] := by
     have : Blk Wq cb 4 [.bool false] := by rw [← hWq]; exact Hcbk.out.set_ 0 (.bool false)
     exact this.keep hk4
    have hnr4 : NRowsA w4 bn w.heap.size cb S := by
     have : NRowsA Wq bn w.heap.size cb S := by rw [← hWq]; exact Hnr.out.other (by omega) 0 _
     exact this.keep hk4
    have hW5r := HEr.out.size
    have hq4 : Ext (fun k => k = bn ∨ k = cb) Wr w4 := hkq.keepTrans hk4
    have hw5 : w.heap.size < W5.heap.size := World.block_lt_of_cell? _ _ x0
    have hrow := Hown.out.segN.2
    have hAlt : ∀ ad, A = some ad → ad.block < w.heap.size := fun ad ha => Hown.out.addr_lt ha
    have Hst := Lib.hid (backI_stops Fence.wide 5 trivial rfl (by omega) Wr.heap.size c (fun k => (k = bn ∨ k = cb) ∨ w4.heap.size ≤ k) A (ints x.ord) (by rw [ints_len]; unfold maxLen; omega) w4 (by show ¬ ((Wr.heap.size = bn ∨ Wr.heap.size = cb) ∨ _); omega) (by rw [ints_len]; exact hb4.cell 0) (hrow.keep (Keep.of_ext HK5.out (HEr.out.trans hq4 (fun _ _ e => e)) (fun k hk e => by omega))) (fun ad ha _ => by
     have := hAlt ad ha
     show ¬ ((ad.block = bn ∨ ad.block = cb) ∨ w4.heap.size ≤ ad.block)
     omega))
    have Hnr4 := Lib.hid hnr4
    have Hcb4 := Lib.hid hcb4
    have Hq4 := Lib.hid hq4
    have HKw4 := Lib.hid (show Keep w w4 from Keep.of_ext HK5.out (HEr.out.trans hq4 (fun _ _ e => e)) (fun k hk e => by omega))
    have w0 := (World.cell?_of_block (hq4.block nx (World.block_lt_of_cell? _ _ zz0) (by show ¬ (nx = bn ∨ nx = cb); omega))).trans zz0
    have v0 := (World.cell?_of_block (hq4.block w.heap.size (World.block_lt_of_cell? _ _ zx0) (by show ¬ (w.heap.size = bn ∨ w.heap.size = cb); omega))).trans zx0
    have v1 := (World.cell?_of_block (hq4.block w.heap.size (World.block_lt_of_cell? _ _ zx1) (by show ¬ (w.heap.size = bn ∨ w.heap.size = cb); omega))).trans zx1
    have v2 := (World.cell?_of_block (hq4.block w.heap.size (World.block_lt_of_cell? _ _ zx2) (by show ¬ (w.heap.size = bn ∨ w.heap.size = cb); omega))).trans zx2
    have v3 := (World.cell?_of_block (hq4.block w.heap.size (World.block_lt_of_cell? _ _ zx3) (by show ¬ (w.heap.size = bn ∨ w.heap.size = cb); omega))).trans zx3
    rw [hszq]
    clear hWq hw4 hkq hk4 hb4 hcb4 hnr4 hq4 hrow hAlt hszq zz0 zx0 zx1 zx2 zx3 zc0 zcf zcl y0 x0 x1 x2 x3
    go_wp2_with fail
    refine (wpIn_wide (n := 6)).1 ?_
    refine wpIn_range_var rfl (by omega) (gf := 71) (lb := #[.pointer (some ⟨Wr.heap.size, 0, none⟩)]) rfl trivial (enters_of Tryz.func71 (by kernel_rfl) rfl) Hst.out
     (fun h k => h.trans k (fun _ _ h => h)) (fun W l o o' hl ho _ _ => ext_putObj o' ho (.inr hl)) (Below.refl _ _) (fun _ => rfl)
     (fun pre W => ∃ S' chg, NRowsA W bn w.heap.size cb S' ∧ Pass x S pre S' chg ∧ Blk W cb 4 [.bool chg] ∧ Ext (fun k => k = bn ∨ k = cb) w4 W)
     (fun s A' B' row hs hg hr => by
      obtain ⟨S', chg, h1, h2, h3, h4⟩ := hs
      exact ⟨S', chg, h1.turn hg hr, h2, h3.turn hg hr, h4.turn hg (Nat.le_refl _) hr⟩)
     ⟨S, false, Hnr4.out, Pass.start Hfi.out, Hcb4.out, Ext.refl _ _⟩ 9 (fun i => .int .i64 (ints x.ord)[i.1]) ?assign ?body ?done
    case assign =>
     intro l i Wa K hK
     have HK := Lib.hid hK
     clear hK
     gi_wp2
     exact HK.out _ (by unfold inRnd; simp)
    case body =>
     rintro l pre i Wa ⟨S', chg, hnr, hp, hcb, hE⟩ hlen
     obtain ⟨b, hb⟩ := get_some (l := x.ord) (k := i.1) (Nat.lt_of_lt_of_eq i.2 (ints_len _))
     have eb : (ints x.ord)[i.1] = (b : Int) := Option.some.inj ((List.getElem?_eq_getElem i.2).symm.trans (ints_get hb))
     have hbm := List.mem_of_getElem? hb
     have hbl := x.ord_spec.2 b hbm
     obtain ⟨y, hy⟩ := get_some hbl
     have hbk : b < k := Hlt.out b hbm
     obtain ⟨r, hr1, hr2, hr3⟩ := hp.fi.get hbl
     rw [Hnop.out] at hr2
     have hkw : Keep w Wa := Keep.of_ext HKw4.out hE (fun k hk e => by omega)
     have hbeg := Hbeg.out Wa hkw b bn y S' hy hbm hnr.rows hp.fi
     have e1 := (World.cell?_of_block (hE.block nx (World.block_lt_of_cell? _ _ w0) (by show ¬ (nx = bn ∨ nx = cb); omega))).trans w0
     have f0 := (World.cell?_of_block (hE.block w.heap.size (World.block_lt_of_cell? _ _ v0) (by show ¬ (w.heap.size = bn ∨ w.heap.size = cb); omega))).trans v0
     have f1 := (World.cell?_of_block (hE.block w.heap.size (World.block_lt_of_cell? _ _ v1) (by show ¬ (w.heap.size = bn ∨ w.heap.size = cb); omega))).trans v1
     have f2 := (World.cell?_of_block (hE.block w.heap.size (World.block_lt_of_cell? _ _ v2) (by show ¬ (w.heap.size = bn ∨ w.heap.size = cb); omega))).trans v2
     have f3 := (World.cell?_of_block (hE.block w.heap.size (World.block_lt_of_cell? _ _ v3) (by show ¬ (w.heap.size = bn ∨ w.heap.size = cb); omega))).trans v3
     obtain ⟨NW, hNW⟩ : ∃ NW, Lv.newAt x.F nv S' b = NW := ⟨_, rfl⟩
     have hNWl : NW.length = nv := by
      have := (Lv.newAt_getD Hok.out hp.fi.fs hbm 0).1
      rw [Hnop.out, hNW] at this; exact this
     have Hsame := Lib.hid (show NW = r → Pass x S (pre ++ [i]) S' chg from fun e => hp.same hb (by rw [Hnop.out, hNW, hr3, e]))
     have Hnew := Lib.hid (show NW ≠ r → Pass x S (pre ++ [i]) (S'.set b NW) true from fun e => by
      have := hp.new Hok.out hb (by rw [Hnop.out, hNW, hr3]; exact e)
      rwa [Hnop.out, hNW] at this)
     rw [hNW] at hbeg
     have Hbg := Lib.hid hbeg
     have Hnr' := Lib.hid hnr
     have Hr1 := Lib.hid hr1
     have Hr2 := Lib.hid hr2
     have HNWl := Lib.hid hNWl
     have HE' := Lib.hid hE
     have Hcb' := Lib.hid hcb
     have hbi : (b : Int) < (k : Int) := by omega
     have hbi0 : (0 : Int) ≤ (b : Int) := by omega
     unfold inRnd
     rw [eb]
     clear eb hb hbm hbl hy hr1 hr2 hr3 hbeg hNW hNWl hp hnr hE hcb hlen
     gi_wp2_with fail
     refine ⟨trivial, (CallsIn.inRound l (callsIn_wide.2 Hbg.out)).mono ?_⟩
     clear Hbg
     rintro e w6 ⟨g6, rfl, hg6, hb6, hk6⟩
     have hnr6 := Hnr'.out.keep hk6
     obtain ⟨Ar, cr, hrc, hrow⟩ := hnr6.rows.get Hr1.out
     rw [Hr2.out] at hrc hrow
     have e6 := hk6.cell e1
     have c6 : w6.cell? ⟨cb, 0, none⟩ = some (.bool chg) := (Hcb'.out.keep hk6).cell 0
     have cf6 := (Hcb'.out.keep hk6).frozen 0
     have cl6 := (Hcb'.out.keep hk6).lt
     have nf6 := hnr6.rows.frozen b
     have nl6 := hnr6.rows.lt
     have hg6w : g6 ≠ cb := by have := Hcb'.out.lt; omega
     have heq := equal_calls NW r (some ⟨g6, 0, none⟩) Ar nv cr w6 hb6.seg hrow.segN.2 (by rw [Hr2.out, HNWl.out]) (by rw [HNWl.out]; omega)
     rw [Hr2.out, HNWl.out] at heq
     have hgo : Own boolC 1 4 w6 w.heap.size (.slice (some ⟨g6, 0, none⟩) NW.length nv) NW := by
      have := hb6.own (base := w.heap.size) (by have := hkw.size; omega) (by rw [HNWl.out]; unfold maxLen; omega)
      rw [HNWl.out] at this ⊢; exact this
     have HGo := Lib.hid hgo
     have Hnr6 := Lib.hid hnr6
     have Hcb6 := Lib.hid (Hcb'.out.keep hk6)
     have Hk6 := Lib.hid hk6
     by_cases hne : NW = r
     ·have Hp' := Lib.hid (Hsame.out hne)
      rw [decide_eq_true hne] at heq
      have Heq := Lib.hid heq
      clear heq hne hrow hgo hnr6 hb6 hk6
      gi_wp2_with fail
      refine ⟨trivial, (CallsIn.inRound l (callsIn_wide.2 Heq.out)).mono ?_⟩
      clear Heq
      rintro e w7 ⟨rfl, hk7⟩
      have Hfin := Lib.hid (show KeepsFrom w4.heap.size Wa w7 ∧ Ext (fun k => (k = bn ∨ k = cb) ∨ w4.heap.size ≤ k) Wa w7 ∧ ∃ S' chg, NRowsA w7 bn w.heap.size cb S' ∧ Pass x S (pre ++ [i]) S' chg ∧ Blk w7 cb 4 [.bool chg] ∧ Ext (fun k => k = bn ∨ k = cb) w4 w7 from
       ⟨(keepsOthers_of_keep (Hk6.out.trans hk7)).from _, (Hk6.out.trans hk7).ext _, S', chg, Hnr6.out.keep hk7, Hp'.out, Hcb6.out.keep hk7, HE'.out.keepTrans (Hk6.out.trans hk7)⟩)
      clear hk7
      gi_wp2
      exact Hfin.out
     ·have Hp' := Lib.hid (Hnew.out hne)
      rw [decide_eq_false hne] at heq
      have Heq := Lib.hid heq
      clear heq hne hrow hgo hnr6 hb6 hk6
      gi_wp2_with fail
      refine ⟨trivial, (CallsIn.inRound l (callsIn_wide.2 Heq.out)).mono ?_⟩
      clear Heq
      rintro e w7 ⟨rfl, hk7⟩
      have e7 := hk7.cell e6
      have c7 := hk7.cell c6
      have cf7 := (Hcb6.out.keep hk7).frozen 0
      have cl7 := (Hcb6.out.keep hk7).lt
      have nf7 := (Hnr6.out.keep hk7).rows.frozen b
      have nl7 := (Hnr6.out.keep hk7).rows.lt
      have n7 := hk7.cell hrc
      have hbcn : bn ≠ cb := by omega
      have hcbn : cb ≠ bn := by omega
      have Hfin := Lib.hid (show KeepsFrom w4.heap.size Wa ((w7.setCell ⟨bn, b, none⟩ (.slice (some ⟨g6, 0, none⟩) nv nv)).setCell ⟨cb, 0, none⟩ (.bool true)) ∧ Ext (fun k => (k = bn ∨ k = cb) ∨ w4.heap.size ≤ k) Wa ((w7.setCell ⟨bn, b, none⟩ (.slice (some ⟨g6, 0, none⟩) nv nv)).setCell ⟨cb, 0, none⟩ (.bool true)) ∧ ∃ S' chg, NRowsA ((w7.setCell ⟨bn, b, none⟩ (.slice (some ⟨g6, 0, none⟩) nv nv)).setCell ⟨cb, 0, none⟩ (.bool true)) bn w.heap.size cb S' ∧ Pass x S (pre ++ [i]) S' chg ∧ Blk ((w7.setCell ⟨bn, b, none⟩ (.slice (some ⟨g6, 0, none⟩) nv nv)).setCell ⟨cb, 0, none⟩ (.bool true)) cb 4 [.bool chg] ∧ Ext (fun k => k = bn ∨ k = cb) w4 ((w7.setCell ⟨bn, b, none⟩ (.slice (some ⟨g6, 0, none⟩) nv nv)).setCell ⟨cb, 0, none⟩ (.bool true)) from by
       have hn7 := (Hnr6.out.keep hk7).put (i := b) (HGo.out.keep hk7) (by show some g6 ≠ some cb; exact fun e => hg6w (Option.some.inj e))
       rw [HNWl.out] at hn7
       refine ⟨(((keepsOthers_of_keep (Hk6.out.trans hk7)).trans (KeepsOthers.setCell _ _ _)).trans (KeepsOthers.setCell _ _ _)).from _, ((((Hk6.out.trans hk7).ext _).setCell (p := ⟨bn, b, none⟩) (fun _ => .inl (.inl rfl)) _).setCell (p := ⟨cb, 0, none⟩) (fun _ => .inl (.inr rfl)) _), _, true, hn7.other hbcn 0 _, Hp'.out, ?_, (((HE'.out.keepTrans (Hk6.out.trans hk7)).setCell (p := ⟨bn, b, none⟩) (fun _ => .inl rfl) _).setCell (p := ⟨cb, 0, none⟩) (fun _ => .inr rfl) _)⟩
       exact ((Hcb6.out.keep hk7).far (p := ⟨bn, b, none⟩) hcbn _).set_ 0 (.bool true))
      clear hk7
      gi_wp2
      exact Hfin.out
    case done =>
     rintro D xs Wd hD rfl ⟨S', chg, hnr, hp, hcb, hE⟩ hK
     have Hfin := Lib.hid (HJ.out (fuelF x S' chg) ({ target := .collected D, args := #[] } :: ds))
     have Hfu2 := Lib.hid (Nat.lt_of_lt_of_le (Hfl.out _ _ _ _ Hfi.out hp) Hfu.out)
     have hEr : Ext (fun k => k = bn ∨ k = cb) Wr Wd := Hq4.out.trans hE (fun _ _ e => e)
     have HI := Lib.hid (show ∃ S chg0, NRowsA Wd bn w.heap.size cb S ∧ FI x S ∧ Blk Wd cb 4 [.bool chg0] ∧ (chg0 = false → Shut x S) ∧ fuelF x S chg0 ≤ fuelF x S' chg ∧ Marks W5.heap.size Wd ({ target := .collected D, args := #[] } :: ds) ∧ Ext (fun k => k = bn ∨ k = cb) W5 Wd from
      ⟨S', chg, hnr, hp.fi, hcb, fun e => by subst e; exact hp.shut, Nat.le_refl _, Marks.push Hmk.out (Hmk.out.keep (others_of_ext2 Hnr.out.rows Hcbk.out hEr)) (by omega) (by omega) hK, HEr.out.trans hEr (fun _ _ e => e)⟩)
     clear hnr hp hcb hE hK hEr
     go_wp2_with fail
     exact Hfin.out (.bool true) (.slice A x.ord.length c) (.func (.func 71) #[] #[.pointer (some ⟨Wr.heap.size, 0, none⟩)]) _ _ Hfu2.out (by unfold fr3; simp) HI.out
end Go.Proofs.YtjpmiejgcnfiiaaGreat
