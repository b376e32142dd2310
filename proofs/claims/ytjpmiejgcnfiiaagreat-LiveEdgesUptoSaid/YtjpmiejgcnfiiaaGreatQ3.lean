import Derived.Test.YtjpmiejgcnfiiaaGreatQ0
import Derived.Test.YtjpmiejgcnfiiaaGreatQ2
import Derived.Shelf.RegionOpenPlain
set_option linter.unusedVariables false
set_option linter.unusedSimpArgs false
namespace Go.Proofs.YtjpmiejgcnfiiaaGreat
open Go Go.ChangeShapes Go.WideShapes Go.ChangeAt Go.RowKit Go.Deep

/-- A row that comes in, whatever its elements are. -/
theorem opensU_row {w : World} {t e : TypeId} {α : Type} {f : α → List Value} {ok : α → Prop} {sz : α → Nat} {s : Nat} (ht : Tryz.prog.underlying t = some (.slice e)) (hs : Tryz.prog.cellsOf e = s) (hf : ∀ x, (f x).length = s) (ho : OpensU Tryz.prog w e f ok sz) :
  OpensU Tryz.prog w t (fun x : RwD α => [x.v]) (fun x => Seg w x.a (x.l.flatMap f) ∧ (∀ y ∈ x.l, ok y) ∧ x.l.length ≤ maxLen ∧ x.l.length ≤ x.c) (fun x => (x.l.map sz).sum + 1) :=
 opensU_to (opensU_slice ht hs hf ho) (fun x => ⟨x.1, x.2.1, x.2.2⟩) (fun _ => rfl) (fun x h => ⟨h.1, h.2.1, by have := h.2.2.1; have := h.2.2.2; show x.2.1.length ≤ _; omega, h.2.2.1⟩) (fun _ => Nat.le_refl _)
theorem sum_one {α : Type} (l : List α) : (l.map fun _ => 1).sum = l.length := by induction l <;> simp_all [Nat.add_comm]
theorem sum_mem {α : Type} {sz : α → Nat} {l : List α} {x : α} (h : x ∈ l) : sz x ≤ (l.map sz).sum := by
 induction l with
 | nil => cases h
 | cons y l ih =>
  simp only [List.map_cons, List.sum_cons]
  rcases List.mem_cons.1 h with rfl | h
  ·omega
  ·have := ih h; omega
theorem sum_len {α : Type} {sz : α → Nat} (h1 : ∀ x, 1 ≤ sz x) (l : List α) : l.length ≤ (l.map sz).sum := by
 induction l with
 | nil => simp
 | cons y l ih => have := h1 y; simp only [List.map_cons, List.sum_cons, List.length_cons]; omega
theorem sum_flat {α β : Type} {sz : α → Nat} {g : α → List β} (h1 : ∀ x, (g x).length ≤ sz x) (l : List α) : (l.flatMap g).length ≤ (l.map sz).sum := by
 induction l with
 | nil => simp
 | cons y l ih => have := h1 y; simp only [List.map_cons, List.sum_cons, List.flatMap_cons, List.length_append]; omega
theorem opU_int (w : World) : OpensU Tryz.prog w 3 intC (fun n => (Lit.int .i64 n).wf = true) (fun _ => 1) := opensU_int Tryz.underlying3
theorem opU_val (w : World) : OpensU Tryz.prog w 74 intC (fun n => (Lit.int .i64 n).wf = true) (fun _ => 1) := opensU_int Tryz.underlying74
theorem opU_op (w : World) : OpensU Tryz.prog w 60 intC (fun n => (Lit.int .i64 n).wf = true) (fun _ => 1) := opensU_int Tryz.underlying60
theorem opU_trap (w : World) : OpensU Tryz.prog w 53 intC (fun n => (Lit.int .i64 n).wf = true) (fun _ => 1) := opensU_int Tryz.underlying53
theorem opU_u64 (w : World) : OpensU Tryz.prog w 61 (fun n : Int => [.int .u64 n]) (fun n => (Lit.int .u64 n).wf = true) (fun _ => 1) := opensU_int Tryz.underlying61
theorem opU_ints (w : World) : OpensU Tryz.prog w 45 (fun x : RwD Int => [x.v]) (fun x => NumOk w x) (fun x => x.l.length + 1) :=
 opensU_to (opensU_row (f := intC) (s := 1) Tryz.underlying45 (by kernel_rfl) (fun _ => rfl) (opU_int w)) id (fun _ => rfl) (fun x h => ⟨h.1, h.2.2.1⟩) (fun x => by rw [sum_one]; exact Nat.le_refl _)
theorem opU_vals (w : World) : OpensU Tryz.prog w 34 (fun x : RwD Int => [x.v]) (fun x => NumOk w x) (fun x => x.l.length + 1) :=
 opensU_to (opensU_row (f := intC) (s := 1) Tryz.underlying34 (by kernel_rfl) (fun _ => rfl) (opU_val w)) id (fun _ => rfl) (fun x h => ⟨h.1, h.2.2.1⟩) (fun x => by rw [sum_one]; exact Nat.le_refl _)
theorem opU_intsC (w : World) : OpensU Tryz.prog w 45 (fun x : RwD Int => [x.v]) (fun x => NumOk w x ∧ x.l.length ≤ x.c) (fun x => x.l.length + 1) :=
 opensU_to (opensU_row (f := intC) (s := 1) Tryz.underlying45 (by kernel_rfl) (fun _ => rfl) (opU_int w)) id (fun _ => rfl) (fun x h => ⟨⟨h.1, h.2.2.1⟩, h.2.2.2⟩) (fun x => by rw [sum_one]; exact Nat.le_refl _)
def szEd (x : EdD) : Nat := x.args.l.length + 1
theorem opU_edge (w : World) : OpensU Tryz.prog w 65 edC (EdOk w) szEd :=
 opensU_to (opensU_struct Tryz.underlying65 (by kernel_rfl) (opensF_cons (c := 1) (by kernel_rfl) (opU_int w) (opensF_cons (c := 1) (by kernel_rfl) (opU_ints w) (opensF_nil _) rfl (by simp)) rfl (by simp)))
  (fun x => ⟨x.1, x.2.1⟩) (fun _ => rfl) (fun x h => ⟨h.2.1⟩) (fun x => by unfold szEd; dsimp only; omega)
def InWf (x : InD) : Prop := (Lit.int .i64 x.a).wf = true ∧ (Lit.int .i64 x.b).wf = true ∧ x.args.l.length ≤ x.args.c
def szIn (x : InD) : Nat := x.args.l.length + x.outs.l.length + 1
theorem opU_ins (w : World) : OpensU Tryz.prog w 63 inC (fun x => InOk w x ∧ InWf x) szIn :=
 opensU_to (opensU_struct Tryz.underlying63 (by kernel_rfl) (opensF_cons (c := 1) (by kernel_rfl) (opU_int w) (opensF_cons (c := 1) (by kernel_rfl) (opU_op w) (opensF_cons (c := 1) (by kernel_rfl) (opU_int w) (opensF_cons (c := 1) (by kernel_rfl) (opU_int w)
  (opensF_cons (c := 1) (by kernel_rfl) (opU_u64 w) (opensF_cons (c := 1) (by kernel_rfl) (opU_intsC w) (opensF_cons (c := 1) (by kernel_rfl) (opU_intsC w) (opensF_nil _) rfl (by simp)) rfl (by simp)) rfl (by simp)) rfl (by simp)) rfl (by simp)) rfl (by simp)) rfl (by simp)))
  (fun x => ⟨x.1, x.2.1, x.2.2.1, x.2.2.2.1, x.2.2.2.2.1, x.2.2.2.2.2.1, x.2.2.2.2.2.2.1⟩) (fun _ => rfl) (fun x h => ⟨⟨h.2.2.2.2.2.1.1, h.2.2.2.2.2.2.1.1⟩, h.2.2.1, h.2.2.2.1, h.2.2.2.2.2.1.2⟩) (fun x => by unfold szIn; dsimp only; omega)
/-- The end of a block. -/
structure EnD where
 kind : Int
 cond : Int
 args : RwD Int
 to : RwD EdD
 trap : Int
def enC (x : EnD) : List Value := [.int .i64 x.kind, .int .i64 x.cond, x.args.v, x.to.v, .int .i64 x.trap]
structure EnOk (w : World) (x : EnD) : Prop where
 args : NumOk w x.args
 toSeg : Seg w x.to.a (x.to.l.flatMap edC)
 to : ∀ e ∈ x.to.l, EdOk w e
 toLen : x.to.l.length ≤ maxLen
def szEn (x : EnD) : Nat := x.args.l.length + (x.to.l.map szEd).sum + 1
theorem opU_end (w : World) : OpensU Tryz.prog w 55 enC (EnOk w) szEn :=
 opensU_to (opensU_struct Tryz.underlying55 (by kernel_rfl) (opensF_cons (c := 1) (by kernel_rfl) (opU_int w) (opensF_cons (c := 1) (by kernel_rfl) (opU_int w) (opensF_cons (c := 1) (by kernel_rfl) (opU_ints w)
  (opensF_cons (c := 1) (by kernel_rfl) (opensU_row (f := edC) Tryz.underlying52 (s := 2) (by kernel_rfl) (fun _ => rfl) (opU_edge w)) (opensF_cons (c := 1) (by kernel_rfl) (opU_trap w) (opensF_nil _) rfl (by simp)) rfl (by simp)) rfl (by simp)) rfl (by simp)) rfl (by simp)))
  (fun x => ⟨x.1, x.2.1, x.2.2.1, x.2.2.2.1, x.2.2.2.2.1⟩) (fun _ => rfl) (fun x h => ⟨h.2.2.1, h.2.2.2.1.1, h.2.2.2.1.2.1, h.2.2.2.1.2.2.1⟩) (fun x => by unfold szEn; dsimp only; omega)
def szBk (x : BkD) : Nat := x.params.l.length + (x.ins.l.map szIn).sum + (x.args.l.length + (x.to.l.map szEd).sum) + 2
theorem opU_block (w : World) : OpensU Tryz.prog w 57 bkC (fun x => BkOk w x ∧ ∀ i ∈ x.ins.l, InWf i) szBk :=
 opensU_to (opensU_struct Tryz.underlying57 (by kernel_rfl) (opensF_cons (c := 1) (by kernel_rfl) (opU_ints w) (opensF_cons (c := 1) (by kernel_rfl) (opensU_row (f := inC) Tryz.underlying51 (s := 7) (by kernel_rfl) (fun _ => rfl) (opU_ins w))
  (opensF_cons (c := 5) (by kernel_rfl) (opU_end w) (opensF_nil _) rfl (by simp)) rfl (by simp)) rfl (by simp)))
  (fun x => ⟨x.1, x.2.1, x.2.2.1.kind, x.2.2.1.cond, x.2.2.1.args, x.2.2.1.to, x.2.2.1.trap⟩) (fun _ => rfl)
  (fun x h => ⟨⟨h.1, h.2.1.1, fun i hi => (h.2.1.2.1 i hi).1, h.2.1.2.2.1, h.2.2.1.args, h.2.2.1.toSeg, h.2.2.1.to, h.2.2.1.toLen⟩, fun i hi => (h.2.1.2.1 i hi).2⟩) (fun x => by unfold szBk szEn; dsimp only; omega)
theorem opU_func (w : World) : OpensU Tryz.prog w 36 (fun x : RwD Int × RwD Int => [x.1.v, x.2.v]) (fun x => NumOk w x.1 ∧ NumOk w x.2) (fun x => x.1.l.length + x.2.l.length + 1) :=
 opensU_to (opensU_struct Tryz.underlying36 (by kernel_rfl) (opensF_cons (c := 1) (by kernel_rfl) (opU_vals w) (opensF_cons (c := 1) (by kernel_rfl) (opU_vals w) (opensF_nil _) rfl (by simp)) rfl (by simp)))
  (fun x => (x.1, x.2.1)) (fun _ => rfl) (fun x h => ⟨h.1, h.2.1⟩) (fun x => by dsimp only; omega)
def szSs (x : SsD) : Nat := x.params.l.length + x.results.l.length + x.vals.l.length + (x.blocks.l.map szBk).sum + 1
theorem opU_form (w : World) : OpensU Tryz.prog w 39 ssC (fun x => SsOk w x ∧ NumOk w x.params ∧ NumOk w x.results ∧ ∀ y ∈ x.blocks.l, ∀ i ∈ y.ins.l, InWf i) szSs :=
 opensU_to (opensU_struct Tryz.underlying39 (by kernel_rfl) (opensF_cons (c := 2) (by kernel_rfl) (opU_func w) (opensF_cons (c := 1) (by kernel_rfl) (opU_vals w)
  (opensF_cons (c := 1) (by kernel_rfl) (opensU_row (f := bkC) Tryz.underlying37 (s := 7) (by kernel_rfl) (fun _ => rfl) (opU_block w)) (opensF_nil _) rfl (by simp)) rfl (by simp)) rfl (by simp)))
  (fun x => ⟨x.1.1, x.1.2, x.2.1, x.2.2.1⟩) (fun _ => rfl) (fun x h => ⟨⟨h.2.1, h.2.2.1.1, fun b hb => (h.2.2.1.2.1 b hb).1, h.2.2.1.2.2.1⟩, h.1.1, h.1.2, fun y hy => (h.2.2.1.2.1 y hy).2⟩) (fun x => by unfold szSs; dsimp only; omega)
/-- What the bound says of a form. -/
structure Bulky (x : SsD) : Prop where
 params : x.params.l.length ≤ 1048576
 results : x.results.l.length ≤ 1048576
 vals : x.vals.l.length ≤ 1048576
 blocks : x.blocks.l.length ≤ 1048576
 blk : ∀ y ∈ x.blocks.l, szBk y ≤ 1048576
 sum : (x.blocks.l.map szBk).sum ≤ 1048576
theorem Bulky.of {x : SsD} (h : szSs x ≤ 1048576) : Bulky x := by
 unfold szSs at h
 have h1 := sum_len (sz := szBk) (fun y => by unfold szBk; omega) x.blocks.l
 refine ⟨by omega, by omega, by omega, by omega, fun y hy => ?_, by omega⟩
 have := sum_mem (sz := szBk) hy
 omega
theorem szIn_one (x : InD) : 1 ≤ szIn x := by unfold szIn; omega
theorem szEd_one (x : EdD) : 1 ≤ szEd x := by unfold szEd; omega
/-- What it says of a block. -/
structure BulkyB (y : BkD) : Prop where
 params : y.params.l.length ≤ 1048576
 ins : y.ins.l.length ≤ 1048576
 args : y.args.l.length ≤ 1048576
 to : y.to.l.length ≤ 1048576
 inn : ∀ i ∈ y.ins.l, i.args.l.length ≤ 1048576 ∧ i.outs.l.length ≤ 1048576
 edges : ∀ e ∈ y.to.l, e.args.l.length ≤ 1048576
 ends : y.endsI.length ≤ 1048576
 outs : (y.params.l ++ y.ins.l.flatMap fun i => i.outs.l).length ≤ 1048576
theorem Bulky.block {x : SsD} (h : Bulky x) {y : BkD} (hy : y ∈ x.blocks.l) : BulkyB y := by
 have h1 := h.blk y hy
 unfold szBk at h1
 have h2 := sum_len szIn_one y.ins.l
 have h3 := sum_len szEd_one y.to.l
 refine ⟨by omega, by omega, by omega, by omega, fun i hi => ?_, fun e he => ?_, ?_, ?_⟩
 ·have := sum_mem (sz := szIn) hi
  unfold szIn at this h1
  omega
 ·have := sum_mem (sz := szEd) he
  unfold szEd at this h1
  omega
 ·unfold BkD.endsI
  have h4 := sum_flat (sz := szEd) (g := fun e : EdD => e.args.l) (fun e => by unfold szEd; omega) y.to.l
  simp only [List.length_append]
  split <;> simp only [List.length_cons, List.length_nil] <;> omega
 ·have h4 := sum_flat (sz := szIn) (g := fun i : InD => i.outs.l) (fun i => by unfold szIn; omega) y.ins.l
  simp only [List.length_append]
  omega
end Go.Proofs.YtjpmiejgcnfiiaaGreat
namespace Go.Proofs.YtjpmiejgcnfiiaaGreat
open Go Go.RowKit

theorem elI : ElT Tryz.prog 45 3 1 8 intC where
 slice := Tryz.underlying45
 info := info_of (z := .int .i64 0) (by kernel_rfl) rfl
 pos := by omega
 len := fun _ => rfl
 one := fun x u hu => by simp [intC] at hu; subst hu; rfl
/-- A box of two cells. -/
theorem box2 (w : World) (T : TypeId) (v0 v1 : Value) : ∃ W : World, W = w.alloc (.cells #[v0, v1] T) ∧ Keep w W ∧ Blk W w.heap.size T [v0, v1] :=
 ⟨_, rfl, (Keep.refl _).alloc _, Blk.new w T [v0, v1]⟩
theorem intPush {w : World} {base : Nat} {v : Value} {xs : List Int} (h : Own intC 1 3 w base v xs) (x : Int) (hn : xs.length + 1 ≤ 17592186044416) (hb : base ≤ w.heap.size) :
  ∃ A c, v = .slice A xs.length c ∧ ∃ A' c' w2, (Builtin.append_ #[45, 45] 45 #[.slice A xs.length c, .slice (some ⟨w.heap.size, 0, none⟩) 1 1]).run Tryz.prog (w.alloc (.cells #[.int .i64 x] 3)) = .ok (.slice A' (xs.length + 1) c') w2 ∧
   Own intC 1 3 w2 base (.slice A' (xs.length + 1) c') (xs ++ [x]) ∧ Ext (fun k => v.ownBlock = some k) w w2 := by
 obtain ⟨A, c, hform, _⟩ := h.form
 have hka : Keep w (w.alloc (.cells #[.int .i64 x] 3)) := (Keep.refl _).alloc _
 have hseg : Seg (w.alloc (.cells #[.int .i64 x] 3)) (some ⟨w.heap.size, 0, none⟩) (([x] : List Int).flatMap intC) := Seg.of_blk (Blk.new w 3 [.int .i64 x])
 obtain ⟨v', w2, hrun, hown, hg, _⟩ := append_run (ys := [x]) elI (h.keep hka) hseg 1 45 (by simp [maxLen]; omega) (by simp; omega) (Nat.le_trans hb hka.size)
 obtain ⟨A', c', rfl, _⟩ := hown.form
 have e : (xs ++ [x]).length = xs.length + 1 := by simp
 rw [e] at hrun hown
 subst hform
 exact ⟨A, c, rfl, A', c', w2, hrun, hown, (hka.ext _).grown hg (fun k hk _ => hk)⟩

def nextL (n : Nat) (l : List EdD) : List Int := (l.map (·.to)).filter fun t => decide (0 ≤ t ∧ t < (n : Int))
theorem nextL_snoc (n : Nat) {l : List EdD} {k : Nat} {e : EdD} (h : l[k]? = some e) : nextL n (l.take (k + 1)) = if 0 ≤ e.to ∧ e.to < (n : Int) then nextL n (l.take k) ++ [e.to] else nextL n (l.take k) := by
 unfold nextL
 rw [List.take_add_one, h, List.map_append, List.filter_append]
 by_cases g : 0 ≤ e.to ∧ e.to < (n : Int)
 ·rw [if_pos g]; simp [g]
 ·rw [if_neg g]
  have : ([e].map (·.to)).filter (fun t => decide (0 ≤ t ∧ t < (n : Int))) = [] := by
   rw [List.filter_eq_nil_iff]; intro t ht; simp at ht; subst ht; simpa using g
  show _ ++ List.filter _ ([e].map (·.to)) = _
  rw [this, List.append_nil]
theorem nextL_len (n : Nat) (l : List EdD) : (nextL n l).length ≤ l.length := by
 unfold nextL
 exact Nat.le_trans (List.length_filter_le _ _) (by simp)

set_option maxHeartbeats 2000000 in
theorem next_calls (x : SsD) (b : Nat) (y : BkD) (w : World) (h : SsOk w x) (hy : x.blocks.l[b]? = some y) (hto : y.to.l.length < 17592186044416) :
  Calls Tryz.prog 26 #[.agg (ssC x).toArray, .int .i64 (b : Int)] w fun e w' => ∃ v, e = .returned v ∧ Own intC 1 3 w' w.heap.size v (y.nextI x.blocks.l.length) ∧ Keep w w' := by
 obtain ⟨xp, xr, xv, ⟨ba, bl, bc⟩⟩ := x
 obtain ⟨yp, yi, yk, yc, ya, ⟨ta, tl, tc⟩, yt⟩ := y
 replace hto : tl.length < 17592186044416 := hto
 replace hy : bl[b]? = some ⟨yp, yi, yk, yc, ya, ⟨ta, tl, tc⟩, yt⟩ := hy
 obtain ⟨wa, hwa⟩ : ∃ wa : World, wa = w.alloc (.cells #[xp.v, xr.v, xv.v, .slice ba bl.length bc] 39) := ⟨_, rfl⟩
 have hka : Keep w wa := by rw [hwa]; exact (Keep.refl _).alloc _
 have bx : Blk wa w.heap.size 39 [xp.v, xr.v, xv.v, .slice ba bl.length bc] := by rw [hwa]; exact Blk.new w _ _
 have c2 : wa.cell? ⟨w.heap.size, 3, none⟩ = some (.slice ba bl.length bc) := bx.cell 3
 have lt := bx.lt
 obtain ⟨B, off, hA, hB, hcB⟩ := bk_get h.seg (Keep.refl w) hy
 replace hA : ba = some ⟨B, off, none⟩ := hA
 subst hA
 have hbl := (List.getElem?_eq_some_iff.1 hy).1
 have hBl := Nat.lt_of_lt_of_le hB hka.size
 have hbi : (b : Int) < (bl.length : Int) := by omega
 have hb0 : (0 : Int) ≤ (b : Int) := by omega
 have t5 : w.cell? ⟨B, off + b * 7 + 2 + 3, none⟩ = some (.slice ta tl.length tc) := hcB 5 _ rfl
 have Hok := Lib.hid (h.blocks _ (List.mem_of_getElem? hy))
 have Hka := Lib.hid hka
 have htl : tl.length ≤ maxLen := (h.blocks _ (List.mem_of_getElem? hy)).toLen
 unfold maxLen at htl
 obtain ⟨n, hn⟩ : ∃ n, bl.length = n := ⟨_, rfl⟩
 have HN := Lib.hid (show BkD.nextI ⟨yp, yi, yk, yc, ya, ⟨ta, tl, tc⟩, yt⟩ bl.length = nextL n tl by unfold BkD.nextI nextL; rw [hn])
 show Calls Tryz.prog 26 #[.agg #[xp.v, xr.v, xv.v, .slice (some ⟨B, off, none⟩) bl.length bc], .int .i64 (b : Int)] w fun e w' => ∃ v, e = .returned v ∧ Own intC 1 3 w' w.heap.size v (BkD.nextI ⟨yp, yi, yk, yc, ya, ⟨ta, tl, tc⟩, yt⟩ bl.length) ∧ Keep w w'
 rw [HN.out]
 rw [hn] at c2 hbi hwa ⊢
 clear h hy bx hcB hka hn hbl
 unfold RwD.v at *
 go_enter Tryz.func26, Tryz.ntmps26
 go_wp2_with fail
 rw [← hwa]
 clear hwa
 go_loopw [5, 16] (fun vo vi wr => ∃ k : Nat, k ≤ tl.length ∧ vi = .int .i64 k ∧ Hid (Own intC 1 3 wr wa.heap.size vo (nextL n (tl.take k))) ∧ Hid (Keep wa wr)) (fun _ i _ => tl.length - (intOf i).toNat)
 case atStart => exact ⟨0, Nat.zero_le _, rfl, Lib.hid (Own.nil _ _ _ _ _), Lib.hid (Keep.refl _)⟩
 case round =>
  obtain ⟨k, hk, rfl, hown, hkeep⟩ := hrel
  have c2r := hkeep.out.cell c2
  have ltr := Nat.lt_of_lt_of_le lt hkeep.out.size
  by_cases hin : k < tl.length
  ·obtain ⟨e, he⟩ := get_some hin
   obtain ⟨bE, offE, hE, hbE, e0, e1⟩ := ed_get Hok.out.toSeg (Hka.out.trans hkeep.out) he
   replace hE : ta = some ⟨bE, offE, none⟩ := hE
   subst hE
   have hbEl := Nat.lt_of_lt_of_le hbE (Hka.out.trans hkeep.out).size
   have hkk : (k : Int) < (tl.length : Int) := by omega
   have hk0 : (0 : Int) ≤ (k : Int) := by omega
   obtain ⟨et, ⟨ea, el, ec⟩⟩ := e
   replace e0 : wr.cell? ⟨bE, offE + k * 2, none⟩ = some (.int .i64 et) := e0
   replace e1 : wr.cell? ⟨bE, offE + k * 2 + 1, none⟩ = some (.slice ea el.length ec) := e1
   have hsn := nextL_snoc n he
   obtain ⟨wb, hwb, kb, bb⟩ := box2 wr 65 (.int .i64 et) (.slice ea el.length ec)
   have hzb : wb.heap.size = wr.heap.size + 1 := by rw [hwb]; simp
   have y0 : wb.cell? ⟨wr.heap.size, 0, none⟩ = some (.int .i64 et) := bb.cell 0
   have yl := bb.lt
   have z2 := kb.cell c2r
   have zl := Nat.lt_of_lt_of_le ltr kb.size
   have hlen : (nextL n (tl.take k)).length ≤ k := by have := nextL_len n (tl.take k); rw [List.length_take] at this; omega
   by_cases g1 : 0 ≤ et
   ·by_cases g2 : et < (n : Int)
    ·rw [if_pos ⟨g1, g2⟩] at hsn
     obtain ⟨Ao, co, rfl, A', c', w7, hrun, hown7, hE7⟩ := intPush (hown.out.keep kb) et (by omega) (Nat.le_trans hkeep.out.size kb.size)
     have hown0 := hown.out
     obtain ⟨m, hm⟩ : ∃ m, (nextL n (tl.take k)).length = m := ⟨_, rfl⟩
     rw [hm] at hrun hown7 hE7 hown0 ⊢
     have Hn := Lib.hid (show Own intC 1 3 w7 wa.heap.size (.slice A' (m + 1) c') (nextL n (tl.take (k + 1))) ∧ Keep wa w7 from ⟨by rw [hsn]; exact hown7, Keep.of_ext (hkeep.out.trans kb) hE7 (fun j hj e => by have := (hown0.lt j e).1; omega)⟩)
     rw [hzb] at hrun
     rw [hwb] at hrun y0 yl z2 zl
     clear hown hkeep hown7 hE7 hown0 hsn he bb kb hlen hm hzb
     go_wp2_with (at_builtin; refine wpList_append_eq rfl _ _ _ rfl _ _ rfl rfl _ _ hrun ?_; clear hrun)
     go_roundw
     case rel => exact ⟨k + 1, hin, by go_num, Lib.hid Hn.out.1, Lib.hid Hn.out.2⟩
     case measure => simp [intOf]; omega
    ·rw [if_neg (fun h => g2 h.2)] at hsn
     have g2d : decide (et < (n : Int)) = false := decide_eq_false g2
     have Hn := Lib.hid (show Own intC 1 3 wb wa.heap.size u5 (nextL n (tl.take (k + 1))) ∧ Keep wa wb from ⟨by rw [hsn]; exact hown.out.keep kb, hkeep.out.trans kb⟩)
     rw [hwb] at y0 yl z2 zl
     clear hown hkeep hsn he bb kb hlen hzb
     go_wp2
     rw [← hwb]
     go_roundw
     case rel => exact ⟨k + 1, hin, by go_num, Lib.hid Hn.out.1, Lib.hid Hn.out.2⟩
     case measure => simp [intOf]; omega
   ·rw [if_neg (fun h => g1 h.1)] at hsn
    have g1d : decide (0 ≤ et) = false := decide_eq_false g1
    have Hn := Lib.hid (show Own intC 1 3 wb wa.heap.size u5 (nextL n (tl.take (k + 1))) ∧ Keep wa wb from ⟨by rw [hsn]; exact hown.out.keep kb, hkeep.out.trans kb⟩)
    rw [hwb] at y0 yl z2 zl
    clear hown hkeep hsn he bb kb hlen hzb
    go_wp2
    rw [← hwb]
    go_roundw
    case rel => exact ⟨k + 1, hin, by go_num, Lib.hid Hn.out.1, Lib.hid Hn.out.2⟩
    case measure => simp [intOf]; omega
  ·have hown2 := hown.out
   rw [List.take_of_length_le (by omega)] at hown2
   have Hr := Lib.hid (show Own intC 1 3 wr w.heap.size u5 (nextL n tl) ∧ Keep w wr from ⟨hown2.mono Hka.out.size, Hka.out.trans hkeep.out⟩)
   clear hown hown2 hkeep
   go_wp2
   go_ret
   exact ⟨_, rfl, Hr.out.1, Hr.out.2⟩
end Go.Proofs.YtjpmiejgcnfiiaaGreat
namespace Go.Proofs.YtjpmiejgcnfiiaaGreat
open Go Go.RowKit

section
variable {t : TypeId} {w : World} {base g n c : Nat} {xs : List Int}
theorem IOwn.put (h : Own intC 1 t w base (.slice (some ⟨g, 0, none⟩) n c) xs) (j : Nat) (x : Int) : Own intC 1 t (w.setCell ⟨g, j, none⟩ (.int .i64 x)) base (.slice (some ⟨g, 0, none⟩) n c) (xs.set j x) := by
 refine Own.put (f := intC) (s := 1) (ys := xs.set j x) (fun _ => rfl) h j _ ?_ (by simp)
 rw [flat_int, flat_int, List.map_set]
theorem IOwn.get (h : Own intC 1 t w base (.slice (some ⟨g, 0, none⟩) n c) xs) {j : Nat} {x : Int} (hj : xs[j]? = some x) : w.cell? ⟨g, j, none⟩ = some (.int .i64 x) := by
 have hl := (List.getElem?_eq_some_iff.1 hj).1
 obtain ⟨g', c', e, _, _, hc⟩ := own_at h (by omega)
 cases e
 exact hc j _ (by rw [flat_int, List.getElem?_map, hj]; rfl)
end

/-- A row of which the first k and the last k are turned. -/
def revK (d : List Int) (k : Nat) : List Int := (List.range d.length).map fun p => if p < k ∨ d.length - k ≤ p then d.getD (d.length - 1 - p) 0 else d.getD p 0
theorem revK_len (d : List Int) (k : Nat) : (revK d k).length = d.length := by simp [revK]
theorem revK_get (d : List Int) (k : Nat) {p : Nat} (hp : p < d.length) : (revK d k)[p]? = some (if p < k ∨ d.length - k ≤ p then d.getD (d.length - 1 - p) 0 else d.getD p 0) := by
 unfold revK; rw [List.getElem?_map, List.getElem?_range hp]; rfl
theorem revK_zero (d : List Int) : revK d 0 = d := by
 refine List.ext_getElem? fun p => ?_
 rcases Nat.lt_or_ge p d.length with hp | hp
 ·rw [revK_get d 0 hp, if_neg (by omega), List.getD_eq_getElem?_getD, List.getElem?_eq_getElem hp]; rfl
 ·rw [List.getElem?_eq_none (by rw [revK_len]; exact hp), List.getElem?_eq_none hp]
theorem revK_end {d : List Int} {k : Nat} (h : d.length ≤ 2 * k + 1) : revK d k = d.reverse := by
 refine List.ext_getElem? fun p => ?_
 rcases Nat.lt_or_ge p d.length with hp | hp
 ·rw [revK_get d k hp, List.getElem?_reverse hp]
  split
  ·rw [List.getD_eq_getElem?_getD, List.getElem?_eq_getElem (by omega)]; rfl
  ·have : d.length - 1 - p = p := by omega
   rw [List.getD_eq_getElem?_getD, List.getElem?_eq_getElem hp, this, List.getElem?_eq_getElem hp]; rfl
 ·rw [List.getElem?_eq_none (by rw [revK_len]; exact hp), List.getElem?_eq_none (by simpa using hp)]
theorem revK_step {d : List Int} {k j : Nat} (hj : k + j + 1 = d.length) (h : k < j) {x y : Int} (hx : (revK d k)[k]? = some x) (hy : (revK d k)[j]? = some y) : ((revK d k).set k y).set j x = revK d (k + 1) := by
 rw [revK_get d k (by omega), if_neg (by omega)] at hx
 rw [revK_get d k (by omega), if_neg (by omega)] at hy
 refine List.ext_getElem? fun p => ?_
 rcases Nat.lt_or_ge p d.length with hp | hp
 ·rw [revK_get d _ hp, List.getElem?_set]
  by_cases e : j = p
  ·subst e
   rw [if_pos rfl, if_pos (by rw [List.length_set, revK_len]; exact hp), if_pos (by omega), show d.length - 1 - j = k by omega]
   exact hx.symm
  ·rw [if_neg e, List.getElem?_set]
   by_cases e' : k = p
   ·subst e'
    rw [if_pos rfl, if_pos (by rw [revK_len]; exact hp), if_pos (by omega), show d.length - 1 - k = j by omega]
    exact hy.symm
   ·rw [if_neg e', revK_get d k hp]
    by_cases g : p < k ∨ d.length - k ≤ p
    ·rw [if_pos g, if_pos (by omega)]
    ·rw [if_neg g, if_neg (by omega)]
 ·rw [List.getElem?_eq_none (by simp [revK_len]; exact hp), List.getElem?_eq_none (by rw [revK_len]; exact hp)]

set_option maxHeartbeats 2000000 in
theorem reverse_calls (xs : List Int) (base g n c : Nat) (w : World) (h : Own intC 1 3 w base (.slice (some ⟨g, 0, none⟩) n c) xs) (hN : xs.length ≤ 1000000) :
  Calls Tryz.prog 27 #[.slice (some ⟨g, 0, none⟩) n c] w fun e w' => (∃ v, e = .returned v) ∧ Own intC 1 3 w' base (.slice (some ⟨g, 0, none⟩) n c) xs.reverse ∧ Ext (fun k => k = g) w w' := by
 have mixed : Tryz.prog.follows .mixedOrders = true := by kernel_rfl
 obtain ⟨hn, _⟩ := h.segN
 subst hn
 obtain ⟨N, hNe⟩ : ∃ N, xs.length = N := ⟨_, rfl⟩
 rw [hNe] at h hN ⊢
 have hg : g < w.heap.size := (h.lt g rfl).2
 go_enter Tryz.func27, Tryz.ntmps27
 go_wp2
 go_loopw [2, 3] (fun i j wr => ∃ (k : Nat) (jv : Int), k ≤ N ∧ jv = (N : Int) - 1 - (k : Int) ∧ i = .int .i64 k ∧ j = .int .i64 jv ∧ Hid (Own intC 1 3 wr base (.slice (some ⟨g, 0, none⟩) N c) (revK xs k)) ∧ Hid (Ext (fun k => k = g) w wr)) (fun i _ _ => N - (intOf i).toNat)
 case atStart => exact ⟨0, _, Nat.zero_le _, by omega, rfl, rfl, Lib.hid (by rw [revK_zero]; exact h), Lib.hid (Ext.refl _ _)⟩
 case round =>
  clear h
  obtain ⟨k, jv, hk, hjv, rfl, rfl, hown, hE⟩ := hrel
  by_cases hlt : (k : Int) < jv
  ·obtain ⟨j, rfl⟩ : ∃ j : Nat, jv = (j : Int) := ⟨jv.toNat, by omega⟩
   have hkj : k + j + 1 = N := by omega
   have hkl : k < j := by omega
   obtain ⟨x, hx⟩ := get_some (l := revK xs k) (k := k) (by rw [revK_len]; omega)
   obtain ⟨y, hy⟩ := get_some (l := revK xs k) (k := j) (by rw [revK_len]; omega)
   have c1 := IOwn.get hown.out hx
   have c2 := IOwn.get hown.out hy
   have Hs := Lib.hid (show Own intC 1 3 ((wr.setCell ⟨g, k, none⟩ (.int .i64 y)).setCell ⟨g, j, none⟩ (.int .i64 x)) base (.slice (some ⟨g, 0, none⟩) N c) (revK xs (k + 1)) ∧ Ext (fun k => k = g) w ((wr.setCell ⟨g, k, none⟩ (.int .i64 y)).setCell ⟨g, j, none⟩ (.int .i64 x)) from
    ⟨by rw [← revK_step (by rw [hNe]; exact hkj) hkl hx hy]; exact IOwn.put (IOwn.put hown.out k y) j x, (hE.out.setCell (p := ⟨g, k, none⟩) (fun _ => rfl) _).setCell (p := ⟨g, j, none⟩) (fun _ => rfl) _⟩)
   have ff := hown.out.thawed
   have ll := (hown.out.lt g rfl).2
   obtain ⟨u3, c3⟩ : ∃ v, (wr.setCell ⟨g, k, none⟩ (.int .i64 y)).cell? ⟨g, j, none⟩ = some v := ⟨_, IOwn.get (IOwn.put hown.out k y) (by rw [List.getElem?_set_ne (by omega)]; exact hy)⟩
   have p1 : (0 : Int) ≤ (k : Int) := by omega
   have p2 : (0 : Int) ≤ (j : Int) := by omega
   have q1 : (k : Int) < (N : Int) := by omega
   have q2 : (j : Int) < (N : Int) := by omega
   have s1 : IntKind.i64.wrap ((k : Int) + 1) = ((k + 1 : Nat) : Int) := by rw [show (k : Int) + 1 = ((k + 1 : Nat) : Int) by omega]; exact IntWalk.i64_in _ (by omega)
   have s2 : IntKind.i64.wrap ((j : Int) - 1) = (N : Int) - 1 - ((k + 1 : Nat) : Int) := by rw [show (j : Int) - 1 = (N : Int) - 1 - ((k + 1 : Nat) : Int) by omega]; exact IntWalk.i64_in _ (by omega)
   have Hj := Lib.hid hkj
   clear hown hE hx hy hjv hkj
   go_wp2_with fail
   go_big_region_o
   clear c1 c2 c3 ff ll
   go_wp2
   go_roundw
   case rel => exact ⟨k + 1, _, by have := Hj.out; omega, rfl, by go_num, by first | rfl | rw [s2], Lib.hid (Hs.out.1.keep (Keep.refl _).drew), Lib.hid Hs.out.2.drew⟩
   case measure => simp [intOf]; omega
  ·have Hf := Lib.hid (show Own intC 1 3 wr base (.slice (some ⟨g, 0, none⟩) N c) xs.reverse ∧ Ext (fun k => k = g) w wr from ⟨by rw [← revK_end (d := xs) (k := k) (by omega)]; exact hown.out, hE.out⟩)
   clear hown hE
   go_wp2
   refine bodyPost_end (results_none rfl _ _ _) rfl ⟨⟨_, rfl⟩, Hf.out⟩
end Go.Proofs.YtjpmiejgcnfiiaaGreat
