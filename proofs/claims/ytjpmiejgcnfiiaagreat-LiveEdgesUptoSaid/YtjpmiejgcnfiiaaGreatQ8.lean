import Derived.Test.YtjpmiejgcnfiiaaGreatQ3
import Derived.Test.YtjpmiejgcnfiiaaGreatQ7
import Derived.Test.YtjpmiejgcnfiiaaGreatQ5
set_option linter.unusedVariables false
set_option linter.unusedSimpArgs false
namespace Go.Proofs.YtjpmiejgcnfiiaaGreat
open Go Go.ChangeShapes Go.WideShapes Go.ChangeAt Go.RowKit Go.Deep

/-- Something of which only the number of cells counts. -/
theorem opensU_raw {P : Program} {w : World} {t : TypeId} {fs : Array Field} {s : Nat} (ht : P.underlying t = some (.struct fs)) (hc : P.cellsOf t = s) : OpensU P w t (fun x : { l : List Value // l.length = s } => x.1) (fun _ => True) (fun _ => 1) := fun H enc n cs y h => by
 obtain ⟨_, _, _, _, hl, _⟩ := DataW.trod_struct ht h
 exact ⟨⟨cs, by rw [hl, hc]⟩, rfl, trivial, bulk_one _⟩
/-- A slice of which only the form counts. -/
theorem opensU_sl {w : World} {t e : TypeId} {α : Type} {f : α → List Value} {ok : α → Prop} {s : Nat} (ht : Tryz.prog.underlying t = some (.slice e)) (hs : Tryz.prog.cellsOf e = s) (hf : ∀ x, (f x).length = s) (ho : OpensU Tryz.prog w e f ok (fun _ => 1)) :
  OpensU Tryz.prog w t (fun x : SlD => [x.v]) (fun _ => True) (fun x => x.n + 1) :=
 opensU_to (opensU_slice ht hs hf ho) (fun x => ⟨x.1, x.2.1.length, x.2.2⟩) (fun _ => rfl) (fun _ _ => trivial) (fun x => by rw [sum_one]; exact Nat.le_refl _)
theorem opU_bool (w : World) : OpensU Tryz.prog w 4 (fun b : Bool => [.bool b]) (fun _ => True) (fun _ => 1) := opensU_bool Tryz.underlying4
theorem opU_str (w : World) : OpensU Tryz.prog w 9 (fun b : ByteArray => [.string b]) (fun _ => True) (fun _ => 1) := opensU_string Tryz.underlying9
theorem opU_kind (w : World) : OpensU Tryz.prog w 216 intC (fun n => (Lit.int .i64 n).wf = true) (fun _ => 1) := opensU_int Tryz.underlying216
theorem opU_slVals (w : World) : OpensU Tryz.prog w 34 (fun x : SlD => [x.v]) (fun _ => True) (fun x => x.n + 1) := opensU_sl (f := intC) Tryz.underlying34 (s := 1) (by kernel_rfl) (fun _ => rfl) (opU_val w)
theorem opU_slInts (w : World) : OpensU Tryz.prog w 45 (fun x : SlD => [x.v]) (fun _ => True) (fun x => x.n + 1) := opensU_sl (f := intC) Tryz.underlying45 (s := 1) (by kernel_rfl) (fun _ => rfl) (opU_int w)
theorem opU_slIr (w : World) : OpensU Tryz.prog w 226 (fun x : SlD => [x.v]) (fun _ => True) (fun x => x.n + 1) := opensU_sl Tryz.underlying226 (s := 9) (by kernel_rfl) (fun x => x.2) (opensU_raw Tryz.underlying215 (by kernel_rfl))
theorem opU_lim (w : World) : OpensU Tryz.prog w 192 lmC (fun _ => True) (fun _ => 1) :=
 opensU_to (opensU_struct Tryz.underlying192 (by kernel_rfl) (opensF_cons (c := 1) (by kernel_rfl) (opU_int w) (opensF_cons (c := 1) (by kernel_rfl) (opU_int w) (opensF_cons (c := 1) (by kernel_rfl) (opU_bool w) (opensF_nil _) rfl (by simp)) rfl (by simp)) rfl (by simp)))
  (fun x => ⟨x.1, x.2.1, x.2.2.1⟩) (fun _ => rfl) (fun _ _ => trivial) (fun x => by first | omega | (dsimp only; omega))
theorem opU_table (w : World) : OpensU Tryz.prog w 218 tbC (fun _ => True) (fun _ => 1) :=
 opensU_to (opensU_struct Tryz.underlying218 (by kernel_rfl) (opensF_cons (c := 1) (by kernel_rfl) (opU_val w) (opensF_cons (c := 3) (by kernel_rfl) (opU_lim w) (opensF_nil _) rfl (by simp)) rfl (by simp)))
  (fun x => ⟨x.1, x.2.1.min, x.2.1.max, x.2.1.has⟩) (fun _ => rfl) (fun _ _ => trivial) (fun x => by first | omega | (dsimp only; omega))
theorem opU_glob (w : World) : OpensU Tryz.prog w 220 (fun x : Int × Bool => [.int .i64 x.1, .bool x.2]) (fun _ => True) (fun _ => 1) :=
 opensU_to (opensU_struct Tryz.underlying220 (by kernel_rfl) (opensF_cons (c := 1) (by kernel_rfl) (opU_val w) (opensF_cons (c := 1) (by kernel_rfl) (opU_bool w) (opensF_nil _) rfl (by simp)) rfl (by simp)))
  (fun x => (x.1, x.2.1)) (fun _ => rfl) (fun _ _ => trivial) (fun x => by first | omega | (dsimp only; omega))
theorem opU_import (w : World) : OpensU Tryz.prog w 222 imC (fun _ => True) (fun _ => 1) :=
 opensU_to (opensU_struct Tryz.underlying222 (by kernel_rfl) (opensF_cons (c := 1) (by kernel_rfl) (opU_str w) (opensF_cons (c := 1) (by kernel_rfl) (opU_str w) (opensF_cons (c := 1) (by kernel_rfl) (opU_kind w) (opensF_cons (c := 1) (by kernel_rfl) (opU_int w)
  (opensF_cons (c := 4) (by kernel_rfl) (opU_table w) (opensF_cons (c := 3) (by kernel_rfl) (opU_lim w) (opensF_cons (c := 2) (by kernel_rfl) (opU_glob w) (opensF_nil _) rfl (by simp)) rfl (by simp)) rfl (by simp)) rfl (by simp)) rfl (by simp)) rfl (by simp)) rfl (by simp)))
  (fun x => ⟨x.1, x.2.1, x.2.2.1, x.2.2.2.1, x.2.2.2.2.1.elem, x.2.2.2.2.1.min, x.2.2.2.2.1.max, x.2.2.2.2.1.has, x.2.2.2.2.2.1.min, x.2.2.2.2.2.1.max, x.2.2.2.2.2.1.has, x.2.2.2.2.2.2.1.1, x.2.2.2.2.2.2.1.2⟩) (fun _ => rfl) (fun _ _ => trivial) (fun x => by first | omega | (dsimp only; omega))
theorem opU_block3 (w : World) : OpensU Tryz.prog w 213 (fun x : Int × Int × Int => [.int .i64 x.1, .int .i64 x.2.1, .int .i64 x.2.2]) (fun _ => True) (fun _ => 1) :=
 opensU_to (opensU_struct Tryz.underlying213 (by kernel_rfl) (opensF_cons (c := 1) (by kernel_rfl) (opU_int w) (opensF_cons (c := 1) (by kernel_rfl) (opU_val w) (opensF_cons (c := 1) (by kernel_rfl) (opU_int w) (opensF_nil _) rfl (by simp)) rfl (by simp)) rfl (by simp)))
  (fun x => (x.1, x.2.1, x.2.2.1)) (fun _ => rfl) (fun _ _ => trivial) (fun x => by first | omega | (dsimp only; omega))
theorem opU_instr (w : World) : OpensU Tryz.prog w 215 irC (fun _ => True) (fun _ => 1) :=
 opensU_to (opensU_struct Tryz.underlying215 (by kernel_rfl) (opensF_cons (c := 1) (by kernel_rfl) (opU_op w) (opensF_cons (c := 1) (by kernel_rfl) (opU_int w) (opensF_cons (c := 1) (by kernel_rfl) (opU_int w) (opensF_cons (c := 1) (by kernel_rfl) (opU_u64 w)
  (opensF_cons (c := 3) (by kernel_rfl) (opU_block3 w) (opensF_cons (c := 1) (by kernel_rfl) (opU_slVals w) (opensF_cons (c := 1) (by kernel_rfl) (opU_slInts w) (opensF_nil _) rfl (by simp)) rfl (by simp)) rfl (by simp)) rfl (by simp)) rfl (by simp)) rfl (by simp)) rfl (by simp)))
  (fun x => ⟨x.1, x.2.1, x.2.2.1, x.2.2.2.1, x.2.2.2.2.1.1, x.2.2.2.2.1.2.1, x.2.2.2.2.1.2.2, x.2.2.2.2.2.1, x.2.2.2.2.2.2.1⟩) (fun _ => rfl) (fun _ _ => trivial) (fun x => by first | omega | (dsimp only; omega))
theorem opU_irs (w : World) : OpensU Tryz.prog w 226 (fun x : RwD IrD => [x.v]) (fun x => Seg w x.a (x.l.flatMap irC)) (fun x => x.l.length + 1) :=
 opensU_to (opensU_row (f := irC) Tryz.underlying226 (s := 9) (by kernel_rfl) (fun _ => rfl) (opU_instr w)) id (fun _ => rfl) (fun x h => h.1) (fun x => by rw [sum_one]; exact Nat.le_refl _)
theorem opU_fn (w : World) : OpensU Tryz.prog w 36 fnC (fun x => NumOk w x.params ∧ NumOk w x.results) (fun x => x.params.l.length + x.results.l.length + 1) :=
 opensU_to (opU_func w) (fun x => ⟨x.1, x.2⟩) (fun _ => rfl) (fun _ h => h) (fun _ => Nat.le_refl _)
theorem opU_code (w : World) : OpensU Tryz.prog w 228 cdC (fun _ => True) (fun _ => 1) :=
 opensU_to (opensU_struct Tryz.underlying228 (by kernel_rfl) (opensF_cons (c := 1) (by kernel_rfl) (opU_int w) (opensF_cons (c := 1) (by kernel_rfl) (opU_slVals w) (opensF_cons (c := 1) (by kernel_rfl) (opU_slIr w) (opensF_nil _) rfl (by simp)) rfl (by simp)) rfl (by simp)))
  (fun x => ⟨x.1, x.2.1, x.2.2.1⟩) (fun _ => rfl) (fun _ _ => trivial) (fun x => by first | omega | (dsimp only; omega))
theorem opU_gdef (w : World) : OpensU Tryz.prog w 262 glC (fun x => Seg w x.init.a (x.init.l.flatMap irC)) (fun x => x.init.l.length + 1) :=
 opensU_to (opensU_struct Tryz.underlying262 (by kernel_rfl) (opensF_cons (c := 2) (by kernel_rfl) (opU_glob w) (opensF_cons (c := 1) (by kernel_rfl) (opU_irs w) (opensF_nil _) rfl (by simp)) rfl (by simp)))
  (fun x => ⟨x.1.1, x.1.2, x.2.1⟩) (fun _ => rfl) (fun x h => h.2.1) (fun x => by first | omega | (dsimp only; omega))
theorem opU_export (w : World) : OpensU Tryz.prog w 259 exC (fun _ => True) (fun _ => 1) :=
 opensU_to (opensU_struct Tryz.underlying259 (by kernel_rfl) (opensF_cons (c := 1) (by kernel_rfl) (opU_str w) (opensF_cons (c := 1) (by kernel_rfl) (opU_kind w) (opensF_cons (c := 1) (by kernel_rfl) (opU_int w) (opensF_nil _) rfl (by simp)) rfl (by simp)) rfl (by simp)))
  (fun x => ⟨x.1, x.2.1, x.2.2.1⟩) (fun _ => rfl) (fun _ _ => trivial) (fun x => by first | omega | (dsimp only; omega))
def szEl (x : ElD) : Nat := (x.items.l.map fun i => i.l.length + 1).sum + 1
theorem opU_elem (w : World) : OpensU Tryz.prog w 257 elC (fun x => Seg w x.items.a (x.items.l.flatMap itC) ∧ ∀ i ∈ x.items.l, Seg w i.a (i.l.flatMap irC)) szEl :=
 opensU_to (opensU_struct Tryz.underlying257 (by kernel_rfl) (opensF_cons (c := 1) (by kernel_rfl) (opU_int w) (opensF_cons (c := 1) (by kernel_rfl) (opU_int w) (opensF_cons (c := 1) (by kernel_rfl) (opU_slIr w) (opensF_cons (c := 1) (by kernel_rfl) (opU_val w)
  (opensF_cons (c := 1) (by kernel_rfl) (opensU_row (f := itC) Tryz.underlying255 (s := 1) (by kernel_rfl) (fun _ => rfl) (opU_irs w)) (opensF_nil _) rfl (by simp)) rfl (by simp)) rfl (by simp)) rfl (by simp)) rfl (by simp)))
  (fun x => ⟨x.1, x.2.1, x.2.2.1, x.2.2.2.1, x.2.2.2.2.1⟩) (fun _ => rfl) (fun x h => ⟨h.2.2.2.2.1.1, h.2.2.2.2.1.2.1⟩) (fun x => by unfold szEl; dsimp only; omega)
def szMd (m : MdD) : Nat := (m.types.l.map fun x => x.params.l.length + x.results.l.length + 1).sum + m.imports.l.length + m.funcs.l.length + m.tables.l.length + m.mems.l.length + (m.globals.l.map fun x => x.init.l.length + 1).sum + m.exports.l.length + (m.elems.l.map szEl).sum + m.datas.n
/-- What is read of a module, but for the lengths. -/
structure MdS (w : World) (m : MdD) : Prop where
 types : Seg w m.types.a (m.types.l.flatMap fnC)
 params : ∀ t ∈ m.types.l, NumOk w t.params ∧ NumOk w t.results
 imports : Seg w m.imports.a (m.imports.l.flatMap imC)
 funcs : Seg w m.funcs.a (m.funcs.l.flatMap cdC)
 tables : Seg w m.tables.a (m.tables.l.flatMap tbC)
 mems : Seg w m.mems.a (m.mems.l.flatMap lmC)
 globals : Seg w m.globals.a (m.globals.l.flatMap glC)
 inits : ∀ g ∈ m.globals.l, Seg w g.init.a (g.init.l.flatMap irC)
 exports : Seg w m.exports.a (m.exports.l.flatMap exC)
 elems : Seg w m.elems.a (m.elems.l.flatMap elC)
 items : ∀ e ∈ m.elems.l, Seg w e.items.a (e.items.l.flatMap itC) ∧ ∀ i ∈ e.items.l, Seg w i.a (i.l.flatMap irC)
set_option maxHeartbeats 1000000 in
theorem opU_module (w : World) : OpensU Tryz.prog w 33 mdC (MdS w) szMd :=
 opensU_to (opensU_struct Tryz.underlying33 (by kernel_rfl)
  (opensF_cons (c := 1) (by kernel_rfl) (opensU_row (f := fnC) Tryz.underlying22 (s := 2) (by kernel_rfl) (fun _ => rfl) (opU_fn w))
  (opensF_cons (c := 1) (by kernel_rfl) (opensU_row (f := imC) Tryz.underlying23 (s := 13) (by kernel_rfl) (fun _ => rfl) (opU_import w))
  (opensF_cons (c := 1) (by kernel_rfl) (opensU_row (f := cdC) Tryz.underlying24 (s := 3) (by kernel_rfl) (fun _ => rfl) (opU_code w))
  (opensF_cons (c := 1) (by kernel_rfl) (opensU_row (f := tbC) Tryz.underlying25 (s := 4) (by kernel_rfl) (fun _ => rfl) (opU_table w))
  (opensF_cons (c := 1) (by kernel_rfl) (opensU_row (f := lmC) Tryz.underlying26 (s := 3) (by kernel_rfl) (fun _ => rfl) (opU_lim w))
  (opensF_cons (c := 1) (by kernel_rfl) (opensU_row (f := glC) Tryz.underlying27 (s := 3) (by kernel_rfl) (fun _ => rfl) (opU_gdef w))
  (opensF_cons (c := 1) (by kernel_rfl) (opensU_row (f := exC) Tryz.underlying28 (s := 3) (by kernel_rfl) (fun _ => rfl) (opU_export w))
  (opensF_cons (c := 1) (by kernel_rfl) (opU_bool w)
  (opensF_cons (c := 1) (by kernel_rfl) (opU_int w)
  (opensF_cons (c := 1) (by kernel_rfl) (opensU_row (f := elC) Tryz.underlying29 (s := 5) (by kernel_rfl) (fun _ => rfl) (opU_elem w))
  (opensF_cons (c := 1) (by kernel_rfl) (opensU_sl Tryz.underlying30 (by kernel_rfl) (fun x => x.2) (opensU_raw Tryz.underlying280 rfl))
  (opensF_cons (c := 1) (by kernel_rfl) (opensU_sl Tryz.underlying31 (by kernel_rfl) (fun x => x.2) (opensU_raw Tryz.underlying282 rfl))
  (opensF_nil _) rfl (by simp)) rfl (by simp)) rfl (by simp)) rfl (by simp)) rfl (by simp)) rfl (by simp)) rfl (by simp)) rfl (by simp)) rfl (by simp)) rfl (by simp)) rfl (by simp)) rfl (by simp)))
  (fun x => ⟨x.1, x.2.1, x.2.2.1, x.2.2.2.1, x.2.2.2.2.1, x.2.2.2.2.2.1, x.2.2.2.2.2.2.1, x.2.2.2.2.2.2.2.1, x.2.2.2.2.2.2.2.2.1, x.2.2.2.2.2.2.2.2.2.1, x.2.2.2.2.2.2.2.2.2.2.1, x.2.2.2.2.2.2.2.2.2.2.2.1⟩) (fun _ => rfl)
  (fun x h => ⟨h.1.1, h.1.2.1, h.2.1.1, h.2.2.1.1, h.2.2.2.1.1, h.2.2.2.2.1.1, h.2.2.2.2.2.1.1, h.2.2.2.2.2.1.2.1, h.2.2.2.2.2.2.1.1, h.2.2.2.2.2.2.2.2.2.1.1, h.2.2.2.2.2.2.2.2.2.1.2.1⟩)
  (fun x => by unfold szMd; simp only [sum_one]; first | omega | (dsimp only; omega))
theorem MdOk.of {w : World} {m : MdD} (h : MdS w m) (hs : szMd m ≤ 1048576) : MdOk w m := by
 unfold szMd at hs
 have h1 := sum_len (sz := fun x : FnD => x.params.l.length + x.results.l.length + 1) (fun x => by first | omega | (dsimp only; omega)) m.types.l
 have h2 := sum_len (sz := fun x : GlD => x.init.l.length + 1) (fun x => by first | omega | (dsimp only; omega)) m.globals.l
 have h3 := sum_len (sz := szEl) (fun x => by unfold szEl; omega) m.elems.l
 refine ⟨⟨h.types, by omega⟩, fun t ht => ?_, ⟨h.imports, by omega⟩, ⟨h.funcs, by omega⟩, ⟨h.tables, by omega⟩, ⟨h.mems, by omega⟩, ⟨h.globals, by omega⟩, fun g hg => ?_, ⟨h.exports, by omega⟩, ⟨h.elems, by omega⟩, fun e he => ?_, by omega, fun t ht => ?_⟩
 ·have := sum_mem (sz := fun x : FnD => x.params.l.length + x.results.l.length + 1) ht
  try dsimp only at this
  exact ⟨⟨(h.params t ht).1.seg, by omega⟩, ⟨(h.params t ht).2.seg, by omega⟩⟩
 ·have := sum_mem (sz := fun x : GlD => x.init.l.length + 1) hg
  try dsimp only at this
  exact ⟨h.inits g hg, by omega⟩
 ·have h4 := sum_mem (sz := szEl) he
  have h4e : (e.items.l.map fun i : RwD IrD => i.l.length + 1).sum + 1 = szEl e := rfl
  have h5 := sum_len (sz := fun i : RwD IrD => i.l.length + 1) (fun x => by first | omega | (dsimp only; omega)) e.items.l
  refine ⟨⟨(h.items e he).1, by omega⟩, fun i hi => ⟨(h.items e he).2 i hi, ?_⟩⟩
  have h6 := sum_mem (sz := fun i : RwD IrD => i.l.length + 1) hi
  try dsimp only at h6
  omega
 ·have := sum_mem (sz := fun x : FnD => x.params.l.length + x.results.l.length + 1) ht
  try dsimp only at this
  omega
end Go.Proofs.YtjpmiejgcnfiiaaGreat
namespace Go.Proofs.YtjpmiejgcnfiiaaGreat
open Go Go.RowKit

/-- The cells of a module in its box. -/
structure MdCells (w : World) (b : Nat) (m : MdD) : Prop where
  c0 : w.cell? ⟨b, 0, none⟩ = some (.slice m.types.a m.types.l.length m.types.c)
  c1 : w.cell? ⟨b, 1, none⟩ = some (.slice m.imports.a m.imports.l.length m.imports.c)
  c2 : w.cell? ⟨b, 2, none⟩ = some (.slice m.funcs.a m.funcs.l.length m.funcs.c)
  c3 : w.cell? ⟨b, 3, none⟩ = some (.slice m.tables.a m.tables.l.length m.tables.c)
  c4 : w.cell? ⟨b, 4, none⟩ = some (.slice m.mems.a m.mems.l.length m.mems.c)
  c5 : w.cell? ⟨b, 5, none⟩ = some (.slice m.globals.a m.globals.l.length m.globals.c)
  c6 : w.cell? ⟨b, 6, none⟩ = some (.slice m.exports.a m.exports.l.length m.exports.c)
  c7 : w.cell? ⟨b, 7, none⟩ = some (.bool m.hasStart)
  c8 : w.cell? ⟨b, 8, none⟩ = some (.int .i64 m.start)
  c9 : w.cell? ⟨b, 9, none⟩ = some (.slice m.elems.a m.elems.l.length m.elems.c)
  ca : w.cell? ⟨b, 10, none⟩ = some (.slice m.datas.a m.datas.n m.datas.c)
  cb : w.cell? ⟨b, 11, none⟩ = some (.slice m.customs.a m.customs.n m.customs.c)
  lt : b < w.heap.size
theorem Blk.md {w : World} {b : Nat} {T : TypeId} {m : MdD} (h : Blk w b T (mdC m)) : MdCells w b m :=
  ⟨h.cell 0, h.cell 1, h.cell 2, h.cell 3, h.cell 4, h.cell 5, h.cell 6, h.cell 7, h.cell 8, h.cell 9, h.cell 10, h.cell 11, h.lt⟩

/-- A call that gives a signature with few parameters, and a truth value. -/
def RSS (w : World) (e : Ending) (w' : World) : Prop := ∃ A n c B k d r, e = .returned (.tuple #[.agg #[.slice A n c, .slice B k d], .bool r]) ∧ SigAt w' A n B k ∧ n ≤ 1500000 ∧ Keep w w'
theorem RSS.mk {w w' : World} {e : Ending} {A B : Option Addr} {n c k d : Nat} {r : Bool} (he : e = .returned (.tuple #[.agg #[.slice A n c, .slice B k d], .bool r])) (hs : SigAt w' A n B k) (hq : n ≤ 1500000) (hk : Keep w w') : RSS w e w' := ⟨A, n, c, B, k, d, r, he, hs, hq, hk⟩
theorem type08S_calls (m : MdD) (i : Int) (w : World) (h : MdOk w m) : Calls Tryz.prog 139 #[.agg (mdC m).toArray, .int .i64 i] w (RSS w) := by
  obtain ⟨W, hW, kW, bW, sW⟩ := boxN w 33 (mdC m)
  obtain ⟨c0, c1, c2, c3, c4, c5, c6, c7, c8, c9, ca, cb, lt⟩ := bW.md
  have H := Lib.hid h
  clear h bW sW
  by_cases hin : 0 ≤ i ∧ i < (m.types.l.length : Int)
  · obtain ⟨k, rfl⟩ : ∃ k : Nat, i = (k : Int) := ⟨i.toNat, by omega⟩
    obtain ⟨y, hy⟩ := get_some (l := m.types.l) (k := k) (by omega)
    obtain ⟨b, off, hA, hb, hc⟩ := rw_get (s := 2) (fun _ => rfl) (by omega) H.out.types kW hy
    have q0 := hc 0 _ rfl
    have q1 := hc 1 _ rfl
    have hp := H.out.params y (List.mem_of_getElem? hy)
    have Hfew := Lib.hid (H.out.few y (List.mem_of_getElem? hy))
    have Hs := Lib.hid (show SigAt w y.params.a y.params.l.length y.results.a y.results.l.length from ⟨hp.1.ints, hp.2.ints⟩)
    obtain ⟨⟨pa, pl, pc⟩, ⟨ra, rl, rc⟩⟩ := y
    replace q0 : W.cell? ⟨b, off + k * 2, none⟩ = some (.slice pa pl.length pc) := q0
    replace q1 : W.cell? ⟨b, off + k * 2 + 1, none⟩ = some (.slice ra rl.length rc) := q1
    replace Hfew : Hid (pl.length ≤ 1500000) := Hfew
    replace Hs : Hid (SigAt w pa pl.length ra rl.length) := Hs
    obtain ⟨h0, h1⟩ := hin
    rw [hA] at c0
    have lb : b < W.heap.size := Nat.lt_of_lt_of_le hb kW.size
    clear hc hp hy
    go_enter Tryz.func139, Tryz.ntmps139
    go_wp2
    refine bodyPost_ret (by simp [results, Tryz.results139, go_sem] <;> rfl) rfl ?_
    exact RSS.mk rfl ((Hs.out.keep kW).keep ((Keep.refl _).alloc _)) Hfew.out (by repeat (first | exact kW | apply Keep.alloc))
  · go_enter Tryz.func139, Tryz.ntmps139
    go_wp2
    all_goals first
      | (exfalso; omega)
      | (refine bodyPost_ret (by simp [results, Tryz.results139, go_sem] <;> rfl) rfl ?_
         exact RSS.mk rfl ⟨IntsAt.nil _ _, IntsAt.nil _ _⟩ (Nat.zero_le _) (by repeat (first | exact kW | apply Keep.alloc)))
theorem type08_calls (m : MdD) (i : Int) (w : World) (h : MdOk w m) : Calls Tryz.prog 139 #[.agg (mdC m).toArray, .int .i64 i] w (RSB w fun _ _ => True) :=
  (type08S_calls m i w h).mono fun _ _ ⟨A, n, c, B, k, d, r, he, hs, _, hk⟩ => ⟨A, n, c, B, k, d, r, he, hs, trivial, hk⟩
/-- A call that gives an integer and a truth value. -/
def RIB (w : World) (e : Ending) (w' : World) : Prop := ∃ t r, e = .returned (.tuple #[.int .i64 t, .bool r]) ∧ Keep w w'
theorem RIB.mk {w w' : World} {e : Ending} {t : Int} {r : Bool} (he : e = .returned (.tuple #[.int .i64 t, .bool r])) (hk : Keep w w') : RIB w e w' := ⟨t, r, he, hk⟩
theorem datas08_calls (m : MdD) (w : World) (h : MdOk w m) : Calls Tryz.prog 167 #[.agg (mdC m).toArray] w (RI w fun _ => True) := by
  obtain ⟨W, hW, kW, bW, sW⟩ := boxN w 33 (mdC m)
  obtain ⟨c0, c1, c2, c3, c4, c5, c6, c7, c8, c9, ca, cb, lt⟩ := bW.md
  have H := Lib.hid h
  clear h bW sW
  go_enter Tryz.func167, Tryz.ntmps167
  go_wp2
  go_ret
  exact RI.mk rfl trivial kW
theorem elem08_calls (m : MdD) (i : Int) (w : World) (h : MdOk w m) : Calls Tryz.prog 165 #[.agg (mdC m).toArray, .int .i64 i] w (RIB w) := by
  obtain ⟨W, hW, kW, bW, sW⟩ := boxN w 33 (mdC m)
  obtain ⟨c0, c1, c2, c3, c4, c5, c6, c7, c8, c9, ca, cb, lt⟩ := bW.md
  have H := Lib.hid h
  clear h bW sW
  by_cases hin : 0 ≤ i ∧ i < (m.elems.l.length : Int)
  · obtain ⟨k, rfl⟩ : ∃ k : Nat, i = (k : Int) := ⟨i.toNat, by omega⟩
    obtain ⟨y, hy⟩ := get_some (l := m.elems.l) (k := k) (by omega)
    obtain ⟨b, off, hA, hb, hc⟩ := rw_get (s := 5) (fun _ => rfl) (by omega) H.out.elems kW hy
    have q3 : W.cell? ⟨b, off + k * 5 + 3, none⟩ = some (.int .i64 y.type) := hc 3 _ rfl
    obtain ⟨h0, h1⟩ := hin
    rw [hA] at c9
    have lb : b < W.heap.size := Nat.lt_of_lt_of_le hb kW.size
    clear hc hy
    go_enter Tryz.func165, Tryz.ntmps165
    go_wp2
    refine bodyPost_ret (by simp [results, Tryz.results165, go_sem] <;> rfl) rfl ?_
    exact RIB.mk rfl kW
  · go_enter Tryz.func165, Tryz.ntmps165
    go_wp2
    all_goals first
      | (exfalso; omega)
      | (refine bodyPost_ret (by simp [results, Tryz.results165, go_sem] <;> rfl) rfl ?_
         exact RIB.mk rfl kW)
set_option maxHeartbeats 2000000 in
theorem imported08_calls (m : MdD) (kd : Int) (w : World) (h : MdOk w m) : Calls Tryz.prog 144 #[.agg (mdC m).toArray, .int .i64 kd] w (RI w fun r => 0 ≤ r ∧ r ≤ 2000000) := by
  obtain ⟨W, hW, kW, bW, sW⟩ := boxN w 33 (mdC m)
  obtain ⟨c0, c1, c2, c3, c4, c5, c6, c7, c8, c9, ca, cb, lt⟩ := bW.md
  have H := Lib.hid h
  clear h bW sW
  have hl : m.imports.l.length ≤ 2000000 := H.out.imports.len
  obtain ⟨N, hN⟩ : ∃ N, m.imports.l.length = N := ⟨_, rfl⟩
  rw [hN] at c1 hl
  have HN := Lib.hid hN
  clear hN
  go_enter Tryz.func144, Tryz.ntmps144
  go_wp2_with fail
  go_loopw [5, 6] (fun vn vi wr => ∃ j k : Nat, k ≤ N ∧ j ≤ k ∧ vn = .int .i64 j ∧ vi = .int .i64 k ∧ wr = W) (fun _ vi _ => N - (intOf vi).toNat)
  case atStart => exact ⟨0, 0, Nat.zero_le _, Nat.le_refl _, rfl, rfl, rfl⟩
  case round =>
    obtain ⟨j, k, hk, hj, rfl, rfl, rfl⟩ := hrel
    by_cases hin : k < N
    · obtain ⟨y, hy⟩ := get_some (l := m.imports.l) (k := k) (by rw [HN.out]; exact hin)
      obtain ⟨b, off, hA, hb, hc⟩ := rw_get (s := 13) (fun _ => rfl) (by omega) H.out.imports kW hy
      have q2 : wr.cell? ⟨b, off + k * 13 + 2, none⟩ = some (.int .i64 y.kind) := hc 2 _ rfl
      rw [hA] at c1
      have k1 : (k : Int) < (N : Int) := by omega
      have k0 : (0 : Int) ≤ (k : Int) := by omega
      clear hc hy
      go_wp2
      · go_roundw
        case rel => exact ⟨j + 1, k + 1, hin, by omega, by go_num, by go_num, trivial⟩
        case measure => simp [intOf]; omega
      · go_roundw
        case rel => exact ⟨j, k + 1, hin, by omega, rfl, by go_num, trivial⟩
        case measure => simp [intOf]; omega
    · go_wp2
      go_ret
      exact RI.mk rfl ⟨by omega, by omega⟩ kW
theorem own08_calls (m : MdD) (kd i n : Int) (w : World) (h : MdOk w m) (hi : (Lit.int .i64 i).wf = true) : Calls Tryz.prog 138 #[.agg (mdC m).toArray, .int .i64 kd, .int .i64 i, .int .i64 n] w (RI w fun r => r = -1 ∨ 0 ≤ r ∧ r < n) := by
  obtain ⟨W, hW, kW, bW, sW⟩ := boxN w 33 (mdC m)
  obtain ⟨c0, c1, c2, c3, c4, c5, c6, c7, c8, c9, ca, cb, lt⟩ := bW.md
  have H := Lib.hid h
  clear h bW sW
  have Him := Lib.hid (imported08_calls m kd W (H.out.keep kW))
  have hi2 : -9223372036854775808 ≤ i ∧ i ≤ 9223372036854775807 := by simpa [Lit.wf, IntKind.min, IntKind.max, IntKind.signed, IntKind.bits] using hi
  clear hi
  go_enter Tryz.func138, Tryz.ntmps138
  go_wp2_with fail
  · go_ret
    exact RI.mk rfl (.inl rfl) kW
  · refine Him.out.mono ?_
    rintro e w1 ⟨r, rfl, ⟨hr0, hr1⟩, hk⟩
    go_wp2
    all_goals go_ret
    all_goals first
      | exact RI.mk rfl (.inl rfl) (kW.trans hk)
      | exact RI.mk rfl (.inr ⟨by omega, by omega⟩) (kW.trans hk)
end Go.Proofs.YtjpmiejgcnfiiaaGreat
namespace Go.Proofs.YtjpmiejgcnfiiaaGreat
open Go Go.RowKit

/-! ### A row joined to another, one after the other -/

def orTo (a b : List Bool) (j : Nat) : List Bool := Lv.orL (a.take j) (b.take j) ++ a.drop j
theorem orTo_zero (a b : List Bool) : orTo a b 0 = a := by simp [orTo, Lv.orL]
theorem orTo_end {a b : List Bool} {j : Nat} (h : b.length = a.length) (hj : a.length ≤ j) : orTo a b j = Lv.orL a b := by
 unfold orTo
 rw [List.take_of_length_le hj, List.take_of_length_le (by omega), List.drop_of_length_le hj, List.append_nil]
theorem orTo_len {a b : List Bool} (h : b.length = a.length) (j : Nat) : (orTo a b j).length = a.length := by
 unfold orTo
 rw [List.length_append, Lv.orL_len (by simp [h]), List.length_take, List.length_drop]; omega
theorem orTo_get {a b : List Bool} {j : Nat} {x : Bool} (h : b.length = a.length) (hx : a[j]? = some x) : (orTo a b j)[j]? = some x := by
 unfold orTo
 have hl := (List.getElem?_eq_some_iff.1 hx).1
 rw [List.getElem?_append_right (by rw [Lv.orL_len (by simp [h]), List.length_take]; omega), Lv.orL_len (by simp [h]), List.length_take, List.getElem?_drop]
 rw [show j + (j - min j a.length) = j by omega]
 exact hx
theorem orTo_succ {a b : List Bool} {j : Nat} {x y : Bool} (h : b.length = a.length) (hx : a[j]? = some x) (hy : b[j]? = some y) : (orTo a b j).set j (x || y) = orTo a b (j + 1) := by
 have hl := (List.getElem?_eq_some_iff.1 hx).1
 have hl2 := (List.getElem?_eq_some_iff.1 hy).1
 have e1 : Lv.orL (a.take (j + 1)) (b.take (j + 1)) = Lv.orL (a.take j) (b.take j) ++ [x || y] := by
  unfold Lv.orL
  rw [List.take_add_one, List.take_add_one, hx, hy, List.zipWith_append (by simp; omega)]; rfl
 have e2 : a.drop j = x :: a.drop (j + 1) := by
  rw [List.drop_eq_getElem_cons hl]
  congr 1
  exact Option.some.inj ((List.getElem?_eq_getElem hl).symm.trans hx)
 have hlen : (Lv.orL (a.take j) (b.take j)).length = j := by
  rw [Lv.orL_len (by simp [h]), List.length_take]; omega
 unfold orTo
 rw [e1, e2, List.set_append, if_neg (by omega), hlen, Nat.sub_self, List.set_cons_zero, List.append_assoc]; rfl

/-- A row of rows of bools: each row in a block of its own kind. -/
def NRows (w : World) (b base : Nat) (L : List (List Bool)) : Prop :=
 ∃ vs : List Value, Blk w b 80 vs ∧ vs.length = L.length ∧ ∀ (i : Nat) v l, vs[i]? = some v → L[i]? = some l → Own boolC 1 4 w base v l
section
variable {w w' : World} {b base : Nat} {L : List (List Bool)}
theorem NRows.keep (h : NRows w b base L) (hk : Keep w w') : NRows w' b base L := by
 obtain ⟨vs, h1, h2, h3⟩ := h
 exact ⟨vs, h1.keep hk, h2, fun i v l hv hl => (h3 i v l hv hl).keep hk⟩
theorem NRows.lt (h : NRows w b base L) : b < w.heap.size := by
 obtain ⟨vs, h1, _⟩ := h
 exact h1.lt
theorem NRows.frozen (h : NRows w b base L) (i : Nat) : w.frozen? ⟨b, i, none⟩ = false := by
 obtain ⟨vs, h1, _⟩ := h
 exact h1.frozen i
theorem NRows.put (h : NRows w b base L) {i : Nat} {A : Option Addr} {c : Nat} {l : List Bool} (hl : Own boolC 1 4 w base (.slice A l.length c) l) : NRows (w.setCell ⟨b, i, none⟩ (.slice A l.length c)) b base (L.set i l) := by
 obtain ⟨vs, h1, h2, h3⟩ := h
 refine ⟨_, h1.set_ i _, by simp [h2], fun j v k hv hk => ?_⟩
 by_cases e : i = j
 ·subst e
  have hi := (List.getElem?_eq_some_iff.1 hv).1
  rw [List.length_set] at hi
  rw [List.getElem?_set_self hi] at hv
  rw [List.getElem?_set_self (by omega)] at hk
  cases hv; cases hk
  exact hl.put_far (fun q hq => hl.blk_apart h1 (by decide) hq) _
 ·rw [List.getElem?_set_ne e] at hv hk
  exact (h3 j v k hv hk).put_far (fun q hq => (h3 j v k hv hk).blk_apart h1 (by decide) hq) _
theorem NRows.get (h : NRows w b base L) {i : Nat} {l : List Bool} (hl : L[i]? = some l) : ∃ A c, w.cell? ⟨b, i, none⟩ = some (.slice A l.length c) ∧ Own boolC 1 4 w base (.slice A l.length c) l := by
 obtain ⟨vs, h1, h2, h3⟩ := h
 have hi := (List.getElem?_eq_some_iff.1 hl).1
 obtain ⟨v, hv⟩ := get_some (l := vs) (k := i) (by omega)
 have ho := h3 i v l hv hl
 obtain ⟨A, c, rfl, _, _⟩ := ho.form
 exact ⟨A, c, by rw [h1.cell, hv], ho⟩
end

set_option maxHeartbeats 4000000 in
set_option maxRecDepth 100000 in
theorem behind_calls (x : SsD) (b bn base cn : Nat) (S : List (List Bool)) (w : World) (h : SsOk w x) (hs : Small x) (hb : b < x.blocks.l.length) (hS : NRows w bn base S) (hlen : S.length = x.blocks.l.length) (hrow : ∀ l ∈ S, l.length = x.vals.l.length) :
  Calls Tryz.prog 31 #[.slice (some ⟨bn, 0, none⟩) x.blocks.l.length cn, .agg (ssC x).toArray, .int .i64 (b : Int)] w fun e w' =>
   ∃ g, e = .returned (.slice (some ⟨g, 0, none⟩) x.vals.l.length x.vals.l.length) ∧ w.heap.size ≤ g ∧ BBlk w' g 4 (Lv.behindP S x.vals.l.length (x.N.getD b [])) ∧ Keep w w' := by
 obtain ⟨vp, vr, va, nv, vc, ba, nb, bc, hop⟩ := x.opened
 have hnext := fun (W : World) (hk : Keep w W) => next2 x b W (h.keep hk) hs.edges (by rw [SsD.N_len]; exact hb)
 have hNlt := SsD.N_lt x
 have hNl := SsD.N_len x
 have hnv1 : nv ≤ 1000 := by rw [← hop.nv]; exact hs.vals
 have hedges : (x.N.getD b []).length < 17592186044416 := by
  obtain ⟨y, hy⟩ := get_some hb
  rw [SsD.N_get hy]
  have h1 := hs.edges y (List.mem_of_getElem? hy)
  have h2 := nextL_len x.blocks.l.length y.to.l
  unfold nat
  rw [List.length_map]
  show (nextL _ _).length < _
  omega
 have hmem : ∀ t ∈ x.N.getD b [], t < nb := fun t ht => by
  have hbN : b < x.N.length := by rw [hNl]; exact hb
  rw [List.getD_eq_getElem?_getD, List.getElem?_eq_getElem hbN] at ht
  have := hNlt _ (List.getElem_mem hbN) t ht
  rw [hNl, hop.nb] at this
  exact this
 rw [hop.agg] at hnext ⊢
 rw [hop.nv] at hrow
 rw [hop.nb] at hlen hb
 rw [hop.nv, hop.nb]
 obtain ⟨NX, hNX⟩ : ∃ NX, x.N.getD b [] = NX := ⟨_, rfl⟩
 rw [hNX] at hnext hmem hedges ⊢
 obtain ⟨W, hW, hk, c0, c1, c2, c3, lt⟩ := box4 w 39 vp vr (.slice va nv vc) (.slice ba nb bc)
 obtain ⟨W1, hmake, hblk, hk1⟩ := make_bools W nv (by omega)
 have hn1 := hnext W1 (hk.trans hk1)
 have d0 := hk1.cell c0
 have d1 := hk1.cell c1
 have d2 := hk1.cell c2
 have d3 := hk1.cell c3
 have lt1 := Nat.lt_of_lt_of_le lt hk1.size
 have HN1 := Lib.hid hn1
 have Hblk := Lib.hid hblk
 have Hk := Lib.hid hk
 have Hk1 := Lib.hid hk1
 have HS := Lib.hid hS
 have Hmem := Lib.hid hmem
 have Hlen := Lib.hid hlen
 have Hrow := Lib.hid hrow
 clear hnext hop h hs hNlt hNl hNX hS hn1 hblk hk hk1 hmem hlen hrow x
 obtain ⟨g, hg⟩ : ∃ g, W.heap.size = g := ⟨_, rfl⟩
 have Hg := Lib.hid hg
 rw [hg] at hmake Hblk
 have hgw : w.heap.size < g := by omega
 clear hg
 go_enter Tryz.func31, Tryz.ntmps31
 go_wp2_with (refine wpList_make_eq rfl _ _ _ rfl _ _ rfl rfl _ _ hmake ?_; clear hmake hW)
 refine HN1.out.mono ?_
 clear HN1
 rintro e w2 ⟨A, c, rfl, hown, hk2, hcl, hcm⟩
 have Hown := Lib.hid hown
 have Hblk2 := Lib.hid (Hblk.out.keep hk2)
 have Hk2 := Lib.hid hk2
 have HW := Lib.hid (show ∀ w', Ext (fun k => k = g) w2 w' → Keep w w' from fun w' h => Keep.of_ext ((Hk.out.trans Hk1.out).trans hk2) h (fun k hk e => by omega))
 have hgs : g < w2.heap.size := Hblk2.out.lt
 obtain ⟨m, hm⟩ : ∃ m, NX.length = m := ⟨_, rfl⟩
 rw [hm] at Hown hcl hedges ⊢
 have Hm := Lib.hid hm
 have Hgne := Lib.hid (fun k (hk : (Value.slice A m c).ownBlock = some k) => Hown.out.blk_apart Hblk2.out (by decide) hk)
 clear c0 c1 c2 c3 d0 d1 d2 d3 lt lt1 hown hk2 hcl hcm hm Hblk
 go_wp2_with fail
 go_loopw [20] (fun vi wr => ∃ k : Nat, k ≤ m ∧ vi = .int .i64 k ∧ Hid (BBlk wr g 4 ((NX.take k).foldl (fun out t => Lv.orL out (S.getD t [])) (List.replicate nv false))) ∧ Hid (Ext (fun k => k = g) w2 wr)) (fun vi _ => m - (intOf vi).toNat)
 case atStart => exact ⟨0, Nat.zero_le _, rfl, Hblk2, Lib.hid (Ext.refl _ _)⟩
 case round =>
  obtain ⟨k, hk, rfl, hblk, hE⟩ := hrel
  by_cases hin : k < m
  ·obtain ⟨tt, ht⟩ := get_some (l := NX) (k := k) (by rw [Hm.out]; exact hin)
   have htn := Hmem.out tt (List.mem_of_getElem? ht)
   obtain ⟨l, hl⟩ := get_some (l := S) (k := tt) (by rw [Hlen.out]; exact htn)
   have hln := Hrow.out l (List.mem_of_getElem? hl)
   have Hln := Lib.hid hln
   have hkw := HW.out _ hE.out
   obtain ⟨Ar, cr, r0, hro⟩ := HS.out.get hl
   have r1 := hkw.cell r0
   rw [hln] at r1 hro
   have Hro := Lib.hid hro
   obtain ⟨b1, o1, hA, hb1, q0⟩ := ints_at Hown.out (Keep.refl _) ht
   subst hA
   have hb1g := Hgne.out b1 rfl
   have q1 := (World.cell?_of_block (hE.out.block b1 hb1 hb1g)).trans q0
   have Hpl := Lib.hid (show (NX.take (k + 1)).foldl (fun out t => Lv.orL out (S.getD t [])) (List.replicate nv false) = Lv.orL ((NX.take k).foldl (fun out t => Lv.orL out (S.getD t [])) (List.replicate nv false)) l from by
    rw [List.take_add_one, ht]
    show List.foldl _ _ (_ ++ [tt]) = _
    rw [List.foldl_append, List.foldl_cons, List.foldl_nil, List.getD_eq_getElem?_getD, hl]; rfl)
   obtain ⟨a, ha⟩ : ∃ a, (NX.take k).foldl (fun out t => Lv.orL out (S.getD t [])) (List.replicate nv false) = a := ⟨_, rfl⟩
   have halen : a.length = nv := by
    rw [← ha]
    have key : ∀ (q : List Nat) (s : List Bool), s.length = nv → (∀ t ∈ q, t < nb) → (q.foldl (fun out t => Lv.orL out (S.getD t [])) s).length = nv := by
     intro q
     induction q with
     | nil => intro s h _; exact h
     | cons z q ih =>
      intro s h1 h2
      refine ih _ ?_ (fun t ht => h2 t (by simp [ht]))
      obtain ⟨lz, hz⟩ := get_some (l := S) (k := z) (by rw [Hlen.out]; exact h2 z (by simp))
      have := Hrow.out lz (List.mem_of_getElem? hz)
      rw [Lv.orL_len (by rw [List.getD_eq_getElem?_getD, hz]; show lz.length = _; omega)]; exact h1
    exact key _ _ (by simp) (fun t ht => Hmem.out t (List.mem_of_mem_take ht))
   rw [ha] at hblk Hpl
   have Hal := Lib.hid halen
   have HB0 := Lib.hid (show BBlk wr g 4 (orTo a l 0) ∧ Ext (fun k => k = g) w2 wr from ⟨by rw [orTo_zero]; exact hblk.out, hE.out⟩)
   have hkk : (k : Int) < (m : Int) := by omega
   have hk0 : (0 : Int) ≤ (k : Int) := by omega
   have htt : (tt : Int) < (nb : Int) := by omega
   have htt0 : (0 : Int) ≤ (tt : Int) := by omega
   clear ha halen hblk hE hro r0 q0 ht hl hln hkw hb1g
   go_wp2_with fail
   go_loopw [29] (fun vj wr => ∃ j : Nat, j ≤ nv ∧ vj = .int .i64 j ∧ Hid (BBlk wr g 4 (orTo a l j)) ∧ Hid (Ext (fun k => k = g) w2 wr)) (fun vj _ => nv - (intOf vj).toNat)
   case atStart => exact ⟨0, Nat.zero_le _, rfl, Lib.hid HB0.out.1, Lib.hid HB0.out.2⟩
   case round =>
    clear HB0 q1 r1
    obtain ⟨j, hj, rfl, hblk, hE⟩ := hrel
    by_cases hjn : j < nv
    ·obtain ⟨u, hu⟩ := get_some (l := a) (k := j) (by rw [Hal.out]; exact hjn)
     obtain ⟨v, hv⟩ := get_some (l := l) (k := j) (by rw [Hln.out]; exact hjn)
     have hll : l.length = a.length := by rw [Hln.out, Hal.out]
     obtain ⟨b2, o2, hA2, hb2, q2⟩ := bool_at Hro.out.segN.2 (HW.out _ hE.out) (k := j) (by rw [Hln.out]; exact hjn)
     subst hA2
     have e2 := Option.some.inj ((List.getElem?_eq_getElem (by rw [Hln.out]; exact hjn)).symm.trans hv)
     rw [e2] at q2
     have q3 : wr.cell? ⟨g, j, none⟩ = some (.bool u) := by
      rw [hblk.out.cell, List.getElem?_map, orTo_get hll hu]; rfl
     have fg := hblk.out.frozen j
     have lg := hblk.out.lt
     have lb2 := Nat.lt_of_lt_of_le hb2 (HW.out _ hE.out).size
     have hb2g : b2 ≠ g := by omega
     have Hnx := Lib.hid (show BBlk (wr.setCell ⟨g, j, none⟩ (.bool (u || v))) g 4 (orTo a l (j + 1)) ∧ Ext (fun k => k = g) w2 (wr.setCell ⟨g, j, none⟩ (.bool (u || v))) from
      ⟨by rw [← orTo_succ hll hu hv]; exact hblk.out.put j _, hE.out.setCell (p := ⟨g, j, none⟩) (fun _ => rfl) _⟩)
     have hjj : (j : Int) < (nv : Int) := by omega
     have hj0 : (0 : Int) ≤ (j : Int) := by omega
     clear hblk hE hu hv e2
     cases u
     ·go_wp2
      go_roundw
      case rel => exact ⟨j + 1, hjn, by go_num, Lib.hid Hnx.out.1, Lib.hid Hnx.out.2⟩
      case measure => simp [intOf]; omega
     ·go_wp2
      go_roundw
      case rel => exact ⟨j + 1, hjn, by go_num, Lib.hid Hnx.out.1, Lib.hid Hnx.out.2⟩
      case measure => simp [intOf]; omega
    ·have Hnx := Lib.hid (show BBlk wr g 4 ((NX.take (k + 1)).foldl (fun out t => Lv.orL out (S.getD t [])) (List.replicate nv false)) ∧ Ext (fun k => k = g) w2 wr from
      ⟨by rw [Hpl.out, ← orTo_end (a := a) (b := l) (j := j) (by rw [Hln.out, Hal.out]) (by rw [Hal.out]; omega)]; exact hblk.out, hE.out⟩)
     clear hblk hE
     go_wp2
     go_roundw
     case rel => exact ⟨k + 1, hin, by go_num, Lib.hid Hnx.out.1, Lib.hid Hnx.out.2⟩
     case measure => simp [intOf]; omega
  ·have Hfin := Lib.hid (show BBlk wr g 4 (Lv.behindP S nv NX) ∧ Keep w wr from by
    have hb := hblk.out
    rw [List.take_of_length_le (by rw [Hm.out]; omega)] at hb
    exact ⟨hb, HW.out _ hE.out⟩)
   have Hgf := Lib.hid hgw
   clear hblk hE
   go_wp2
   go_ret
   exact ⟨_, rfl, by have := Hgf.out; omega, Hfin.out.1, Hfin.out.2⟩
end Go.Proofs.YtjpmiejgcnfiiaaGreat
