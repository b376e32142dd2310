import Derived.Test.YtjpmiejgcnfiiaaGreatQ14
import Derived.Test.YtjpmiejgcnfiiaaGreatQ16
import Derived.Test.YtjpmiejgcnfiiaaGreatQ3
import Derived.Test.YtjpmiejgcnfiiaaGreatQ18
set_option linter.unusedVariables false
set_option linter.unusedSimpArgs false
namespace Go.Proofs.YtjpmiejgcnfiiaaGreat
open Go

/-! ### How often -/

/-- How often each value of n comes up in a list. -/
def cntA (l : List Int) (n : Nat) : List Int := (List.range n).map fun v : Nat => ((l.count (v : Int) : Nat) : Int)
theorem cntA_len (l : List Int) (n : Nat) : (cntA l n).length = n := by simp [cntA]
theorem cntA_get {l : List Int} {n v : Nat} (h : v < n) : (cntA l n)[v]? = some ((l.count (v : Int) : Nat) : Int) := by simp [cntA, h]
theorem cntA_nil (n : Nat) : cntA [] n = List.replicate n 0 := by
 refine List.ext_getElem? fun i => ?_
 by_cases h : i < n
 ·rw [cntA_get h, List.getElem?_replicate, if_pos h]; rfl
 ·rw [List.getElem?_eq_none (by rw [cntA_len]; omega), List.getElem?_replicate, if_neg h]
theorem cntA_out {l : List Int} {n : Nat} {u : Int} (h : ¬ (0 ≤ u ∧ u < (n : Int))) : cntA (l ++ [u]) n = cntA l n := by
 refine List.ext_getElem? fun i => ?_
 by_cases hi : i < n
 ·rw [cntA_get hi, cntA_get hi, List.count_append, List.count_singleton, if_neg (by simp; omega)]; rfl
 ·rw [List.getElem?_eq_none (by rw [cntA_len]; omega), List.getElem?_eq_none (by rw [cntA_len]; omega)]
theorem cntA_in {l : List Int} {n v : Nat} (h : v < n) : cntA (l ++ [(v : Int)]) n = (cntA l n).set v (((l.count (v : Int) : Nat) : Int) + 1) := by
 refine List.ext_getElem? fun i => ?_
 by_cases hi : i < n
 ·rw [cntA_get hi, List.count_append, List.count_singleton]
  by_cases e : v = i
  ·subst e
   rw [List.getElem?_set_self (by rw [cntA_len]; exact h), if_pos (by simp)]; simp
  ·rw [List.getElem?_set_ne e, cntA_get hi, if_neg (by simp; omega)]; simp
 ·rw [List.getElem?_eq_none (by rw [cntA_len]; omega), List.getElem?_eq_none (by rw [List.length_set, cntA_len]; omega)]
/-- The values that the first k blocks make. -/
def SsD.outsK (x : SsD) (k : Nat) : List Int := (x.blocks.l.take k).flatMap BkD.outsI
theorem SsD.outsK_succ {x : SsD} {k : Nat} {y : BkD} (h : x.blocks.l[k]? = some y) : x.outsK (k + 1) = x.outsK k ++ y.outsI := by
 unfold SsD.outsK
 rw [List.take_add_one, h, List.flatMap_append]
 simp
theorem SsD.outsK_all (x : SsD) : x.outsK x.blocks.l.length = x.outsA := by unfold SsD.outsK SsD.outsA; rw [List.take_length]

/-! ### Where -/

/-- Where values are made, of the blocks behind b and of the list pre, which b begins with. -/
structure DefsP (x : SsD) (b : Nat) (pre : List Int) (D : List Int) : Prop where
 len : D.length = x.vals.l.length
 some_ : ∀ v, v < x.vals.l.length → D.getD v (-1) = -1 ∨ (∃ (c : Nat) (y : BkD), b + 1 ≤ c ∧ x.blocks.l[c]? = some y ∧ D.getD v (-1) = (c : Int) ∧ (v : Int) ∈ y.outsI) ∨ (D.getD v (-1) = (b : Int) ∧ (v : Int) ∈ pre)
 all : ∀ v, v < x.vals.l.length → ((∃ (c : Nat) (y : BkD), b + 1 ≤ c ∧ x.blocks.l[c]? = some y ∧ (v : Int) ∈ y.outsI) ∨ (v : Int) ∈ pre) → D.getD v (-1) ≠ -1
theorem DefsI.zero (x : SsD) : DefsI x x.blocks.l.length (List.replicate x.vals.l.length (-1)) :=
 ⟨by simp, fun v hv => .inl (by rw [List.getD_eq_getElem?_getD, List.getElem?_replicate, if_pos hv]; rfl), fun v hv c y hc hy => by have := (List.getElem?_eq_some_iff.1 hy).1; omega⟩
theorem DefsI.begin_ {x : SsD} {b : Nat} {D : List Int} (h : DefsI x (b + 1) D) : DefsP x b [] D :=
 ⟨h.len, fun v hv => (h.some_ v hv).elim .inl (fun h => .inr (.inl h)), fun v hv hc => by
  rcases hc with ⟨c, y, h1, h2, h3⟩ | hc
  ·exact h.all v hv c y h1 h2 h3
  ·simp at hc⟩
theorem DefsP.skip {x : SsD} {b : Nat} {pre D : List Int} {u : Int} (h : DefsP x b pre D) (hu : ¬ (0 ≤ u ∧ u < (x.vals.l.length : Int))) : DefsP x b (pre ++ [u]) D :=
 ⟨h.len, fun v hv => by
  rcases h.some_ v hv with h1 | h1 | ⟨h1, h2⟩
  ·exact .inl h1
  ·exact .inr (.inl h1)
  ·exact .inr (.inr ⟨h1, List.mem_append_left _ h2⟩), fun v hv hc => by
  refine h.all v hv ?_
  rcases hc with hc | hc
  ·exact .inl hc
  ·rcases List.mem_append.1 hc with hc | hc
   ·exact .inr hc
   ·have : (v : Int) = u := by simpa using hc
    omega⟩
theorem DefsP.put {x : SsD} {b u : Nat} {pre D : List Int} (h : DefsP x b pre D) (hu : u < x.vals.l.length) : DefsP x b (pre ++ [(u : Int)]) (D.set u (b : Int)) := by
 have hg : ∀ v, (D.set u (b : Int)).getD v (-1) = if u = v then (b : Int) else D.getD v (-1) := fun v => by
  rw [List.getD_eq_getElem?_getD, List.getElem?_set]
  by_cases e : u = v
  ·subst e; rw [if_pos rfl, if_pos rfl, if_pos (by rw [h.len]; exact hu)]; rfl
  ·rw [if_neg e, if_neg e, ← List.getD_eq_getElem?_getD]
 refine ⟨by rw [List.length_set]; exact h.len, fun v hv => ?_, fun v hv hc => ?_⟩
 ·rw [hg]
  by_cases e : u = v
  ·subst e; rw [if_pos rfl]; exact .inr (.inr ⟨rfl, by simp⟩)
  ·rw [if_neg e]
   rcases h.some_ v hv with h1 | h1 | ⟨h1, h2⟩
   ·exact .inl h1
   ·exact .inr (.inl h1)
   ·exact .inr (.inr ⟨h1, List.mem_append_left _ h2⟩)
 ·rw [hg]
  by_cases e : u = v
  ·rw [if_pos e]; omega
  ·rw [if_neg e]
   refine h.all v hv ?_
   rcases hc with hc | hc
   ·exact .inl hc
   ·rcases List.mem_append.1 hc with hc | hc
    ·exact .inr hc
    ·have : (v : Int) = (u : Int) := by simpa using hc
     omega
theorem DefsP.end_ {x : SsD} {b : Nat} {y : BkD} {D : List Int} (hy : x.blocks.l[b]? = some y) (h : DefsP x b y.outsI D) : DefsI x b D :=
 ⟨h.len, fun v hv => by
  rcases h.some_ v hv with h1 | ⟨c, z, h1, h2⟩ | ⟨h1, h2⟩
  ·exact .inl h1
  ·exact .inr ⟨c, z, by omega, h2⟩
  ·exact .inr ⟨b, y, Nat.le_refl _, hy, h1, h2⟩, fun v hv c z hc hz hm => by
  refine h.all v hv ?_
  by_cases e : c = b
  ·subst e; rw [hy] at hz; cases hz; exact .inr hm
  ·exact .inl ⟨c, z, by omega, hz, hm⟩⟩

/-! ### Which are reached -/

/-- One pass over the edges: those ahead of the i-th of block b have been looked at. -/
structure Rch (x : SsD) (s0 s : List Bool) (more : Bool) (b i : Nat) : Prop where
 len : s.length = x.blocks.l.length
 root : 0 < x.blocks.l.length → s.getD 0 false = true
 le : s.count false ≤ s0.count false
 same : more = false → s = s0 ∧ ∀ c t, (c < b ∧ t ∈ x.N.getD c [] ∨ c = b ∧ t ∈ (x.N.getD c []).take i) → s.getD c false = true → s.getD t false = true
 less : more = true → s.count false < s0.count false
theorem Rch.start {x : SsD} {s : List Bool} (h1 : s.length = x.blocks.l.length) (h2 : 0 < x.blocks.l.length → s.getD 0 false = true) : Rch x s s false 0 0 :=
 ⟨h1, h2, Nat.le_refl _, fun _ => ⟨rfl, fun c t h => by
  rcases h with ⟨h, _⟩ | ⟨_, h⟩
  ·omega
  ·simp at h⟩, fun h => by cases h⟩
theorem Rch.next_ {x : SsD} {s0 s : List Bool} {more : Bool} {b i : Nat} (h : Rch x s0 s more b i) (hb : s.getD b false = true → (x.N.getD b []).length ≤ i) : Rch x s0 s more (b + 1) 0 :=
 ⟨h.len, h.root, h.le, fun hm => ⟨(h.same hm).1, fun c t ht hc => by
  rcases ht with ⟨h1, h2⟩ | ⟨_, h2⟩
  ·by_cases e : c = b
   ·subst e
    exact (h.same hm).2 c t (.inr ⟨rfl, by rw [List.take_of_length_le (hb hc)]; exact h2⟩) hc
   ·exact (h.same hm).2 c t (.inl ⟨by omega, h2⟩) hc
  ·simp at h2⟩, h.less⟩
theorem Rch.skip {x : SsD} {s0 s : List Bool} {more : Bool} {b i t : Nat} (h : Rch x s0 s more b i) (ht : (x.N.getD b [])[i]? = some t) (hs : s.getD t false = true) : Rch x s0 s more b (i + 1) :=
 ⟨h.len, h.root, h.le, fun hm => ⟨(h.same hm).1, fun c u hu hc => by
  rcases hu with hu | ⟨rfl, hu⟩
  ·exact (h.same hm).2 c u (.inl hu) hc
  ·rw [List.take_add_one, ht] at hu
   rcases List.mem_append.1 hu with hu | hu
   ·exact (h.same hm).2 c u (.inr ⟨rfl, hu⟩) hc
   ·have : u = t := by simpa using hu
    subst this; exact hs⟩, h.less⟩
theorem Rch.put {x : SsD} {s0 s : List Bool} {more : Bool} {b i t : Nat} (h : Rch x s0 s more b i) (ht : t < x.blocks.l.length) (hs : s.getD t false = false) : Rch x s0 (s.set t true) true b (i + 1) := by
 have htl : t < s.length := by rw [h.len]; exact ht
 have h1 := Lv.count_false_set htl hs
 have h2 := h.le
 refine ⟨by rw [List.length_set]; exact h.len, fun h0 => ?_, by omega, (fun hm => by cases hm), fun _ => by omega⟩
 rw [Lv.getD_set_bool s t 0 true htl]
 split
 ·rfl
 ·exact h.root h0
theorem Rch.end_ {x : SsD} {s0 s : List Bool} {i : Nat} (h : Rch x s0 s false x.blocks.l.length i) (b : Nat) (hb : s.getD b false = true) (t : Nat) (ht : t ∈ x.N.getD b []) : s.getD t false = true := by
 refine (h.same rfl).2 b t (.inl ⟨?_, ht⟩) hb
 rcases Nat.lt_or_ge b x.N.length with h1 | h1
 ·rw [SsD.N_len] at h1; exact h1
 ·rw [List.getD_eq_getElem?_getD, List.getElem?_eq_none (by omega)] at ht
  simp at ht
end Go.Proofs.YtjpmiejgcnfiiaaGreat
namespace Go.Proofs.YtjpmiejgcnfiiaaGreat
open Go Go.RowKit

set_option maxHeartbeats 4000000 in
theorem outs39_calls (y : BkD) (w : World) (h : BkOk w y) (hb : BulkyB y) :
  Calls Tryz.prog 58 #[.agg (bkC y).toArray] w fun e w' => ∃ A c, e = .returned (.slice A y.outsI.length c) ∧ Own intC 1 3 w' w.heap.size (.slice A y.outsI.length c) y.outsI ∧ Keep w w' := by
 obtain ⟨W, hW, kW, bW, sW⟩ := boxN w 57 (bkC y)
 have c0 : W.cell? ⟨w.heap.size, 0, none⟩ = some (.slice y.params.a y.params.l.length y.params.c) := bW.cell 0
 have c1 : W.cell? ⟨w.heap.size, 1, none⟩ = some (.slice y.ins.a y.ins.l.length y.ins.c) := bW.cell 1
 have lt := bW.lt
 have ho : Own intC 1 3 (W.alloc (.cells #[] 3)) W.heap.size (.slice (some ⟨W.heap.size, 0, none⟩) 0 0) [] := Own.empty_made intC 1 3 W (Nat.le_refl _)
 have hke : Keep W (W.alloc (.cells #[] 3)) := (Keep.refl _).alloc _
 have HC1 := Lib.hid c1
 have HLT := Lib.hid lt
 have HkW := Lib.hid kW
 have Hin := Lib.hid h
 have Hb := Lib.hid hb
 obtain ⟨EL, hEL⟩ : ∃ EL : Nat → List Int, (fun k => y.hereI k) = EL := ⟨_, rfl⟩
 have HEL := Lib.hid (show ∀ k i, y.ins.l[k]? = some i → EL (k + 1) = EL k ++ i.outs.l from fun k i hi => by rw [← hEL]; exact BkD.hereI_succ hi)
 have HEnd := Lib.hid (show EL y.ins.l.length = y.outsI from by rw [← hEL]; exact BkD.hereI_all (Nat.le_refl _))
 have hso : y.outsI.length ≤ 1048576 := hb.outs
 have HLe := Lib.hid (show ∀ k, (EL k).length ≤ 1048576 from fun k => by rw [← hEL]; exact Nat.le_trans (BkD.hereI_le y k) hso)
 have HE0 := Lib.hid (show EL 0 = y.params.l from by rw [← hEL]; simp [BkD.hereI])
 have hil := hb.ins
 have hpl := hb.params
 obtain ⟨A0, k0, hv0, A1, c1', w1, hrun1, hown1, hE1⟩ := intApp ho ((h.params.keep kW).seg.keep hke) y.params.c (by simp; omega) hke.size
 cases hv0
 have k1 : Keep W w1 := Keep.of_ext hke hE1 (fun k hk e => by simp [Value.ownBlock] at e; omega)
 rw [List.nil_append] at hrun1 hown1
 have Hst1 := Lib.hid (show Own intC 1 3 w1 W.heap.size (.slice A1 y.params.l.length c1') (EL 0) from by rw [HE0.out]; exact hown1)
 have Hst2 := Lib.hid k1
 clear bW sW ho hke hE1 h hb hown1 hEL hso k1 kW
 go_enter Tryz.func58, Tryz.ntmps58
 go_wp2_with (at_builtin; refine wpList_append_eq rfl _ _ _ rfl _ _ rfl rfl _ _ hrun1 ?_; clear hrun1)
 clear c0 c1 lt
 go_loopw [3, 4] (fun vo vi wr => ∃ k : Nat, k ≤ y.ins.l.length ∧ vi = .int .i64 k ∧ Hid (Own intC 1 3 wr W.heap.size vo (EL k)) ∧ Hid (Keep W wr)) (fun _ i _ => y.ins.l.length - (intOf i).toNat)
 case atStart => exact ⟨0, Nat.zero_le _, rfl, Hst1, Hst2⟩
 case round =>
  clear Hst1 Hst2
  obtain ⟨k, hk, rfl, hown, hkeep⟩ := hrel
  have c1 := hkeep.out.cell HC1.out
  have lt := Nat.lt_of_lt_of_le HLT.out hkeep.out.size
  by_cases hlt : k < y.ins.l.length
  ·obtain ⟨i, hi⟩ := get_some hlt
   obtain ⟨B, off, hA, hB, _, _, _, _, _, _, _, q6⟩ := in_open Hin.out (HkW.out.trans hkeep.out) hi
   have hBl := Nat.lt_of_lt_of_le hB (HkW.out.trans hkeep.out).size
   have Hne := Lib.hid (HEL.out k i hi)
   have hargs := (Hin.out.ins i (List.mem_of_getElem? hi)).outs.seg.keep (HkW.out.trans hkeep.out)
   rw [hA] at c1
   have k1 : (k : Int) < (y.ins.l.length : Int) := by omega
   have k0 : (0 : Int) ≤ (k : Int) := by omega
   have hle := HLe.out (k + 1)
   rw [Hne.out, List.length_append] at hle
   obtain ⟨Ao, co, rfl, A', c', w7, hrun, hown7, hE7⟩ := intApp hown.out hargs i.outs.c (by omega) hkeep.out.size
   have hown0 := hown.out
   obtain ⟨m, hm⟩ : ∃ m, (EL k).length = m := ⟨_, rfl⟩
   obtain ⟨m2, hm2⟩ : ∃ m, (EL k ++ i.outs.l).length = m := ⟨_, rfl⟩
   obtain ⟨m3, hm3⟩ : ∃ m, i.outs.l.length = m := ⟨_, rfl⟩
   rw [hm] at hrun hE7 hown0 ⊢
   rw [hm2] at hrun hown7
   rw [hm3] at hrun q6
   have Hn := Lib.hid (show Own intC 1 3 w7 W.heap.size (.slice A' m2 c') (EL (k + 1)) ∧ Keep W w7 from ⟨by rw [Hne.out]; exact hown7, Keep.of_ext hkeep.out hE7 (fun j hj e => by have := (hown0.lt j e).1; omega)⟩)
   clear hown hkeep hown7 hE7 hown0 hi hle hm hm2 hm3 hargs hA
   go_wp2_with (at_builtin; refine wpList_append_eq rfl _ _ _ rfl _ _ rfl rfl _ _ hrun ?_; clear hrun)
   go_roundw
   case rel => exact ⟨k + 1, hlt, by go_num, Lib.hid Hn.out.1, Lib.hid Hn.out.2⟩
   case measure => simp [intOf]; omega
  ·have hown2 := hown.out
   rw [show k = y.ins.l.length by omega, HEnd.out] at hown2
   obtain ⟨A, c, rfl, _⟩ := hown2.form
   have Hr := Lib.hid (show Own intC 1 3 wr w.heap.size (.slice A y.outsI.length c) y.outsI ∧ Keep w wr from ⟨hown2.mono HkW.out.size, HkW.out.trans hkeep.out⟩)
   clear hown hown2 hkeep
   go_wp2
   go_ret
   exact ⟨A, c, rfl, Hr.out.1, Hr.out.2⟩
end Go.Proofs.YtjpmiejgcnfiiaaGreat
namespace Go.Proofs.YtjpmiejgcnfiiaaGreat
open Go Go.RowKit

/-- What the end uses, in the reference's order. -/
def BkD.usedE (y : BkD) (k : Nat) : List Int := (if y.kind = 1 ∨ y.kind = 2 then [y.cond] else []) ++ y.args.l ++ (y.to.l.take k).flatMap fun e => e.args.l
theorem usedE_succ {y : BkD} {k : Nat} {e : EdD} (h : y.to.l[k]? = some e) : y.usedE (k + 1) = y.usedE k ++ e.args.l := by
 unfold BkD.usedE
 rw [List.take_add_one, h, List.flatMap_append]
 simp
theorem usedE_le (y : BkD) (k : Nat) : (y.usedE k).length ≤ y.endsI.length := by
 unfold BkD.usedE BkD.endsI
 simp only [List.length_append]
 have : ((y.to.l.take k).flatMap fun e => e.args.l).length ≤ (y.to.l.flatMap fun e => e.args.l).length := by
  rw [← List.take_append_drop k y.to.l, List.flatMap_append, List.length_append]
  simp
 omega
theorem usedE_mem {y : BkD} {v : Int} : v ∈ y.usedE y.to.l.length ↔ v ∈ y.endsI := by
 unfold BkD.usedE BkD.endsI
 rw [List.take_length]
 simp only [List.mem_append]
 constructor
 ·rintro ((h | h) | h)
  ·exact .inl (.inr h)
  ·exact .inl (.inl h)
  ·exact .inr h
 ·rintro ((h | h) | h)
  ·exact .inl (.inr h)
  ·exact .inl (.inl h)
  ·exact .inr h

set_option maxHeartbeats 4000000 in
set_option maxRecDepth 100000 in
theorem used39_calls (y : BkD) (w : World) (h : BkOk w y) (hb : BulkyB y) :
  Calls Tryz.prog 64 #[.agg #[.slice none 0 0, .slice none 0 0, .int .i64 y.kind, .int .i64 y.cond, .slice y.args.a y.args.l.length y.args.c, .slice y.to.a y.to.l.length y.to.c, .int .i64 y.trap]] w fun e w' => ∃ A n c, e = .returned (.slice A n c) ∧ Own intC 1 3 w' w.heap.size (.slice A n c) (y.usedE y.to.l.length) ∧ Keep w w' := by
 obtain ⟨W, hW, kW, bW, sW⟩ := boxN w 57 [.slice none 0 0, .slice none 0 0, .int .i64 y.kind, .int .i64 y.cond, .slice y.args.a y.args.l.length y.args.c, .slice y.to.a y.to.l.length y.to.c, .int .i64 y.trap]
 have c1 : W.cell? ⟨w.heap.size, 1, none⟩ = some (.slice none 0 0) := bW.cell 1
 have c2 : W.cell? ⟨w.heap.size, 2, none⟩ = some (.int .i64 y.kind) := bW.cell 2
 have c3 : W.cell? ⟨w.heap.size, 2 + 1, none⟩ = some (.int .i64 y.cond) := bW.cell 3
 have c4 : W.cell? ⟨w.heap.size, 2 + 2, none⟩ = some (.slice y.args.a y.args.l.length y.args.c) := bW.cell 4
 have c5 : W.cell? ⟨w.heap.size, 2 + 3, none⟩ = some (.slice y.to.a y.to.l.length y.to.c) := bW.cell 5
 have lt := bW.lt
 have HC4 := Lib.hid c4
 have HC5 := Lib.hid c5
 have HLT := Lib.hid lt
 have HkW := Lib.hid kW
 have Hin := Lib.hid h
 have Hb := Lib.hid hb
 have hal := hb.args
 have htl := hb.to
 have hso : y.endsI.length ≤ 1048576 := hb.ends
 obtain ⟨EL, hEL⟩ : ∃ EL : Nat → List Int, (fun k => y.usedE k) = EL := ⟨_, rfl⟩
 have HEL := Lib.hid (show ∀ k i, y.to.l[k]? = some i → EL (k + 1) = EL k ++ i.args.l from fun k i hi => by rw [← hEL]; exact usedE_succ hi)
 have HEnd := Lib.hid (show EL y.to.l.length = y.usedE y.to.l.length from by rw [← hEL])
 have HLe := Lib.hid (show ∀ k, (EL k).length ≤ 1048576 from fun k => by rw [← hEL]; exact Nat.le_trans (usedE_le y k) hso)
 have HE0 := Lib.hid (show EL 0 = (if y.kind = 1 ∨ y.kind = 2 then [y.cond] else []) ++ y.args.l from by rw [← hEL]; simp [BkD.usedE])
 obtain ⟨kd, hkd⟩ : ∃ kd, y.kind = kd := ⟨_, rfl⟩
 rw [hkd] at HE0 c2 hW ⊢
 have hargs0 := (h.args.keep kW).seg
 have hnil : Own intC 1 3 W W.heap.size (.slice none 0 0) [] := Own.nil _ _ _ _ _
 clear bW sW h hb hEL hso hkd
 by_cases g1 : kd = 1
 ·subst g1
  obtain ⟨_, _, e0, A0, c0, w0, hrun0, hown0, hE0⟩ := intPush hnil y.cond (by simp) (Nat.le_refl _)
  cases e0
  have k0 : Keep W w0 := Keep.of_ext (Keep.refl _) hE0 (fun i hi e => by simp [Value.ownBlock] at e)
  rw [List.nil_append] at hown0
  obtain ⟨_, _, e1, A1, c1', w1, hrun1, hown1, hE1⟩ := intApp hown0 (hargs0.keep k0) y.args.c (by simp; omega) k0.size
  cases e1
  have k1 : Keep W w1 := Keep.of_ext k0 hE1 (fun i hi e => by have := (hown0.lt i e).1; omega)
  have hL : ([y.cond] ++ y.args.l).length = y.args.l.length + 1 := by simp [Nat.add_comm]
  have hn0 : (([] : List Int).length) = 0 := rfl
  have hn1 : ([y.cond] : List Int).length = 1 := rfl
  rw [hL] at hrun1 hown1
  have Hst1 := Lib.hid (show Own intC 1 3 w1 W.heap.size (.slice A1 (y.args.l.length + 1) c1') (EL 0) from by rw [HE0.out, if_pos (by omega)]; exact hown1)
  have Hst2 := Lib.hid k1
  have z4 := k0.cell HC4.out
  have z5 := k1.cell HC5.out
  have zl0 := Nat.lt_of_lt_of_le HLT.out k0.size
  have zl1 := Nat.lt_of_lt_of_le HLT.out k1.size
  clear hown0 hE0 hown1 hE1 k1 k0 hargs0 hnil hL hn0 hn1 HE0
  go_enter Tryz.func64, Tryz.ntmps64
  go_wp2_with fail
  go_loopw [3, 4] (fun vo vi wr => vo = .slice none 0 0 ∧ vi = .int .i64 0 ∧ wr = W) (fun _ _ _ => 0)
  case atStart => exact ⟨rfl, rfl, rfl⟩
  case round =>
   obtain ⟨rfl, rfl, rfl⟩ := hrel
   obtain ⟨Wz, hWz⟩ : ∃ z : World, z = wr := ⟨_, rfl⟩
   subst hWz
   go_wp2_with (first | (at_builtin; refine wpList_append_eq rfl _ _ _ rfl _ _ rfl rfl _ _ hrun0 ?_; clear hrun0) | (at_builtin; refine wpList_append_eq rfl _ _ _ rfl _ _ rfl rfl _ _ hrun1 ?_; clear hrun1))
   clear c1 c2 c3 c4 c5 lt
   go_loopw [3, 5] (fun vo vi wq => ∃ k : Nat, k ≤ y.to.l.length ∧ vi = .int .i64 k ∧ Hid (Own intC 1 3 wq Wz.heap.size vo (EL k)) ∧ Hid (Keep Wz wq)) (fun _ i _ => y.to.l.length - (intOf i).toNat)
   case atStart => exact ⟨0, Nat.zero_le _, rfl, Hst1, Hst2⟩
   case round =>
    clear Hst1 Hst2
    obtain ⟨k, hk, rfl, hown, hkeep⟩ := hrel
    have c5 := hkeep.out.cell HC5.out
    have lt := Nat.lt_of_lt_of_le HLT.out hkeep.out.size
    by_cases hlt : k < y.to.l.length
    ·obtain ⟨i, hi⟩ := get_some hlt
     obtain ⟨B, off, hA, hB, _, q1⟩ := ed_get Hin.out.toSeg (HkW.out.trans hkeep.out) hi
     unfold RwD.v at q1
     have hBl := Nat.lt_of_lt_of_le hB (HkW.out.trans hkeep.out).size
     have Hne := Lib.hid (HEL.out k i hi)
     have hargs := (Hin.out.to i (List.mem_of_getElem? hi)).args.seg.keep (HkW.out.trans hkeep.out)
     rw [hA] at c5
     have k1 : (k : Int) < (y.to.l.length : Int) := by omega
     have k0 : (0 : Int) ≤ (k : Int) := by omega
     have hle := HLe.out (k + 1)
     rw [Hne.out, List.length_append] at hle
     obtain ⟨Ao, co, rfl, A', c', w7, hrun, hown7, hE7⟩ := intApp hown.out hargs i.args.c (by omega) hkeep.out.size
     have hown0 := hown.out
     obtain ⟨m, hm⟩ : ∃ m, (EL k).length = m := ⟨_, rfl⟩
     obtain ⟨m2, hm2⟩ : ∃ m, (EL k ++ i.args.l).length = m := ⟨_, rfl⟩
     obtain ⟨m3, hm3⟩ : ∃ m, i.args.l.length = m := ⟨_, rfl⟩
     rw [hm] at hrun hE7 hown0 ⊢
     rw [hm2] at hrun hown7
     rw [hm3] at hrun q1
     have Hn := Lib.hid (show Own intC 1 3 w7 Wz.heap.size (.slice A' m2 c') (EL (k + 1)) ∧ Keep Wz w7 from ⟨by rw [Hne.out]; exact hown7, Keep.of_ext hkeep.out hE7 (fun j hj e => by have := (hown0.lt j e).1; omega)⟩)
     clear hown hkeep hown7 hE7 hown0 hi hle hm hm2 hm3 hargs hA
     go_wp2_with (at_builtin; refine wpList_append_eq rfl _ _ _ rfl _ _ rfl rfl _ _ hrun ?_; clear hrun)
     go_roundw
     case rel => exact ⟨k + 1, hlt, by go_num, Lib.hid Hn.out.1, Lib.hid Hn.out.2⟩
     case measure => simp [intOf]; omega
    ·have hown2 := hown.out
     rw [show k = y.to.l.length by omega, HEnd.out] at hown2
     obtain ⟨A, c, rfl, _⟩ := hown2.form
     obtain ⟨n, hn⟩ : ∃ n, (y.usedE y.to.l.length).length = n := ⟨_, rfl⟩
     rw [hn] at hown2 ⊢
     have Hr := Lib.hid (show Own intC 1 3 wr w.heap.size (.slice A n c) (y.usedE y.to.l.length) ∧ Keep w wr from ⟨hown2.mono HkW.out.size, HkW.out.trans hkeep.out⟩)
     clear hown hown2 hkeep hn
     go_wp2
     go_ret
     exact ⟨A, n, c, rfl, Hr.out.1, Hr.out.2⟩
 by_cases g2 : kd = 2
 ·subst g2
  obtain ⟨_, _, e0, A0, c0, w0, hrun0, hown0, hE0⟩ := intPush hnil y.cond (by simp) (Nat.le_refl _)
  cases e0
  have k0 : Keep W w0 := Keep.of_ext (Keep.refl _) hE0 (fun i hi e => by simp [Value.ownBlock] at e)
  rw [List.nil_append] at hown0
  obtain ⟨_, _, e1, A1, c1', w1, hrun1, hown1, hE1⟩ := intApp hown0 (hargs0.keep k0) y.args.c (by simp; omega) k0.size
  cases e1
  have k1 : Keep W w1 := Keep.of_ext k0 hE1 (fun i hi e => by have := (hown0.lt i e).1; omega)
  have hL : ([y.cond] ++ y.args.l).length = y.args.l.length + 1 := by simp [Nat.add_comm]
  have hn0 : (([] : List Int).length) = 0 := rfl
  have hn1 : ([y.cond] : List Int).length = 1 := rfl
  rw [hL] at hrun1 hown1
  have Hst1 := Lib.hid (show Own intC 1 3 w1 W.heap.size (.slice A1 (y.args.l.length + 1) c1') (EL 0) from by rw [HE0.out, if_pos (by omega)]; exact hown1)
  have Hst2 := Lib.hid k1
  have z4 := k0.cell HC4.out
  have z5 := k1.cell HC5.out
  have zl0 := Nat.lt_of_lt_of_le HLT.out k0.size
  have zl1 := Nat.lt_of_lt_of_le HLT.out k1.size
  clear hown0 hE0 hown1 hE1 k1 k0 hargs0 hnil hL hn0 hn1 HE0
  go_enter Tryz.func64, Tryz.ntmps64
  go_wp2_with fail
  go_loopw [3, 4] (fun vo vi wr => vo = .slice none 0 0 ∧ vi = .int .i64 0 ∧ wr = W) (fun _ _ _ => 0)
  case atStart => exact ⟨rfl, rfl, rfl⟩
  case round =>
   obtain ⟨rfl, rfl, rfl⟩ := hrel
   obtain ⟨Wz, hWz⟩ : ∃ z : World, z = wr := ⟨_, rfl⟩
   subst hWz
   go_wp2_with (first | (at_builtin; refine wpList_append_eq rfl _ _ _ rfl _ _ rfl rfl _ _ hrun0 ?_; clear hrun0) | (at_builtin; refine wpList_append_eq rfl _ _ _ rfl _ _ rfl rfl _ _ hrun1 ?_; clear hrun1))
   clear c1 c2 c3 c4 c5 lt
   go_loopw [3, 5] (fun vo vi wq => ∃ k : Nat, k ≤ y.to.l.length ∧ vi = .int .i64 k ∧ Hid (Own intC 1 3 wq Wz.heap.size vo (EL k)) ∧ Hid (Keep Wz wq)) (fun _ i _ => y.to.l.length - (intOf i).toNat)
   case atStart => exact ⟨0, Nat.zero_le _, rfl, Hst1, Hst2⟩
   case round =>
    clear Hst1 Hst2
    obtain ⟨k, hk, rfl, hown, hkeep⟩ := hrel
    have c5 := hkeep.out.cell HC5.out
    have lt := Nat.lt_of_lt_of_le HLT.out hkeep.out.size
    by_cases hlt : k < y.to.l.length
    ·obtain ⟨i, hi⟩ := get_some hlt
     obtain ⟨B, off, hA, hB, _, q1⟩ := ed_get Hin.out.toSeg (HkW.out.trans hkeep.out) hi
     unfold RwD.v at q1
     have hBl := Nat.lt_of_lt_of_le hB (HkW.out.trans hkeep.out).size
     have Hne := Lib.hid (HEL.out k i hi)
     have hargs := (Hin.out.to i (List.mem_of_getElem? hi)).args.seg.keep (HkW.out.trans hkeep.out)
     rw [hA] at c5
     have k1 : (k : Int) < (y.to.l.length : Int) := by omega
     have k0 : (0 : Int) ≤ (k : Int) := by omega
     have hle := HLe.out (k + 1)
     rw [Hne.out, List.length_append] at hle
     obtain ⟨Ao, co, rfl, A', c', w7, hrun, hown7, hE7⟩ := intApp hown.out hargs i.args.c (by omega) hkeep.out.size
     have hown0 := hown.out
     obtain ⟨m, hm⟩ : ∃ m, (EL k).length = m := ⟨_, rfl⟩
     obtain ⟨m2, hm2⟩ : ∃ m, (EL k ++ i.args.l).length = m := ⟨_, rfl⟩
     obtain ⟨m3, hm3⟩ : ∃ m, i.args.l.length = m := ⟨_, rfl⟩
     rw [hm] at hrun hE7 hown0 ⊢
     rw [hm2] at hrun hown7
     rw [hm3] at hrun q1
     have Hn := Lib.hid (show Own intC 1 3 w7 Wz.heap.size (.slice A' m2 c') (EL (k + 1)) ∧ Keep Wz w7 from ⟨by rw [Hne.out]; exact hown7, Keep.of_ext hkeep.out hE7 (fun j hj e => by have := (hown0.lt j e).1; omega)⟩)
     clear hown hkeep hown7 hE7 hown0 hi hle hm hm2 hm3 hargs hA
     go_wp2_with (at_builtin; refine wpList_append_eq rfl _ _ _ rfl _ _ rfl rfl _ _ hrun ?_; clear hrun)
     go_roundw
     case rel => exact ⟨k + 1, hlt, by go_num, Lib.hid Hn.out.1, Lib.hid Hn.out.2⟩
     case measure => simp [intOf]; omega
    ·have hown2 := hown.out
     rw [show k = y.to.l.length by omega, HEnd.out] at hown2
     obtain ⟨A, c, rfl, _⟩ := hown2.form
     obtain ⟨n, hn⟩ : ∃ n, (y.usedE y.to.l.length).length = n := ⟨_, rfl⟩
     rw [hn] at hown2 ⊢
     have Hr := Lib.hid (show Own intC 1 3 wr w.heap.size (.slice A n c) (y.usedE y.to.l.length) ∧ Keep w wr from ⟨hown2.mono HkW.out.size, HkW.out.trans hkeep.out⟩)
     clear hown hown2 hkeep hn
     go_wp2
     go_ret
     exact ⟨A, n, c, rfl, Hr.out.1, Hr.out.2⟩
 have g1b : (kd == 1) = false := beq_eq_false_iff_ne.2 g1
 have g2b : (kd == 2) = false := beq_eq_false_iff_ne.2 g2
 obtain ⟨_, _, e1, A1, c1', w1, hrun1, hown1, hE1⟩ := intApp hnil hargs0 y.args.c (by simp; omega) (Nat.le_refl _)
 cases e1
 have k1 : Keep W w1 := Keep.of_ext (Keep.refl _) hE1 (fun i hi e => by simp [Value.ownBlock] at e)
 rw [List.nil_append] at hrun1 hown1
 have Hst1 := Lib.hid (show Own intC 1 3 w1 W.heap.size (.slice A1 y.args.l.length c1') (EL 0) from by rw [HE0.out, if_neg (by omega)]; exact hown1)
 have Hst2 := Lib.hid k1
 have z5 := k1.cell HC5.out
 have zl1 := Nat.lt_of_lt_of_le HLT.out k1.size
 clear hown1 hE1 k1 hargs0 hnil HE0 g1 g2
 go_enter Tryz.func64, Tryz.ntmps64
 go_wp2_with fail
 go_loopw [3, 4] (fun vo vi wr => vo = .slice none 0 0 ∧ vi = .int .i64 0 ∧ wr = W) (fun _ _ _ => 0)
 case atStart => exact ⟨rfl, rfl, rfl⟩
 case round =>
  obtain ⟨rfl, rfl, rfl⟩ := hrel
  obtain ⟨Wz, hWz⟩ : ∃ z : World, z = wr := ⟨_, rfl⟩
  subst hWz
  go_wp2_with (first | (at_builtin; refine wpList_append_eq rfl _ _ _ rfl _ _ rfl rfl _ _ hrun1 ?_; clear hrun1))
  clear c1 c2 c3 c4 c5 lt
  go_loopw [3, 5] (fun vo vi wq => ∃ k : Nat, k ≤ y.to.l.length ∧ vi = .int .i64 k ∧ Hid (Own intC 1 3 wq Wz.heap.size vo (EL k)) ∧ Hid (Keep Wz wq)) (fun _ i _ => y.to.l.length - (intOf i).toNat)
  case atStart => exact ⟨0, Nat.zero_le _, rfl, Hst1, Hst2⟩
  case round =>
   clear Hst1 Hst2
   obtain ⟨k, hk, rfl, hown, hkeep⟩ := hrel
   have c5 := hkeep.out.cell HC5.out
   have lt := Nat.lt_of_lt_of_le HLT.out hkeep.out.size
   by_cases hlt : k < y.to.l.length
   ·obtain ⟨i, hi⟩ := get_some hlt
    obtain ⟨B, off, hA, hB, _, q1⟩ := ed_get Hin.out.toSeg (HkW.out.trans hkeep.out) hi
    unfold RwD.v at q1
    have hBl := Nat.lt_of_lt_of_le hB (HkW.out.trans hkeep.out).size
    have Hne := Lib.hid (HEL.out k i hi)
    have hargs := (Hin.out.to i (List.mem_of_getElem? hi)).args.seg.keep (HkW.out.trans hkeep.out)
    rw [hA] at c5
    have k1 : (k : Int) < (y.to.l.length : Int) := by omega
    have k0 : (0 : Int) ≤ (k : Int) := by omega
    have hle := HLe.out (k + 1)
    rw [Hne.out, List.length_append] at hle
    obtain ⟨Ao, co, rfl, A', c', w7, hrun, hown7, hE7⟩ := intApp hown.out hargs i.args.c (by omega) hkeep.out.size
    have hown0 := hown.out
    obtain ⟨m, hm⟩ : ∃ m, (EL k).length = m := ⟨_, rfl⟩
    obtain ⟨m2, hm2⟩ : ∃ m, (EL k ++ i.args.l).length = m := ⟨_, rfl⟩
    obtain ⟨m3, hm3⟩ : ∃ m, i.args.l.length = m := ⟨_, rfl⟩
    rw [hm] at hrun hE7 hown0 ⊢
    rw [hm2] at hrun hown7
    rw [hm3] at hrun q1
    have Hn := Lib.hid (show Own intC 1 3 w7 Wz.heap.size (.slice A' m2 c') (EL (k + 1)) ∧ Keep Wz w7 from ⟨by rw [Hne.out]; exact hown7, Keep.of_ext hkeep.out hE7 (fun j hj e => by have := (hown0.lt j e).1; omega)⟩)
    clear hown hkeep hown7 hE7 hown0 hi hle hm hm2 hm3 hargs hA
    go_wp2_with (at_builtin; refine wpList_append_eq rfl _ _ _ rfl _ _ rfl rfl _ _ hrun ?_; clear hrun)
    go_roundw
    case rel => exact ⟨k + 1, hlt, by go_num, Lib.hid Hn.out.1, Lib.hid Hn.out.2⟩
    case measure => simp [intOf]; omega
   ·have hown2 := hown.out
    rw [show k = y.to.l.length by omega, HEnd.out] at hown2
    obtain ⟨A, c, rfl, _⟩ := hown2.form
    obtain ⟨n, hn⟩ : ∃ n, (y.usedE y.to.l.length).length = n := ⟨_, rfl⟩
    rw [hn] at hown2 ⊢
    have Hr := Lib.hid (show Own intC 1 3 wr w.heap.size (.slice A n c) (y.usedE y.to.l.length) ∧ Keep w wr from ⟨hown2.mono HkW.out.size, HkW.out.trans hkeep.out⟩)
    clear hown hown2 hkeep hn
    go_wp2
    go_ret
    exact ⟨A, n, c, rfl, Hr.out.1, Hr.out.2⟩
end Go.Proofs.YtjpmiejgcnfiiaaGreat
