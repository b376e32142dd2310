import Derived.Test.YtjpmiejgcnfiiaaGreatQ32
import Derived.Test.YtjpmiejgcnfiiaaGreatQ16
import Derived.Test.YtjpmiejgcnfiiaaGreatQ3
import Derived.Test.YtjpmiejgcnfiiaaGreatQ14
set_option linter.unusedVariables false
set_option linter.unusedSimpArgs false
namespace Go.Proofs.YtjpmiejgcnfiiaaGreat.Lv

def mdI (b : PBlk) (v : Nat) : Int := match madeI b v with
 | none => -2
 | some 0 => -1
 | some (i + 1) => (i : Int)
def usI (b : PBlk) (v : Nat) : Int := match usedI b v with
 | none => -1
 | some u => (u : Int)
theorem findM_at {v : Nat} : ∀ (l : List PIns) (n i : Nat) (x : PIns), l[i]? = some x → v ∈ x.outs → (∀ j y, j < i → l[j]? = some y → v ∉ y.outs) → findM v (l.zipIdx n) none = some (n + i + 1)
 | [], _, _, _, h, _, _ => by simp at h
 | p :: l, n, 0, x, h, hv, _ => by
  have e : p = x := by simpa using h
  subst e
  rw [List.zipIdx_cons]
  simp [findM, hv]
 | p :: l, n, i + 1, x, h, hv, hb => by
  have hp : v ∉ p.outs := hb 0 p (by omega) rfl
  have ih := findM_at l (n + 1) i x (by simpa using h) hv (fun j y hj hy => hb (j + 1) y (by omega) (by simpa using hy))
  rw [List.zipIdx_cons]
  unfold findM at ih ⊢
  rw [List.find?_cons_of_neg (by simpa using hp)]
  rw [ih]
  congr 1
  omega
theorem findM_no {v : Nat} : ∀ (l : List PIns) (n : Nat), (∀ x ∈ l, v ∉ x.outs) → findM v (l.zipIdx n) none = none
 | [], _, _ => rfl
 | p :: l, n, h => by
  have ih := findM_no l (n + 1) (fun x hx => h x (by simp [hx]))
  rw [List.zipIdx_cons]
  unfold findM at ih ⊢
  rw [List.find?_cons_of_neg (by simpa using h p (by simp))]
  exact ih
theorem mdI_param {b : PBlk} {v : Nat} (h : v ∈ b.params) : mdI b v = -1 := by
 have e : madeI b v = some 0 := by unfold madeI; rw [if_pos h]; rfl
 unfold mdI; rw [e]
theorem mdI_at {b : PBlk} {v i : Nat} {x : PIns} (h : v ∉ b.params) (hx : b.ins[i]? = some x) (hv : v ∈ x.outs) (hb : ∀ j y, j < i → b.ins[j]? = some y → v ∉ y.outs) : mdI b v = (i : Int) := by
 have e : madeI b v = some (i + 1) := by
  unfold madeI
  rw [if_neg h, findM_at b.ins 0 i x hx hv hb]
  congr 1
  omega
 unfold mdI; rw [e]
theorem mdI_no {b : PBlk} {v : Nat} (h : v ∉ b.params) (hb : ∀ x ∈ b.ins, v ∉ x.outs) : mdI b v = -2 := by
 have e : madeI b v = none := by unfold madeI; rw [if_neg h]; exact findM_no b.ins 0 hb
 unfold mdI; rw [e]
theorem mdI_makes {b : PBlk} {v : Nat} : mdI b v = -2 ↔ ¬ b.makes v := by
 unfold mdI
 rcases made_cases b v with ⟨e, h⟩ | ⟨e, h⟩ | ⟨i, x, e, _, h1, h2⟩
 ·rw [e]; simp [h]
 ·rw [e]
  constructor
  ·intro h'; cases h'
  ·intro h'; exact absurd (.inl h) h'
 ·rw [e]
  constructor
  ·intro h'
   simp only at h'
   omega
  ·intro h'; exact absurd (.inr ⟨x, List.mem_of_getElem? h1, h2⟩) h'
theorem lastU_none {v : Nat} : ∀ (l : List PIns) (n : Nat) (u : Option Nat), (∀ x ∈ l, v ∉ x.args) → lastU v (l.zipIdx n) u = u
 | [], _, _, _ => rfl
 | p :: l, n, u, h => by
  rw [List.zipIdx_cons]
  have e : lastU v ((p, n) :: l.zipIdx (n + 1)) u = lastU v (l.zipIdx (n + 1)) (if v ∈ p.args then some n else u) := rfl
  rw [e, if_neg (h p (by simp))]
  exact lastU_none l (n + 1) u (fun x hx => h x (by simp [hx]))
theorem lastU_at {v : Nat} : ∀ (l : List PIns) (n i : Nat) (x : PIns) (u : Option Nat), l[i]? = some x → v ∈ x.args → (∀ j y, i < j → l[j]? = some y → v ∉ y.args) → lastU v (l.zipIdx n) u = some (n + i)
 | [], _, _, _, _, h, _, _ => by simp at h
 | p :: l, n, 0, x, u, h, hv, hb => by
  have e : p = x := by simpa using h
  subst e
  rw [List.zipIdx_cons]
  have e : lastU v ((p, n) :: l.zipIdx (n + 1)) u = lastU v (l.zipIdx (n + 1)) (if v ∈ p.args then some n else u) := rfl
  rw [e, if_pos hv, lastU_none l (n + 1) _ (fun y hy => by
   obtain ⟨j, hj⟩ := List.mem_iff_getElem?.1 hy
   exact hb (j + 1) y (by omega) (by simpa using hj))]
  rfl
 | p :: l, n, i + 1, x, u, h, hv, hb => by
  rw [List.zipIdx_cons]
  have e : lastU v ((p, n) :: l.zipIdx (n + 1)) u = lastU v (l.zipIdx (n + 1)) (if v ∈ p.args then some n else u) := rfl
  rw [e, lastU_at l (n + 1) i x _ (by simpa using h) hv (fun j y hj hy => hb (j + 1) y (by omega) (by simpa using hy))]
  congr 1
  omega
theorem usI_end {b : PBlk} {v : Nat} (h : v ∈ b.ends) : usI b v = (b.ins.length : Int) := by
 have e : usedI b v = some b.ins.length := by unfold usedI; rw [if_pos h]
 unfold usI; rw [e]
theorem usI_at {b : PBlk} {v i : Nat} {x : PIns} (h : v ∉ b.ends) (hx : b.ins[i]? = some x) (hv : v ∈ x.args) (hb : ∀ j y, i < j → b.ins[j]? = some y → v ∉ y.args) : usI b v = (i : Int) := by
 have e : usedI b v = some i := by
  unfold usedI
  rw [if_neg h, lastU_at b.ins 0 i x none hx hv hb]
  congr 1
  omega
 unfold usI; rw [e]
theorem usI_no {b : PBlk} {v : Nat} (h : v ∉ b.ends) (hb : ∀ x ∈ b.ins, v ∉ x.args) : usI b v = -1 := by
 have e : usedI b v = none := by unfold usedI; rw [if_neg h]; exact lastU_none b.ins 0 none hb
 unfold usI; rw [e]
theorem usI_uses {b : PBlk} {v : Nat} : 0 ≤ usI b v ↔ b.uses v := by
 have h := used_iff (b := b) (v := v)
 unfold usI
 cases hu : usedI b v with
 | none =>
  constructor
  ·intro h'; simp only at h'; omega
  ·intro h'; exact absurd h' (h.1 hu)
 | some u =>
  constructor
  ·intro _
   apply Classical.byContradiction
   intro h'
   rw [h.2 h'] at hu
   cases hu
  ·intro _; simp only; omega
/-- The range as the reference makes it. -/
theorem rangeR_eq (b : PBlk) (v : Nat) (at_ : Int) (bg bh : Bool) : rangeR b v at_ bg bh =
  if bg = false ∧ mdI b v = -2 then none
  else some (if 0 ≤ mdI b v then at_ + 2 * (mdI b v + 1) + 1 else at_,
   if bh then closeV b at_ else
    (if 0 ≤ usI b v then max ((if 0 ≤ mdI b v then at_ + 2 * (mdI b v + 1) + 1 else at_) + 1) (at_ + 2 * (usI b v + 1) + 1) else (if 0 ≤ mdI b v then at_ + 2 * (mdI b v + 1) + 1 else at_) + 1)) := by
 unfold rangeR mdI usI
 rcases madeI b v with _ | _ | i
 ·cases usedI b v with
  | none => cases bg <;> simp
  | some u =>
   have h2 : (0 : Int) ≤ (u : Int) := by omega
   cases bg <;> simp [h2]
 ·cases usedI b v with
  | none => simp
  | some u =>
   have h2 : (0 : Int) ≤ (u : Int) := by omega
   simp [h2]
 ·have h0 : (0 : Int) ≤ (i : Int) := by omega
  have h1 : ¬ ((i : Int) = -2) := by omega
  cases usedI b v with
  | none => simp [h0, h1]
  | some u =>
   have h2 : (0 : Int) ≤ (u : Int) := by omega
   simp [h0, h1, h2]
end Go.Proofs.YtjpmiejgcnfiiaaGreat.Lv
namespace Go.Proofs.YtjpmiejgcnfiiaaGreat
open Go Go.RowKit

theorem BkD.In.args_ge {y : BkD} {nv : Nat} (h : y.In nv) : ∀ i ∈ y.ins.l, ∀ u ∈ i.args.l, 0 ≤ u := fun i hi u hu => (h.args i hi u hu).1
theorem BkD.In.outs_ge {y : BkD} {nv : Nat} (h : y.In nv) : ∀ i ∈ y.ins.l, ∀ u ∈ i.outs.l, 0 ≤ u := fun i hi u hu => (h.outs i hi u hu).1
theorem p_ins_get {y : BkD} {n k : Nat} {i : InD} (hi : y.ins.l[k]? = some i) : (y.p n).ins[k]? = some i.p := by
 show (y.ins.l.map InD.p)[k]? = _
 rw [List.getElem?_map, hi]; rfl
theorem p_ins_of {y : BkD} {n k : Nat} {q : Lv.PIns} (hq : (y.p n).ins[k]? = some q) : ∃ i, y.ins.l[k]? = some i ∧ q = i.p := by
 have hq' : (y.ins.l.map InD.p)[k]? = some q := hq
 rw [List.getElem?_map] at hq'
 cases hi : y.ins.l[k]? with
 | none => rw [hi] at hq'; cases hq'
 | some i => rw [hi] at hq'; exact ⟨i, rfl, (Option.some.inj hq').symm⟩
section
variable {y : BkD} {nv : Nat}
theorem md_param (hin : y.In nv) (n : Nat) {v : Nat} (h : (v : Int) ∈ y.params.l) : Lv.mdI (y.p n) v = -1 :=
 Lv.mdI_param ((nat_mem (fun u hu => (hin.params u hu).1)).2 h)
theorem md_at (hin : y.In nv) (n : Nat) {v k : Nat} {i : InD} (h : (v : Int) ∉ y.params.l) (hi : y.ins.l[k]? = some i) (ho : (v : Int) ∈ i.outs.l) (hb : ∀ j q, j < k → y.ins.l[j]? = some q → (v : Int) ∉ q.outs.l) : Lv.mdI (y.p n) v = (k : Int) :=
 Lv.mdI_at (fun h' => h ((nat_mem (fun u hu => (hin.params u hu).1)).1 h')) (p_ins_get hi) ((nat_mem (hin.outs_ge i (List.mem_of_getElem? hi))).2 ho) (fun j q hj hq hv => by
  obtain ⟨i', hi', rfl⟩ := p_ins_of hq
  exact hb j i' hj hi' ((nat_mem (hin.outs_ge i' (List.mem_of_getElem? hi'))).1 hv))
theorem md_no (hin : y.In nv) (n : Nat) {v : Nat} (h : (v : Int) ∉ y.params.l) (hb : ∀ j q, j < y.ins.l.length → y.ins.l[j]? = some q → (v : Int) ∉ q.outs.l) : Lv.mdI (y.p n) v = -2 :=
 Lv.mdI_no (fun h' => h ((nat_mem (fun u hu => (hin.params u hu).1)).1 h')) (fun q hq hv => by
  obtain ⟨j, hj⟩ := List.mem_iff_getElem?.1 hq
  obtain ⟨i', hi', rfl⟩ := p_ins_of hj
  exact hb j i' (List.getElem?_eq_some_iff.1 hi').1 hi' ((nat_mem (hin.outs_ge i' (List.mem_of_getElem? hi'))).1 hv))
theorem us_end (hin : y.In nv) (n : Nat) {v : Nat} (h : (v : Int) ∈ y.endsI) : Lv.usI (y.p n) v = (y.ins.l.length : Int) := by
 rw [Lv.usI_end (b := y.p n) ((nat_mem (fun u hu => (hin.ends u hu).1)).2 h), BkD.p_ins]
theorem us_at (hin : y.In nv) (n : Nat) {v k : Nat} {i : InD} (h : (v : Int) ∉ y.endsI) (hi : y.ins.l[k]? = some i) (ho : (v : Int) ∈ i.args.l) (hb : ∀ j q, k < j → y.ins.l[j]? = some q → (v : Int) ∉ q.args.l) : Lv.usI (y.p n) v = (k : Int) :=
 Lv.usI_at (fun h' => h ((nat_mem (fun u hu => (hin.ends u hu).1)).1 h')) (p_ins_get hi) ((nat_mem (hin.args_ge i (List.mem_of_getElem? hi))).2 ho) (fun j q hj hq hv => by
  obtain ⟨i', hi', rfl⟩ := p_ins_of hq
  exact hb j i' hj hi' ((nat_mem (hin.args_ge i' (List.mem_of_getElem? hi'))).1 hv))
theorem us_no (hin : y.In nv) (n : Nat) {v : Nat} (h : (v : Int) ∉ y.endsI) (hb : ∀ (j : Nat) q, y.ins.l[j]? = some q → (v : Int) ∉ q.args.l) : Lv.usI (y.p n) v = -1 :=
 Lv.usI_no (fun h' => h ((nat_mem (fun u hu => (hin.ends u hu).1)).1 h')) (fun q hq hv => by
  obtain ⟨j, hj⟩ := List.mem_iff_getElem?.1 hq
  obtain ⟨i', hi', rfl⟩ := p_ins_of hj
  exact hb j i' hi' ((nat_mem (hin.args_ge i' (List.mem_of_getElem? hi'))).1 hv))
end

set_option maxHeartbeats 2000000 in
theorem made47_calls (y : BkD) (nv n v : Nat) (w : World) (h : BkOk w y) (hin : y.In nv) (hb : BulkyB y) :
  Calls Tryz.prog 32 #[.agg (bkC y).toArray, .int .i64 (v : Int)] w fun e w' => e = .returned (.int .i64 (Lv.mdI (y.p n) v)) ∧ Keep w w' := by
 obtain ⟨W, hW, kW, bW, sW⟩ := boxN w 57 (bkC y)
 have c0 : W.cell? ⟨w.heap.size, 0, none⟩ = some (.slice y.params.a y.params.l.length y.params.c) := bW.cell 0
 have c1 : W.cell? ⟨w.heap.size, 1, none⟩ = some (.slice y.ins.a y.ins.l.length y.ins.c) := bW.cell 1
 have lt := bW.lt
 have H := Lib.hid (h.keep kW)
 have Hin := Lib.hid hin
 have Hb := Lib.hid hb
 have hil := hb.ins
 have hp := has47_calls y.params.l y.params.a y.params.c (v : Int) W (h.params.keep kW).seg (by have := hb.params; omega)
 clear h hin hb bW sW
 by_cases hvp : (v : Int) ∈ y.params.l
 ·rw [decide_eq_true hvp] at hp
  have Hr := Lib.hid (md_param Hin.out n hvp)
  have Hp := Lib.hid hp
  clear hp hvp
  go_enter Tryz.func32, Tryz.ntmps32
  go_wp2_with fail
  refine Hp.out.mono ?_
  rintro e w1 ⟨rfl, rfl⟩
  go_wp2
  go_ret
  exact ⟨by rw [Hr.out]; rfl, kW⟩
 ·rw [decide_eq_false hvp] at hp
  have Hvp := Lib.hid hvp
  have Hp := Lib.hid hp
  clear hp hvp
  go_enter Tryz.func32, Tryz.ntmps32
  go_wp2_with fail
  refine Hp.out.mono ?_
  rintro e w1 ⟨rfl, rfl⟩
  clear Hp
  go_wp2_with fail
  go_loopw [5] (fun vi wr => ∃ k : Nat, k ≤ y.ins.l.length ∧ vi = .int .i64 k ∧ Hid (∀ j q, j < k → y.ins.l[j]? = some q → (v : Int) ∉ q.outs.l) ∧ wr = w1) (fun i _ => y.ins.l.length - (intOf i).toNat)
  case atStart => exact ⟨0, Nat.zero_le _, rfl, Lib.hid (fun j q hj => by omega), rfl⟩
  case round =>
   obtain ⟨k, hk, rfl, hno, rfl⟩ := hrel
   by_cases hlt : k < y.ins.l.length
   ·obtain ⟨q, hq⟩ := get_some hlt
    have Hq := Lib.hid hq
    obtain ⟨B, off, hA, hB, _, _, _, _, _, _, _, q6⟩ := in_open H.out (Keep.refl _) hq
    have hBl := hB
    have hs := (H.out.ins q (List.mem_of_getElem? hq)).outs.seg
    have hsl := (Hb.out.inn q (List.mem_of_getElem? hq)).2
    rw [hA] at c1
    have k1 : (k : Int) < (y.ins.l.length : Int) := by omega
    have k0 : (0 : Int) ≤ (k : Int) := by omega
    have hh := has47_calls q.outs.l q.outs.a q.outs.c (v : Int) wr hs (by omega)
    clear hq hs
    by_cases hvo : (v : Int) ∈ q.outs.l
    ·rw [decide_eq_true hvo] at hh
     have Hh := Lib.hid hh
     have Hr := Lib.hid (md_at Hin.out n Hvp.out Hq.out hvo hno.out)
     clear hh hvo
     go_wp2_with fail
     refine Hh.out.mono ?_
     rintro e w2 ⟨rfl, rfl⟩
     go_wp2
     go_ret
     exact ⟨by rw [Hr.out]; rfl, kW⟩
    ·rw [decide_eq_false hvo] at hh
     have Hh := Lib.hid hh
     have Hn := Lib.hid (show ∀ j q, j < k + 1 → y.ins.l[j]? = some q → (v : Int) ∉ q.outs.l from fun j q' hj hq' => by
      by_cases e : j = k
      ·subst e; rw [Hq.out] at hq'; cases hq'; exact hvo
      ·exact hno.out j q' (by omega) hq')
     clear hh hvo
     go_wp2_with fail
     refine Hh.out.mono ?_
     rintro e w2 ⟨rfl, rfl⟩
     go_wp2
     go_roundw
     case rel => exact ⟨k + 1, hlt, by go_num, Hn, trivial⟩
     case measure => simp [intOf]; omega
   ·have Hr := Lib.hid (md_no Hin.out n Hvp.out (fun j q hj hq => hno.out j q (by omega) hq))
    clear hno
    go_wp2
    go_ret
    exact ⟨by rw [Hr.out]; rfl, kW⟩
/-- Whether the end uses a value, as far as the first k edges say. -/
theorem endsI_mem {y : BkD} {v : Int} : v ∈ y.endsI ↔ ((y.kind = 1 ∨ y.kind = 2) ∧ y.cond = v) ∨ v ∈ y.args.l ∨ ∃ e ∈ y.to.l, v ∈ e.args.l := by
 unfold BkD.endsI
 rw [List.mem_append, List.mem_append, List.mem_flatMap]
 by_cases hk : y.kind = 1 ∨ y.kind = 2
 ·rw [if_pos hk]
  constructor
  ·rintro ((h | h) | h)
   ·exact .inr (.inl h)
   ·exact .inl ⟨hk, (List.mem_singleton.1 h).symm⟩
   ·exact .inr (.inr h)
  ·rintro (⟨_, h⟩ | h | h)
   ·exact .inl (.inr (by rw [h]; simp))
   ·exact .inl (.inl h)
   ·exact .inr h
 ·rw [if_neg hk]
  constructor
  ·rintro ((h | h) | h)
   ·exact .inr (.inl h)
   ·simp at h
   ·exact .inr (.inr h)
  ·rintro (⟨h, _⟩ | h | h)
   ·exact absurd h hk
   ·exact .inl (.inl h)
   ·exact .inr h
end Go.Proofs.YtjpmiejgcnfiiaaGreat
namespace Go.Proofs.YtjpmiejgcnfiiaaGreat
open Go Go.RowKit

set_option maxHeartbeats 4000000 in
theorem ended47_calls (y : BkD) (v : Nat) (w : World) (h : BkOk w y) (hb : BulkyB y) :
  Calls Tryz.prog 73 #[.agg #[.int .i64 y.kind, .int .i64 y.cond, .slice y.args.a y.args.l.length y.args.c, .slice y.to.a y.to.l.length y.to.c, .int .i64 y.trap], .int .i64 (v : Int)] w fun e w' => e = .returned (.bool (decide ((v : Int) ∈ y.endsI))) ∧ Keep w w' := by
 obtain ⟨W, hW, kW, bW, sW⟩ := boxN w 55 [.int .i64 y.kind, .int .i64 y.cond, .slice y.args.a y.args.l.length y.args.c, .slice y.to.a y.to.l.length y.to.c, .int .i64 y.trap]
 have c0 : W.cell? ⟨w.heap.size, 0, none⟩ = some (.int .i64 y.kind) := bW.cell 0
 have c1 : W.cell? ⟨w.heap.size, 1, none⟩ = some (.int .i64 y.cond) := bW.cell 1
 have c2 : W.cell? ⟨w.heap.size, 2, none⟩ = some (.slice y.args.a y.args.l.length y.args.c) := bW.cell 2
 have c3 : W.cell? ⟨w.heap.size, 3, none⟩ = some (.slice y.to.a y.to.l.length y.to.c) := bW.cell 3
 have lt := bW.lt
 have H := Lib.hid (h.keep kW)
 have Hb := Lib.hid hb
 have htl := hb.to
 have hp := has47_calls y.args.l y.args.a y.args.c (v : Int) W (h.args.keep kW).seg (by have := hb.args; omega)
 have Hm := Lib.hid (endsI_mem (y := y) (v := (v : Int)))
 obtain ⟨kd, hkd⟩ : ∃ kd, y.kind = kd := ⟨_, rfl⟩
 obtain ⟨cd, hcd⟩ : ∃ cd, y.cond = cd := ⟨_, rfl⟩
 obtain ⟨E, hE⟩ : ∃ E, decide ((v : Int) ∈ y.endsI) = E := ⟨_, rfl⟩
 have HE := Lib.hid hE
 rw [hkd, hcd] at Hm
 rw [hkd] at c0 hW ⊢
 rw [hcd] at c1 hW ⊢
 rw [hE]
 clear h hb bW sW hkd hcd hE
 by_cases h1 : kd = 1 ∧ cd = (v : Int)
 ·obtain ⟨rfl, rfl⟩ := h1
  have Hr := Lib.hid (show E = true from by rw [← HE.out]; exact decide_eq_true (Hm.out.2 (.inl ⟨.inl rfl, rfl⟩)))
  have hvv : ((v : Int) == (v : Int)) = true := by simp
  clear hp
  go_enter Tryz.func73, Tryz.ntmps73
  go_wp2
  go_ret
  exact ⟨by rw [Hr.out]; rfl, kW⟩
 by_cases h2 : kd = 2 ∧ cd = (v : Int)
 ·obtain ⟨rfl, rfl⟩ := h2
  have Hr := Lib.hid (show E = true from by rw [← HE.out]; exact decide_eq_true (Hm.out.2 (.inl ⟨.inr rfl, rfl⟩)))
  have hvv : ((v : Int) == (v : Int)) = true := by simp
  clear hp
  go_enter Tryz.func73, Tryz.ntmps73
  go_wp2
  go_ret
  exact ⟨by rw [Hr.out]; rfl, kW⟩
 have Hn := Lib.hid (show (v : Int) ∈ y.endsI ↔ (v : Int) ∈ y.args.l ∨ ∃ e ∈ y.to.l, (v : Int) ∈ e.args.l from by
  rw [Hm.out]
  constructor
  ·rintro (⟨hk | hk, hc⟩ | h)
   ·exact absurd ⟨hk, hc⟩ h1
   ·exact absurd ⟨hk, hc⟩ h2
   ·exact h
  ·exact .inr)
 clear Hm
 by_cases g1 : kd = 1
 ·have hcv : (cd == (v : Int)) = false := beq_eq_false_iff_ne.2 (fun e => h1 ⟨g1, e⟩)
  subst g1
  clear h1 h2
  by_cases hva : (v : Int) ∈ y.args.l
  ·rw [decide_eq_true hva] at hp
   have Hr := Lib.hid (show E = true from by rw [← HE.out]; exact decide_eq_true (Hn.out.2 (.inl hva)))
   have Hp := Lib.hid hp
   clear hp hva
   go_enter Tryz.func73, Tryz.ntmps73
   go_wp2_with fail
   refine Hp.out.mono ?_
   rintro e w1 ⟨rfl, rfl⟩
   go_wp2
   go_ret
   exact ⟨by rw [Hr.out]; rfl, kW⟩
  ·rw [decide_eq_false hva] at hp
   have Hva := Lib.hid hva
   have Hp := Lib.hid hp
   clear hp hva
   go_enter Tryz.func73, Tryz.ntmps73
   go_wp2_with fail
   refine Hp.out.mono ?_
   rintro e w1 ⟨rfl, rfl⟩
   clear Hp
   go_wp2_with fail
   go_loopw [5] (fun vi wr => ∃ k : Nat, k ≤ y.to.l.length ∧ vi = .int .i64 k ∧ Hid (∀ j q, j < k → y.to.l[j]? = some q → (v : Int) ∉ q.args.l) ∧ wr = w1) (fun i _ => y.to.l.length - (intOf i).toNat)
   case atStart => exact ⟨0, Nat.zero_le _, rfl, Lib.hid (fun j q hj => by omega), rfl⟩
   case round =>
    obtain ⟨k, hk, rfl, hno, rfl⟩ := hrel
    by_cases hlt : k < y.to.l.length
    ·obtain ⟨q, hq⟩ := get_some hlt
     have Hq := Lib.hid hq
     obtain ⟨B, off, hA, hB, _, q1⟩ := ed_get H.out.toSeg (Keep.refl _) hq
     have hs := (H.out.to q (List.mem_of_getElem? hq)).args.seg
     have hsl := Hb.out.edges q (List.mem_of_getElem? hq)
     rw [hA] at c3
     clear hA
     unfold RwD.v at q1
     have k1 : (k : Int) < (y.to.l.length : Int) := by omega
     have k0 : (0 : Int) ≤ (k : Int) := by omega
     have hh := has47_calls q.args.l q.args.a q.args.c (v : Int) wr hs (by omega)
     clear hq hs
     by_cases hvo : (v : Int) ∈ q.args.l
     ·rw [decide_eq_true hvo] at hh
      have Hh := Lib.hid hh
      have Hr := Lib.hid (show E = true from by rw [← HE.out]; exact decide_eq_true (Hn.out.2 (.inr ⟨q, List.mem_of_getElem? Hq.out, hvo⟩)))
      clear hh hvo
      go_wp2_with fail
      refine Hh.out.mono ?_
      rintro e w2 ⟨rfl, rfl⟩
      go_wp2
      go_ret
      exact ⟨by rw [Hr.out]; rfl, kW⟩
     ·rw [decide_eq_false hvo] at hh
      have Hh := Lib.hid hh
      have Hnn := Lib.hid (show ∀ j q, j < k + 1 → y.to.l[j]? = some q → (v : Int) ∉ q.args.l from fun j q' hj hq' => by
       by_cases e : j = k
       ·subst e; rw [Hq.out] at hq'; cases hq'; exact hvo
       ·exact hno.out j q' (by omega) hq')
      clear hh hvo
      go_wp2_with fail
      refine Hh.out.mono ?_
      rintro e w2 ⟨rfl, rfl⟩
      go_wp2
      go_roundw
      case rel => exact ⟨k + 1, hlt, by go_num, Hnn, trivial⟩
      case measure => simp [intOf]; omega
    ·have Hr := Lib.hid (show E = false from by
      rw [← HE.out]
      refine decide_eq_false fun hm => ?_
      rcases Hn.out.1 hm with hm | ⟨q, hq, hm⟩
      ·exact Hva.out hm
      ·obtain ⟨j, hj⟩ := List.mem_iff_getElem?.1 hq
       exact hno.out j q (by have := (List.getElem?_eq_some_iff.1 hj).1; omega) hj hm)
     clear hno
     go_wp2
     go_ret
     exact ⟨by rw [Hr.out]; rfl, kW⟩
 by_cases g2 : kd = 2
 ·have hcv : (cd == (v : Int)) = false := beq_eq_false_iff_ne.2 (fun e => h2 ⟨g2, e⟩)
  subst g2
  clear h1 h2
  by_cases hva : (v : Int) ∈ y.args.l
  ·rw [decide_eq_true hva] at hp
   have Hr := Lib.hid (show E = true from by rw [← HE.out]; exact decide_eq_true (Hn.out.2 (.inl hva)))
   have Hp := Lib.hid hp
   clear hp hva
   go_enter Tryz.func73, Tryz.ntmps73
   go_wp2_with fail
   refine Hp.out.mono ?_
   rintro e w1 ⟨rfl, rfl⟩
   go_wp2
   go_ret
   exact ⟨by rw [Hr.out]; rfl, kW⟩
  ·rw [decide_eq_false hva] at hp
   have Hva := Lib.hid hva
   have Hp := Lib.hid hp
   clear hp hva
   go_enter Tryz.func73, Tryz.ntmps73
   go_wp2_with fail
   refine Hp.out.mono ?_
   rintro e w1 ⟨rfl, rfl⟩
   clear Hp
   go_wp2_with fail
   go_loopw [5] (fun vi wr => ∃ k : Nat, k ≤ y.to.l.length ∧ vi = .int .i64 k ∧ Hid (∀ j q, j < k → y.to.l[j]? = some q → (v : Int) ∉ q.args.l) ∧ wr = w1) (fun i _ => y.to.l.length - (intOf i).toNat)
   case atStart => exact ⟨0, Nat.zero_le _, rfl, Lib.hid (fun j q hj => by omega), rfl⟩
   case round =>
    obtain ⟨k, hk, rfl, hno, rfl⟩ := hrel
    by_cases hlt : k < y.to.l.length
    ·obtain ⟨q, hq⟩ := get_some hlt
     have Hq := Lib.hid hq
     obtain ⟨B, off, hA, hB, _, q1⟩ := ed_get H.out.toSeg (Keep.refl _) hq
     have hs := (H.out.to q (List.mem_of_getElem? hq)).args.seg
     have hsl := Hb.out.edges q (List.mem_of_getElem? hq)
     rw [hA] at c3
     clear hA
     unfold RwD.v at q1
     have k1 : (k : Int) < (y.to.l.length : Int) := by omega
     have k0 : (0 : Int) ≤ (k : Int) := by omega
     have hh := has47_calls q.args.l q.args.a q.args.c (v : Int) wr hs (by omega)
     clear hq hs
     by_cases hvo : (v : Int) ∈ q.args.l
     ·rw [decide_eq_true hvo] at hh
      have Hh := Lib.hid hh
      have Hr := Lib.hid (show E = true from by rw [← HE.out]; exact decide_eq_true (Hn.out.2 (.inr ⟨q, List.mem_of_getElem? Hq.out, hvo⟩)))
      clear hh hvo
      go_wp2_with fail
      refine Hh.out.mono ?_
      rintro e w2 ⟨rfl, rfl⟩
      go_wp2
      go_ret
      exact ⟨by rw [Hr.out]; rfl, kW⟩
     ·rw [decide_eq_false hvo] at hh
      have Hh := Lib.hid hh
      have Hnn := Lib.hid (show ∀ j q, j < k + 1 → y.to.l[j]? = some q → (v : Int) ∉ q.args.l from fun j q' hj hq' => by
       by_cases e : j = k
       ·subst e; rw [Hq.out] at hq'; cases hq'; exact hvo
       ·exact hno.out j q' (by omega) hq')
      clear hh hvo
      go_wp2_with fail
      refine Hh.out.mono ?_
      rintro e w2 ⟨rfl, rfl⟩
      go_wp2
      go_roundw
      case rel => exact ⟨k + 1, hlt, by go_num, Hnn, trivial⟩
      case measure => simp [intOf]; omega
    ·have Hr := Lib.hid (show E = false from by
      rw [← HE.out]
      refine decide_eq_false fun hm => ?_
      rcases Hn.out.1 hm with hm | ⟨q, hq, hm⟩
      ·exact Hva.out hm
      ·obtain ⟨j, hj⟩ := List.mem_iff_getElem?.1 hq
       exact hno.out j q (by have := (List.getElem?_eq_some_iff.1 hj).1; omega) hj hm)
     clear hno
     go_wp2
     go_ret
     exact ⟨by rw [Hr.out]; rfl, kW⟩
 have g1b : (kd == 1) = false := beq_eq_false_iff_ne.2 g1
 have g2b : (kd == 2) = false := beq_eq_false_iff_ne.2 g2
 clear g1 g2 h1 h2
 by_cases hva : (v : Int) ∈ y.args.l
 ·rw [decide_eq_true hva] at hp
  have Hr := Lib.hid (show E = true from by rw [← HE.out]; exact decide_eq_true (Hn.out.2 (.inl hva)))
  have Hp := Lib.hid hp
  clear hp hva
  go_enter Tryz.func73, Tryz.ntmps73
  go_wp2_with fail
  refine Hp.out.mono ?_
  rintro e w1 ⟨rfl, rfl⟩
  go_wp2
  go_ret
  exact ⟨by rw [Hr.out]; rfl, kW⟩
 ·rw [decide_eq_false hva] at hp
  have Hva := Lib.hid hva
  have Hp := Lib.hid hp
  clear hp hva
  go_enter Tryz.func73, Tryz.ntmps73
  go_wp2_with fail
  refine Hp.out.mono ?_
  rintro e w1 ⟨rfl, rfl⟩
  clear Hp
  go_wp2_with fail
  go_loopw [5] (fun vi wr => ∃ k : Nat, k ≤ y.to.l.length ∧ vi = .int .i64 k ∧ Hid (∀ j q, j < k → y.to.l[j]? = some q → (v : Int) ∉ q.args.l) ∧ wr = w1) (fun i _ => y.to.l.length - (intOf i).toNat)
  case atStart => exact ⟨0, Nat.zero_le _, rfl, Lib.hid (fun j q hj => by omega), rfl⟩
  case round =>
   obtain ⟨k, hk, rfl, hno, rfl⟩ := hrel
   by_cases hlt : k < y.to.l.length
   ·obtain ⟨q, hq⟩ := get_some hlt
    have Hq := Lib.hid hq
    obtain ⟨B, off, hA, hB, _, q1⟩ := ed_get H.out.toSeg (Keep.refl _) hq
    have hs := (H.out.to q (List.mem_of_getElem? hq)).args.seg
    have hsl := Hb.out.edges q (List.mem_of_getElem? hq)
    rw [hA] at c3
    clear hA
    unfold RwD.v at q1
    have k1 : (k : Int) < (y.to.l.length : Int) := by omega
    have k0 : (0 : Int) ≤ (k : Int) := by omega
    have hh := has47_calls q.args.l q.args.a q.args.c (v : Int) wr hs (by omega)
    clear hq hs
    by_cases hvo : (v : Int) ∈ q.args.l
    ·rw [decide_eq_true hvo] at hh
     have Hh := Lib.hid hh
     have Hr := Lib.hid (show E = true from by rw [← HE.out]; exact decide_eq_true (Hn.out.2 (.inr ⟨q, List.mem_of_getElem? Hq.out, hvo⟩)))
     clear hh hvo
     go_wp2_with fail
     refine Hh.out.mono ?_
     rintro e w2 ⟨rfl, rfl⟩
     go_wp2
     go_ret
     exact ⟨by rw [Hr.out]; rfl, kW⟩
    ·rw [decide_eq_false hvo] at hh
     have Hh := Lib.hid hh
     have Hnn := Lib.hid (show ∀ j q, j < k + 1 → y.to.l[j]? = some q → (v : Int) ∉ q.args.l from fun j q' hj hq' => by
      by_cases e : j = k
      ·subst e; rw [Hq.out] at hq'; cases hq'; exact hvo
      ·exact hno.out j q' (by omega) hq')
     clear hh hvo
     go_wp2_with fail
     refine Hh.out.mono ?_
     rintro e w2 ⟨rfl, rfl⟩
     go_wp2
     go_roundw
     case rel => exact ⟨k + 1, hlt, by go_num, Hnn, trivial⟩
     case measure => simp [intOf]; omega
   ·have Hr := Lib.hid (show E = false from by
     rw [← HE.out]
     refine decide_eq_false fun hm => ?_
     rcases Hn.out.1 hm with hm | ⟨q, hq, hm⟩
     ·exact Hva.out hm
     ·obtain ⟨j, hj⟩ := List.mem_iff_getElem?.1 hq
      exact hno.out j q (by have := (List.getElem?_eq_some_iff.1 hj).1; omega) hj hm)
    clear hno
    go_wp2
    go_ret
    exact ⟨by rw [Hr.out]; rfl, kW⟩
set_option maxHeartbeats 2000000 in
theorem used47_calls (y : BkD) (nv n v : Nat) (w : World) (h : BkOk w y) (hin : y.In nv) (hb : BulkyB y) :
  Calls Tryz.prog 50 #[.agg (bkC y).toArray, .int .i64 (v : Int)] w fun e w' => e = .returned (.int .i64 (Lv.usI (y.p n) v)) ∧ Keep w w' := by
 obtain ⟨W, hW, kW, bW, sW⟩ := boxN w 57 (bkC y)
 have c1 : W.cell? ⟨w.heap.size, 1, none⟩ = some (.slice y.ins.a y.ins.l.length y.ins.c) := bW.cell 1
 have c2 : W.cell? ⟨w.heap.size, 2, none⟩ = some (.int .i64 y.kind) := bW.cell 2
 have c3 : W.cell? ⟨w.heap.size, 2 + 1, none⟩ = some (.int .i64 y.cond) := bW.cell 3
 have c4 : W.cell? ⟨w.heap.size, 2 + 2, none⟩ = some (.slice y.args.a y.args.l.length y.args.c) := bW.cell 4
 have c5 : W.cell? ⟨w.heap.size, 2 + 3, none⟩ = some (.slice y.to.a y.to.l.length y.to.c) := bW.cell 5
 have c6 : W.cell? ⟨w.heap.size, 2 + 4, none⟩ = some (.int .i64 y.trap) := bW.cell 6
 have lt := bW.lt
 have H := Lib.hid (h.keep kW)
 have Hin := Lib.hid hin
 have Hb := Lib.hid hb
 have hil := hb.ins
 have hp := ended47_calls y v W (h.keep kW) hb
 have HcW := Lib.hid c1
 have HltW := Lib.hid lt
 clear h hin hb bW sW
 by_cases hvp : (v : Int) ∈ y.endsI
 ·rw [decide_eq_true hvp] at hp
  have Hr := Lib.hid (us_end Hin.out n hvp)
  have Hp := Lib.hid hp
  clear hp hvp
  go_enter Tryz.func50, Tryz.ntmps50
  go_wp2_with fail
  refine Hp.out.mono ?_
  rintro e w1 ⟨rfl, hk1⟩
  clear c1 c2 c3 c4 c5 c6
  have c1 := hk1.cell HcW.out
  have lt1 := Nat.lt_of_lt_of_le HltW.out hk1.size
  have Hk := Lib.hid (kW.trans hk1)
  clear hk1
  go_wp2
  go_ret
  exact ⟨by rw [Hr.out]; rfl, Hk.out⟩
 ·rw [decide_eq_false hvp] at hp
  have Hvp := Lib.hid hvp
  have Hp := Lib.hid hp
  clear hp hvp
  go_enter Tryz.func50, Tryz.ntmps50
  go_wp2_with fail
  refine Hp.out.mono ?_
  rintro e w1 ⟨rfl, hk1⟩
  clear Hp c1 c2 c3 c4 c5 c6
  have c1 := hk1.cell HcW.out
  have lt1 := Nat.lt_of_lt_of_le HltW.out hk1.size
  have Hk := Lib.hid (kW.trans hk1)
  have Hk1 := Lib.hid hk1
  clear hk1
  go_wp2_with fail
  go_loopw [5] (fun vi wr => ∃ z : Int, -1 ≤ z ∧ z < (y.ins.l.length : Int) ∧ vi = .int .i64 z ∧ Hid (∀ (j : Nat) q, z < (j : Int) → y.ins.l[j]? = some q → (v : Int) ∉ q.args.l) ∧ wr = w1) (fun i _ => (intOf i + 1).toNat)
  case atStart => exact ⟨(y.ins.l.length : Int) - 1, by omega, by omega, rfl, Lib.hid (fun j q hj hq => by have := (List.getElem?_eq_some_iff.1 hq).1; omega), rfl⟩
  case round =>
   obtain ⟨z, hz0, hz1, rfl, hno, rfl⟩ := hrel
   by_cases hlt : 0 ≤ z
   ·obtain ⟨k, rfl⟩ : ∃ k : Nat, z = (k : Int) := ⟨z.toNat, by omega⟩
    obtain ⟨q, hq⟩ := get_some (l := y.ins.l) (k := k) (by omega)
    have Hq := Lib.hid hq
    obtain ⟨B, off, hA, hB, _, _, _, _, _, _, q5, _⟩ := in_open H.out Hk1.out hq
    have hBl := Nat.lt_of_lt_of_le hB Hk1.out.size
    have hs := ((H.out.ins q (List.mem_of_getElem? hq)).args.keep Hk1.out).seg
    have hsl := (Hb.out.inn q (List.mem_of_getElem? hq)).1
    rw [hA] at c1
    clear hA
    have hh := has47_calls q.args.l q.args.a q.args.c (v : Int) wr hs (by omega)
    clear hq hs
    by_cases hvo : (v : Int) ∈ q.args.l
    ·rw [decide_eq_true hvo] at hh
     have Hh := Lib.hid hh
     have Hr := Lib.hid (us_at Hin.out n Hvp.out Hq.out hvo (fun j q' hj hq' => hno.out j q' (by omega) hq'))
     clear hh hvo
     go_wp2_with fail
     refine Hh.out.mono ?_
     rintro e w2 ⟨rfl, rfl⟩
     go_wp2
     go_ret
     exact ⟨by rw [Hr.out]; rfl, Hk.out⟩
    ·rw [decide_eq_false hvo] at hh
     have Hh := Lib.hid hh
     have Hnn := Lib.hid (show ∀ (j : Nat) q, (k : Int) - 1 < (j : Int) → y.ins.l[j]? = some q → (v : Int) ∉ q.args.l from fun j q' hj hq' => by
      by_cases e : j = k
      ·subst e; rw [Hq.out] at hq'; cases hq'; exact hvo
      ·exact hno.out j q' (by omega) hq')
     clear hh hvo
     go_wp2_with fail
     refine Hh.out.mono ?_
     rintro e w2 ⟨rfl, rfl⟩
     go_wp2
     go_roundw
     case rel => exact ⟨(k : Int) - 1, by omega, by omega, rfl, Hnn, trivial⟩
     case measure => simp [intOf]
   ·have Hr := Lib.hid (us_no Hin.out n Hvp.out (fun j q hq => hno.out j q (by omega) hq))
    clear hno
    go_wp2
    go_ret
    exact ⟨by rw [Hr.out]; rfl, Hk.out⟩
theorem behind47_calls (l : List Int) (A : Option Addr) (c : Nat) (s : List Bool) (B : Option Addr) (d : Nat) (w : World) (hs : Seg w A (l.flatMap intC)) (hn : l.length ≤ 2000000) (hb : Seg w B (s.flatMap boolC)) (hin : ∀ t ∈ l, 0 ≤ t ∧ t < (s.length : Int)) :
  Calls Tryz.prog 34 #[.slice A l.length c, .slice B s.length d] w fun e w' => e = .returned (.bool (l.any fun t => s.getD t.toNat false)) ∧ w' = w := by
 have Hs := Lib.hid hs
 have Hb := Lib.hid hb
 have Hin := Lib.hid hin
 obtain ⟨E, hE⟩ : ∃ E, (l.any fun t => s.getD t.toNat false) = E := ⟨_, rfl⟩
 have HE := Lib.hid hE
 rw [hE]
 clear hs hb hin hE
 go_enter Tryz.func34, Tryz.ntmps34
 go_wp2_with fail
 go_loopw [5] (fun vi wr => ∃ k : Nat, k ≤ l.length ∧ vi = .int .i64 k ∧ Hid (∀ t ∈ l.take k, s.getD t.toNat false = false) ∧ wr = w) (fun i _ => l.length - (intOf i).toNat)
 case atStart => exact ⟨0, Nat.zero_le _, rfl, Lib.hid (by simp), rfl⟩
 case round =>
  obtain ⟨k, hk, rfl, hno, rfl⟩ := hrel
  by_cases hlt : k < l.length
  ·obtain ⟨b, off, rfl, hb, c0⟩ := int_at Hs.out (Keep.refl _) hlt
   have hmem := List.getElem_mem hlt
   obtain ⟨x, hx⟩ : ∃ x, l[k] = x := ⟨_, rfl⟩
   rw [hx] at c0 hmem
   have Hx := Lib.hid (show l[k]? = some x by rw [List.getElem?_eq_getElem hlt, hx])
   obtain ⟨t, rfl⟩ : ∃ t : Nat, x = (t : Int) := ⟨x.toNat, by have := Hin.out x hmem; omega⟩
   have htl := (Hin.out _ hmem).2
   obtain ⟨b2, off2, rfl, hb2, q0⟩ := bool_at Hb.out (Keep.refl _) (k := t) (by omega)
   have hsg : s.getD t false = s[t]'(by omega) := by rw [List.getD_eq_getElem?_getD, List.getElem?_eq_getElem (show t < s.length by omega)]; rfl
   have k1 : (k : Int) < (l.length : Int) := by omega
   have k0 : (0 : Int) ≤ (k : Int) := by omega
   have t0 : (0 : Int) ≤ (t : Int) := by omega
   cases hst : s[t]'(by omega) with
   | true =>
    rw [hst] at q0 hsg
    have Hr := Lib.hid (show E = true from by rw [← HE.out, List.any_eq_true]; exact ⟨(t : Int), hmem, by simpa using hsg⟩)
    clear hsg hst hx hmem
    go_wp2
    go_ret
    exact ⟨by rw [Hr.out]; rfl, rfl⟩
   | false =>
    rw [hst] at q0 hsg
    have Hn := Lib.hid (show ∀ u ∈ l.take (k + 1), s.getD u.toNat false = false from fun u hu => by
     rw [List.take_add_one, Hx.out] at hu
     rcases List.mem_append.1 hu with h | h
     ·exact hno.out u h
     ·have : u = (t : Int) := by simpa using h
      subst this; simpa using hsg)
    clear hsg hst hx hmem
    go_wp2
    go_roundw
    case rel => exact ⟨k + 1, hlt, by go_num, Hn, trivial⟩
    case measure => simp [intOf]; omega
  ·have Hr := Lib.hid (show E = false from by
    rw [← HE.out, List.any_eq_false]
    intro t ht
    have h := hno.out t (by rw [List.take_of_length_le (by omega)]; exact ht)
    rw [h]; simp)
   clear hno
   go_wp2
   go_ret
   exact ⟨by rw [Hr.out]; rfl, rfl⟩
end Go.Proofs.YtjpmiejgcnfiiaaGreat
