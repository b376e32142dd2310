/-
  The reference's State: a frame appended.
-/
import Derived.Test.YtkeefajfndmpeaaCRefI
import Derived.Test.YtkeefajfndmpeaaTail
namespace Go.Proofs.Ytkeefajfndmpeaa
open Go Go.RowKit

section
variable {P : Program} {Q : Exit → Act → World → Prop} {md : Region.Mode} {S : World → Prop} {U : List Nat}
/-- Whichever of those that may come up. -/
theorem tail_any {l : List Oper} {is done : List Nat} {fuel : Nat} {a : Act} {w : World} (hr : Region.ready .any l.toArray (mark l.toArray.size done) = is) (hne : is ≠ [])
    (h : ∀ i ∈ is, ∃ o, l[i]? = some o ∧ ∀ K : Act → World → Prop, (∀ a' w', (U.contains i = false → S w') → wpAnyT P .any l.toArray Q S U fuel (mark l.toArray.size (done ++ [i])) a' w' → K a' w') →
      if Region.wanted o (yielded l.toArray a.tmps) then o.wp P a w K Q else K (a.put o.dst undef) w) : wpAnyT P .any l.toArray Q S U (fuel + 1) (mark l.toArray.size done) a w := by
  refine ⟨fun h0 => absurd (hr.symm.trans h0) hne, fun j hj => ?_⟩
  rw [hr] at hj
  obtain ⟨o, ho, h0⟩ := h j hj
  have h1 := h0 (fun a' w' => (U.contains j = false → S w') ∧ wpAnyT P .any l.toArray Q S U fuel (mark l.toArray.size (done ++ [j])) a' w') (fun _ _ h1 h2 => ⟨h1, h2⟩)
  rw [mark_snoc] at h1
  have ho' : l.toArray[j]? = some o := by simpa using ho
  unfold wpOp
  simp only [ho']
  split
  · rename_i hw; rw [if_pos hw] at h1; exact .inl h1
  · rename_i hw; rw [if_neg hw] at h1; exact h1
/-- .. one that has no guard. -/
theorem any_plain {l : List Oper} {i : Nat} {o : Oper} {fuel : Nat} {done : List Nat} {a : Act} {w : World} (ho : l[i]? = some o) (hg : o.guard = none)
    (h : ∀ K : Act → World → Prop, (∀ a' w', (U.contains i = false → S w') → wpAnyT P .any l.toArray Q S U fuel (mark l.toArray.size (done ++ [i])) a' w' → K a' w') → o.wp P a w K Q) :
    ∃ o, l[i]? = some o ∧ ∀ K : Act → World → Prop, (∀ a' w', (U.contains i = false → S w') → wpAnyT P .any l.toArray Q S U fuel (mark l.toArray.size (done ++ [i])) a' w' → K a' w') →
      if Region.wanted o (yielded l.toArray a.tmps) then o.wp P a w K Q else K (a.put o.dst undef) w :=
  ⟨o, ho, fun K hK => by rw [if_pos (by simp [Region.wanted, hg])]; exact h K hK⟩
theorem gen_wpAnyT {l : Array Oper} {fuel : Nat} {listed : Array Bool} {a : Act} {w : World} (Qf : World → Prop) (h1 : Qf w) (h2 : ∀ W, Qf W → wpAnyT P md l Q S U fuel listed a W) : wpAnyT P md l Q S U fuel listed a w := h2 w h1
end

/-- The frames appended to an empty row of the call's own. -/
theorem fr_app1 {w0 W : World} {base e0 : Nat} {fs : List FrD} {Af : Option Addr} {cf : Nat} (hk : Keep w0 W) (ho : Own frC 5 105 W base (.slice (some ⟨e0, 0, none⟩) 0 0) []) (hs : Seg w0 Af (fs.flatMap frC)) (hn : fs.length ≤ 1000000) (hb : w0.heap.size ≤ base) (hbase : base ≤ W.heap.size) :
    ∃ B d W', (Builtin.append_ #[72, 72] 72 #[.slice (some ⟨e0, 0, none⟩) 0 0, .slice Af fs.length cf]).run Try.prog W = .ok (.slice B fs.length d) W' ∧
      Own frC 5 105 W' base (.slice B fs.length d) fs ∧ Keep w0 W' ∧ W.heap.size ≤ W'.heap.size ∧ (∀ b cs, b ≠ e0 → Blk W b 105 cs → Blk W' b 105 cs) ∧ (∀ k, (Value.slice B fs.length d).ownBlock = some k → k = e0 ∨ k = W.heap.size) := by
  obtain ⟨v1, w1, ha1, ho1, hg1, hv1⟩ := append_run (ys := fs) elFr ho (hs.keep hk) cf 72 (by simp [maxLen]; omega) (by simp; omega) hbase
  rw [List.nil_append] at ho1
  obtain ⟨B1, d1, rfl, _⟩ := ho1.form
  refine ⟨B1, d1, w1, ha1, ho1, hk.grown hg1 (fun j hj => ?_), hg1.size, fun b cs hne hb' => (hg1.block b hb'.lt (fun e => hne (Option.some.inj e))).trans hb', fun k h => ?_⟩
  · have := (ho.lt j hj).1; omega
  · rcases hv1 with e | e
    · rw [e] at h; injection h with h; exact .inl h.symm
    · rw [e] at h; injection h with h; exact .inr h.symm
/-- One more frame. -/
theorem fr_app2 {w0 W : World} {base nb : Nat} {fs : List FrD} {B : Option Addr} {d : Nat} {fn : FrD} (hk : Keep w0 W) (ho : Own frC 5 105 W base (.slice B fs.length d) fs) (hb : Blk W nb 105 (frC fn)) (hn : fs.length ≤ 1000000) (hb0 : w0.heap.size ≤ base) (hbase : base ≤ W.heap.size) :
    ∃ B' d' W', (Builtin.append_ #[72, 72] 72 #[.slice B fs.length d, .slice (some ⟨nb, 0, none⟩) 1 1]).run Try.prog W = .ok (.slice B' (fs.length + 1) d') W' ∧
      Own frC 5 105 W' base (.slice B' (fs ++ [fn]).length d') (fs ++ [fn]) ∧ Keep w0 W' ∧ fs.length + 1 ≤ d' := by
  have hseg : Seg W (some ⟨nb, 0, none⟩) ([fn].flatMap frC) := by
    have : [fn].flatMap frC = frC fn := by simp
    rw [this]
    exact Seg.of_blk hb
  obtain ⟨v2, w2, hrun, hown, hg, _⟩ := append_run (ys := [fn]) elFr ho hseg 1 72 (by simp [maxLen]; omega) (by simp; omega) hbase
  obtain ⟨B2, d2, rfl, hd, _⟩ := hown.form
  have hll : (fs ++ [fn]).length = fs.length + 1 := by simp
  refine ⟨B2, d2, w2, by rw [← hll]; exact hrun, hown, hk.grown hg (fun j hj => ?_), by rw [← hll]; exact hd⟩
  have := (ho.lt j hj).1; omega
/-- What Enter leaves. -/
theorem enter_end {w0 : World} {G : Nat → Prop} {w wa w7 W11 W : World} {c : RC} {s5 : Stk} {C1 C2 C3 B : Option Addr} {e1 e2 e3 mo d : Nat} {fn : FrD} (hza : wa.heap.size = w.heap.size + 1 + 1 + 1) (hz7 : wa.heap.size ≤ w7.heap.size) (hk7 : Keep w w7) (hres : LOk w0 c.res) (hls : ∀ f ∈ c.fs, LOk w0 f.p ∧ LOk w0 f.r) (hfn : LOk w0 fn.p ∧ LOk w0 fn.r)
    (hr : RefAt (fun k => (G k ∧ k < w.heap.size) ∨ wa.heap.size ≤ k) w7 (.agg (rcells C1 C2 C3 s5.T.length s5.P.length e1 e2 e3 mo).toArray) s5) (hk : Keep w7 W11) (ho : Own frC 5 105 W11 w7.heap.size (.slice B (c.fs ++ [fn]).length d) (c.fs ++ [fn])) (hd : c.fs.length + 1 ≤ d)
    (hE : Ext (fun q => q = w.heap.size ∨ q = w.heap.size + 1 + 1) W11 W) :
    RefC w0 (Grow G w) W (.agg #[.slice C1 s5.T.length e1, .slice C2 s5.P.length e2, .slice C3 s5.P.length e3, .int .i64 (mo : Int), .slice B (c.fs.length + 1) d, .slice c.res.a c.res.l.length c.res.c, .int .i64 c.broken]) { c with s := s5, fs := c.fs ++ [fn] } ∧ Keep w W := by
  have hkW : Keep w W := Keep.of_ext2 (hk7.trans hk) hE (fun q hq h => by omega)
  have hll : (c.fs ++ [fn]).length = c.fs.length + 1 := by simp
  refine ⟨⟨C1, C2, C3, e1, e2, e3, mo, B, d, by simp [rcells7, LD.v], ?_, ?_⟩, hkW⟩
  · refine ((hr.keep hk).ext hE (fun q hq h => ?_)).mono (fun k _ hg => hg.elim (fun h => .inl h.1) (fun h => .inr (by omega)))
    rcases hq with h1 | h1 <;> omega
  · have hs := hk7.size
    refine ⟨(ho.ext hE (fun q hq h => by have := (ho.lt q hq).1; omega)).segN.2, by show (c.fs ++ [fn]).length ≤ d; rw [hll]; exact hd, fun h0 ad ha => .inr ?_, fun g hg => ?_, hres⟩
    · subst ha
      have := (ho.lt ad.block rfl).1
      omega
    · rcases List.mem_append.1 hg with h | h
      · exact hls g h
      · rw [List.mem_singleton.1 h]; exact hfn
end Go.Proofs.Ytkeefajfndmpeaa
