/-
  CtrlRuns: the State and the reference's in memory, side by side.
-/
import Derived.Test.YtkeefajfndmpeaaCRunP
import Derived.Test.YtkeefajfndmpeaaCRefM
import Derived.Test.YtkeefajfndmpeaaCLabel
import Derived.Test.YtkeefajfndmpeaaCEnter
import Derived.Test.YtkeefajfndmpeaaCElse
import Derived.Test.YtkeefajfndmpeaaCLeave
import Derived.Test.YtkeefajfndmpeaaCLive
import Derived.Test.YtkeefajfndmpeaaCSame
import Derived.Test.YtkeefajfndmpeaaCAlive
namespace Go.Proofs.Ytkeefajfndmpeaa
open Go Go.RowKit

set_option maxHeartbeats 1000000 in
theorem refEnter_calls {w0 : World} {G : Nat → Prop} {w : World} {v : Value} {c : RC} (h : RefC w0 G w v c) (hw0 : Keep w0 w) (hok : c.s.Ok) (op : Int) (p r : LD) (hp : LOk w0 p) (hr : LOk w0 r)
    (hn : c.fs.length ≤ 900000) (hT : c.s.T.length ≤ 800000) (hm : c.s.P.length ≤ 800000) (hpl : p.l.length ≤ 100000) :
    Calls Try.prog 64 #[v, .int .i64 op, .agg #[.slice p.a p.l.length p.c, .slice r.a r.l.length r.c]] w fun e w' => ∃ v', e = .returned (.tuple #[v', .int .i64 (c.enter op p r).2]) ∧ RefC w0 (Grow G w) w' v' (c.enter op p r).1 ∧ Keep w w' := by
  by_cases hb : c.broken = 0
  rotate_left
  · exact refEnter_broken h op p r hb
  by_cases hno : (op ≠ 2 ∧ op ≠ 3 ∧ op ≠ 4) ∨ c.fs = []
  · exact refEnter_no h op p r ⟨hb, hno⟩
  have h1 : ¬ (op ≠ 2 ∧ op ≠ 3 ∧ op ≠ 4) := fun e => hno (.inl e)
  have h2 : c.fs ≠ [] := fun e => hno (.inr e)
  by_cases h4 : op = 4
  · subst h4; exact refEnter_if h hw0 hok p r hp hr hb h2 hn hT hm hpl
  · exact refEnter_plain h hw0 hok op p r hp hr hb (by omega) h2 hn hT hm hpl

/-- A State is not touched by what is written into a State of the reference's. -/
theorem CAt.far {F' : Nat → Prop} {W1 W2 : World} {b bst : Nat} {c : Ctl} {n : Nat} {cs : List Value} (h : CAt F' W1 b bst c) (hE : Ext (fun q => q = n) W1 W2) (hv1 : Blk W1 n 74 cs) (hnF : ¬ F' n) : CAt F' W2 b bst c := by
  obtain ⟨F1, vb, bds, rd, h2, h3, h4⟩ := h
  have hn : ∀ k, F' k → ¬ k = n := fun k hf e => hnF (e ▸ hf)
  refine ⟨F1, vb, bds, rd, ?_, h3, h4⟩
  have hld : ∀ y : LD, y.Kt F' W1 → y.Kt F' W2 := fun y hy => by
    have hne : 0 < y.l.length → ∀ ad, y.a = some ad → ¬ ad.block = n := fun h0 ad ha e => by
      obtain ⟨us, h5⟩ := hy.ty h0 ad ha
      rw [e] at h5
      unfold Blk at hv1
      rw [hv1] at h5
      injection h5 with h5
      injection h5 with _ h5
      exact absurd h5 (by decide)
    exact ⟨⟨hy.seg.ext' hE (fun h0 ad ha e => hne (by rwa [val_len] at h0) ad ha e), hy.out⟩, hy.ty.of_blk fun h0 ad ha => hE.block _ (hy.seg.blk_lt h0 ha) (hne h0 ad ha)⟩
  have hb : ∀ k, F' k → W2.heap[k]? = W1.heap[k]? := fun k hf => hE.block k (h2.lt k hf) (hn k hf)
  exact ⟨h2.st.of_keep (fun k hk' => hb k (h2.sub k hk')) hE.size, (hb b h2.fb).trans h2.blk, h2.own.ext hE (fun k hk' e => hn k (h2.row k hk').1 e), fun y hy => ⟨hld _ (h2.ls y hy).1, hld _ (h2.ls y hy).2⟩, hld _ h2.res, h2.fb, h2.nb, h2.sub, h2.row, fun k hf => Nat.lt_of_lt_of_le (h2.lt k hf) hE.size⟩

/-- Inside does, called at w: the three boxes, the State, the reference's. -/
structure DIn (w0 w : World) (F G : Nat → Prop) (x : AD) (b bst : Nat) (c : Ctl) (d : RC) (cs : List Value) (F' G' : Nat → Prop) (W : World) : Prop where
  flt : ∀ k, F k → k < w.heap.size
  glt0 : ∀ k, G k → k < w.heap.size
  fge : ∀ k, F k → w0.heap.size ≤ k
  base : Keep w0 w
  ext : Ext F w W
  size : w.heap.size + 3 ≤ W.heap.size
  at_ : CAt F' W b bst c
  ref : RefC w0 G' W (.agg cs.toArray) d
  var : Blk W w.heap.size 74 cs
  arg : Blk W (w.heap.size + 1) 79 (adC x)
  res : Blk W (w.heap.size + 1 + 1) 74 rzero7
  apart : ∀ k, G' k → F' k → False
  fF : ∀ k, F' k → F k ∨ w.heap.size + 3 ≤ k
  gG : ∀ k, G' k → G k ∨ w.heap.size + 3 ≤ k
  glt : ∀ k, G' k → k < W.heap.size

section
variable {w0 w W : World} {F G F' G' : Nat → Prop} {x : AD} {b bst : Nat} {c : Ctl} {d : RC} {cs : List Value}
theorem DIn.keep0 (h : DIn w0 w F G x b bst c d cs F' G' W) : Keep w0 W :=
  Keep.of_ext2 h.base h.ext (fun k hk hf => by have := h.fge k hf; omega)
theorem DIn.nF (h : DIn w0 w F G x b bst c d cs F' G' W) {k : Nat} (hk : w.heap.size ≤ k ∧ k < w.heap.size + 3) : ¬ F' k := fun hf => by
  rcases h.fF k hf with h1 | h1
  · have := h.flt k h1; omega
  · omega
theorem DIn.nG (h : DIn w0 w F G x b bst c d cs F' G' W) {k : Nat} (hk : w.heap.size ≤ k ∧ k < w.heap.size + 3) : ¬ G' k := fun hf => by
  rcases h.gG k hf with h1 | h1
  · have := h.glt0 k h1; omega
  · omega
/-- A call on the State. -/
theorem DIn.call {W1 : World} {c1 : Ctl} (h : DIn w0 w F G x b bst c d cs F' G' W) (hl : CLeft F' W b bst c1 W1) : ∃ F1, DIn w0 w F G x b bst c1 d cs F1 G' W1 := by
  obtain ⟨hE, F1, hF, hat⟩ := hl
  have hs := hE.size
  have hz := h.size
  refine ⟨F1, h.flt, h.glt0, h.fge, h.base, h.ext.trans hE (fun i hi hf => ?_), by omega, hat, h.ref.ext hE (fun k hg hf => h.apart k hg hf), h.var.ext hE (h.nF (by omega)), h.arg.ext hE (h.nF (by omega)), h.res.ext hE (h.nF (by omega)), fun k hg hf => ?_, fun k hf => ?_, h.gG, fun k hg => Nat.lt_of_lt_of_le (h.glt k hg) hs⟩
  · rcases h.fF i hf with h1 | h1
    · exact h1
    · omega
  · rcases hF k hf with h1 | h1
    · exact h.apart k hg h1
    · have := h.glt k hg; omega
  · rcases hF k hf with h1 | h1
    · exact h.fF k h1
    · exact .inr (by omega)
/-- Nothing but new blocks. -/
theorem DIn.keep {W1 : World} (h : DIn w0 w F G x b bst c d cs F' G' W) (hk : Keep W W1) : DIn w0 w F G x b bst c d cs F' G' W1 :=
  ⟨h.flt, h.glt0, h.fge, h.base, h.ext.keepTrans hk, Nat.le_trans h.size hk.size, h.at_.keep hk, h.ref.keep hk, h.var.keep hk, h.arg.keep hk, h.res.keep hk, h.apart, h.fF, h.gG, fun k hg => Nat.lt_of_lt_of_le (h.glt k hg) hk.size⟩
/-- A call on the reference's, stored. -/
theorem DIn.refcall {W1 W2 : World} {d1 : RC} {ds : List Value} (h : DIn w0 w F G x b bst c d cs F' G' W) (hk : Keep W W1) (hr : RefC w0 (Grow G' W) W1 (.agg ds.toArray) d1) (hE : Ext (fun q => q = w.heap.size) W1 W2) (hv : Blk W2 w.heap.size 74 ds) : ∃ G1, DIn w0 w F G x b bst c d1 ds F' G1 W2 := by
  have hs := hk.size
  have hs2 := hE.size
  have hz := h.size
  have hlt : ∀ k, F' k → k < W.heap.size := h.at_.lt
  refine ⟨fun k => Grow G' W k ∧ k < W2.heap.size, h.flt, h.glt0, h.fge, h.base, (h.ext.keepTrans hk).trans hE (fun i hi e => by omega), by omega, ?_, ?_, hv, (h.arg.keep hk).ext hE (by omega), (h.res.keep hk).ext hE (by omega), ?_, h.fF, ?_, fun k hg => hg.2⟩
  · exact (h.at_.keep hk).far hE (h.var.keep hk) (h.nF (by omega))
  · refine (hr.ext hE (fun k hg e => ?_)).mono (fun k hk' hg => ⟨hg, hk'⟩)
    rcases hg with h1 | h1
    · exact h.nG (k := k) (by omega) h1
    · omega
  · rintro k ⟨h1 | h1, _⟩ hf
    · exact h.apart k h1 hf
    · have := hlt k hf; omega
  · rintro k ⟨h1 | h1, _⟩
    · exact h.gG k h1
    · exact .inr (by omega)
end
end Go.Proofs.Ytkeefajfndmpeaa
