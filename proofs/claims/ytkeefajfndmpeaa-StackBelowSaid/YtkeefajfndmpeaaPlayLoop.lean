/-
  The stack and the reference's in the hands of a law: what holds from call to call.
-/
import Derived.Test.YtkeefajfndmpeaaPlays
import Derived.Test.YtkeefajfndmpeaaFew
import Derived.Test.YtkeefajfndmpeaaTail
import Derived.Deep.DeepCutAuto
namespace Go.Proofs.Ytkeefajfndmpeaa
open Go Go.RowKit

/-! ### Plain -/
namespace Stk
theorem push_len (s : Stk) (l : List Int) : (s.push l).T.length = s.T.length + l.length := by simp [push]
theorem pop_le (s : Stk) : s.pop.1.T.length ≤ s.T.length ∧ s.pop.1.P = s.P := by
  unfold pop
  split
  · exact ⟨by simp [cut], rfl⟩
  · split <;> exact ⟨Nat.le_refl _, rfl⟩
theorem want_le (s : Stk) (l : List Int) : (s.want l).1.T.length ≤ s.T.length ∧ (s.want l).1.P = s.P := by
  unfold want
  split
  · exact ⟨by simp [cut]; omega, rfl⟩
  · exact ⟨Nat.le_refl _, rfl⟩
theorem opened_len (s : Stk) : s.opened.T.length = s.T.length ∧ s.opened.P.length = s.P.length + 1 := ⟨rfl, by simp [opened, P]⟩
theorem outer_len (s : Stk) : s.outer.T.length = s.T.length ∧ s.outer.P.length ≤ s.P.length := by
  rcases List.eq_nil_or_concat s.B with hB | ⟨r, p, hB⟩
  · rw [outer_none hB]; exact ⟨rfl, by simp [P]⟩
  · have hB : s.B = r ++ [p] := by simpa using hB
    rw [outer_some hB]; exact ⟨rfl, by simp [P, hB]⟩
theorem shut_le (s : Stk) (l : List Int) : (s.shut l).1.T.length ≤ s.T.length ∧ (s.shut l).1.P.length ≤ s.P.length := by
  unfold shut
  split
  · split
    · exact ⟨Nat.le_refl _, Nat.le_refl _⟩
    · have := outer_len (s.cut (s.left l).1)
      refine ⟨?_, by rw [cut_P] at this; exact this.2⟩
      show ((s.cut (s.left l).1).outer).T.length ≤ _
      rw [this.1]; simp [cut]; omega
  · exact ⟨Nat.le_refl _, Nat.le_refl _⟩
theorem loosen_le (s : Stk) : s.loosen.T.length ≤ s.T.length ∧ s.loosen.P.length = s.P.length := ⟨by simp [loosen, cut]; omega, by simp [loosen, cut, P]⟩
theorem play_le (s : Stk) (n : Int) (l : List Int) : (s.play n l).T.length ≤ s.T.length + l.length ∧ (s.play n l).P.length ≤ s.P.length + 1 := by
  unfold play
  split
  · rw [push_len]; exact ⟨Nat.le_refl _, by rw [push_P]; omega⟩
  split
  · have := pop_le s; rw [this.2]; exact ⟨by omega, by omega⟩
  split
  · have := want_le s l; rw [this.2]; exact ⟨by omega, by omega⟩
  split
  · have := opened_len s; exact ⟨by omega, by omega⟩
  split
  · have := shut_le s l; exact ⟨by omega, by omega⟩
  split
  · have := loosen_le s; exact ⟨by omega, by omega⟩
  · exact ⟨by omega, by omega⟩
theorem Ok.play {s : Stk} (h : s.Ok) (n : Int) (l : List Int) : (s.play n l).Ok := by
  unfold Stk.play
  split
  · exact h.push l
  split
  · exact h.pop
  split
  · exact h.want l
  split
  · exact h.opened
  split
  · exact h.shut l
  split
  · exact h.loosen
  · exact h
def plays (s : Stk) (L : List ActD) : Stk := L.foldl (fun s a => s.play a.1 a.2.2.1) s
theorem plays_snoc (s : Stk) (L : List ActD) (a : ActD) : s.plays (L ++ [a]) = (s.plays L).play a.1 a.2.2.1 := by simp [plays]
end Stk

/-- The stack at b, the reference's in the variable bx: both at s. -/
structure PSt (w0 : World) (bx b : Nat) (s : Stk) (F G : Nat → Prop) (A1 A2 A3 : Option Addr) (c1 c2 c3 most : Nat) (w : World) : Prop where
  keep : Keep w0 w
  at_ : At F w b s
  ref : RefAt G w (.agg #[.slice A1 s.T.length c1, .slice A2 s.P.length c2, .slice A3 s.P.length c3, .int .i64 (most : Int)]) s
  var : Blk w bx 31 (rcells A1 A2 A3 s.T.length s.P.length c1 c2 c3 most)
  apart : ∀ k, G k → F k → False
  glt : ∀ k, G k → k < w.heap.size
  fge : ∀ k, F k → w0.heap.size ≤ k
  xf : ¬ F bx
  xg : ¬ G bx
  xge : w0.heap.size ≤ bx

theorem PSt.far {w0 w W : World} {bx b : Nat} {s : Stk} {F G : Nat → Prop} {A1 A2 A3 : Option Addr} {c1 c2 c3 most : Nat} (h : PSt w0 bx b s F G A1 A2 A3 c1 c2 c3 most w) (hk : Keep w W) : PSt w0 bx b s F G A1 A2 A3 c1 c2 c3 most W :=
  ⟨h.keep.trans hk, h.at_.keep hk, h.ref.keep hk, h.var.keep hk, h.apart, fun k hk' => Nat.lt_of_lt_of_le (h.glt k hk') hk.size, h.fge, h.xf, h.xg, h.xge⟩

/-- Behind the call of plays: its result lies in a variable of its own. -/
def PCut (w0 : World) (bx b : Nat) (s' : Stk) (s8 s9 : Value) (W : World) : Prop :=
  ∃ (y : Nat) (F G : Nat → Prop) (A1 A2 A3 : Option Addr) (c1 c2 c3 most : Nat) (cs : List Value), s8 = .pointer (some ⟨y, 0, none⟩) ∧ s9 = .bool true ∧ PSt w0 y b s' F G A1 A2 A3 c1 c2 c3 most W ∧ Blk W bx 31 cs ∧ bx ≠ y ∧ ¬ F bx ∧ ¬ G bx ∧ cs.length = 4 ∧ w0.heap.size ≤ bx

theorem pcut_end {w0 w wa w1 W : World} {bx b : Nat} {s s' : Stk} {F G : Nat → Prop} {A1 A2 A3 B1 B2 B3 : Option Addr} {c1 c2 c3 most d1 d2 d3 most' : Nat} (h : PSt w0 bx b s F G A1 A2 A3 c1 c2 c3 most w) (hka : Keep w wa)
    (hl : PlaysLeft F G wa b s' (.agg #[.slice B1 s'.T.length d1, .slice B2 s'.P.length d2, .slice B3 s'.P.length d3, .int .i64 (most' : Int)]) w1) (y : Nat) (hy : w.heap.size ≤ y) (hy' : y < wa.heap.size ∨ w1.heap.size ≤ y)
    (hW : Ext (fun k => k = y) w1 W) (hb : Blk W y 31 (rcells B1 B2 B3 s'.T.length s'.P.length d1 d2 d3 most')) : PCut w0 bx b s' (.pointer (some ⟨y, 0, none⟩)) (.bool true) W := by
  obtain ⟨he, F', G', hat, hr, hdis, hF, hGl, hG⟩ := hl
  have hbx := h.var.lt
  have hsa := hka.size
  have hs1 := he.size
  have yF : ¬ F' y := fun hf => by
    rcases hF y hf with h1 | h1
    · have := h.at_.lt y h1; omega
    · have := hat.lt y hf; omega
  have yG : ¬ G' y := fun hg => by
    rcases hG y hg with h1 | h1
    · have := h.glt y h1; omega
    · have := hGl y hg; omega
  have xF : ¬ F' bx := fun hf => by
    rcases hF bx hf with h1 | h1
    · exact h.xf h1
    · omega
  have xG : ¬ G' bx := fun hg => by
    rcases hG bx hg with h1 | h1
    · exact h.xg h1
    · omega
  have hk1 : Keep w0 w1 := ⟨he.os.trans (hka.os.trans h.keep.os), he.tape.trans (hka.tape.trans h.keep.tape), he.output.trans (hka.output.trans h.keep.output), by have := h.keep.size; omega,
    fun k hk => (he.block k (by have := h.keep.size; omega) (fun hf => by have := h.fge k hf; omega)).trans ((h.keep.trans hka).block k hk)⟩
  have hw0 : w0.heap.size ≤ y := by have := h.keep.size; omega
  refine ⟨y, F', G', B1, B2, B3, d1, d2, d3, most', _, rfl, rfl, ⟨?_, ?_, ?_, hb, hdis, fun k hk => Nat.lt_of_lt_of_le (hGl k hk) hW.size, ?_, yF, yG, hw0⟩, (((h.var.keep hka).ext he h.xf).ext hW (by omega)), by omega, xF, xG, rfl, h.xge⟩
  · exact ⟨hW.os.trans hk1.os, hW.tape.trans hk1.tape, hW.output.trans hk1.output, Nat.le_trans hk1.size hW.size, fun k hk => (hW.block k (Nat.lt_of_lt_of_le hk hk1.size) (by omega)).trans (hk1.block k hk)⟩
  · exact hat.of_keep (fun k hk => hW.block k (hat.lt k hk) (fun e => yF (e ▸ hk))) hW.size
  · exact hr.ext hW (fun k hk e => yG (e ▸ hk))
  · intro k hk
    rcases hF k hk with h1 | h1
    · exact h.fge k h1
    · have := h.keep.size; omega

theorem pcut_store {w0 w W : World} {bx y b : Nat} {s : Stk} {F G : Nat → Prop} {A1 A2 A3 : Option Addr} {c1 c2 c3 most : Nat} {cs : List Value} (h : PSt w0 y b s F G A1 A2 A3 c1 c2 c3 most w) (hx : Blk w bx 31 cs) (hl : cs.length = 4) (xF : ¬ F bx) (xG : ¬ G bx) (hge : w0.heap.size ≤ bx)
    (hW : W = (((w.setCell ⟨bx, 0, none⟩ (.slice A1 s.T.length c1)).setCell ⟨bx, 1, none⟩ (.slice A2 s.P.length c2)).setCell ⟨bx, 2, none⟩ (.slice A3 s.P.length c3)).setCell ⟨bx, 3, none⟩ (.int .i64 (most : Int))) : PSt w0 bx b s F G A1 A2 A3 c1 c2 c3 most W := by
  subst hW
  have hE : Ext (fun k => k = bx) w ((((w.setCell ⟨bx, 0, none⟩ (.slice A1 s.T.length c1)).setCell ⟨bx, 1, none⟩ (.slice A2 s.P.length c2)).setCell ⟨bx, 2, none⟩ (.slice A3 s.P.length c3)).setCell ⟨bx, 3, none⟩ (.int .i64 (most : Int))) :=
    ((((Ext.refl (fun k => k = bx) w).setCell (p := ⟨bx, 0, none⟩) (fun _ => rfl) _).setCell (p := ⟨bx, 1, none⟩) (fun _ => rfl) _).setCell (p := ⟨bx, 2, none⟩) (fun _ => rfl) _).setCell (p := ⟨bx, 3, none⟩) (fun _ => rfl) _
  refine ⟨?_, h.at_.of_keep (fun k hk => hE.block k (h.at_.lt k hk) (fun e => xF (e ▸ hk))) hE.size, h.ref.ext hE (fun k hk e => xG (e ▸ hk)), ?_, h.apart, fun k hk => Nat.lt_of_lt_of_le (h.glt k hk) hE.size, h.fge, xF, xG, hge⟩
  · exact (((h.keep.setCell (p := ⟨bx, 0, none⟩) hge _).setCell (p := ⟨bx, 1, none⟩) hge _).setCell (p := ⟨bx, 2, none⟩) hge _).setCell (p := ⟨bx, 3, none⟩) hge _
  · have := (((hx.set_ 0 (.slice A1 s.T.length c1)).set_ 1 (.slice A2 s.P.length c2)).set_ 2 (.slice A3 s.P.length c3)).set_ 3 (.int .i64 (most : Int))
    match cs, hl with
    | [a, b, c, d], _ => exact this
end Go.Proofs.Ytkeefajfndmpeaa
