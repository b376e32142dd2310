/-
  How a stack lies in memory.
-/
import Derived.Test.YtkeefajfndmpeaaMem
import Derived.Test.YtkeefajfndmpeaaPlain
import Derived.Test.YtkeefajfndmpeaaRows
import Derived.WalkKit
import Derived.WalkSpells
import Derived.Deep.DeepMust
import Derived.Deep.QuietTactic
import Derived.BigQuiet
import Derived.Outline
namespace Go.Proofs.Ytkeefajfndmpeaa
open Go Go.RowKit

def valC (n : Int) : List Value := [.int .i64 n]
def partC (p : Part) : List Value := [.int .i64 (p.1 : Int), .bool p.2]

theorem laidOut : laidOutB Try.prog = true := by kernel_rfl

theorem elV : ElT Try.prog 23 45 1 8 valC where
  slice := Try.underlying23
  info := info_of (z := .int .i64 0) (by kernel_rfl) rfl
  pos := by omega
  len := fun _ => rfl
  one := fun x u hu => by simp [valC] at hu; subst hu; rfl
theorem elP : ElT Try.prog 51 87 2 16 partC where
  slice := Try.underlying51
  info := info_of (z := .agg #[.int .i64 0, .bool false]) (by kernel_rfl) rfl
  pos := by omega
  len := fun _ => rfl
  one := fun x u hu => by simp [partC] at hu; rcases hu with rfl | rfl <;> rfl

theorem flat_val (l : List Int) : l.flatMap valC = l.map (Value.int .i64) := by
  induction l with
  | nil => rfl
  | cons x l ih => rw [List.flatMap_cons, ih]; rfl
theorem val_at {w wr : World} {A : Option Addr} {l : List Int} (h : Seg w A (l.flatMap valC)) (hkeep : Keep w wr) {k : Nat} (hk : k < l.length) :
    ∃ b off, A = some ⟨b, off, none⟩ ∧ b < w.heap.size ∧ wr.cell? ⟨b, off + k, none⟩ = some (.int .i64 l[k]) := by
  obtain ⟨b, off, e, hb, hc⟩ := h.elem 1 (fun _ => rfl) (by omega) hk
  exact ⟨b, off, e, hb, by have := hkeep.cell (hc 0 _ rfl); simpa using this⟩
theorem part_at {w : World} {base : Nat} {v : Value} {l : List Part} (h : Own partC 2 87 w base v l) {k : Nat} (hk : k < l.length) :
    ∃ g c, v = .slice (some ⟨g, 0, none⟩) l.length c ∧ g < w.heap.size ∧ w.cell? ⟨g, k * 2, none⟩ = some (.int .i64 (l[k].1 : Int)) ∧ w.cell? ⟨g, k * 2 + 1, none⟩ = some (.bool l[k].2) := by
  obtain ⟨g, c, rfl, hg, _, _⟩ := own_at h (by omega)
  obtain ⟨b, off, e, hb, hc⟩ := (Own.seg h).elem 2 (fun _ => rfl) (by omega) hk
  cases e
  exact ⟨g, c, rfl, hg, by have := hc 0 _ rfl; simpa using this, by have := hc 1 _ rfl; simpa using this⟩

/-- A stack lies at block b; of its blocks F speaks. -/
structure At (F : Nat → Prop) (w : World) (b : Nat) (s : Stk) : Prop where
  self : F b
  lt : ∀ k, F k → k < w.heap.size
  body : ∃ vt vp, Blk w b 53 [vt, vp, .bool s.over] ∧ Own valC 1 45 w 0 vt s.T ∧ Own partC 2 87 w 0 vp s.P ∧ (∀ k, vt.ownBlock = some k → F k) ∧ (∀ k, vp.ownBlock = some k → F k)

/-- What a call on the stack leaves: the stack s', in blocks of F or in new ones; of the others nothing has changed. -/
def Left (F : Nat → Prop) (w : World) (b : Nat) (s' : Stk) (w' : World) : Prop :=
  Ext F w w' ∧ ∃ F' : Nat → Prop, At F' w' b s' ∧ ∀ k, F' k → F k ∨ w.heap.size ≤ k

theorem At.of_keep {F : Nat → Prop} {w w' : World} {b : Nat} {s : Stk} (h : At F w b s) (hk : ∀ k, F k → w'.heap[k]? = w.heap[k]?) (hsz : w.heap.size ≤ w'.heap.size) : At F w' b s := by
  obtain ⟨vt, vp, hb, ht, hp, ft, fp⟩ := h.body
  refine ⟨h.self, fun k hk' => Nat.lt_of_lt_of_le (h.lt k hk') hsz, vt, vp, (hk b h.self).trans hb, ?_, ?_, ft, fp⟩
  · refine ⟨ht.1, ?_⟩
    rcases ht.2 with h0 | ⟨g, cap, cur, hv, hg, hh, r⟩
    · exact .inl h0
    · exact .inr ⟨g, cap, cur, hv, hg, (hk g (ft g (by rw [hv]; rfl))).trans hh, r⟩
  · refine ⟨hp.1, ?_⟩
    rcases hp.2 with h0 | ⟨g, cap, cur, hv, hg, hh, r⟩
    · exact .inl h0
    · exact .inr ⟨g, cap, cur, hv, hg, (hk g (fp g (by rw [hv]; rfl))).trans hh, r⟩
theorem At.keep {F : Nat → Prop} {w w' : World} {b : Nat} {s : Stk} (h : At F w b s) (hk : Keep w w') : At F w' b s := h.of_keep (fun k hk' => hk.block k (h.lt k hk')) hk.size
theorem Left.of_keep {F : Nat → Prop} {w w' : World} {b : Nat} {s : Stk} (h : At F w b s) (hk : Keep w w') : Left F w b s w' := ⟨hk.ext F, F, h.keep hk, fun _ h => .inl h⟩

theorem Own.empty {α : Type} (f : α → List Value) (s : Nat) (e : TypeId) (w : World) {base : Nat} (hb : base ≤ w.heap.size) : Own f s e (w.alloc (.cells #[] e)) base (.slice (some ⟨w.heap.size, 0, none⟩) 0 0) [] := by
  show World.ownsRow _ base e s _ 0 []
  exact World.ownsRow_made w #[] 0 hb (by simp [maxLen]) (by simp)
theorem Own.type_ne {α β : Type} {f : α → List Value} {g : β → List Value} {s s' : Nat} {e e' : TypeId} {w : World} {base base' : Nat} {v v' : Value} {xs : List α} {ys : List β} (h : Own f s e w base v xs) (h' : Own g s' e' w base' v' ys) (hne : e ≠ e') {k : Nat} (hk : v.ownBlock = some k) : v'.ownBlock ≠ some k := by
  intro hk'
  rcases h.2 with ⟨rfl, _⟩ | ⟨g1, cap, cur, rfl, _, hh, _⟩
  · cases hk
  · rcases h'.2 with ⟨rfl, _⟩ | ⟨g2, cap', cur', rfl, _, hh', _⟩
    · cases hk'
    · simp only [Value.ownBlock, Option.some.injEq] at hk hk'
      subst hk
      subst hk'
      rw [hh] at hh'
      cases hh'
      exact hne rfl
theorem Own.blk_ne {α : Type} {f : α → List Value} {s : Nat} {e t : TypeId} {w : World} {base b : Nat} {v : Value} {xs : List α} {cs : List Value} (h : Own f s e w base v xs) (h' : Blk w b t cs) (hne : e ≠ t) {k : Nat} (hk : v.ownBlock = some k) : k ≠ b := by
  rintro rfl
  rcases h.2 with ⟨rfl, _⟩ | ⟨g1, cap, cur, rfl, _, hh, _⟩
  · cases hk
  · simp only [Value.ownBlock, Option.some.injEq] at hk
    subst hk
    unfold Blk at h'
    rw [hh] at h'
    cases h'
    exact hne rfl

/-! ### made, top, New -/

theorem made_calls {F : Nat → Prop} {b : Nat} {s : Stk} {w : World} (h : At F w b s) :
    Calls Try.prog 54 #[.pointer (some ⟨b, 0, none⟩)] w fun e w' => e = .returned (.bool true) ∧ w = w' := by
  obtain ⟨vt, vp, hb, ht, hp, _, _⟩ := h.body
  obtain ⟨Ap, cp, rfl, _⟩ := hp.form
  have c1 : w.cell? ⟨b, 1, none⟩ = some (.slice Ap s.P.length cp) := hb.cell 1
  have hlt := hb.lt
  have hpl : decide (0 < s.P.length) = true := decide_eq_true (by have := s.P_len; omega)
  clear hb ht hp
  go_enter Try.func54, Try.ntmps54
  go_wp2
  go_ret
  exact ⟨rfl, rfl⟩

theorem made_nil (w : World) : Calls Try.prog 54 #[.pointer none] w fun e w' => e = .returned (.bool false) ∧ w = w' := by
  go_enter Try.func54, Try.ntmps54
  go_wp2
  go_ret
  exact ⟨rfl, rfl⟩
theorem made_zero {w : World} {b : Nat} (hb : Blk w b 53 [.slice none 0 0, .slice none 0 0, .bool false]) : Calls Try.prog 54 #[.pointer (some ⟨b, 0, none⟩)] w fun e w' => e = .returned (.bool false) ∧ w = w' := by
  have c1 : w.cell? ⟨b, 1, none⟩ = some (.slice none 0 0) := hb.cell 1
  have hlt := hb.lt
  go_enter Try.func54, Try.ntmps54
  go_wp2
  go_ret
  exact ⟨rfl, rfl⟩

/-- Where the innermost part lies. -/
def topAddr (g : Nat) (s : Stk) : Value := .pointer (some ⟨g, s.B.length * 2, none⟩)

theorem top_calls' {b : Nat} {s : Stk} {w : World} {vt : Value} {g cp : Nat} (hb : Blk w b 53 [vt, .slice (some ⟨g, 0, none⟩) s.P.length cp, .bool s.over]) (hm : s.P.length ≤ 1000000) :
    Calls Try.prog 56 #[.pointer (some ⟨b, 0, none⟩)] w fun e w' => e = .returned (topAddr g s) ∧ ∃ n, w' = w.drewN n := by
  have c1 : w.cell? ⟨b, 1, none⟩ = some (.slice (some ⟨g, 0, none⟩) s.P.length cp) := hb.cell 1
  have hlt := hb.lt
  have hpl := s.P_len
  have hpi : (s.P.length : Int) - 1 = (s.B.length : Int) := by omega
  have hp0 : (0 : Int) ≤ (s.B.length : Int) := by omega
  have hp1 : (s.B.length : Int) < (s.P.length : Int) := by omega
  have hw : IntKind.i64.wrap ((s.P.length : Int) - 1) = (s.B.length : Int) := by rw [hpi]; exact IntWalk.i64_in _ (by omega)
  clear hb hpl hpi
  go_enter Try.func56, Try.ntmps56
  go_wp2_with fail
  go_quiet (fail)
  go_wp2
  go_ret
  exact ⟨rfl, _, rfl⟩
theorem top_calls {b : Nat} {s : Stk} {w : World} {vt : Value} {g cp : Nat} (hb : Blk w b 53 [vt, .slice (some ⟨g, 0, none⟩) s.P.length cp, .bool s.over]) (hm : s.P.length ≤ 1000000) :
    Calls Try.prog 56 #[.pointer (some ⟨b, 0, none⟩)] w fun e w' => e = .returned (topAddr g s) ∧ Keep w w' :=
  (top_calls' hb hm).mono fun e w' ⟨h, n, hn⟩ => ⟨h, by rw [hn]; exact (Keep.refl _).drewN _⟩
end Go.Proofs.Ytkeefajfndmpeaa
