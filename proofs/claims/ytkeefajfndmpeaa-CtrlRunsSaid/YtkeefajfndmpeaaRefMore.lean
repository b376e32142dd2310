/-
  The reference's stack from world to world.
-/
import Derived.Test.YtkeefajfndmpeaaOut
import Derived.Test.YtkeefajfndmpeaaRefPop
namespace Go.Proofs.Ytkeefajfndmpeaa
open Go Go.RowKit

theorem mark_len (l : List Part) : (l.flatMap markC).length = l.length := by rw [flat_length markC 1 (fun _ => rfl)]; omega
theorem loose_len (l : List Part) : (l.flatMap looseC).length = l.length := by rw [flat_length looseC 1 (fun _ => rfl)]; omega
theorem RefAt.ext {G S : Nat → Prop} {w w' : World} {v : Value} {s : Stk} (h : RefAt G w v s) (hk : Ext S w w') (hS : ∀ k, G k → ¬ S k) : RefAt G w' v s := by
  obtain ⟨A1, A2, A3, c1, c2, c3, most, e, s1, s2, s3, h4, h5, h6, h7, h8, g1, g2, g3⟩ := h
  exact ⟨A1, A2, A3, c1, c2, c3, most, e, s1.ext' hk (fun h0 ad ha => hS _ (g1 (by rwa [val_len] at h0) ad ha)), s2.ext' hk (fun h0 ad ha => hS _ (g2 (by rwa [mark_len] at h0) ad ha)), s3.ext' hk (fun h0 ad ha => hS _ (g3 (by rwa [loose_len] at h0) ad ha)), h4, h5, h6, h7, h8, g1, g2, g3⟩
theorem RefAt.mono {G H : Nat → Prop} {w : World} {v : Value} {s : Stk} (h : RefAt G w v s) (hg : ∀ k, k < w.heap.size → G k → H k) : RefAt H w v s := by
  obtain ⟨A1, A2, A3, c1, c2, c3, most, e, s1, s2, s3, h4, h5, h6, h7, h8, g1, g2, g3⟩ := h
  have lt : ∀ {xs : List Value} {A : Option Addr} {n : Nat}, Seg w A xs → xs.length = n → InG G A n → InG H A n := fun {xs A n} hs hl hG hn ad ha => by
    obtain ⟨b, off, e, hb, _⟩ := hs.addr (by omega)
    rw [ha] at e; cases e
    exact hg _ hb (hG hn _ ha)
  exact ⟨A1, A2, A3, c1, c2, c3, most, e, s1, s2, s3, h4, h5, h6, h7, h8, lt s1 (val_len _) g1, lt s2 (mark_len _) g2, lt s3 (loose_len _) g3⟩
theorem refAt_cut {G : Nat → Prop} {w : World} {A1 A2 A3 : Option Addr} {c1 c2 c3 most : Nat} {s : Stk} (h : RefIs w A1 A2 A3 c1 c2 c3 most s) (g1 : InG G A1 s.T.length) (g2 : InG G A2 s.P.length) (g3 : InG G A3 s.P.length) {s' : Stk} (hs : s' = s ∨ ∃ n, s' = s.cut n) :
    RefAt G w (.agg #[.slice A1 s'.T.length c1, .slice A2 s.P.length c2, .slice A3 s.P.length c3, .int .i64 (most : Int)]) s' := by
  rcases hs with rfl | ⟨n, rfl⟩
  · obtain ⟨h1, h2, h3, h4, h5, h6, h7, h8⟩ := h
    exact ⟨A1, A2, A3, c1, c2, c3, most, rfl, h1, h2, h3, h4, h5, h6, h7, h8, g1, g2, g3⟩
  · obtain ⟨h1, h2, h3, h4, h5, h6, h7, h8⟩ := h.cut n
    exact ⟨A1, A2, A3, c1, c2, c3, most, rfl, h1, h2, h3, h4, h5, h6, h7, h8, g1.less (by simp [Stk.cut]; omega), g2, g3⟩
theorem Stk.pop_cut (s : Stk) : s.pop.1 = s ∨ ∃ n, s.pop.1 = s.cut n := by
  unfold Stk.pop
  split
  · exact .inr ⟨_, rfl⟩
  · split <;> exact .inl rfl
theorem Stk.want_cut (s : Stk) (l : List Int) : (s.want l).1 = s ∨ ∃ n, (s.want l).1 = s.cut n := by
  unfold Stk.want
  split
  · exact .inr ⟨_, rfl⟩
  · exact .inl rfl

end Go.Proofs.Ytkeefajfndmpeaa
