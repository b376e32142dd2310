/-
  New, Push, Len, Mark, Over, All.
-/
import Derived.Test.YtkeefajfndmpeaaBase
namespace Go.Proofs.Ytkeefajfndmpeaa
open Go Go.RowKit

theorem new_calls (w : World) : Calls Try.prog 15 #[] w fun e w' => e = .returned (.pointer (some ⟨w.heap.size + 1, 0, none⟩)) ∧ Keep w w' ∧ At (fun k => w.heap.size ≤ k ∧ k < w'.heap.size) w' (w.heap.size + 1) Stk.fresh := by
  go_enter Try.func15, Try.ntmps15
  go_wp2
  go_ret
  refine ⟨rfl, ((Keep.refl _).alloc _).alloc _, ⟨by simp, fun k h => h.2, .slice none 0 0, .slice (some ⟨w.heap.size, 0, none⟩) 1 1, ?_, Own.nil _ _ _ _ _, ?_, fun k h => (by cases h), fun k h => (by simp [Value.ownBlock] at h; subst h; simp; omega)⟩⟩
  · show Blk _ (w.heap.size + 1) _ [.slice none 0 0, .slice (some ⟨w.heap.size, 0, none⟩) 1 1, .bool false]
    have := Blk.new (w.alloc (.cells #[.int .i64 0, .bool false] 87)) 53 [.slice none 0 0, .slice (some ⟨w.heap.size, 0, none⟩) 1 1, .bool false]
    simpa using this
  · refine ⟨rfl, .inr ⟨w.heap.size, 1, #[.int .i64 0, .bool false], rfl, Nat.zero_le _, ?_, Nat.le_refl _, by simp [maxLen], rfl, rfl⟩⟩
    exact ((Blk.new w 87 [.int .i64 0, .bool false]).keep ((Keep.refl _).alloc _))

theorem len_calls {F : Nat → Prop} {b : Nat} {s : Stk} {w : World} (h : At F w b s) :
    Calls Try.prog 21 #[.pointer (some ⟨b, 0, none⟩)] w fun e w' => e = .returned (.int .i64 (s.T.length : Int)) ∧ w = w' := by
  have Hm := Lib.hid (made_calls h)
  obtain ⟨vt, vp, hb, ht, hp, _, _⟩ := h.body
  obtain ⟨At, ct, rfl, _⟩ := ht.form
  have c0 : w.cell? ⟨b, 0, none⟩ = some (.slice At s.T.length ct) := hb.cell 0
  have hlt := hb.lt
  clear hb ht hp
  go_enter Try.func21, Try.ntmps21
  go_wp2_with fail
  refine Hm.out.mono ?_
  rintro e w1 ⟨rfl, rfl⟩
  go_wp2
  go_ret
  exact ⟨rfl, rfl⟩

theorem over_calls {F : Nat → Prop} {b : Nat} {s : Stk} {w : World} (h : At F w b s) :
    Calls Try.prog 30 #[.pointer (some ⟨b, 0, none⟩)] w fun e w' => e = .returned (.bool s.over) ∧ w = w' := by
  have Hm := Lib.hid (made_calls h)
  obtain ⟨vt, vp, hb, ht, hp, _, _⟩ := h.body
  have c2 : w.cell? ⟨b, 2, none⟩ = some (.bool s.over) := hb.cell 2
  have hlt := hb.lt
  clear hb ht hp
  go_enter Try.func30, Try.ntmps30
  go_wp2_with fail
  refine Hm.out.mono ?_
  rintro e w1 ⟨rfl, rfl⟩
  go_wp2
  go_ret
  exact ⟨rfl, rfl⟩

theorem mark_calls {F : Nat → Prop} {b : Nat} {s : Stk} {w : World} (h : At F w b s) (hm : s.P.length ≤ 1000000) :
    Calls Try.prog 19 #[.pointer (some ⟨b, 0, none⟩)] w fun e w' => e = .returned (.int .i64 (s.at_ : Int)) ∧ Keep w w' := by
  have Hm := Lib.hid (made_calls h)
  obtain ⟨vt, vp, hb, ht, hp, _, _⟩ := h.body
  obtain ⟨g, c, rfl, hg, c0, c1⟩ := part_at hp (k := s.B.length) (by rw [s.P_len]; omega)
  rw [s.P_last] at c0 c1
  have Ht := Lib.hid (top_calls hb hm)
  clear hb ht hp
  go_enter Try.func19, Try.ntmps19
  go_wp2_with fail
  refine Hm.out.mono ?_
  rintro e w1 ⟨rfl, rfl⟩
  go_wp2_with fail
  refine Ht.out.mono ?_
  rintro e w1 ⟨rfl, hk⟩
  have d0 := hk.cell c0
  have hg1 : g < w1.heap.size := Nat.lt_of_lt_of_le hg hk.size
  unfold topAddr
  go_wp2
  go_ret
  exact ⟨rfl, hk⟩

theorem slice_nil_eq (n c : Nat) (w : World) : (binOp .eql 23 (.slice none n c) (.slice none 0 0)).run Try.prog w = .ok (.bool true) w := by kernel_rfl
theorem slice_some_eq (a : Addr) (n c : Nat) (w : World) : (binOp .eql 23 (.slice (some a) n c) (.slice none 0 0)).run Try.prog w = .ok (.bool false) w := by kernel_rfl

set_option maxRecDepth 100000 in
theorem clone_calls (l : List Int) (A : Option Addr) (c : Nat) (w : World) (hs : Seg w A (l.flatMap valC)) (hn : l.length ≤ 1000000) :
    Calls Try.prog 55 #[.slice A l.length c] w fun e w' => ∃ v, e = .returned v ∧ Own valC 1 45 w' w.heap.size v l ∧ Keep w w' := by
  have hq1 := slice_nil_eq
  have hq2 := slice_some_eq
  cases A with
  | none =>
    have hl : l = [] := by
      cases l with
      | nil => rfl
      | cons x r => obtain ⟨ad, h, _⟩ := hs 0 (.int .i64 x) rfl; cases h
    subst hl
    go_enter Try.func55, Try.ntmps55
    go_wp2
    go_ret
    exact ⟨_, rfl, Own.nil _ _ _ _ _, Keep.refl _⟩
  | some a =>
    obtain ⟨v1, w1, ha1, ho1, hg1, _⟩ := append_run (ys := l) elV (Own.empty valC 1 45 w (Nat.le_refl _)) (hs.keep ((Keep.refl w).alloc _)) c 23 (by simp [maxLen]; omega) (by simp; omega) (by simp)
    have hk1 : Keep w w1 := ((Keep.refl w).alloc _).grown hg1 (fun j hj => by simp [Value.ownBlock] at hj; subst hj; exact Nat.le_refl _)
    have Ho := Lib.hid (show Own valC 1 45 w1 w.heap.size v1 l by simpa using ho1)
    clear ho1 hg1
    go_enter Try.func55, Try.ntmps55
    go_wp2_with (at_builtin; refine wpList_append_eq rfl _ _ _ rfl _ _ rfl rfl _ _ ha1 ?_)
    go_ret
    exact ⟨v1, rfl, Ho.out, hk1⟩

theorem all_calls {F : Nat → Prop} {b : Nat} {s : Stk} {w : World} (h : At F w b s) (hn : s.T.length ≤ 1000000) :
    Calls Try.prog 18 #[.pointer (some ⟨b, 0, none⟩)] w fun e w' => ∃ v, e = .returned v ∧ Own valC 1 45 w' w.heap.size v s.T ∧ Keep w w' := by
  have Hm := Lib.hid (made_calls h)
  obtain ⟨vt, vp, hb, ht, hp, _, _⟩ := h.body
  obtain ⟨At, ct, rfl, _⟩ := ht.form
  have c0 : w.cell? ⟨b, 0, none⟩ = some (.slice At s.T.length ct) := hb.cell 0
  have hlt := hb.lt
  have Hc := Lib.hid (clone_calls s.T At ct w ht.seg hn)
  clear hb ht hp
  go_enter Try.func18, Try.ntmps18
  go_wp2_with fail
  refine Hm.out.mono ?_
  rintro e w1 ⟨rfl, rfl⟩
  go_wp2_with fail
  refine Hc.out.mono ?_
  rintro e w1 ⟨v, rfl, hown, hk⟩
  have Ho := Lib.hid hown
  clear hown
  go_wp2
  go_ret
  exact ⟨v, rfl, Ho.out, hk⟩

theorem Own.set_far {α : Type} {f : α → List Value} {s : Nat} {e : TypeId} {w : World} {base : Nat} {v : Value} {xs : List α} (h : Own f s e w base v xs) {p : Addr} (hp : ∀ k, v.ownBlock = some k → k ≠ p.block) (u : Value) : Own f s e (w.setCell p u) base v xs :=
  h.ext (S := fun k => k = p.block) ((Ext.refl (fun k => k = p.block) w).setCell (p := p) (fun _ => rfl) u) hp

theorem push_calls {F : Nat → Prop} {b : Nat} {s : Stk} {w : World} (h : At F w b s) (l : List Int) (A : Option Addr) (c : Nat) (hs : Seg w A (l.flatMap valC)) (hn : s.T.length + l.length ≤ 1000000) :
    Calls Try.prog 20 #[.pointer (some ⟨b, 0, none⟩), .slice A l.length c] w fun e w' => (∃ v, e = .returned v) ∧ Left F w b (s.push l) w' := by
  have Hm := Lib.hid (made_calls h)
  obtain ⟨vt, vp, hb, ht, hp, ft, fp⟩ := h.body
  obtain ⟨v1, w1, ha1, ho1, hg1, hob⟩ := append_run (ys := l) elV ht hs c 23 (by simp [maxLen]; omega) (by omega) (Nat.zero_le _)
  have hE : Ext F w w1 := (Ext.refl F w).grown hg1 (fun k hk _ => ft k hk)
  have hb1 : Blk w1 b 53 [vt, vp, .bool s.over] := (hg1.block b hb.lt (fun e => ht.blk_ne hb (by decide) e.symm rfl)).trans hb
  have hp1 : Own partC 2 87 w1 0 vp s.P := hp.grown hg1 (by
    cases hq : vp.ownBlock with
    | none => exact .inl rfl
    | some k => exact .inr fun e => ht.type_ne hp (by decide) e.symm hq)
  obtain ⟨A1, c1, rfl, _⟩ := ho1.form
  obtain ⟨At, ct, rfl, _⟩ := ht.form
  have c0 : w.cell? ⟨b, 0, none⟩ = some (.slice At s.T.length ct) := hb.cell 0
  have hlt := hb.lt
  have hlt1 := hb1.lt
  have d0 : w1.cell? ⟨b, 0, none⟩ = some (.slice At s.T.length ct) := hb1.cell 0
  have d2 : w1.cell? ⟨b, 2, none⟩ = some (.bool s.over) := hb1.cell 2
  have fz0 := hb1.frozen 0
  have fz2 := hb1.frozen 2
  have hfin : ∀ o : Bool, o = (s.push l).over → Left F w b (s.push l) ((w1.setCell ⟨b, 0, none⟩ (.slice A1 (s.T ++ l).length c1)).setCell ⟨b, 2, none⟩ (.bool o)) := by
    intro o ho
    subst ho
    refine ⟨(hE.setCell (p := ⟨b, 0, none⟩) (fun _ => h.self) _).setCell (p := ⟨b, 2, none⟩) (fun _ => h.self) _, fun k => F k ∨ (Value.slice A1 (s.T ++ l).length c1).ownBlock = some k, ⟨.inl h.self, ?_, _, vp, (hb1.set_ 0 _).set_ 2 _, ?_, ?_, fun k hk => .inr hk, fun k hk => .inl (fp k hk)⟩, ?_⟩
    · rintro k (hk | hk)
      · exact Nat.lt_of_lt_of_le (h.lt k hk) (by simpa [World.setCell] using hE.size)
      · have := (ho1.lt k hk).2; simpa [World.setCell] using this
    · exact (ho1.set_far (fun k hk => ho1.blk_ne hb1 (by decide) hk) _).set_far (fun k hk => ho1.blk_ne hb1 (by decide) hk) _
    · exact (hp1.set_far (fun k hk => hp1.blk_ne hb1 (by decide) hk) _).set_far (fun k hk => hp1.blk_ne hb1 (by decide) hk) _
    · rintro k (hk | hk)
      · exact .inl hk
      · rcases hob with e | e
        · rw [e] at hk; exact .inl (ft k hk)
        · rw [e] at hk; cases hk; exact .inr (Nat.le_refl _)
  have Hfin := Lib.hid hfin
  have hll : (s.T ++ l).length = s.T.length + l.length := by simp
  clear hfin hb ht hp ho1 hg1 hob hb1 hp1 hE
  cases ho : s.over
  · rw [ho] at d2
    have Hp := Lib.hid (show decide ((256 : Int) < (s.T.length : Int) + (l.length : Int)) = (s.push l).over by
      simp only [Stk.push, ho, Bool.false_or]
      exact decide_eq_decide.2 ⟨fun h => by omega, fun h => by omega⟩)
    clear ho
    go_enter Try.func20, Try.ntmps20
    go_wp2_with fail
    refine Hm.out.mono ?_
    rintro e w2 ⟨rfl, rfl⟩
    go_wp2_with (at_builtin; refine wpList_append_eq rfl _ _ _ rfl _ _ rfl rfl _ _ ha1 ?_)
    go_end0
    exact ⟨⟨_, rfl⟩, by have := Hfin.out _ Hp.out; rwa [hll] at this⟩
  · rw [ho] at d2
    have Hp := Lib.hid (show true = (s.push l).over by simp [Stk.push, ho])
    clear ho
    go_enter Try.func20, Try.ntmps20
    go_wp2_with fail
    refine Hm.out.mono ?_
    rintro e w2 ⟨rfl, rfl⟩
    go_wp2_with (at_builtin; refine wpList_append_eq rfl _ _ _ rfl _ _ rfl rfl _ _ ha1 ?_)
    go_end0
    exact ⟨⟨_, rfl⟩, by have := Hfin.out _ Hp.out; rwa [hll] at this⟩
end Go.Proofs.Ytkeefajfndmpeaa
