/-
  Open.
-/
import Derived.Test.YtkeefajfndmpeaaPop
import Derived.Test.YtkeefajfndmpeaaTail
namespace Go.Proofs.Ytkeefajfndmpeaa
open Go Go.RowKit

theorem opened_P (s : Stk) : s.opened.P = s.P ++ [(s.T.length, false)] := rfl

theorem open_calls {F : Nat → Prop} {b : Nat} {s : Stk} {w : World} (h : At F w b s) (hn : s.T.length ≤ 1000000) (hm : s.P.length ≤ 1000000) :
    Calls Try.prog 24 #[.pointer (some ⟨b, 0, none⟩)] w fun e w' => (∃ v, e = .returned v) ∧ Left F w b s.opened w' := by
  have Hm := Lib.hid (made_calls h)
  obtain ⟨vt, vp, hb, ht, hp, ft, fp⟩ := h.body
  have hkd : Keep w (w.drew) := (Keep.refl w).drew
  obtain ⟨v1, w1, ha1, ho1, hg1, hob⟩ := append_run (ys := [((s.T.length, false) : Part)]) elP ((hp.keep hkd).alloc (.cells (([((s.T.length, false) : Part)]).flatMap partC).toArray 87)) (Seg.of_blk (Blk.new w.drew 87 (([((s.T.length, false) : Part)]).flatMap partC))) 1 51 (by simp [maxLen]; omega) (by simp; omega) (Nat.zero_le _)
  obtain ⟨At, ct, rfl, _⟩ := ht.form
  obtain ⟨Ap, cp, rfl, _⟩ := hp.form
  obtain ⟨A1, c1, rfl, _⟩ := ho1.form
  have hE0 : Ext F w (w.drew.alloc (.cells (([((s.T.length, false) : Part)]).flatMap partC).toArray 87)) := (hkd.alloc _).ext F
  have hE : Ext F w w1 := hE0.grown hg1 (fun k hk _ => fp k hk)
  have hb0 := hb.keep (hkd.alloc (.cells (([((s.T.length, false) : Part)]).flatMap partC).toArray 87))
  have ht0 := ht.keep (hkd.alloc (.cells (([((s.T.length, false) : Part)]).flatMap partC).toArray 87))
  have hp0 := hp.keep (hkd.alloc (.cells (([((s.T.length, false) : Part)]).flatMap partC).toArray 87))
  have hb1 : Blk w1 b 53 [.slice At s.T.length ct, .slice Ap s.P.length cp, .bool s.over] := (hg1.block b hb0.lt (fun e => hp0.blk_ne hb0 (by decide) e.symm rfl)).trans hb0
  have ht1 : Own valC 1 45 w1 0 (.slice At s.T.length ct) s.T := ht0.grown hg1 (by
    cases hq : (Value.slice At s.T.length ct).ownBlock with
    | none => exact .inl rfl
    | some k => exact .inr fun e => hp0.type_ne ht0 (by decide) e.symm hq)
  have c0 : w.cell? ⟨b, 0, none⟩ = some (.slice At s.T.length ct) := hb.cell 0
  have c1' : w.cell? ⟨b, 1, none⟩ = some (.slice Ap s.P.length cp) := hb.cell 1
  have hlt := hb.lt
  have hlt1 := hb1.lt
  have d1 : w1.cell? ⟨b, 1, none⟩ = some (.slice Ap s.P.length cp) := hb1.cell 1
  have fz1 := hb1.frozen 1
  have hfin : Left F w b s.opened (w1.setCell ⟨b, 1, none⟩ (.slice A1 (s.P ++ [((s.T.length, false) : Part)]).length c1)) := by
    refine ⟨hE.setCell (p := ⟨b, 1, none⟩) (fun _ => h.self) _, fun k => F k ∨ (Value.slice A1 (s.P ++ [((s.T.length, false) : Part)]).length c1).ownBlock = some k, ⟨.inl h.self, ?_, _, _, hb1.set_ 1 _, ?_, ?_, fun k hk => .inl (ft k hk), fun k hk => .inr hk⟩, ?_⟩
    · rintro k (hk | hk)
      · exact Nat.lt_of_lt_of_le (h.lt k hk) (by simpa [World.setCell] using hE.size)
      · have := (ho1.lt k hk).2; simpa [World.setCell] using this
    · exact ht1.set_far (fun k hk => ht1.blk_ne hb1 (by decide) hk) _
    · exact ho1.set_far (fun k hk => ho1.blk_ne hb1 (by decide) hk) _
    · rintro k (hk | hk)
      · exact .inl hk
      · rcases hob with e | e
        · rw [e] at hk; exact .inl (fp k hk)
        · rw [e] at hk; simp at hk; exact .inr (by omega)
  have hll : (s.P ++ [((s.T.length, false) : Part)]).length = s.P.length + 1 := by simp
  rw [hll] at hfin ha1
  have Hfin := Lib.hid hfin
  have hbb : w1.heap[b]? = w.heap[b]? := hb1.trans hb.symm
  have x0 := fun x : KB w b => x.cell (hb.cell 0)
  have x1 := fun x : KB w b => x.cell (hb.cell 1)
  have x2 := fun x : KB w b => x.lt hb.lt
  have ha2 := ha1
  have hap : (Builtin.append_ #[51, 51] 51 #[.slice Ap s.P.length cp, .slice (some ⟨w.heap.size, 0, none⟩) 1 1]).run Try.prog ((w.alloc (.cells #[.int .i64 (s.T.length : Int), .bool false] 87)).drew) = .ok (.slice A1 (s.P.length + 1) c1) w1 := ha1
  clear hfin hb ht hp ho1 hg1 hob hb1 ht1 hE hE0 hb0 ht0 hp0 ha1 hll
  go_enter Try.func24, Try.ntmps24
  go_wp2_with fail
  refine Hm.out.mono ?_
  rintro e w2 ⟨rfl, rfl⟩
  go_wp2_with fail
  refine tail_begin (S := fun w' => ∃ x : KB w b, w' = x.val) [15] (by kernel_rfl) ?_
  refine tail_take [0, 1, 2, 3, 4, 5, 6, 7, 8, 9, 10] [] 5 (by kernel_rfl) (by kernel_rfl) (KB.mk' rfl) ?_
  show wpQuiet _ _ _ _ (_ :: _ :: _ :: _ :: _ :: _ :: _ :: _ :: _ :: _ :: _ :: []) _
  repeat (go_big_quiet_step (fail))
  refine wpQuiet_nil ?_
  refine tail_fix (i := 11) (fuel := 4) rfl (by kernel_rfl) (fun K hK => ?_)
  go_simp
  refine hK _ _ (fun _ => KB.mk' (Below.heap_alloc w _ b hlt)) ?_
  clear hK K
  refine tail_fixU (i := 12) (fuel := 3) rfl rfl (by kernel_rfl) (fun K hK => ?_)
  refine wp_append_eq _ _ _ rfl _ _ rfl rfl _ _ hap ?_
  refine hK _ _ (fun _ => KB.mk' hbb) ?_
  clear hK K
  simp only [Act.put, List.setIfInBounds_toArray, List.set_cons_succ, List.set_cons_zero]
  refine tail_fix (i := 13) (fuel := 2) rfl (by kernel_rfl) (fun K hK => ?_)
  go_simp
  refine hK _ _ (fun _ => KB.mk' hbb) ?_
  clear hK K
  refine tail_fix (i := 14) (fuel := 1) rfl (by kernel_rfl) (fun K hK => ?_)
  go_simp
  refine hK _ _ (fun _ => KB.mk' hbb) ?_
  clear hK K
  refine tail_fix (i := 15) (fuel := 0) rfl (by kernel_rfl) (fun K hK => ?_)
  go_simp
  refine hK _ _ (fun h => absurd h (by decide)) ?_
  clear hK K
  refine tail_done (by kernel_rfl) ?_
  go_wp2
  go_end0
  exact ⟨⟨_, rfl⟩, Hfin.out⟩
end Go.Proofs.Ytkeefajfndmpeaa
