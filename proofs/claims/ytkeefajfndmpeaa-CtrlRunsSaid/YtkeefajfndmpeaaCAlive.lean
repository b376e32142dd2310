/-
  The worked example of the chapter on control frames; few.
-/
import Derived.Test.YtkeefajfndmpeaaCLive
import Derived.Test.YtkeefajfndmpeaaCEnter
import Derived.Test.YtkeefajfndmpeaaCLeave
import Derived.Test.YtkeefajfndmpeaaCNew
namespace Go.Proofs.Ytkeefajfndmpeaa
open Go Go.RowKit

theorem CAt.lt {F : Nat → Prop} {w : World} {b bst : Nat} {c : Ctl} (h : CAt F w b bst c) : ∀ k, F k → k < w.heap.size := by
  obtain ⟨F1, vb, bds, rd, h, _, _⟩ := h
  exact h.lt
/-- A new State without results is not touched by what happens elsewhere. -/
theorem CAt.fresh_ext {F S : Nat → Prop} {w w' : World} {b bst : Nat} (h : CAt F w b bst (Ctl.fresh [])) (hE : Ext S w w') (hS : ∀ k, F k → ¬ S k) : CAt F w' b bst (Ctl.fresh []) := by
  obtain ⟨F1, vb, bds, rd, h, hb, hr⟩ := h
  have hl : ∀ x ∈ bds, x.p.l = [] ∧ x.r.l = [] := fun x hx => by
    have : x.plain ∈ bds.map BD.plain := List.mem_map_of_mem hx
    rw [hb] at this
    have e := List.mem_singleton.1 this
    exact ⟨congrArg PB.p e, congrArg PB.r e⟩
  exact ⟨F1, vb, bds, rd, ⟨h.st.of_keep (fun k hk => hE.block k (h.st.lt k hk) (hS k (h.sub k hk))) hE.size, h.blk.ext hE (hS b h.fb), h.own.ext hE (fun k hk => hS k (h.row k hk).1), fun x hx => ⟨LD.Kt.empty (hl x hx).1, LD.Kt.empty (hl x hx).2⟩, LD.Kt.empty hr, h.fb, h.nb, h.sub, h.row, fun k hk => Nat.lt_of_lt_of_le (h.lt k hk) hE.size⟩, hb, hr⟩

/-- Two States: one at work, one new. -/
def Two (w0 : World) (b bst bd bsd : Nat) (c : Ctl) (w : World) : Prop :=
  ∃ F Fd, Keep w0 w ∧ CAt F w b bst c ∧ (∀ k, F k → w0.heap.size ≤ k) ∧ CAt Fd w bd bsd (Ctl.fresh []) ∧ (∀ k, Fd k → w0.heap.size ≤ k) ∧ ∀ k, Fd k → ¬ F k
theorem Two.call {w0 w : World} {b bst bd bsd : Nat} {c c' : Ctl} (h : Two w0 b bst bd bsd c w) {f : Nat} {args : Array Value} {R : Ending → Prop} (hc : ∀ F, Keep w0 w → CAt F w b bst c → (∀ k, F k → w0.heap.size ≤ k) → Calls Try.prog f args w fun e w' => R e ∧ CLeft F w b bst c' w') :
    Calls Try.prog f args w fun e w' => R e ∧ Two w0 b bst bd bsd c' w' := by
  obtain ⟨F, Fd, h1, h2, h3, h4, h5, h6⟩ := h
  refine (hc F h1 h2 h3).mono fun e w' ⟨h7, hE, F', hF, h8⟩ => ⟨h7, F', Fd, ?_, h8, fun k hk => (hF k hk).elim (h3 k) (fun h9 => Nat.le_trans h1.size h9), h4.fresh_ext hE h6, h5, fun k hk hf => (hF k hf).elim (h6 k hk) (fun h9 => by have := h4.lt k hk; omega)⟩
  exact ⟨hE.os.trans h1.os, hE.tape.trans h1.tape, hE.output.trans h1.output, Nat.le_trans h1.size hE.size, fun k hk => (hE.block k (Nat.lt_of_lt_of_le hk h1.size) (fun hf => by have := h3 k hf; omega)).trans (h1.block k hk)⟩
theorem Two.keep {w0 w w' : World} {b bst bd bsd : Nat} {c : Ctl} (h : Two w0 b bst bd bsd c w) (hk : Keep w w') : Two w0 b bst bd bsd c w' := by
  obtain ⟨F, Fd, h1, h2, h3, h4, h5, h6⟩ := h
  exact ⟨F, Fd, h1.trans hk, h2.keep hk, h3, h4.keep hk, h5, h6⟩
theorem Two.read {w0 w : World} {b bst bd bsd : Nat} {c : Ctl} (h : Two w0 b bst bd bsd c w) {f : Nat} {args : Array Value} {R : Ending → World → Prop} (hc : ∀ F, CAt F w b bst c → Calls Try.prog f args w R) : Calls Try.prog f args w R := by
  obtain ⟨F, Fd, h1, h2, h3, h4, h5, h6⟩ := h
  exact hc F h2
theorem Two.other {w0 w : World} {b bst bd bsd : Nat} {c : Ctl} (h : Two w0 b bst bd bsd c w) : CLive w0 bd bsd (Ctl.fresh []) w := by
  obtain ⟨F, Fd, h1, h2, h3, h4, h5, h6⟩ := h
  exact ⟨Fd, h1, h4, h5⟩
theorem CLive.read {w0 w : World} {b bst : Nat} {c : Ctl} (h : CLive w0 b bst c w) {f : Nat} {args : Array Value} {R : Ending → World → Prop} (hc : ∀ F, CAt F w b bst c → Calls Try.prog f args w R) : Calls Try.prog f args w R := by
  obtain ⟨F, h1, h2, h3⟩ := h
  exact hc F h2

def a1 : Ctl := ⟨⟨[], [(0, false), (0, false)], 0, false, false⟩, [⟨0, [], [1], false, true⟩, ⟨2, [], [1], false, true⟩], [1], true, 0⟩
def a2 : Ctl := ⟨⟨[], [(0, false), (0, false)], 0, true, false⟩, [⟨0, [], [1], false, true⟩, ⟨2, [], [1], false, true⟩], [1], false, 0⟩
def a3 : Ctl := ⟨⟨[1], [(0, false)], 0, false, false⟩, [⟨0, [], [1], false, true⟩], [1], true, 0⟩
def a4 : Ctl := ⟨⟨[1], [], 0, false, false⟩, [], [1], true, 0⟩
def d1 : Ctl := ⟨⟨[], [(0, false)], 0, false, false⟩, [⟨0, [], [], false, true⟩], [], true, 13⟩
theorem ent1 : (Ctl.fresh [1]).enter 2 [] [1] = (a1, 0) := rfl
theorem dead2 : a1.dead = a2 := rfl
theorem live2 : a2.isLive = false := rfl
theorem leave3 : a2.leave = (a3, 0) := rfl
theorem live3 : a3.isLive = true := rfl
theorem leave4 : a3.leave = (a4, 0) := rfl
theorem done4 : a4.done = true := rfl
theorem entd : (Ctl.fresh []).enter 4 [] [1] = (d1, 13) := rfl
theorem leaved : d1.leave = (d1, 13) := rfl
theorem okF (r : List Int) : (Ctl.fresh r).s.Ok := Stk.Ok.fresh.opened
theorem okA1 : a1.s.Ok := Stk.Ok.fresh.opened.opened
theorem okA2 : a2.s.Ok := okA1.loosen
theorem okA3 : a3.s.Ok := Stk.Ok.fresh.opened.push [1]
theorem okA4 : a4.s.Ok := Stk.Ok.fresh.push [1]

set_option maxHeartbeats 2000000 in
theorem calive_calls (w : World) : Calls Try.prog 32 #[] w fun e w' => e = .returned (.bool true) ∧ Keep w w' := by
  obtain ⟨wa, hwa⟩ : ∃ wa : World, wa = w.alloc (.cells (([1] : List Int).flatMap valC).toArray 45) := ⟨_, rfl⟩
  have hka : Keep w wa := by rw [hwa]; exact (Keep.refl _).alloc _
  have hsg : Seg wa (some ⟨w.heap.size, 0, none⟩) (([1] : List Int).flatMap valC) := by rw [hwa]; exact Seg.of_blk (Blk.new w 45 (([1] : List Int).flatMap valC))
  have hte : ∀ (p : Nat) (ww : World), (binOp .eql 57 (.pointer (some ⟨p, 0, none⟩)) (.pointer none)).run Try.prog ww = .ok (.bool false) ww := fun p ww => by kernel_rfl
  have hts : ∀ (p : Nat) (ww : World), (binOp .eql 26 (.pointer (some ⟨p, 0, none⟩)) (.pointer none)).run Try.prog ww = .ok (.bool false) ww := fun p ww => by kernel_rfl
  go_enter Try.func32, Try.ntmps32
  go_wp2_with fail
  show Calls Try.prog _ _ (w.alloc (.cells (([1] : List Int).flatMap valC).toArray 45)) _
  rw [← hwa]
  clear hwa
  refine (cnew_calls [1] (some ⟨w.heap.size, 0, none⟩) 1 wa hsg (by decide)).mono ?_
  rintro e w1 ⟨b, bst, F1, rfl, hc1, hk1, hF1⟩
  go_wp2_with fail
  refine (cnew_calls [] none 0 w1 (Seg.nil _ _) (by decide)).mono ?_
  rintro e w2 ⟨bd, bsd, Fd, rfl, hd2, hk2, hFd⟩
  have h2 : Two wa b bst bd bsd (Ctl.fresh [1]) w2 := ⟨F1, Fd, hk1.trans hk2, hc1.keep hk2, hF1, hd2, fun k hk => Nat.le_trans hk1.size (hFd k hk), fun k hk hf => by have := hFd k hk; have := hc1.lt k hf; omega⟩
  clear hc1 hd2 hFd hF1
  go_wp2_with fail
  refine (h2.read fun F h => cs_stack h).mono ?_
  rintro e w3 ⟨rfl, rfl⟩
  go_wp2_with fail
  refine (h2.call (R := fun e => e = .returned (.int .i64 0)) (c' := a1) (fun F hk h hF => by have := enter_calls h (okF [1]) 2 LD.none ⟨some ⟨w.heap.size, 0, none⟩, [1], 1⟩ (LD.Ok.none _ _) (LD.Ok.old hsg hk hF) (by decide) (by decide) (by decide) (by decide) (by simp); rw [show LD.none.l = [] from rfl, ent1] at this; exact this)).mono ?_
  rintro e w3 ⟨rfl, h3⟩
  clear h2
  go_wp2_with fail
  refine (h3.call (R := fun e => ∃ v, e = .returned v) (c' := a2) (fun F hk h hF => by have := dead_calls h okA1 (by decide) (by decide); rw [dead2] at this; exact this)).mono ?_
  rintro e w4 ⟨⟨u4, rfl⟩, h4⟩
  clear h3
  go_wp2_with fail
  refine (h4.read fun F h => live_calls h).mono ?_
  rintro e w5 ⟨rfl, rfl⟩
  rw [live2]
  go_wp2_with fail
  refine (h4.call (R := fun e => e = .returned (.int .i64 0)) (c' := a3) (fun F hk h hF => by have := leave_calls h okA2 (by decide) (by decide) (by decide) (by decide) (by decide); rw [leave3] at this; exact this)).mono ?_
  rintro e w5 ⟨rfl, h5⟩
  clear h4
  go_wp2_with fail
  refine (h5.read fun F h => live_calls h).mono ?_
  rintro e w6 ⟨rfl, rfl⟩
  rw [live3]
  go_wp2_with fail
  refine (h5.read fun F h => cs_all h (by decide)).mono ?_
  rintro e w6 ⟨va, rfl, ho6, hk6⟩
  obtain ⟨Aa, ca, rfl, _⟩ := ho6.form
  have h6 := h5.keep hk6
  have hk06 : Keep wa w6 := by obtain ⟨F, Fd, hk, _⟩ := h6; exact hk
  have Hs := Lib.hid (refSameVals_calls [1] [1] Aa (some ⟨w.heap.size, 0, none⟩) ca 1 w6 ho6.segN.2 (hsg.keep hk06) (by decide) (by decide))
  clear h5 ho6
  go_wp2_with fail
  refine Hs.out.mono ?_
  rintro e w7 ⟨rfl, hk7⟩
  have h7 := h6.keep hk7
  clear h6 Hs
  go_wp2_with fail
  refine (h7.call (R := fun e => e = .returned (.int .i64 0)) (c' := a4) (fun F hk h hF => by have := leave_calls h okA3 (by decide) (by decide) (by decide) (by decide) (by decide); rw [leave4] at this; exact this)).mono ?_
  rintro e w8 ⟨rfl, h8⟩
  clear h7
  go_wp2_with fail
  refine (h8.read fun F h => done_calls h).mono ?_
  rintro e w9 ⟨rfl, rfl⟩
  rw [done4]
  have h9 := h8.other
  clear h8
  go_wp2_with fail
  refine (h9.call (R := fun e => e = .returned (.int .i64 13)) (c' := d1) (fun F h hF => by have := enter_calls h (okF []) 4 LD.none ⟨some ⟨w.heap.size, 0, none⟩, [1], 1⟩ (LD.Ok.none _ _) (LD.Ok.old hsg h9.keep0 hF) (by decide) (by decide) (by decide) (by decide) (by simp); rw [show LD.none.l = [] from rfl, entd] at this; exact this)).mono ?_
  rintro e w10 ⟨rfl, h10⟩
  clear h9
  go_wp2_with fail
  refine (h10.call (R := fun e => e = .returned (.int .i64 13)) (c' := d1) (fun F h hF => by have := leave_calls h (okF []) (by decide) (by decide) (by decide) (by decide) (by decide); rw [leaved] at this; exact this)).mono ?_
  rintro e w11 ⟨rfl, h11⟩
  have Hk := Lib.hid (hka.trans h11.keep0)
  clear h10 h11
  go_wp2
  go_ret
  exact ⟨rfl, Hk.out⟩
end Go.Proofs.Ytkeefajfndmpeaa
