/-
  The reference's State: Label.
-/
import Derived.Test.YtkeefajfndmpeaaCRef
namespace Go.Proofs.Ytkeefajfndmpeaa
open Go Go.RowKit

def RC.label (c : RC) (n : Int) : LD × Int :=
  if c.broken ≠ 0 then (LD.none, c.broken)
  else if n < 0 ∨ (c.fs.length : Int) ≤ n then (LD.none, 15)
  else match c.fs[c.fs.length - 1 - n.toNat]? with
    | some f => (if f.op = 3 then f.p else f.r, 0)
    | none => (LD.none, 15)

set_option maxHeartbeats 2000000 in
set_option maxRecDepth 100000 in
theorem refLabel_calls {w0 : World} {G : Nat → Prop} {w : World} {v : Value} {c : RC} (h : RefC w0 G w v c) (n : Int) (hn : c.fs.length ≤ 1000000) :
    Calls Try.prog 67 #[v, .int .i64 n] w fun e w' => e = .returned (.tuple #[(c.label n).1.v, .int .i64 (c.label n).2]) ∧ Keep w w' := by
  obtain ⟨A1, A2, A3, c1, c2, c3, most, Af, cf, rfl, hra, hfr⟩ := h
  by_cases hb : c.broken = 0
  rotate_left
  · have db : (c.broken != 0) = true := by simpa using hb
    have Hd := Lib.hid (show c.label n = (LD.none, c.broken) by unfold RC.label; rw [if_pos hb])
    rw [Hd.out]
    clear hb hra hfr
    unfold rcells7 LD.none LD.v
    go_enter Try.func67, Try.ntmps67
    go_wp2_with fail
    go_quiet (fail)
    go_wp2
    go_ret2
    exact ⟨rfl, ((Keep.refl _).alloc _).drewN _⟩
  have db : (c.broken != 0) = false := by simpa using hb
  by_cases hn0 : n < 0
  · have Hd := Lib.hid (show c.label n = (LD.none, 15) by unfold RC.label; rw [if_neg (by omega), if_pos (.inl hn0)])
    rw [Hd.out]
    clear hb hra hfr
    unfold rcells7 LD.none LD.v
    go_enter Try.func67, Try.ntmps67
    go_wp2
    go_ret2
    exact ⟨rfl, (Keep.refl _).alloc _⟩
  have hn1 : 0 ≤ n := by omega
  clear hn0
  by_cases hle : (c.fs.length : Int) ≤ n
  · have Hd := Lib.hid (show c.label n = (LD.none, 15) by unfold RC.label; rw [if_neg (by omega), if_pos (.inr hle)])
    rw [Hd.out]
    clear hb hra hfr
    unfold rcells7 LD.none LD.v
    go_enter Try.func67, Try.ntmps67
    go_wp2
    go_ret2
    exact ⟨rfl, (Keep.refl _).alloc _⟩
  have hlt : n < (c.fs.length : Int) := by omega
  clear hle
  obtain ⟨k, hk⟩ : ∃ k, k = c.fs.length - 1 - n.toNat := ⟨_, rfl⟩
  have hkl : k < c.fs.length := by omega
  obtain ⟨f, hf⟩ : ∃ f, c.fs[k]'hkl = f := ⟨_, rfl⟩
  have hki : (c.fs.length : Int) - 1 - n = (k : Int) := by omega
  have hw : IntKind.i64.wrap (IntKind.i64.wrap ((c.fs.length : Int) - 1) - n) = (k : Int) := by rw [IntWalk.i64_in ((c.fs.length : Int) - 1) (by omega), hki]; exact IntWalk.i64_in _ (by omega)
  have k0 : (0 : Int) ≤ (k : Int) := by omega
  have k1 : (k : Int) < (c.fs.length : Int) := by omega
  have hl' : c.label n = (if f.op = 3 then f.p else f.r, 0) := by
    unfold RC.label
    rw [if_neg (by omega), if_neg (by omega), ← hk, List.getElem?_eq_getElem hkl, hf]
  have ge0 : decide (n ≥ (c.fs.length : Int)) = false := by simpa using hlt
  have wr := fun (wx : World) (hkp : Keep w wx) => hfr.last hkl hkp
  obtain ⟨b, off, rfl, hbl, _⟩ := hfr.last hkl (Keep.refl _)
  have kk := (Keep.refl w).alloc (.cells (rcells7 A1 A2 A3 c.s.T.length c.s.P.length c1 c2 c3 most (some ⟨b, off, none⟩) c.fs.length cf c.res c.broken).toArray 74)
  obtain ⟨b', off', e, _, q0, q1, q2, q3, q4⟩ := hfr.last hkl kk
  injection e with e; injection e with e1 e2; subst e1 e2
  rw [hf] at q0 q1 q2 q3 q4
  clear wr kk hfr hra hk hf hw hb
  by_cases ho : f.op = 3
  · have Hd := Lib.hid (show c.label n = (f.p, 0) by rw [hl', if_pos ho])
    have do_ : (f.op == 3) = true := by simpa using ho
    rw [Hd.out]
    clear hl' ho
    unfold rcells7 LD.v at *
    go_enter Try.func67, Try.ntmps67
    go_wp2
    go_ret2
    exact ⟨rfl, ((Keep.refl _).alloc _).alloc _⟩
  · have Hd := Lib.hid (show c.label n = (f.r, 0) by rw [hl', if_neg ho])
    have do_ : (f.op == 3) = false := by simpa using ho
    rw [Hd.out]
    clear hl' ho
    unfold rcells7 LD.v at *
    go_enter Try.func67, Try.ntmps67
    go_wp2
    go_ret2
    exact ⟨rfl, ((Keep.refl _).alloc _).alloc _⟩
end Go.Proofs.Ytkeefajfndmpeaa
