/-
  A State that New has not made; the law CtrlNobody returns true.
-/
import Derived.Test.YtkeefajfndmpeaaCAlive
import Derived.Test.YtkeefajfndmpeaaCFew
namespace Go.Proofs.Ytkeefajfndmpeaa
open Go Go.RowKit

def czero : List Value := [.pointer none, .slice none 0 0, .slice none 0 0, .bool false, .int .i64 0]
/-- Nil, or a State of zeros. -/
def CNone (p : Option Addr) (w : World) : Prop := p = none ∨ ∃ b, p = some ⟨b, 0, none⟩ ∧ Blk w b 83 czero
theorem CNone.keep {p : Option Addr} {w w' : World} (h : CNone p w) (hk : Keep w w') : CNone p w' := h.imp id fun ⟨b, e, hb⟩ => ⟨b, e, hb.keep hk⟩

theorem cmade_none {p : Option Addr} {w : World} (h : CNone p w) : Calls Try.prog 58 #[.pointer p] w fun e w' => e = .returned (.bool false) ∧ w = w' := by
  rcases h with rfl | ⟨b, rfl, hb⟩
  · go_enter Try.func58, Try.ntmps58
    go_wp2
    go_ret
    exact ⟨rfl, rfl⟩
  · have c0 : w.cell? ⟨b, 0, none⟩ = some (.pointer none) := hb.cell 0
    have hlt := hb.lt
    clear hb
    go_enter Try.func58, Try.ntmps58
    go_wp2
    go_ret
    exact ⟨rfl, rfl⟩
theorem wrong_none {p : Option Addr} {w : World} (h : CNone p w) : Calls Try.prog 59 #[.pointer p] w fun e w' => e = .returned (.int .i64 2) ∧ w = w' := by
  have H := Lib.hid (cmade_none h)
  clear h
  go_enter Try.func59, Try.ntmps59
  go_wp2_with fail
  refine H.out.mono ?_
  rintro e w1 ⟨rfl, rfl⟩
  go_wp2
  go_ret
  exact ⟨rfl, rfl⟩
theorem cstack_none {p : Option Addr} {w : World} (h : CNone p w) : Calls Try.prog 34 #[.pointer p] w fun e w' => e = .returned (.pointer none) ∧ w = w' := by
  have H := Lib.hid (cmade_none h)
  clear h
  go_enter Try.func34, Try.ntmps34
  go_wp2_with fail
  refine H.out.mono ?_
  rintro e w1 ⟨rfl, rfl⟩
  go_wp2
  go_ret
  exact ⟨rfl, rfl⟩
theorem else_none {p : Option Addr} {w : World} (h : CNone p w) : Calls Try.prog 41 #[.pointer p] w fun e w' => e = .returned (.int .i64 2) ∧ w = w' := by
  have H := Lib.hid (wrong_none h)
  clear h
  go_enter Try.func41, Try.ntmps41
  go_wp2_with fail
  refine H.out.mono ?_
  rintro e w1 ⟨rfl, rfl⟩
  go_wp2
  go_ret
  exact ⟨rfl, rfl⟩
theorem leave_none {p : Option Addr} {w : World} (h : CNone p w) : Calls Try.prog 38 #[.pointer p] w fun e w' => e = .returned (.int .i64 2) ∧ w = w' := by
  have H := Lib.hid (wrong_none h)
  clear h
  go_enter Try.func38, Try.ntmps38
  go_wp2_with fail
  refine H.out.mono ?_
  rintro e w1 ⟨rfl, rfl⟩
  go_wp2
  go_ret
  exact ⟨rfl, rfl⟩
theorem label_none {p : Option Addr} {w : World} (h : CNone p w) (n : Int) : Calls Try.prog 42 #[.pointer p, .int .i64 n] w fun e w' => e = .returned (.tuple #[.slice none 0 0, .int .i64 2]) ∧ w = w' := by
  have H := Lib.hid (wrong_none h)
  clear h
  go_enter Try.func42, Try.ntmps42
  go_wp2_with fail
  refine H.out.mono ?_
  rintro e w1 ⟨rfl, rfl⟩
  go_wp2
  go_ret2
  exact ⟨rfl, rfl⟩
theorem return_none {p : Option Addr} {w : World} (h : CNone p w) : Calls Try.prog 43 #[.pointer p] w fun e w' => e = .returned (.slice none 0 0) ∧ w = w' := by
  have H := Lib.hid (wrong_none h)
  clear h
  go_enter Try.func43, Try.ntmps43
  go_wp2_with fail
  refine H.out.mono ?_
  rintro e w1 ⟨rfl, rfl⟩
  go_wp2
  go_ret
  exact ⟨rfl, rfl⟩
theorem depth_none {p : Option Addr} {w : World} (h : CNone p w) : Calls Try.prog 44 #[.pointer p] w fun e w' => e = .returned (.int .i64 0) ∧ w = w' := by
  have H := Lib.hid (wrong_none h)
  clear h
  go_enter Try.func44, Try.ntmps44
  go_wp2_with fail
  refine H.out.mono ?_
  rintro e w1 ⟨rfl, rfl⟩
  go_wp2
  go_ret
  exact ⟨rfl, rfl⟩
theorem clive_none {p : Option Addr} {w : World} (h : CNone p w) : Calls Try.prog 36 #[.pointer p] w fun e w' => e = .returned (.bool false) ∧ w = w' := by
  have H := Lib.hid (wrong_none h)
  clear h
  go_enter Try.func36, Try.ntmps36
  go_wp2_with fail
  refine H.out.mono ?_
  rintro e w1 ⟨rfl, rfl⟩
  go_wp2
  go_ret
  exact ⟨rfl, rfl⟩
theorem done_none {p : Option Addr} {w : World} (h : CNone p w) : Calls Try.prog 40 #[.pointer p] w fun e w' => e = .returned (.bool false) ∧ w = w' := by
  have H := Lib.hid (wrong_none h)
  clear h
  go_enter Try.func40, Try.ntmps40
  go_wp2_with fail
  refine H.out.mono ?_
  rintro e w1 ⟨rfl, rfl⟩
  go_wp2
  go_ret
  exact ⟨rfl, rfl⟩
theorem dead_none {p : Option Addr} {w : World} (h : CNone p w) : Calls Try.prog 37 #[.pointer p] w fun e w' => (∃ v, e = .returned v) ∧ w = w' := by
  have H := Lib.hid (wrong_none h)
  clear h
  go_enter Try.func37, Try.ntmps37
  go_wp2_with fail
  refine H.out.mono ?_
  rintro e w1 ⟨rfl, rfl⟩
  go_wp2
  refine bodyPost_ret (results_none rfl _ _ _) rfl ⟨⟨_, rfl⟩, rfl⟩
theorem enter_none {p : Option Addr} {w : World} (h : CNone p w) (op : Int) (t q : LD) : Calls Try.prog 35 #[.pointer p, .int .i64 op, .agg #[.slice t.a t.l.length t.c, .slice q.a q.l.length q.c]] w fun e w' => e = .returned (.int .i64 2) ∧ Keep w w' := by
  have hk : Keep w (w.alloc (.cells #[.slice t.a t.l.length t.c, .slice q.a q.l.length q.c] 56)) := (Keep.refl _).alloc _
  have H := Lib.hid (wrong_none (h.keep hk))
  clear h
  go_enter Try.func35, Try.ntmps35
  go_wp2_with fail
  refine H.out.mono ?_
  rintro e w1 ⟨rfl, rfl⟩
  go_wp2
  go_ret
  exact ⟨rfl, hk⟩

set_option maxHeartbeats 4000000 in
set_option maxRecDepth 100000 in
theorem ctrlNobody_walk (x : AD) (w : World) (hx : AOk w x) :
    Calls Try.prog 12 #[.agg #[.int .u8 x.kind, .int .i64 x.op, .slice x.p.a x.p.l.length x.p.c, .slice x.q.a x.q.l.length x.q.c, .int .i64 x.n, .slice x.l.a x.l.l.length x.l.c]] w fun e w' => e = .returned (.bool true) ∧ Keep w w' := by
  obtain ⟨wa, hwa⟩ : ∃ wa : World, wa = (w.alloc (.cells (adC x).toArray 79)).alloc (.cells (([x] : List AD).flatMap adC).toArray 79) := ⟨_, rfl⟩
  have hka : Keep w wa := by rw [hwa]; exact ((Keep.refl _).alloc _).alloc _
  have bx : Blk wa w.heap.size 79 (adC x) := by rw [hwa]; exact (Blk.new _ _ _).keep ((Keep.refl _).alloc _)
  have by_ : Blk wa (w.heap.size + 1) 79 (([x] : List AD).flatMap adC) := by
    rw [hwa]
    have := Blk.new (w.alloc (.cells (adC x).toArray 79)) 79 (([x] : List AD).flatMap adC)
    simpa using this
  have hfew := cfew_calls [x] (some ⟨w.heap.size + 1, 0, none⟩) 1 wa (Seg.of_blk by_) (fun a ha => by rw [List.mem_singleton.1 ha]; exact hx.keep hka) (by simp [maxLen])
  cases hfb : cfewB [x]
  · rw [hfb] at hfew
    have Hf := Lib.hid hfew
    have Ha := Lib.hid (calive_calls wa)
    clear hfew hfb hx
    go_enter Try.func12, Try.ntmps12
    go_wp2_with fail
    show Calls Try.prog _ _ ((w.alloc (.cells (adC x).toArray 79)).alloc (.cells (([x] : List AD).flatMap adC).toArray 79)) _
    rw [← hwa]
    clear hwa
    refine Hf.out.mono ?_
    rintro e w2 ⟨rfl, rfl⟩
    go_wp2_with fail
    refine Ha.out.mono ?_
    rintro e w2 ⟨rfl, hk⟩
    go_wp2
    go_ret
    exact ⟨rfl, hka.trans hk⟩
  · rw [hfb] at hfew
    have Hf := Lib.hid hfew
    clear hfew hfb hx by_
    obtain ⟨wb, hwb⟩ : ∃ wb : World, wb = (wa.alloc (.cells czero.toArray 83)).alloc (.cells ([.pointer none, .pointer (some ⟨wa.heap.size, 0, none⟩)] : List Value).toArray 57) := ⟨_, rfl⟩
    have hkb : Keep wa wb := by rw [hwb]; exact ((Keep.refl _).alloc _).alloc _
    have bz : Blk wb wa.heap.size 83 czero := by rw [hwb]; exact (Blk.new _ _ _).keep ((Keep.refl _).alloc _)
    have bl0 : Blk wb (wa.heap.size + 1) 57 [.pointer none, .pointer (some ⟨wa.heap.size, 0, none⟩)] := by
      rw [hwb]
      have := Blk.new (wa.alloc (.cells czero.toArray 83)) 57 ([.pointer none, .pointer (some ⟨wa.heap.size, 0, none⟩)] : List Value)
      simpa using this
    have bxb := bx.keep hkb
    go_enter Try.func12, Try.ntmps12
    go_wp2_with fail
    show Calls Try.prog _ _ ((w.alloc (.cells (adC x).toArray 79)).alloc (.cells (([x] : List AD).flatMap adC).toArray 79)) _
    rw [← hwa]
    clear hwa bx
    refine Hf.out.mono ?_
    rintro e w2 ⟨rfl, rfl⟩
    go_wp2_with fail
    have Hwb := Lib.hid hwb
    obtain ⟨gz, hgz⟩ : ∃ gz, gz = wa.heap.size := ⟨_, rfl⟩
    obtain ⟨ga, hga⟩ : ∃ ga, ga = gz + 1 := ⟨_, rfl⟩
    rw [← hgz] at bz bl0
    rw [← hga] at bl0
    have bx := bxb
    have bl := bl0
    clear bxb bl0 hwb
    go_loopw [5] (fun i wr => ∃ k : Nat, k ≤ 2 ∧ i = .int .i64 k ∧ Keep wb wr) (fun i _ => 2 - (intOf i).toNat)
    case atStart => exact ⟨0, Nat.zero_le _, rfl, by rw [Hwb.out]; exact Keep.refl _⟩
    case round =>
      obtain ⟨k, hk, rfl, hkr⟩ := hrel
      clear Hwb Hf
      rw [← hgz, ← hga]
      clear hgz hga
      rcases (show k = 0 ∨ k = 1 ∨ k = 2 by omega) with rfl | rfl | rfl
      · clear hk
        have b1 : wr.cell? ⟨w.heap.size, 1, none⟩ = some (.int .i64 x.op) := (bx.keep hkr).cell 1
        have b2 : wr.cell? ⟨w.heap.size, 2, none⟩ = some (.slice x.p.a x.p.l.length x.p.c) := (bx.keep hkr).cell 2
        have b3 : wr.cell? ⟨w.heap.size, 3, none⟩ = some (.slice x.q.a x.q.l.length x.q.c) := (bx.keep hkr).cell 3
        have b4 : wr.cell? ⟨w.heap.size, 4, none⟩ = some (.int .i64 x.n) := (bx.keep hkr).cell 4
        have lb := (bx.keep hkr).lt
        have r0 : wr.cell? ⟨ga, 0, none⟩ = some (.pointer none) := (bl.keep hkr).cell 0
        have r1 : wr.cell? ⟨ga, 1, none⟩ = some (.pointer (some ⟨gz, 0, none⟩)) := (bl.keep hkr).cell 1
        have lr := (bl.keep hkr).lt
        have hn : Hid (CNone (none) wr) := Lib.hid (.inl rfl)
        go_wp2_with fail
        refine (dead_none hn.out).mono ?_
        rintro e w1 ⟨⟨u1, rfl⟩, rfl⟩
        go_wp2_with fail
        refine (label_none hn.out x.n).mono ?_
        rintro e w1 ⟨rfl, rfl⟩
        go_wp2_with fail
        refine (enter_none hn.out x.op x.p x.q).mono ?_
        rintro e w1 ⟨rfl, hk1⟩
        have hn1 := Lib.hid (hn.out.keep hk1)
        clear hn b1 b2 b3 b4 lb r0 r1 lr
        go_wp2_with fail
        refine (else_none hn1.out).mono ?_
        rintro e w2 ⟨rfl, rfl⟩
        go_wp2_with fail
        refine (leave_none hn1.out).mono ?_
        rintro e w2 ⟨rfl, rfl⟩
        go_wp2_with fail
        refine (cstack_none hn1.out).mono ?_
        rintro e w2 ⟨rfl, rfl⟩
        go_wp2_with fail
        refine (return_none hn1.out).mono ?_
        rintro e w2 ⟨rfl, rfl⟩
        go_wp2_with fail
        refine (depth_none hn1.out).mono ?_
        rintro e w2 ⟨rfl, rfl⟩
        go_wp2_with fail
        refine (clive_none hn1.out).mono ?_
        rintro e w2 ⟨rfl, rfl⟩
        go_wp2_with fail
        refine (done_none hn1.out).mono ?_
        rintro e w2 ⟨rfl, rfl⟩
        go_wp2
        go_roundw
        case rel => exact ⟨1, by omega, by go_num, hkr.trans hk1⟩
        case measure => simp [intOf]
      · clear hk
        have b1 : wr.cell? ⟨w.heap.size, 1, none⟩ = some (.int .i64 x.op) := (bx.keep hkr).cell 1
        have b2 : wr.cell? ⟨w.heap.size, 2, none⟩ = some (.slice x.p.a x.p.l.length x.p.c) := (bx.keep hkr).cell 2
        have b3 : wr.cell? ⟨w.heap.size, 3, none⟩ = some (.slice x.q.a x.q.l.length x.q.c) := (bx.keep hkr).cell 3
        have b4 : wr.cell? ⟨w.heap.size, 4, none⟩ = some (.int .i64 x.n) := (bx.keep hkr).cell 4
        have lb := (bx.keep hkr).lt
        have r0 : wr.cell? ⟨ga, 0, none⟩ = some (.pointer none) := (bl.keep hkr).cell 0
        have r1 : wr.cell? ⟨ga, 1, none⟩ = some (.pointer (some ⟨gz, 0, none⟩)) := (bl.keep hkr).cell 1
        have lr := (bl.keep hkr).lt
        have hn : Hid (CNone (some ⟨gz, 0, none⟩) wr) := Lib.hid (.inr ⟨gz, rfl, bz.keep hkr⟩)
        go_wp2_with fail
        refine (dead_none hn.out).mono ?_
        rintro e w1 ⟨⟨u1, rfl⟩, rfl⟩
        go_wp2_with fail
        refine (label_none hn.out x.n).mono ?_
        rintro e w1 ⟨rfl, rfl⟩
        go_wp2_with fail
        refine (enter_none hn.out x.op x.p x.q).mono ?_
        rintro e w1 ⟨rfl, hk1⟩
        have hn1 := Lib.hid (hn.out.keep hk1)
        clear hn b1 b2 b3 b4 lb r0 r1 lr
        go_wp2_with fail
        refine (else_none hn1.out).mono ?_
        rintro e w2 ⟨rfl, rfl⟩
        go_wp2_with fail
        refine (leave_none hn1.out).mono ?_
        rintro e w2 ⟨rfl, rfl⟩
        go_wp2_with fail
        refine (cstack_none hn1.out).mono ?_
        rintro e w2 ⟨rfl, rfl⟩
        go_wp2_with fail
        refine (return_none hn1.out).mono ?_
        rintro e w2 ⟨rfl, rfl⟩
        go_wp2_with fail
        refine (depth_none hn1.out).mono ?_
        rintro e w2 ⟨rfl, rfl⟩
        go_wp2_with fail
        refine (clive_none hn1.out).mono ?_
        rintro e w2 ⟨rfl, rfl⟩
        go_wp2_with fail
        refine (done_none hn1.out).mono ?_
        rintro e w2 ⟨rfl, rfl⟩
        go_wp2
        go_roundw
        case rel => exact ⟨2, by omega, by go_num, hkr.trans hk1⟩
        case measure => simp [intOf]
      · have Ha := Lib.hid (calive_calls wr)
        go_wp2_with fail
        refine Ha.out.mono ?_
        rintro e w2 ⟨rfl, hk2⟩
        go_wp2
        go_ret
        exact ⟨rfl, (hka.trans hkb).trans (hkr.trans hk2)⟩
end Go.Proofs.Ytkeefajfndmpeaa

