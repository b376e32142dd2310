/-
  A State in the hands of a law; calls on its operand stack; plain steps.
-/
import Derived.Test.YtkeefajfndmpeaaCBase
namespace Go.Proofs.Ytkeefajfndmpeaa
open Go Go.RowKit

/-! ### Plain: what was pushed is popped, whether there were too many types or not -/
namespace Stk
def ov (s : Stk) (o : Bool) : Stk := { s with over := o }
theorem ov_self (s : Stk) : s.ov s.over = s := rfl
theorem ov_ov (s : Stk) (o o' : Bool) : (s.ov o).ov o' = s.ov o' := rfl
theorem ov_opened (s : Stk) (o : Bool) : (s.ov o).opened = s.opened.ov o := rfl
theorem ov_loosen (s : Stk) (o : Bool) : (s.ov o).loosen = s.loosen.ov o := rfl
theorem ov_push (s : Stk) (o : Bool) (l : List Int) : (s.ov o).push l = (s.push l).ov ((s.ov o).push l).over := rfl
theorem ov_T (s : Stk) (o : Bool) : (s.ov o).T = s.T := rfl
theorem ov_P (s : Stk) (o : Bool) : (s.ov o).P = s.P := rfl
theorem ov_at (s : Stk) (o : Bool) : (s.ov o).at_ = s.at_ := rfl
theorem Ok.ov {s : Stk} (h : s.Ok) (o : Bool) : (s.ov o).Ok := ⟨h.le, h.below, h.chain, h.first⟩
theorem ov_steps (s : Stk) (o : Bool) : ∀ (l : List Int) (n : Nat), (s.ov o).steps l n = s.steps l n
  | [], n => rfl
  | x :: r, n => by
    simp only [steps]
    have : (s.ov o).step x n = s.step x n := rfl
    rw [this]
    cases s.step x n with
    | ok m => exact ov_steps s o r m
    | error e => rfl
theorem ov_left (s : Stk) (o : Bool) (l : List Int) : (s.ov o).left l = s.left l := by
  unfold left
  rw [ov_steps]
  rfl
theorem steps_back' (s : Stk) : ∀ (r T0 rest : List Int), s.T = T0 ++ r.reverse ++ rest → s.at_ ≤ T0.length → s.steps r (T0.length + r.length) = .ok T0.length
  | [], T0, rest, _, _ => rfl
  | x :: r, T0, rest, hT, hat => by
    have h1 := steps_back' s r T0 (x :: rest) (by rw [hT]; simp) hat
    have hst : s.step x (T0.length + (x :: r).length) = .ok (T0.length + r.length) := by
      unfold step
      rw [if_neg (by simp; omega)]
      have hg : s.T.getD (T0.length + (x :: r).length - 1) 0 = x := by
        rw [hT, List.getD_eq_getElem?_getD, show T0 ++ (x :: r).reverse ++ rest = (T0 ++ r.reverse) ++ (x :: rest) by simp, List.getElem?_append_right (by simp)]
        simp
      rw [hg, if_neg (fun h => h.1 rfl)]
      congr 1
    simp only [steps]
    rw [hst]
    exact h1
theorem left_pushed (s : Stk) (l : List Int) (h : s.Ok) : (s.push l).left l = (s.T.length, 0) := by
  have h1 := steps_back' (s.push l) l.reverse s.T [] (by simp [push]) h.le
  unfold left
  rw [List.length_reverse] at h1
  rw [push_len, h1]
/-- What was just pushed is wanted. -/
theorem want_pushed (s : Stk) (l : List Int) (o : Bool) (h : s.Ok) : ((s.push l).ov o).want l = (s.ov o, 0) := by
  unfold want
  rw [ov_left, left_pushed s l h]
  simp [cut, push, ov]
/-- A part that holds just what was pushed is shut. -/
theorem shut_pushed (s : Stk) (l : List Int) (o : Bool) (h : s.Ok) : ((s.opened.push l).ov o).shut l = (s.ov o, 0) := by
  unfold shut
  rw [ov_left, left_pushed s.opened l h.opened]
  simp only [if_pos]
  have h1 : ¬ ((s.opened.push l).ov o).at_ < s.opened.T.length := by show ¬ s.T.length < s.T.length; omega
  rw [if_neg h1]
  have h2 : (((s.opened.push l).ov o).cut s.opened.T.length).B = s.B ++ [(s.at_, s.loose)] := rfl
  rw [outer_some h2]
  simp [cut, push, opened, ov]
theorem loosen_steps (s : Stk) : ∀ (l : List Int), s.loosen.steps l s.at_ = .ok s.at_
  | [] => rfl
  | x :: r => by
    simp only [steps]
    have : s.loosen.step x s.at_ = .ok s.at_ := by
      unfold step
      rw [if_pos (show s.at_ = s.loosen.at_ from rfl)]
      rfl
    rw [this]
    exact loosen_steps s r
theorem loosen_left (s : Stk) (h : s.Ok) (l : List Int) : s.loosen.left l = (s.at_, 0) := by
  have hl : s.loosen.T.length = s.at_ := by have := h.le; simp [loosen, cut]; omega
  unfold left
  rw [hl, loosen_steps]
/-- Behind Loose anything is wanted. -/
theorem want_loosen (s : Stk) (l : List Int) (o : Bool) (h : s.Ok) : ((s.loosen).ov o).want l = (s.loosen.ov o, 0) := by
  unfold want
  rw [ov_left, loosen_left s h]
  simp [cut, loosen, ov, List.take_take]
theorem shut_loosen (s : Stk) (l : List Int) (o : Bool) (h : s.Ok) : ((s.opened.loosen).ov o).shut l = (s.ov o, 0) := by
  unfold shut
  rw [ov_left, loosen_left s.opened h.opened]
  simp only [if_pos]
  have h1 : ¬ ((s.opened.loosen).ov o).at_ < s.opened.at_ := by show ¬ s.T.length < s.T.length; omega
  rw [if_neg h1]
  have h2 : (((s.opened.loosen).ov o).cut s.opened.at_).B = s.B ++ [(s.at_, s.loose)] := rfl
  rw [outer_some h2]
  simp [cut, loosen, opened, ov]
theorem loosen_pushed (s : Stk) (l : List Int) (o : Bool) : ((s.opened.push l).ov o).loosen = s.opened.loosen.ov o := by
  simp [loosen, cut, opened, push, ov]
theorem opened_P (s : Stk) : s.opened.P.length = s.P.length + 1 := (opened_len s).2
theorem loosen_P (s : Stk) : s.loosen.P.length = s.P.length := (loosen_le s).2
end Stk

/-- How many types and parts at most. -/
structure Sz (s : Stk) (n m : Nat) : Prop where
  T : s.T.length ≤ n
  P : s.P.length ≤ m
theorem Sz.fresh : Sz Stk.fresh 0 1 := ⟨Nat.le_refl _, Nat.le_refl _⟩
theorem Sz.ov {s : Stk} {n m : Nat} (h : Sz s n m) {o : Bool} : Sz (s.ov o) n m := ⟨h.T, h.P⟩
theorem Sz.push {s : Stk} {n m : Nat} {l : List Int} (h : Sz s n m) : Sz (s.push l) (n + l.length) m := ⟨by rw [Stk.push_len]; have := h.T; omega, h.P⟩
theorem Sz.opened {s : Stk} {n m : Nat} (h : Sz s n m) : Sz s.opened n (m + 1) := ⟨h.T, by rw [Stk.opened_P]; have := h.P; omega⟩
theorem Sz.loosen {s : Stk} {n m : Nat} (h : Sz s n m) : Sz s.loosen n m := ⟨Nat.le_trans (Stk.loosen_le s).1 h.T, by rw [Stk.loosen_P]; exact h.P⟩
theorem Sz.t {s : Stk} {n m N : Nat} (h : Sz s n m) (hn : n ≤ N) : s.T.length ≤ N := Nat.le_trans h.T hn
theorem Sz.tl {s : Stk} {n m N k : Nat} (h : Sz s n m) (hn : n + k ≤ N) : s.T.length + k ≤ N := by have := h.T; omega
theorem Sz.p {s : Stk} {n m N : Nat} (h : Sz s n m) (hn : m ≤ N) : s.P.length ≤ N := Nat.le_trans h.P hn

namespace Ctl
theorem enter_pushed (t : Stk) (o : Bool) (ht : t.Ok) (bs : List PB) (res : List Int) (live : Bool) (op : Int) (p r : List Int) (hop : op = 2 ∨ op = 3) (hbs : bs ≠ []) :
    (Ctl.mk ((t.push p).ov o) bs res live 0).enter op p r = (⟨((t.ov o).opened.push p), bs ++ [⟨op, p, r, false, live⟩], res, live, 0⟩, 0) := by
  unfold enter
  rw [if_neg (by simp), if_neg (by rcases hop with rfl | rfl <;> decide), if_neg hbs, if_neg (by rcases hop with rfl | rfl <;> decide)]
  unfold enter2
  rw [t.want_pushed p o ht, if_pos rfl]
  rfl
theorem enter_loosen (t : Stk) (o : Bool) (ht : t.Ok) (bs : List PB) (res : List Int) (live : Bool) (op : Int) (p r : List Int) (hop : op = 2 ∨ op = 3) (hbs : bs ≠ []) :
    (Ctl.mk (t.loosen.ov o) bs res live 0).enter op p r = (⟨((t.loosen.ov o).opened.push p), bs ++ [⟨op, p, r, false, live⟩], res, live, 0⟩, 0) := by
  unfold enter
  rw [if_neg (by simp), if_neg (by rcases hop with rfl | rfl <;> decide), if_neg hbs, if_neg (by rcases hop with rfl | rfl <;> decide)]
  unfold enter2
  rw [t.want_loosen p o ht, if_pos rfl]
  rfl
theorem enter_cond (t : Stk) (o : Bool) (ht : t.Ok) (bs : List PB) (res : List Int) (live : Bool) (p r : List Int) (hbs : bs ≠ []) :
    (Ctl.mk (((t.push p).push [1]).ov o) bs res live 0).enter 4 p r = (⟨((t.ov o).opened.push p), bs ++ [⟨4, p, r, false, live⟩], res, live, 0⟩, 0) := by
  unfold enter
  rw [if_neg (by simp), if_neg (by decide), if_neg hbs, if_pos rfl]
  simp only
  rw [(t.push p).want_pushed [1] o (ht.push p), if_pos rfl]
  unfold enter2
  simp only
  rw [t.want_pushed p o ht, if_pos rfl]
  rfl
theorem top_snoc (s : Stk) (bs : List PB) (b : PB) (res : List Int) (live : Bool) (e : Int) : (Ctl.mk s (bs ++ [b]) res live e).top = b := by simp [top]
/-- A frame that holds just its results is left. -/
theorem leave_pushed (t : Stk) (o : Bool) (ht : t.Ok) (bs : List PB) (b : PB) (res : List Int) (live : Bool) (hb : ¬ (b.kind = 4 ∧ b.other = false ∧ b.p ≠ b.r)) :
    (Ctl.mk ((t.opened.push b.r).ov o) (bs ++ [b]) res live 0).leave = (⟨(t.ov o).push b.r, bs, res, b.live, 0⟩, 0) := by
  unfold leave
  rw [if_neg (by simp), if_neg (by simp), top_snoc]
  simp only
  rw [t.shut_pushed b.r o ht, if_pos rfl, if_neg hb]
  simp
theorem leave_loosen (t : Stk) (o : Bool) (ht : t.Ok) (bs : List PB) (b : PB) (res : List Int) (live : Bool) (hb : ¬ (b.kind = 4 ∧ b.other = false ∧ b.p ≠ b.r)) :
    (Ctl.mk ((t.opened.loosen).ov o) (bs ++ [b]) res live 0).leave = (⟨(t.ov o).push b.r, bs, res, b.live, 0⟩, 0) := by
  unfold leave
  rw [if_neg (by simp), if_neg (by simp), top_snoc]
  simp only
  rw [t.shut_loosen b.r o ht, if_pos rfl, if_neg hb]
  simp
theorem leave_if (t : Stk) (o : Bool) (ht : t.Ok) (bs : List PB) (b : PB) (res : List Int) (live : Bool) (hb : b.kind = 4 ∧ b.other = false ∧ b.p ≠ b.r) :
    (Ctl.mk ((t.opened.push b.r).ov o) (bs ++ [b]) res live 0).leave = (⟨t.ov o, bs, res, live, 12⟩, 12) := by
  unfold leave
  rw [if_neg (by simp), if_neg (by simp), top_snoc]
  simp only
  rw [t.shut_pushed b.r o ht, if_pos rfl, if_pos hb]
  simp [broke]
theorem else_pushed (t : Stk) (o : Bool) (ht : t.Ok) (bs : List PB) (b : PB) (res : List Int) (live : Bool) (hb : b.kind = 4) (ho : b.other = false) :
    (Ctl.mk ((t.opened.push b.r).ov o) (bs ++ [b]) res live 0).els = (⟨((t.ov o).opened.push b.p), bs ++ [{ b with other := true }], res, b.live, 0⟩, 0) := by
  unfold els
  rw [if_neg (by simp), if_neg (by simp), top_snoc, if_neg (by simp [hb, ho])]
  simp only
  rw [t.shut_pushed b.r o ht, if_pos rfl]
  simp [begin_]
end Ctl

/-! ### Calls on the operand stack of a State -/
section
variable {F : Nat → Prop} {w : World} {b bst : Nat} {c : Ctl}
theorem CAt.stackLeft {F : Nat → Prop} {w w' : World} {b bst : Nat} {c : Ctl} {F1 : Nat → Prop} {vb : Value} {bds : List BD} {rd : LD} (h : CP F F1 w b bst c.s vb bds rd c.live c.broken) (hb : bds.map BD.plain = c.bs) (hr : rd.l = c.res) {s' : Stk} (hl : Left F1 w bst s' w') : CLeft F w b bst { c with s := s' } w' := by
  obtain ⟨F', F1', h', hE, hF⟩ := h.stack hl
  exact CLeft.mk hE hF h' hb hr
theorem cs_stack (h : CAt F w b bst c) : Calls Try.prog 34 #[.pointer (some ⟨b, 0, none⟩)] w fun e w' => e = .returned (.pointer (some ⟨bst, 0, none⟩)) ∧ w = w' := by
  obtain ⟨F1, vb, bds, rd, h, hb, hr⟩ := h
  exact stackOf_calls h
theorem cs_push (h : CAt F w b bst c) (l : List Int) (A : Option Addr) (cc : Nat) (hs : Seg w A (l.flatMap valC)) (hn : c.s.T.length + l.length ≤ 1000000) :
    Calls Try.prog 20 #[.pointer (some ⟨bst, 0, none⟩), .slice A l.length cc] w fun e w' => (∃ v, e = .returned v) ∧ CLeft F w b bst { c with s := c.s.push l } w' := by
  obtain ⟨F1, vb, bds, rd, h, hb, hr⟩ := h
  exact (push_calls h.st l A cc hs hn).mono fun e w' ⟨h1, h2⟩ => ⟨h1, CAt.stackLeft h hb hr h2⟩
theorem cs_want (h : CAt F w b bst c) (hok : c.s.Ok) (l : List Int) (A : Option Addr) (cc : Nat) (hs : Seg w A (l.flatMap valC)) (hn : c.s.T.length ≤ 1000000) (hm : c.s.P.length ≤ 1000000) (hl : l.length ≤ 1000000) :
    Calls Try.prog 22 #[.pointer (some ⟨bst, 0, none⟩), .slice A l.length cc] w fun e w' => e = .returned (.int .i64 (c.s.want l).2) ∧ CLeft F w b bst { c with s := (c.s.want l).1 } w' := by
  obtain ⟨F1, vb, bds, rd, h, hb, hr⟩ := h
  exact (want_calls h.st hok l A cc hs hn hm hl).mono fun e w' ⟨h1, h2⟩ => ⟨h1, CAt.stackLeft h hb hr h2⟩
theorem cs_pop (h : CAt F w b bst c) (hok : c.s.Ok) (hn : c.s.T.length ≤ 1000000) (hm : c.s.P.length ≤ 1000000) :
    Calls Try.prog 26 #[.pointer (some ⟨bst, 0, none⟩)] w fun e w' => e = .returned (.tuple #[.int .i64 c.s.pop.2.1, .int .i64 c.s.pop.2.2]) ∧ CLeft F w b bst { c with s := c.s.pop.1 } w' := by
  obtain ⟨F1, vb, bds, rd, h, hb, hr⟩ := h
  exact (pop_calls h.st hok hn hm).mono fun e w' ⟨h1, h2⟩ => ⟨h1, CAt.stackLeft h hb hr h2⟩
theorem cs_all (h : CAt F w b bst c) (hn : c.s.T.length ≤ 1000000) :
    Calls Try.prog 18 #[.pointer (some ⟨bst, 0, none⟩)] w fun e w' => ∃ v, e = .returned v ∧ Own valC 1 45 w' w.heap.size v c.s.T ∧ Keep w w' := by
  obtain ⟨F1, vb, bds, rd, h, hb, hr⟩ := h
  exact all_calls h.st hn
theorem cs_mark (h : CAt F w b bst c) (hm : c.s.P.length ≤ 1000000) :
    Calls Try.prog 19 #[.pointer (some ⟨bst, 0, none⟩)] w fun e w' => e = .returned (.int .i64 (c.s.at_ : Int)) ∧ Keep w w' := by
  obtain ⟨F1, vb, bds, rd, h, hb, hr⟩ := h
  exact mark_calls h.st hm
theorem cs_len (h : CAt F w b bst c) :
    Calls Try.prog 21 #[.pointer (some ⟨bst, 0, none⟩)] w fun e w' => e = .returned (.int .i64 (c.s.T.length : Int)) ∧ w = w' := by
  obtain ⟨F1, vb, bds, rd, h, hb, hr⟩ := h
  exact len_calls h.st
end

/-- A State that a call which began in w0 has made. -/
def CLive (w0 : World) (b bst : Nat) (c : Ctl) (w : World) : Prop := ∃ F, Keep w0 w ∧ CAt F w b bst c ∧ ∀ k, F k → w0.heap.size ≤ k
theorem CLive.keep0 {w0 w : World} {b bst : Nat} {c : Ctl} (h : CLive w0 b bst c w) : Keep w0 w := by obtain ⟨F, h, _⟩ := h; exact h
theorem CLive.keep {w0 w w' : World} {b bst : Nat} {c : Ctl} (h : CLive w0 b bst c w) (hk : Keep w w') : CLive w0 b bst c w' := by
  obtain ⟨F, h1, h2, h3⟩ := h
  exact ⟨F, h1.trans hk, h2.keep hk, h3⟩
theorem CLive.left {w0 w w' : World} {F : Nat → Prop} {b bst : Nat} {c' : Ctl} (h1 : Keep w0 w) (h3 : ∀ k, F k → w0.heap.size ≤ k) (hl : CLeft F w b bst c' w') : CLive w0 b bst c' w' := by
  obtain ⟨hE, F', hF, h2⟩ := hl
  refine ⟨F', ⟨hE.os.trans h1.os, hE.tape.trans h1.tape, hE.output.trans h1.output, Nat.le_trans h1.size hE.size, fun k hk => (hE.block k (Nat.lt_of_lt_of_le hk h1.size) (fun hf => by have := h3 k hf; omega)).trans (h1.block k hk)⟩, h2, fun k hk => (hF k hk).elim (h3 k) (fun h4 => Nat.le_trans h1.size h4)⟩
/-- A contract on a State, for one in the hands of a law. -/
theorem CLive.call {w0 w : World} {b bst : Nat} {c : Ctl} (h : CLive w0 b bst c w) {f : Nat} {args : Array Value} {R : Ending → Prop} {c' : Ctl} (hc : ∀ F, CAt F w b bst c → (∀ k, F k → w0.heap.size ≤ k) → Calls Try.prog f args w fun e w' => R e ∧ CLeft F w b bst c' w') :
    Calls Try.prog f args w fun e w' => R e ∧ CLive w0 b bst c' w' := by
  obtain ⟨F, h1, h2, h3⟩ := h
  exact (hc F h2 h3).mono fun e w' ⟨h4, h5⟩ => ⟨h4, CLive.left h1 h3 h5⟩
/-- A list that was there before the State. -/
theorem LD.Ok.old {w0 w : World} {F : Nat → Prop} {x : LD} (hs : Seg w0 x.a (x.l.flatMap valC)) (hk : Keep w0 w) (h3 : ∀ k, F k → w0.heap.size ≤ k) : x.Ok F w :=
  ⟨hs.keep hk, fun h0 ad ha hf => by have := hs.blk_lt h0 ha; have := h3 _ hf; omega⟩
end Go.Proofs.Ytkeefajfndmpeaa
