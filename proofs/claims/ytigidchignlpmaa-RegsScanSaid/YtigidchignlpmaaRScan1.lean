/-
  The state of a scan in memory; giving back registers.
-/
import Derived.Test.YtigidchignlpmaaRMeet
namespace Go.Proofs.Ytigidchignlpmaa
open Go Go.RowKit Rg

def optC : Option Nat → Value
  | none => .int .i64 (-1)
  | some y => .int .i64 (y : Int)
def plC (p : Bool × Nat) : List Value := [.bool p.1, .int .i64 (p.2 : Int)]
def natF (n : Nat) : List Value := [.int .i64 (n : Int)]

theorem ext_one (w : World) (b i : Nat) (u : Value) : Ext (fun k => k = b) w (w.setCell ⟨b, i, none⟩ u) := Ext.setCell (p := ⟨b, i, none⟩) (Ext.refl (fun k => k = b) w) (fun _ => rfl) u

/-- What a scan is about, and where it lies. -/
structure SX where
  w0 : World
  A : Option Addr
  ls : List LvD
  c : Nat
  s0 : Nat
  k : Nat
  q : Nat
  hb : Nat
  gb : Nat
  B1 : Nat
  g : Nat
  ob : Option Obj
abbrev SX.n (X : SX) : Nat := X.ls.length
abbrev SX.B (X : SX) : Nat → Int := BL X.ls
abbrev SX.E (X : SX) : Nat → Int := EL X.ls
structure SX.Ok (X : SX) : Prop where
  lives : Lives X.w0 X.A X.ls
  n60 : X.ls.length ≤ 60
  ne : ∀ x ∈ X.ls, 0 < x.l.length
  s0 : X.s0 ≤ 65536
  k16 : X.k ≤ 16
  q : X.w0.heap.size ≤ X.q ∧ X.q < X.B1
  hb : X.w0.heap.size ≤ X.hb ∧ X.hb < X.B1
  gb : X.w0.heap.size ≤ X.gb ∧ X.gb < X.B1
  g : X.g < X.B1 ∧ X.g ≠ X.q ∧ X.g ≠ X.hb ∧ X.g ≠ X.gb
structure SX.AtV (X : SX) (s : Sc) (m : Nat) (ov : Value) (w : World) : Prop where
  keep : Keep X.w0 w
  bq : Blk w X.q 61 [.slice X.A X.ls.length X.c, .slice (some ⟨X.hb, 0, none⟩) X.k X.k, .slice (some ⟨X.gb, 0, none⟩) X.ls.length X.ls.length, .int .i64 (s.slots : Int), .int .i64 (X.s0 : Int), ov]
  bh : Blk w X.hb 3 (s.held.map optC)
  bg : Blk w X.gb 47 (s.pl.flatMap plC)
  own : Own natF 1 3 w X.B1 ov s.out
  lh : s.held.length = X.k
  lp : s.pl.length = X.ls.length
  hh : ∀ y, some y ∈ s.held → y < X.ls.length
  ho : ∀ y ∈ s.out, y < X.ls.length
  lo : s.out.length ≤ m
  ls : s.slots ≤ X.s0 + m
  b1 : X.B1 ≤ w.heap.size
  og : w.heap[X.g]? = X.ob
def SX.At (X : SX) (s : Sc) (m : Nat) (w : World) : Prop := ∃ ov, X.AtV s m ov w
section
variable {X : SX} {s : Sc} {m : Nat} {ov : Value} {w w' : World}
theorem SX.AtV.keepy (h : X.AtV s m ov w) (hX : X.Ok) (hk : Keep w w') : X.AtV s m ov w' := ⟨h.keep.trans hk, h.bq.keep hk, h.bh.keep hk, h.bg.keep hk, h.own.keep hk, h.lh, h.lp, h.hh, h.ho, h.lo, h.ls, Nat.le_trans h.b1 hk.size, (hk.block _ (Nat.lt_of_lt_of_le hX.g.1 h.b1)).trans h.og⟩
theorem SX.AtV.qh (h : X.AtV s m ov w) : X.q ≠ X.hb := h.bq.ne h.bh (by decide)
theorem SX.AtV.gh (h : X.AtV s m ov w) : X.gb ≠ X.hb := h.bg.ne h.bh (by decide)
theorem SX.AtV.qg (h : X.AtV s m ov w) : X.q ≠ X.gb := h.bq.ne h.bg (by decide)
theorem SX.AtV.held (h : X.AtV s m ov w) {j : Nat} {o : Option Nat} (ho : s.held[j]? = some o) : w.cell? ⟨X.hb, j, none⟩ = some (optC o) := by
  rw [h.bh.cell j, List.getElem?_map, ho]; rfl
theorem SX.AtV.setHeld (h : X.AtV s m ov w) (hX : X.Ok) (i : Nat) (o : Option Nat) (ho : ∀ y, o = some y → y < X.ls.length) :
    X.AtV { s with held := s.held.set i o } m ov (w.setCell ⟨X.hb, i, none⟩ (optC o)) where
  keep := h.keep.setCell (p := ⟨X.hb, i, none⟩) hX.hb.1 _
  bq := h.bq.far (p := ⟨X.hb, i, none⟩) h.qh _
  bh := by
    have := h.bh.set_ i (optC o)
    rw [← List.map_set] at this
    exact this
  bg := h.bg.far (p := ⟨X.hb, i, none⟩) h.gh _
  own := h.own.ext (ext_one w X.hb i (optC o)) (fun k hk e => by
    have := (h.own.lt k hk).1
    have := hX.hb.2
    omega)
  lh := by simp [h.lh]
  lp := h.lp
  hh := fun y hy => by
    rcases List.mem_or_eq_of_mem_set hy with hy | hy
    · exact h.hh y hy
    · exact ho y hy.symm
  ho := h.ho
  lo := h.lo
  ls := h.ls
  b1 := Nat.le_trans h.b1 (ext_one w X.hb i (optC o)).size
  og := (Below.heap_setCell w ⟨X.hb, i, none⟩ _ X.g hX.g.2.2.1).trans h.og
end

/-- The first j given back. -/
def bk (B E : Nat → Int) (x j : Nat) (held : List (Option Nat)) : List (Option Nat) := (held.take j).map (back1 B E x) ++ held.drop j
theorem bk_get {B E : Nat → Int} {x j : Nat} {held : List (Option Nat)} (hj : j ≤ held.length) : (bk B E x j held)[j]? = held[j]? := by
  unfold bk
  rw [List.getElem?_append_right (by simp; omega), List.getElem?_drop]
  simp [Nat.min_eq_left hj]
theorem bk_succ {B E : Nat → Int} {x j : Nat} {held : List (Option Nat)} {o : Option Nat} (hj : held[j]? = some o) : bk B E x (j + 1) held = (bk B E x j held).set j (back1 B E x o) := by
  obtain ⟨hlt, he⟩ := List.getElem?_eq_some_iff.1 hj
  unfold bk
  have hl : ((held.take j).map (back1 B E x)).length = j := by simp; omega
  rw [List.take_add_one, hj, List.map_append, List.set_append_right _ _ (by omega), hl, Nat.sub_self]
  have hd : held.drop j = o :: held.drop (j + 1) := by rw [List.drop_eq_getElem_cons hlt, he]
  rw [hd]; simp
theorem bk_same {B E : Nat → Int} {x j : Nat} {held : List (Option Nat)} {o : Option Nat} (hj : held[j]? = some o) (h : back1 B E x o = o) : bk B E x (j + 1) held = bk B E x j held := by
  rw [bk_succ hj, h]
  have := bk_get (B := B) (E := E) (x := x) (held := held) (j := j) (by have := (List.getElem?_eq_some_iff.1 hj).1; omega)
  rw [hj] at this
  obtain ⟨h1, h2⟩ := List.getElem?_eq_some_iff.1 this
  rw [← h2, List.set_getElem_self]
theorem bk_all {B E : Nat → Int} {x j : Nat} {held : List (Option Nat)} (h : held.length ≤ j) : bk B E x j held = held.map (back1 B E x) := by
  unfold bk
  rw [List.take_of_length_le h, List.drop_eq_nil_of_le h]; simp

set_option maxHeartbeats 2000000 in
set_option maxRecDepth 100000 in
theorem back_calls (X : SX) (hX : X.Ok) (s : Sc) (m x : Nat) (w : World) (h : X.At s m w) (hx : x < X.ls.length) :
    Calls Try.prog 29 #[.pointer (some ⟨X.q, 0, none⟩), .int .i64 (x : Int)] w fun e w' => (∃ v, e = .returned v) ∧ X.At (s.back X.B X.E x) m w' := by
  obtain ⟨ov, h⟩ := h
  obtain ⟨xl, hxl⟩ := get_some hx
  obtain ⟨b, off, hA, _⟩ := hX.lives.get h.keep hxl
  have k16 := hX.k16
  have n60 := hX.n60
  have q1 : w.cell? ⟨X.q, 1, none⟩ = some (.slice (some ⟨X.hb, 0, none⟩) X.k X.k) := h.bq.cell 1
  have lq := h.bq.lt
  have h0 : X.AtV { s with held := bk X.B X.E x 0 s.held } m ov w := by
    have e : bk X.B X.E x 0 s.held = s.held := by simp [bk]
    rw [e]; exact h
  have hlen := h.lh
  clear h
  go_enter Try.func29, Try.ntmps29
  go_wp2
  go_loopw [11] (fun i wr => ∃ j : Nat, j ≤ X.k ∧ i = .int .i64 j ∧ X.AtV { s with held := bk X.B X.E x j s.held } m ov wr) (fun i _ => X.k - (intOf i).toNat)
  case atStart => exact ⟨0, Nat.zero_le _, rfl, h0⟩
  case round =>
    obtain ⟨j, hj, rfl, hat⟩ := hrel
    clear h0 q1 lq
    by_cases hjk : j < X.k
    · obtain ⟨o, ho⟩ := get_some (l := s.held) (k := j) (by omega)
      have ho' : (bk X.B X.E x j s.held)[j]? = some o := by rw [bk_get (by omega)]; exact ho
      have hc := hat.held ho'
      have hjj : (j : Int) < (X.k : Int) := by omega
      have hj0 : (0 : Int) ≤ (j : Int) := by omega
      have lh := hat.bh.lt
      cases o with
      | none =>
        have Hn := Lib.hid (show X.AtV { s with held := bk X.B X.E x (j + 1) s.held } m ov wr by rw [bk_same ho rfl]; exact hat)
        unfold optC at hc
        clear hat ho ho'
        go_wp2_with fail
        refine region_begin (S := fun w' => ∃ y : KW wr, w' = y.val) (by kernel_rfl) ?_
        have hd : Keep wr wr.drew := (Keep.refl _).drew
        refine region_take [0, 1, 2, 3, 4, 5, 6, 7, 8, 9, 11, 12, 13, 14, 15, 16, 17] [] 4 (by kernel_rfl) (by kernel_rfl) (InK.mk' hd) ?_
        show wpQuiet _ _ _ _ [_, _, _, _, _, _, _, _, _, _, _, _, _, _, _, _, _] _
        repeat (go_big_quiet_step (fail))
        refine wpQuiet_nil ?_
        refine region_fix (i := 10) (fuel := 3) rfl (by kernel_rfl) (fun K hK => ?_)
        go_simp
        refine hK _ _ (InK.mk' hd) ?_
        clear hK K
        refine region_fix (i := 18) (fuel := 2) rfl (by kernel_rfl) (fun K hK => ?_)
        go_simp
        refine hK _ _ (InK.mk' hd) ?_
        clear hK K
        refine region_take [19, 20] [0, 1, 2, 3, 4, 5, 6, 7, 8, 9, 11, 12, 13, 14, 15, 16, 17, 10, 18] 0 (by kernel_rfl) (by kernel_rfl) (InK.mk' hd) ?_
        show wpQuiet _ _ _ _ [_, _] _
        repeat (go_big_quiet_step (fail))
        refine wpQuiet_nil ?_
        refine region_done (by kernel_rfl) ?_
        go_wp2
        go_roundw
        case rel => exact ⟨j + 1, hjk, by go_num, Hn.out.keepy hX (Keep.refl _).drew⟩
        case measure => simp [intOf]; omega
      | some y =>
        have hy : y < X.ls.length := hat.hh y (List.mem_of_getElem? ho')
        obtain ⟨yl, hyl⟩ := get_some hy
        obtain ⟨b1, off1, e1, hb1, x0, x1, xok⟩ := hX.lives.get hat.keep hxl
        rw [hA] at e1
        cases e1
        obtain ⟨b2, off2, e2, _, y0, y1, yok⟩ := hX.lives.get hat.keep hyl
        rw [hA] at e2
        cases e2
        have hb := Nat.lt_of_lt_of_le hb1 hat.keep.size
        have q0 : wr.cell? ⟨X.q, 0, none⟩ = some (.slice X.A X.ls.length X.c) := hat.bq.cell 0
        have q1 : wr.cell? ⟨X.q, 1, none⟩ = some (.slice (some ⟨X.hb, 0, none⟩) X.k X.k) := hat.bq.cell 1
        rw [hA] at q0
        have lq := hat.bq.lt
        have fh := hat.bh.frozen j
        have hyy : (y : Int) < (X.ls.length : Int) := by omega
        have hy0 : (0 : Int) ≤ (y : Int) := by omega
        have hxx : (x : Int) < (X.ls.length : Int) := by omega
        have hx0 : (0 : Int) ≤ (x : Int) := by omega
        have hne : ((y : Int) != -1) = true := by rw [bne_iff_ne]; omega
        have hm1 : ¬ (y : Int) = -1 := by omega
        have Hx := Lib.hid (fun (wz : World) (hk : Keep wr wz) => begin_calls xl.val xl.a xl.l xl.c wz (xok.keep hk).seg (hX.ne xl (List.mem_of_getElem? hxl)))
        have Hy := Lib.hid (fun (wz : World) (hk : Keep wr wz) => end_calls yl.val yl.a yl.l yl.c wz (yok.keep hk).seg (hX.ne yl (List.mem_of_getElem? hyl)) yok.len)
        have Ex := Lib.hid (BL_get hxl)
        have Ey := Lib.hid (EL_get hyl)
        have Hn := Lib.hid (fun (hle : fin yl.l ≤ bgn xl.l) (wz : World) (hk : Keep wr wz) => (show X.AtV { s with held := bk X.B X.E x (j + 1) s.held } m ov (wz.setCell ⟨X.hb, j, none⟩ (.int .i64 (-1))) by
          rw [bk_succ ho]
          have e9 : back1 X.B X.E x (some y) = none := by
            unfold back1; simp only [SX.B, SX.E, Ex.out, Ey.out]; rw [if_pos hle]
          rw [e9]
          exact (hat.keepy hX hk).setHeld hX j none (fun y hy => by cases hy)))
        have Hs := Lib.hid (fun (hle : ¬ fin yl.l ≤ bgn xl.l) (wz : World) (hk : Keep wr wz) => (show X.AtV { s with held := bk X.B X.E x (j + 1) s.held } m ov wz by
          rw [bk_same ho (by unfold back1; simp only [SX.B, SX.E, Ex.out, Ey.out]; rw [if_neg hle])]
          exact hat.keepy hX hk))
        have kx0 := fun y : KW wr => y.cell x0
        have kx1 := fun y : KW wr => y.cell x1
        have ky0 := fun y : KW wr => y.cell y0
        have ky1 := fun y : KW wr => y.cell y1
        have kq0 := fun y : KW wr => y.cell q0
        have hd : Keep wr wr.drew := (Keep.refl _).drew
        unfold optC at hc
        clear xok yok hat ho ho'
        go_wp2_with fail
        refine region_begin (S := fun w' => ∃ y : KW wr, w' = y.val) (by kernel_rfl) ?_
        refine region_take [0, 1, 2, 3, 4, 5, 6, 7, 8, 9, 11, 12, 13, 14, 15, 16, 17] [] 4 (by kernel_rfl) (by kernel_rfl) (InK.mk' hd) ?_
        show wpQuiet _ _ _ _ [_, _, _, _, _, _, _, _, _, _, _, _, _, _, _, _, _] _
        repeat (go_big_quiet_step (fail))
        refine wpQuiet_nil ?_
        refine region_fix (i := 10) (fuel := 3) rfl (by kernel_rfl) (fun K hK => ?_)
        go_simp
        refine (Hy.out _ hd).mono ?_
        rintro e w1 ⟨rfl, k1'⟩
        have k1 := hd.trans k1'
        refine hK _ _ (InK.mk' k1) ?_
        clear hK K
        refine region_fix (i := 18) (fuel := 2) rfl (by kernel_rfl) (fun K hK => ?_)
        go_simp
        refine (Hx.out _ k1).mono ?_
        rintro e w2 ⟨rfl, k2'⟩
        have k2 := k1.trans k2'
        refine hK _ _ (InK.mk' k2) ?_
        clear hK K
        refine region_take [19, 20] [0, 1, 2, 3, 4, 5, 6, 7, 8, 9, 11, 12, 13, 14, 15, 16, 17, 10, 18] 0 (by kernel_rfl) (by kernel_rfl) (InK.mk' k2) ?_
        show wpQuiet _ _ _ _ [_, _] _
        repeat (go_big_quiet_step (fail))
        refine wpQuiet_nil ?_
        refine region_done (by kernel_rfl) ?_
        have hc2 := k2.cell hc
        have q12 := k2.cell q1
        have fh2 : w2.frozen? ⟨X.hb, j, none⟩ = false := by rw [show w2.frozen? ⟨X.hb, j, none⟩ = wr.frozen? ⟨X.hb, j, none⟩ from by unfold World.frozen?; rw [k2.block _ lh]]; exact fh
        have lh2 := Nat.lt_of_lt_of_le lh k2.size
        have lq2 := Nat.lt_of_lt_of_le lq k2.size
        by_cases hle : fin yl.l ≤ bgn xl.l
        · have Hz := Lib.hid (Hn.out hle w2 k2)
          clear Hn Hs
          go_wp2
          go_roundw
          case rel => exact ⟨j + 1, hjk, by go_num, Hz.out⟩
          case measure => simp [intOf]; omega
        · have Hz := Lib.hid (Hs.out (by omega) w2 k2)
          clear Hn Hs
          go_wp2
          go_roundw
          case rel => exact ⟨j + 1, hjk, by go_num, Hz.out⟩
          case measure => simp [intOf]; omega
    · have Hend := Lib.hid (show X.At (s.back X.B X.E x) m wr from ⟨ov, by
        unfold Sc.back
        rw [← bk_all (j := j) (by omega)]
        exact hat⟩)
      clear hat
      go_wp2
      refine bodyPost_end (results_none rfl _ _ _) rfl ⟨⟨_, rfl⟩, Hend.out⟩
end Go.Proofs.Ytigidchignlpmaa
