/-
  Spilling one.
-/
import Derived.Test.YtigidchignlpmaaRScan2
namespace Go.Proofs.Ytigidchignlpmaa
open Go Go.RowKit Rg

theorem pl_set : ∀ (l : List (Bool × Nat)) (x : Nat) (p : Bool × Nat), (l.set x p).flatMap plC = ((l.flatMap plC).set (x * 2) (.bool p.1)).set (x * 2 + 1) (.int .i64 (p.2 : Int))
  | [], _, _ => by simp
  | a :: l, 0, p => by simp [plC]
  | a :: l, x + 1, p => by
    have := pl_set l x p
    rw [List.set_cons_succ, List.flatMap_cons, List.flatMap_cons, this, show (x + 1) * 2 = x * 2 + 2 by omega]
    simp [plC]

theorem elN : ElT Try.prog 59 3 1 8 natF where
  slice := Try.underlying59
  info := info_of (z := .int .i64 0) (by kernel_rfl) rfl
  pos := by omega
  len := fun _ => rfl
  one := fun x u hu => by simp [natF] at hu; subst hu; rfl

section
variable {X : SX} {s : Sc} {m : Nat} {ov : Value} {w w' : World}
theorem SX.AtV.setPl (h : X.AtV s m ov w) (hX : X.Ok) (x : Nat) (p : Bool × Nat) :
    X.AtV { s with pl := s.pl.set x p } m ov ((w.setCell ⟨X.gb, x * 2, none⟩ (.bool p.1)).setCell ⟨X.gb, x * 2 + 1, none⟩ (.int .i64 (p.2 : Int))) where
  keep := (h.keep.setCell (p := ⟨X.gb, x * 2, none⟩) hX.gb.1 _).setCell (p := ⟨X.gb, x * 2 + 1, none⟩) hX.gb.1 _
  bq := (h.bq.far (p := ⟨X.gb, x * 2, none⟩) h.qg _).far (p := ⟨X.gb, x * 2 + 1, none⟩) h.qg _
  bh := (h.bh.far (p := ⟨X.gb, x * 2, none⟩) (Ne.symm h.gh) _).far (p := ⟨X.gb, x * 2 + 1, none⟩) (Ne.symm h.gh) _
  bg := by
    have := (h.bg.set_ (x * 2) (.bool p.1)).set_ (x * 2 + 1) (.int .i64 (p.2 : Int))
    rw [← pl_set] at this
    exact this
  own := (h.own.ext (ext_one w X.gb (x * 2) (.bool p.1)) (fun k hk e => by
    have := (h.own.lt k hk).1
    have := hX.gb.2
    omega)).ext (ext_one _ X.gb (x * 2 + 1) (.int .i64 (p.2 : Int))) (fun k hk e => by
    have := (h.own.lt k hk).1
    have := hX.gb.2
    omega)
  lh := h.lh
  lp := by simp [h.lp]
  hh := h.hh
  ho := h.ho
  lo := h.lo
  ls := h.ls
  b1 := Nat.le_trans (Nat.le_trans h.b1 (ext_one w X.gb (x * 2) (.bool p.1)).size) (ext_one _ X.gb (x * 2 + 1) (.int .i64 (p.2 : Int))).size
  og := (Below.heap_setCell _ ⟨X.gb, x * 2 + 1, none⟩ _ X.g hX.g.2.2.2).trans ((Below.heap_setCell w ⟨X.gb, x * 2, none⟩ _ X.g hX.g.2.2.2).trans h.og)
theorem SX.AtV.setSlots (h : X.AtV s m ov w) (hX : X.Ok) (v : Nat) (hv : v ≤ X.s0 + m) : X.AtV { s with slots := v } m ov (w.setCell ⟨X.q, 3, none⟩ (.int .i64 (v : Int))) where
  keep := h.keep.setCell (p := ⟨X.q, 3, none⟩) hX.q.1 _
  bq := h.bq.set_ 3 (.int .i64 (v : Int))
  bh := h.bh.far (p := ⟨X.q, 3, none⟩) (Ne.symm h.qh) _
  bg := h.bg.far (p := ⟨X.q, 3, none⟩) (Ne.symm h.qg) _
  own := h.own.ext (ext_one w X.q 3 (.int .i64 (v : Int))) (fun k hk e => by
    have := (h.own.lt k hk).1
    have := hX.q.2
    omega)
  lh := h.lh
  lp := h.lp
  hh := h.hh
  ho := h.ho
  lo := h.lo
  ls := hv
  b1 := Nat.le_trans h.b1 (ext_one w X.q 3 (.int .i64 (v : Int))).size
  og := (Below.heap_setCell w ⟨X.q, 3, none⟩ _ X.g hX.g.2.1).trans h.og
theorem SX.AtV.push (h : X.AtV s m ov w) (hX : X.Ok) {x : Nat} (hx : x < X.ls.length) {ov2 : Value} {w2 : World} (hE : Ext (fun k => ov.ownBlock = some k) w w2) (ho : Own natF 1 3 w2 X.B1 ov2 (s.out ++ [x])) :
    X.AtV { s with out := s.out ++ [x] } (m + 1) ov2 (w2.setCell ⟨X.q, 5, none⟩ ov2) := by
  have hlt := fun k hk => (h.own.lt k hk).1
  have nq : ¬ ov.ownBlock = some X.q := fun e => by have := hlt _ e; have := hX.q.2; omega
  have nh : ¬ ov.ownBlock = some X.hb := fun e => by have := hlt _ e; have := hX.hb.2; omega
  have ng : ¬ ov.ownBlock = some X.gb := fun e => by have := hlt _ e; have := hX.gb.2; omega
  exact {
    keep := (Below.trans h.keep (hE.below h.keep.size (fun k hk e => by have := hlt _ e; have := hX.q.2; have := hX.q.1; omega))).setCell (p := ⟨X.q, 5, none⟩) hX.q.1 _
    bq := (h.bq.ext hE nq).set_ 5 ov2
    bh := (h.bh.ext hE nh).far (p := ⟨X.q, 5, none⟩) (Ne.symm h.qh) _
    bg := (h.bg.ext hE ng).far (p := ⟨X.q, 5, none⟩) (Ne.symm h.qg) _
    own := ho.ext (ext_one w2 X.q 5 ov2) (fun k hk e => by
      have := (ho.lt k hk).1
      have := hX.q.2
      omega)
    lh := h.lh
    lp := h.lp
    hh := h.hh
    ho := fun y hy => by
      rcases List.mem_append.1 hy with hy | hy
      · exact h.ho y hy
      · rw [List.mem_singleton.1 hy]; exact hx
    lo := by have := h.lo; simp; omega
    ls := by have := h.ls; show s.slots ≤ X.s0 + (m + 1); omega
    b1 := Nat.le_trans (Nat.le_trans h.b1 hE.size) (ext_one w2 X.q 5 ov2).size
    og := (Below.heap_setCell w2 ⟨X.q, 5, none⟩ _ X.g hX.g.2.1).trans ((hE.block X.g (Nat.lt_of_lt_of_le hX.g.1 h.b1) (fun e => by have := hlt _ e; have := hX.g.1; omega)).trans h.og) }
end

section
variable {B E : Nat → Int} {s0 : Nat} {s : Sc} {x nn : Nat}
theorem slot_here (h1 : s0 ≤ nn) (h : ∀ m, s0 ≤ m → m < nn → s.taken B E x m = true) (h0 : s.taken B E x nn = false) : s.slot B E s0 x = nn := by
  obtain ⟨a, _, b, c⟩ := Sc.slot_spec B E s0 s x
  exact freeSlot_unique a h1 b h0 c h
theorem slot_next (_h1 : s0 ≤ nn) (h : ∀ m, s0 ≤ m → m < nn → s.taken B E x m = true) (h0 : s.taken B E x nn = true) : nn + 1 ≤ s0 + s.out.length := by
  obtain ⟨a, c, b, _⟩ := Sc.slot_spec B E s0 s x
  have h2 : s.slot B E s0 x ≠ nn := fun e => by rw [e, h0] at b; cases b
  have h3 : ¬ s.slot B E s0 x < nn := fun e => by rw [h _ a e] at b; cases b
  omega
end

/-- What a block's cell holds, as a number. -/
def numAt (w : World) (p : Addr) : Nat := match w.cell? p with
  | some v => (intOf v).toNat
  | none => 0
theorem numAt_of {w : World} {p : Addr} {n : Nat} (h : w.cell? p = some (.int .i64 (n : Int))) : numAt w p = n := by
  unfold numAt; rw [h]; simp [intOf]

set_option maxHeartbeats 4000000 in
set_option maxRecDepth 100000 in
theorem spill_calls (X : SX) (hX : X.Ok) (s : Sc) (m x : Nat) (w : World) (h : X.At s m w) (hx : x < X.ls.length) (hm : m ≤ 60) :
    Calls Try.prog 39 #[.pointer (some ⟨X.q, 0, none⟩), .int .i64 (x : Int)] w fun e w' => (∃ v, e = .returned v) ∧ X.At (s.spill X.B X.E X.s0 x) (m + 1) w' := by
  obtain ⟨ov, h⟩ := h
  obtain ⟨A1, c1, rfl, _, _⟩ := h.own.form
  have hs0 := hX.s0
  have n60 := hX.n60
  have q4 : w.cell? ⟨X.q, 4, none⟩ = some (.int .i64 (X.s0 : Int)) := h.bq.cell 4
  have lq := h.bq.lt
  obtain ⟨w3, hw3⟩ : ∃ w3 : World, w3 = ((w.alloc (.cells #[.pointer (some ⟨X.q, 0, none⟩)] 58)).alloc (.cells #[.int .i64 (x : Int)] 3)).alloc (.cells #[.int .i64 (X.s0 : Int)] 3) := ⟨_, rfl⟩
  have hk3 : Keep w w3 := by rw [hw3]; exact (((Keep.refl _).alloc _).alloc _).alloc _
  have bs3 : Blk w3 w.heap.size 58 [.pointer (some ⟨X.q, 0, none⟩)] := by
    rw [hw3]; exact (Blk.new w _ [.pointer (some ⟨X.q, 0, none⟩)]).keep (((Keep.refl _).alloc _).alloc _)
  have bx3 : Blk w3 (w.heap.size + 1) 3 [.int .i64 (x : Int)] := by
    rw [hw3]
    have := (Blk.new (w.alloc (.cells #[.pointer (some ⟨X.q, 0, none⟩)] 58)) 3 [.int .i64 (x : Int)]).keep ((Keep.refl _).alloc (.cells #[.int .i64 (X.s0 : Int)] 3))
    simpa using this
  have bn3 : Blk w3 (w.heap.size + 1 + 1) 3 [.int .i64 (X.s0 : Int)] := by
    rw [hw3]
    have := Blk.new ((w.alloc (.cells #[.pointer (some ⟨X.q, 0, none⟩)] 58)).alloc (.cells #[.int .i64 (x : Int)] 3)) 3 [.int .i64 (X.s0 : Int)]
    simpa using this
  go_enter Try.func39, Try.ntmps39
  go_wp2_with fail
  rw [← hw3]
  clear hw3 q4 lq
  go_loopw [] (fun wr => ∃ nn : Nat, X.s0 ≤ nn ∧ nn ≤ X.s0 + s.out.length ∧ Hid (∀ m, X.s0 ≤ m → m < nn → s.taken X.B X.E x m = true) ∧ Keep w wr ∧ Blk wr w.heap.size 58 [.pointer (some ⟨X.q, 0, none⟩)] ∧ Blk wr (w.heap.size + 1) 3 [.int .i64 (x : Int)] ∧ Blk wr (w.heap.size + 1 + 1) 3 [.int .i64 (nn : Int)]) (fun wr => X.s0 + s.out.length - numAt wr ⟨w.heap.size + 1 + 1, 0, none⟩)
  case atStart => exact ⟨X.s0, Nat.le_refl _, by omega, Lib.hid (fun m h1 h2 => by omega), hk3, bs3, bx3, bn3⟩
  case round =>
    obtain ⟨nn, h1, h2, Htk, hk, bs, bx, bn⟩ := hrel
    clear hk3 bs3 bx3 bn3
    have hat := h.keepy hX hk
    have out60 : s.out.length ≤ m := h.lo
    have q5 : wr.cell? ⟨X.q, 5, none⟩ = some (.slice A1 s.out.length c1) := hat.bq.cell 5
    have lq := hat.bq.lt
    have cs : wr.cell? ⟨w.heap.size, 0, none⟩ = some (.pointer (some ⟨X.q, 0, none⟩)) := bs.cell 0
    have ls := bs.lt
    have Ha := Lib.hid (anyInt_calls A1 s.out c1 (s.takes X.B X.E x nn) (.pointer (some ⟨w.heap.size, 0, none⟩)) (.pointer (some ⟨w.heap.size + 1 + 1, 0, none⟩)) (.pointer (some ⟨w.heap.size + 1, 0, none⟩)) wr hat.own.seg (by omega)
      (fun wx y hkx hy => takes_calls X hX s m _ wx (hat.keepy hX hkx) w.heap.size (w.heap.size + 1 + 1) (w.heap.size + 1) nn x y ⟨(bs.keep hkx).cell 0, (bn.keep hkx).cell 0, (bx.keep hkx).cell 0⟩ hx (h.ho y hy)))
    have Hn := Lib.hid (slot_next (s := s) (B := X.B) (E := X.E) (x := x) h1 Htk.out)
    have Hh := Lib.hid (slot_here (s := s) (B := X.B) (E := X.E) (x := x) h1 Htk.out)
    have s1 : IntKind.i64.wrap ((nn : Int) + 1) = ((nn + 1 : Nat) : Int) := by rw [show (nn : Int) + 1 = ((nn + 1 : Nat) : Int) by omega]; exact IntWalk.i64_in _ (by omega)
    have Hat := Lib.hid hat
    clear hat
    go_wp2_with fail
    refine Ha.out.mono ?_
    rintro e w1 ⟨rfl, k1⟩
    have Hw := Lib.hid (hk.trans k1)
    have bs1 := bs.keep k1
    have bx1 := bx.keep k1
    have bn1 := bn.keep k1
    have hat1 := Hat.out.keepy hX k1
    have Hnum := Lib.hid (numAt_of (bn.cell 0))
    clear Ha bs bx bn q5 lq cs ls k1 Hat
    cases d : s.out.any (s.takes X.B X.E x nn)
    · have Hslot := Lib.hid (Hh.out d)
      clear Hh Hn Htk Hnum
      have ks := fun y : KW w1 => y.cell (v := .pointer (some ⟨X.q, 0, none⟩)) (bs1.cell 0)
      have kn := fun y : KW w1 => y.cell (v := .int .i64 (nn : Int)) (bn1.cell 0)
      have kx := fun y : KW w1 => y.cell (v := .int .i64 (x : Int)) (bx1.cell 0)
      have kq2 := fun y : KW w1 => y.cell (v := .slice (some ⟨X.gb, 0, none⟩) X.ls.length X.ls.length) (hat1.bq.cell 2)
      have lq := hat1.bq.lt
      have lg := hat1.bg.lt
      have hxx : (x : Int) < (X.ls.length : Int) := by omega
      have hx0 : (0 : Int) ≤ (x : Int) := by omega
      obtain ⟨wd, hwd⟩ : ∃ wd, w1.drew = wd := ⟨_, rfl⟩
      have hkd : Keep w1 wd := by rw [← hwd]; exact (Keep.refl _).drew
      have hatd := hat1.keepy hX hkd
      obtain ⟨p, hp⟩ := get_some (l := s.pl) (k := x) (by rw [h.lp]; exact hx)
      obtain ⟨p0, p1⟩ := hatd.place hp
      have fg := hatd.bg.frozen
      have lgd := hatd.bg.lt
      have fg' := (hatd.bg.set_ (x * 2) (.bool true)).frozen
      have lgd' := (hatd.bg.set_ (x * 2) (.bool true)).lt
      have p1' : (wd.setCell ⟨X.gb, x * 2, none⟩ (.bool true)).cell? ⟨X.gb, x * 2 + 1, none⟩ = some (.int .i64 (p.2 : Int)) := by
        rw [(hatd.bg.set_ (x * 2) (.bool true)).cell, List.getElem?_set_ne (by omega), ← hatd.bg.cell]; exact p1
      have hat5 := hatd.setPl hX x (true, nn)
      have gsm : X.gb < w.heap.size := Nat.lt_of_lt_of_le hX.gb.2 h.b1
      have qsm : X.q < w.heap.size := Nat.lt_of_lt_of_le hX.q.2 h.b1
      have bs5 := ((bs1.keep hkd).far (p := ⟨X.gb, x * 2, none⟩) (by show ¬ w.heap.size = X.gb; omega) (.bool true)).far (p := ⟨X.gb, x * 2 + 1, none⟩) (by show ¬ w.heap.size = X.gb; omega) (.int .i64 (nn : Int))
      have bx5 := ((bx1.keep hkd).far (p := ⟨X.gb, x * 2, none⟩) (by show ¬ w.heap.size + 1 = X.gb; omega) (.bool true)).far (p := ⟨X.gb, x * 2 + 1, none⟩) (by show ¬ w.heap.size + 1 = X.gb; omega) (.int .i64 (nn : Int))
      have bn5 := ((bn1.keep hkd).far (p := ⟨X.gb, x * 2, none⟩) (by show ¬ w.heap.size + 1 + 1 = X.gb; omega) (.bool true)).far (p := ⟨X.gb, x * 2 + 1, none⟩) (by show ¬ w.heap.size + 1 + 1 = X.gb; omega) (.int .i64 (nn : Int))
      obtain ⟨w5, hw5⟩ : ∃ w5, (wd.setCell ⟨X.gb, x * 2, none⟩ (.bool true)).setCell ⟨X.gb, x * 2 + 1, none⟩ (.int .i64 (nn : Int)) = w5 := ⟨_, rfl⟩
      simp only [hw5] at hat5 bs5 bx5 bn5
      have Hat5 := Lib.hid hat5
      have Hb5 := Lib.hid (And.intro bs5 (And.intro bx5 bn5))
      clear hp hatd hat1 hat5 bs5 bx5 bn5 bs1 bx1 bn1
      go_wp2_with fail
      refine tail_begin (S := fun w' => ∃ y : KW w1, w' = y.val) [9] (by kernel_rfl) ?_
      rw [hwd]
      refine tail_take [0, 1, 2, 3, 4, 5, 6, 7, 8] [] 1 (by kernel_rfl) (by kernel_rfl) (InK.mk' hkd) ?_
      show wpQuiet _ _ _ _ [_, _, _, _, _, _, _, _, _] _
      repeat (go_big_quiet_step (fail))
      refine wpQuiet_nil ?_
      refine tail_fix (i := 9) (fuel := 0) rfl (by kernel_rfl) (fun K hK => ?_)
      go_simp
      refine hK _ _ (fun h => absurd h (by decide)) ?_
      clear hK K
      refine tail_done (by kernel_rfl) ?_
      clear ks kn kx kq2 lq lg hkd hwd p0 p1 fg lgd fg' lgd' p1' hw5
      -- the append
      have hat5 := Hat5.out
      obtain ⟨bs5, bx5, bn5⟩ := Hb5.out
      clear Hat5 Hb5
      have nF : ∀ k, (Value.slice A1 s.out.length c1).ownBlock = some k → X.B1 ≤ k ∧ k < w.heap.size := fun k hk => h.own.lt k hk
      have hk6 : Keep w5 w5.drew := (Keep.refl _).drew
      obtain ⟨v6, w6, ha6, ho6, hg6, hob⟩ := append_run (ys := [x]) elN ((hat5.own.keep hk6).alloc (.cells (([x] : List Nat).flatMap natF).toArray 3)) (Seg.of_blk (Blk.new w5.drew 3 (([x] : List Nat).flatMap natF))) 1 59 (by simp [maxLen]; omega) (by simp; omega) (by have := ((hk6.alloc (.cells (([x] : List Nat).flatMap natF).toArray 3))).size; exact Nat.le_trans hat5.b1 this)
      obtain ⟨A3, c3, rfl, _⟩ := ho6.form
      have hE6 : Ext (fun k => (Value.slice A1 s.out.length c1).ownBlock = some k) w5 w6 := ((hk6.alloc _).ext _).grown hg6 (fun k hk _ => hk)
      have hat6 := hat5.push hX hx hE6 ho6
      have nq : ¬ (Value.slice A1 s.out.length c1).ownBlock = some X.q := fun e => by have := (nF _ e).1; have := hX.q.2; omega
      have bq6 := hat5.bq.ext hE6 nq
      have bs6 := (bs5.ext hE6 (fun e => by have := (nF _ e).2; omega)).far (p := ⟨X.q, 5, none⟩) (by show ¬ w.heap.size = X.q; omega) (.slice A3 (s.out ++ [x]).length c3)
      have bn6 := (bn5.ext hE6 (fun e => by have := (nF _ e).2; omega)).far (p := ⟨X.q, 5, none⟩) (by show ¬ w.heap.size + 1 + 1 = X.q; omega) (.slice A3 (s.out ++ [x]).length c3)
      have hll : (s.out ++ [x]).length = s.out.length + 1 := by simp
      rw [hll] at ha6 hat6 bs6 bn6
      have ks := fun y : KE (fun k => (Value.slice A1 s.out.length c1).ownBlock = some k) w5 => y.cell (v := .pointer (some ⟨X.q, 0, none⟩)) (bs5.cell 0) (fun e => by have : w.heap.size < w.heap.size := (nF _ e).2; omega)
      have kx := fun y : KE (fun k => (Value.slice A1 s.out.length c1).ownBlock = some k) w5 => y.cell (v := .int .i64 (x : Int)) (bx5.cell 0) (fun e => by have : w.heap.size + 1 < w.heap.size := (nF _ e).2; omega)
      have kq5 := fun y : KE (fun k => (Value.slice A1 s.out.length c1).ownBlock = some k) w5 => y.cell (v := .slice A1 s.out.length c1) (hat5.bq.cell 5) nq
      have hap : (Builtin.append_ #[59, 59] 59 #[.slice A1 s.out.length c1, .slice (some ⟨w5.heap.size, 0, none⟩) 1 1]).run Try.prog ((w5.alloc (.cells #[.int .i64 (x : Int)] 3)).drew) = .ok (.slice A3 (s.out.length + 1) c3) w6 := ha6
      have hq5 : w6.cell? ⟨X.q, 5, none⟩ = some (.slice A1 s.out.length c1) := bq6.cell 5
      have fq5 := bq6.frozen 5
      have lq6 := bq6.lt
      have lq5 := hat5.bq.lt
      have Hbb := Lib.hid (show ∀ W : World, Ext (fun k => (Value.slice A1 s.out.length c1).ownBlock = some k) w5 W → ∃ y : KE (fun k => (Value.slice A1 s.out.length c1).ownBlock = some k) w5, W = y.val from fun W hW => KE.mk' hW)
      have HE6 := Lib.hid hE6
      have Hat6 := Lib.hid hat6
      have Hb6 := Lib.hid (And.intro bs6 bn6)
      obtain ⟨W6, hW6⟩ : ∃ W6 : World, W6 = w6.setCell ⟨X.q, 5, none⟩ (.slice A3 (s.out.length + 1) c3) := ⟨_, rfl⟩
      rw [← hW6] at Hat6 Hb6
      clear hat5 bs5 bx5 bn5 ha6 ho6 hg6 hob hE6 hat6 bq6 bs6 bn6 nF
      go_wp2_with fail
      refine tail_begin (S := fun w' => ∃ y : KE (fun k => (Value.slice A1 s.out.length c1).ownBlock = some k) w5, w' = y.val) [10] (by kernel_rfl) ?_
      refine tail_take [0, 1, 2, 3, 4, 5] [] 5 (by kernel_rfl) (by kernel_rfl) (Hbb.out _ (Ext.drew (Ext.refl _ _))) ?_
      show wpQuiet _ _ _ _ [_, _, _, _, _, _] _
      repeat (go_big_quiet_step (fail))
      refine wpQuiet_nil ?_
      clear ks kx kq5
      refine tail_fix (i := 6) (fuel := 4) rfl (by kernel_rfl) (fun K hK => ?_)
      go_simp
      refine hK _ _ (fun _ => Hbb.out _ ((Ext.drew (Ext.refl _ _)).alloc _)) ?_
      clear hK K
      refine tail_fixU (i := 7) (fuel := 3) rfl rfl (by kernel_rfl) (fun K hK => ?_)
      refine wp_append_eq _ _ _ rfl _ _ rfl rfl _ _ hap ?_
      refine hK _ _ (fun _ => Hbb.out _ HE6.out) ?_
      clear hK K
      simp only [Act.put, List.setIfInBounds_toArray, List.set_cons_succ, List.set_cons_zero]
      refine tail_fix (i := 8) (fuel := 2) rfl (by kernel_rfl) (fun K hK => ?_)
      go_simp
      refine hK _ _ (fun _ => Hbb.out _ HE6.out) ?_
      clear hK K
      refine tail_fix (i := 9) (fuel := 1) rfl (by kernel_rfl) (fun K hK => ?_)
      go_simp
      refine hK _ _ (fun _ => Hbb.out _ HE6.out) ?_
      clear hK K
      refine tail_fix (i := 10) (fuel := 0) rfl (by kernel_rfl) (fun K hK => ?_)
      go_simp
      refine hK _ _ (fun h => absurd h (by decide)) ?_
      clear hK K
      refine tail_done (by kernel_rfl) ?_
      rw [← hW6]
      clear hW6 hap hq5 fq5 lq6 lq5 Hbb HE6 hk6 nq
      -- the number of slots
      have hat6 := Hat6.out
      obtain ⟨bs6, bn6⟩ := Hb6.out
      clear Hat6 Hb6
      obtain ⟨sz, hsz⟩ : ∃ sz : Int, (s.slots : Int) = sz := ⟨_, rfl⟩
      obtain ⟨nz, hnz⟩ : ∃ nz : Int, ((nn + 1 : Nat) : Int) = nz := ⟨_, rfl⟩
      obtain ⟨mz, hmz⟩ : ∃ mz : Int, (if sz < nz then nz else sz) = mz := ⟨_, rfl⟩
      have hmx : ((max s.slots (nn + 1) : Nat) : Int) = mz := by
        rw [← hmz]
        split <;> omega
      rw [hnz] at s1
      have ks := fun y : KW W6 => y.cell (v := .pointer (some ⟨X.q, 0, none⟩)) (bs6.cell 0)
      have kn := fun y : KW W6 => y.cell (v := .int .i64 (nn : Int)) (bn6.cell 0)
      have kq3 := fun y : KW W6 => y.cell (v := .int .i64 sz) (by rw [← hsz]; exact hat6.bq.cell 3)
      have lq := hat6.bq.lt
      obtain ⟨wd, hwd⟩ : ∃ wd, W6.drew = wd := ⟨_, rfl⟩
      have hkd : Keep W6 wd := by rw [← hwd]; exact (Keep.refl _).drew
      have hatd := hat6.keepy hX hkd
      have q3 : wd.cell? ⟨X.q, 3, none⟩ = some (.int .i64 sz) := by rw [← hsz]; exact hatd.bq.cell 3
      have fq := hatd.bq.frozen 3
      have lqd := hatd.bq.lt
      have hsl := h.ls
      have Hfin := Lib.hid (show X.At (s.spill X.B X.E X.s0 x) (m + 1) (wd.setCell ⟨X.q, 3, none⟩ (.int .i64 mz)) from ⟨_, by
        have := hatd.setSlots hX (max s.slots (nn + 1)) (by omega)
        rw [hmx] at this
        unfold Sc.spill
        rw [Hslot.out]
        exact this⟩)
      clear hat6 bs6 bn6 hatd hsz hnz hmx hsl
      go_wp2_with fail
      refine tail_begin (S := fun w' => ∃ y : KW W6, w' = y.val) [12] (by kernel_rfl) ?_
      rw [hwd]
      refine tail_take [0, 1, 2, 3, 4, 5, 6, 7, 8] [] 4 (by kernel_rfl) (by kernel_rfl) (InK.mk' hkd) ?_
      show wpQuiet _ _ _ _ [_, _, _, _, _, _, _, _, _] _
      repeat (go_big_quiet_step (fail))
      refine wpQuiet_nil ?_
      refine tail_fix (i := 9) (fuel := 3) rfl (by kernel_rfl) (fun K hK => ?_)
      go_simp
      refine hK _ _ (fun _ => InK.mk' hkd) ?_
      clear hK K
      refine tail_fix (i := 10) (fuel := 2) rfl (by kernel_rfl) (fun K hK => ?_)
      go_simp
      refine hK _ _ (fun _ => InK.mk' hkd) ?_
      clear hK K
      refine tail_fix (i := 11) (fuel := 1) rfl (by kernel_rfl) (fun K hK => ?_)
      go_simp
      refine hK _ _ (fun _ => InK.mk' hkd) ?_
      clear hK K
      refine tail_fix (i := 12) (fuel := 0) rfl (by kernel_rfl) (fun K hK => ?_)
      go_simp
      refine hK _ _ (fun h => absurd h (by decide)) ?_
      clear hK K
      refine tail_done (by kernel_rfl) ?_
      go_wp2
      refine bodyPost_end (results_none rfl _ _ _) rfl ⟨⟨_, rfl⟩, Hfin.out⟩
    · have Hsn := Lib.hid (Hn.out d)
      have Htk2 := Lib.hid (show ∀ m, X.s0 ≤ m → m < nn + 1 → s.taken X.B X.E x m = true from fun m a b => by
        by_cases e : m = nn
        · rw [e]; exact d
        · exact Htk.out m a (by omega))
      have cn : w1.cell? ⟨w.heap.size + 1 + 1, 0, none⟩ = some (.int .i64 (nn : Int)) := bn1.cell 0
      have ln := bn1.lt
      have fn := bn1.frozen 0
      have bn2 : Blk (w1.setCell ⟨w.heap.size + 1 + 1, 0, none⟩ (.int .i64 ((nn + 1 : Nat) : Int))) (w.heap.size + 1 + 1) 3 [.int .i64 ((nn + 1 : Nat) : Int)] := bn1.set_ 0 _
      have bs2 := bs1.far (p := ⟨w.heap.size + 1 + 1, 0, none⟩) (by show ¬ w.heap.size = w.heap.size + 1 + 1; omega) (.int .i64 ((nn + 1 : Nat) : Int))
      have bx2 := bx1.far (p := ⟨w.heap.size + 1 + 1, 0, none⟩) (by show ¬ w.heap.size + 1 = w.heap.size + 1 + 1; omega) (.int .i64 ((nn + 1 : Nat) : Int))
      have Hw2 := Lib.hid (Hw.out.setCell (p := ⟨w.heap.size + 1 + 1, 0, none⟩) (by show w.heap.size ≤ w.heap.size + 1 + 1; omega) (.int .i64 ((nn + 1 : Nat) : Int)))
      have Hnum2 := Lib.hid (numAt_of (bn2.cell 0))
      clear bs1 bx1 bn1 hat1 Hh Hn Htk
      go_wp2
      go_roundw
      case rel => exact ⟨nn + 1, by omega, Hsn.out, Htk2, Hw2.out, bs2, bx2, bn2⟩
      case measure => have h9 := Hnum2.out; rw [show ((nn + 1 : Nat) : Int) = (nn : Int) + 1 by omega] at h9; rw [Hnum.out, h9]; have := Hsn.out; omega
end Go.Proofs.Ytigidchignlpmaa
