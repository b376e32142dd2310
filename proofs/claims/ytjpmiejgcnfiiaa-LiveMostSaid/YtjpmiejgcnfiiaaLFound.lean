/-
  The program's found.
-/
import Derived.Test.YtjpmiejgcnfiiaaLMarks
set_option linter.unusedVariables false
set_option linter.unusedSimpArgs false
namespace Go.Proofs.Ytjpmiejgcnfiiaa
open Go Go.RowKit Go.Shelf
attribute [local go_sem] Oper.semAt_some

/-- Where the search stands. -/
structure FI (x : SsD) (S : List (List Bool)) : Prop where
  fs : Lv.FSt x.F x.ord x.vals.l.length S
  sound : (∀ b ∈ x.ord, ∀ v, (x.F.getD b default).Fit v) → Lv.Sound x.F x.ord S
/-- Nothing changes any more. -/
def Shut (x : SsD) (S : List (List Bool)) : Prop := ∀ b ∈ x.ord, Lv.newAt x.F x.vals.l.length S b = S.getD b []
/-- One pass: where it began, what has come, where it stands. -/
structure Pass (x : SsD) (S0 : List (List Bool)) (pre : List (Fin (ints x.ord).length)) (S : List (List Bool)) (chg : Bool) : Prop where
  fi : FI x S
  no : chg = false → S = S0 ∧ ∀ i ∈ pre, ∀ b, x.ord[i.1]? = some b → Lv.newAt x.F x.vals.l.length S0 b = S0.getD b []
  yes : chg = true → Lv.total S0 < Lv.total S
theorem Pass.start {x : SsD} {S : List (List Bool)} (h : FI x S) : Pass x S [] S false := ⟨h, fun _ => ⟨rfl, fun _ hi => by simp at hi⟩, fun h => by cases h⟩
section
variable {x : SsD} {S0 S : List (List Bool)} {pre : List (Fin (ints x.ord).length)} {chg : Bool}
theorem FI.get (h : FI x S) {b : Nat} (hb : b < x.blocks.l.length) : ∃ l, S[b]? = some l ∧ l.length = x.vals.l.length ∧ S.getD b [] = l := by
  have hl : b < S.length := by rw [h.fs.len]; simpa [SsD.F] using hb
  have h1 := h.fs.lens b (by simpa [SsD.F] using hb)
  rw [List.getD_eq_getElem?_getD, List.getElem?_eq_getElem hl] at h1
  exact ⟨_, List.getElem?_eq_getElem hl, h1, by rw [List.getD_eq_getElem?_getD, List.getElem?_eq_getElem hl]; rfl⟩
theorem FI.len (h : FI x S) : S.length = x.blocks.l.length := by rw [h.fs.len]; simp [SsD.F]
theorem FI.row (h : FI x S) : ∀ l ∈ S, l.length = x.vals.l.length := fun l hl => by
  obtain ⟨i, hi, e⟩ := List.getElem_of_mem hl
  obtain ⟨l', h1, h2, _⟩ := h.get (b := i) (by rw [← h.len]; exact hi)
  rw [List.getElem?_eq_getElem hi] at h1
  rw [← e, Option.some.inj h1]; exact h2
theorem Pass.same (hp : Pass x S0 pre S chg) {i : Fin (ints x.ord).length} {b : Nat} (hb : x.ord[i.1]? = some b) (he : Lv.newAt x.F x.vals.l.length S b = S.getD b []) : Pass x S0 (pre ++ [i]) S chg :=
  ⟨hp.fi, fun h => by
    obtain ⟨h1, h2⟩ := hp.no h
    refine ⟨h1, fun j hj c hc => ?_⟩
    rcases List.mem_append.1 hj with hj | hj
    · exact h2 j hj c hc
    · rw [List.mem_singleton.1 hj, hb] at hc
      cases hc
      rw [← h1]; exact he, hp.yes⟩
theorem Pass.new (hok : Lv.FOk x.F x.ord x.vals.l.length) (hp : Pass x S0 pre S chg) {i : Fin (ints x.ord).length} {b : Nat} (hb : x.ord[i.1]? = some b) (he : Lv.newAt x.F x.vals.l.length S b ≠ S.getD b []) :
    Pass x S0 (pre ++ [i]) (S.set b (Lv.newAt x.F x.vals.l.length S b)) true := by
  have hm := List.mem_of_getElem? hb
  refine ⟨⟨hp.fi.fs.step hok hm, fun hf => (hp.fi.sound hf).step hok hf hp.fi.fs hm⟩, (fun h => by cases h), fun _ => ?_⟩
  have h1 := hp.fi.fs.climb hok hm he
  cases chg with
  | false => rw [(hp.no rfl).1] at h1 ⊢; exact h1
  | true => have := hp.yes rfl; omega
theorem Pass.shut (hp : Pass x S0 (dn (ints x.ord).length (Nat.le_refl _)) S false) : Shut x S := by
  obtain ⟨rfl, h2⟩ := hp.no rfl
  intro b hb
  obtain ⟨i, hi, e⟩ := List.getElem_of_mem hb
  have hi' : i < (ints x.ord).length := by rw [ints_len]; exact hi
  exact h2 ⟨i, hi'⟩ (mem_dn _ _ _ (by show _ - _ ≤ i; omega)) b (by show x.ord[i]? = _; rw [List.getElem?_eq_getElem hi, e])
end
/-- What the search has still ahead. -/
def fuelF (x : SsD) (S : List (List Bool)) (chg : Bool) : Nat := 2 * (x.blocks.l.length * x.vals.l.length - Lv.total S) + (if chg then 1 else 0)
theorem Pass.fuel {x : SsD} {S0 S : List (List Bool)} {pre : List (Fin (ints x.ord).length)} {chg : Bool} (h0 : FI x S0) (hp : Pass x S0 pre S chg) : fuelF x S chg < fuelF x S0 true := by
  have h1 := hp.fi.fs.bound
  have e : x.F.length = x.blocks.l.length := by simp [SsD.F]
  rw [e] at h1
  unfold fuelF
  cases chg with
  | false => rw [(hp.no rfl).1]; simp
  | true => have := hp.yes rfl; simp only [if_true]; omega
theorem FI.zero (x : SsD) : FI x (List.replicate x.blocks.l.length (List.replicate x.vals.l.length false)) := by
  have e : x.F.length = x.blocks.l.length := by simp [SsD.F]
  exact ⟨by rw [← e]; exact Lv.FSt.zero _ _ _, fun _ => by rw [← e]; exact Lv.Sound.zero _ _ _⟩

set_option maxHeartbeats 4000000 in
set_option maxRecDepth 100000 in
theorem found_calls (x : SsD) (A : Option Addr) (c base : Nat) (w : World) (h : SsOk w x) (hs : Small x) (hown : Own intC 1 3 w base (.slice A x.ord.length c) (ints x.ord)) (hin : ∀ b y, b ∈ x.ord → x.blocks.l[b]? = some y → y.In x.vals.l.length) :
    Calls Try.prog 18 #[.agg (ssC x).toArray, .slice A x.ord.length c] w fun e w' => ∃ bn S, e = .returned (.slice (some ⟨bn, 0, none⟩) x.blocks.l.length x.blocks.l.length) ∧ w.heap.size ≤ bn ∧ NRows w' bn w.heap.size S ∧ Keep w w' ∧ FI x S ∧ Shut x S := by
  obtain ⟨vp, vr, va, nv, vc, ba, nb, bc, hop⟩ := x.opened
  have hbeg := fun (W : World) (hk : Keep w W) (b bn : Nat) (y : BkD) (S : List (List Bool)) (hb : x.blocks.l[b]? = some y) (hm : b ∈ x.ord) (hS : NRows W bn w.heap.size S) (hf : FI x S) =>
    begin_calls x b bn w.heap.size x.blocks.l.length y S W (h.keep hk) hs hb (hin b y hm hb) hS hf.len hf.row
  have Hok := Lib.hid (x.fok hin)
  have Hz := Lib.hid (FI.zero x)
  have Hfl := Lib.hid (fun (S0 S : List (List Bool)) (pre : List (Fin (ints x.ord).length)) (chg : Bool) (h0 : FI x S0) (hp : Pass x S0 pre S chg) => hp.fuel h0)
  have Hlt := Lib.hid (show ∀ b ∈ x.ord, b < x.blocks.l.length from x.ord_spec.2)
  rw [hop.agg] at hbeg ⊢
  rw [hop.nv, hop.nb] at hbeg
  rw [hop.nv, hop.nb] at Hz
  rw [hop.nb] at Hlt ⊢
  have hnb : nb ≤ 1000 := by rw [← hop.nb]; exact hs.blocks
  have hnv : nv ≤ 1000 := by rw [← hop.nv]; exact hs.vals
  have hol : x.ord.length ≤ nb := by rw [← hop.nb]; exact x.ord_len
  obtain ⟨W, hW, hk, c0, c1, c2, c3, lt⟩ := box4 w 47 vp vr (.slice va nv vc) (.slice ba nb bc)
  obtain ⟨W1, hmake, hblk, hk1⟩ := make_rows W nb (by omega)
  obtain ⟨bn, hbn⟩ : ∃ bn, W.heap.size = bn := ⟨_, rfl⟩
  rw [hbn] at hmake hblk
  obtain ⟨W2, hW2⟩ : ∃ W2, W1.alloc (.cells #[.slice (some ⟨bn, 0, none⟩) nb nb] 64) = W2 := ⟨_, rfl⟩
  have hk2 : Keep W1 W2 := by rw [← hW2]; exact (Keep.refl _).alloc _
  have ho : Blk W2 W1.heap.size 64 [.slice (some ⟨bn, 0, none⟩) nb nb] := by rw [← hW2]; exact Blk.new W1 _ _
  obtain ⟨nx, hnx⟩ : ∃ nx, W1.heap.size = nx := ⟨_, rfl⟩
  rw [hnx] at ho
  have hbnx : bn < nx := by rw [← hnx]; exact hblk.lt
  have hwb : w.heap.size < bn := by omega
  have Hnop := Lib.hid hop.nv
  have Hbop := Lib.hid hop.nb
  have Hbeg := Lib.hid hbeg
  have HkW := Lib.hid ((hk.trans hk1).trans hk2)
  have HNR := Lib.hid (NRows.made w.heap.size nv (hblk.keep hk2))
  have Hown := Lib.hid hown
  have d0 := (hk1.trans hk2).cell c0
  have d1 := (hk1.trans hk2).cell c1
  have d2 := (hk1.trans hk2).cell c2
  have d3 := (hk1.trans hk2).cell c3
  have q0 : W2.cell? ⟨nx, 0, none⟩ = some (.slice (some ⟨bn, 0, none⟩) nb nb) := ho.cell 0
  have lw2 := Nat.lt_of_lt_of_le lt (hk1.trans hk2).size
  have lnx := ho.lt
  clear hbeg hblk hk1 hk2 ho hown hop hs h hin hk
  refine (callsIn_wide (n := 6)).1 ?_
  refine callsIn_of_wp_marks Try.func18 rfl trivial ?_ rfl
  simp only [Try.ntmps18, List.size_toArray, List.length_cons, List.length_nil, Nat.reduceAdd, Nat.reduceSub, Array.replicate_succ, Array.replicate_zero, List.push_toArray, List.append_toArray, List.nil_append, List.cons_append]
  refine wpIn_wide.2 ?_
  go_wp2_with (refine wpList_make_eq rfl _ _ _ rfl _ _ rfl rfl _ _ hmake ?_; clear hmake)
  clear hW hW2 hnx hbn c0 c1 c2 c3 lt
  go_loopw [6, 17] (fun _ vi wr => ∃ k : Nat, k ≤ nb ∧ vi = .int .i64 k ∧ Hid (NRows wr bn w.heap.size (rowsK nb nv k)) ∧ Hid (Ext (fun k => k = bn) W2 wr)) (fun _ vi _ => nb - (intOf vi).toNat)
  case atStart => exact ⟨0, Nat.zero_le _, rfl, HNR, Lib.hid (Ext.refl _ _)⟩
  case round =>
    clear HNR
    obtain ⟨k, hk, rfl, hnr, hE⟩ := hrel
    have zq0 := (World.cell?_of_block (hE.out.block nx lnx (by omega))).trans q0
    have z1 := (World.cell?_of_block (hE.out.block w.heap.size lw2 (by omega))).trans d2
    by_cases hin : k < nb
    · have hd : Keep wr wr.drew := (Keep.refl _).drew
      have kq := fun z : KE (fun k => k = bn) wr => z.cell zq0 (by show ¬ nx = bn; omega)
      have k1 := fun z : KE (fun k => k = bn) wr => z.cell z1 (by show ¬ w.heap.size = bn; omega)
      obtain ⟨wm, hmk, hbm, hkm⟩ := make_bools wr.drew nv (by omega)
      have hfz := hnr.out.frozen k
      have hrl := hnr.out.lt
      obtain ⟨Ak, ck, hck, _⟩ := hnr.out.get (i := k) (l := []) (by unfold rowsK; rw [List.getElem?_map, List.getElem?_range hin]; show some (if k < k then _ else _) = _; rw [if_neg (by omega)])
      have hkwm : Keep wr wm := hd.trans hkm
      have m0 := hkwm.cell hck
      have m1 := (hnr.out.keep hkwm).frozen k
      have m2 := Nat.lt_of_lt_of_le hrl hkwm.size
      have hro : Own boolC 1 4 wm w.heap.size (.slice (some ⟨wr.drew.heap.size, 0, none⟩) nv nv) (List.replicate nv false) := by
        have := BBlk.own (l := List.replicate nv false) hbm (base := w.heap.size) (by show w.heap.size ≤ wr.heap.size; have := hE.out.size; omega) (by simp; unfold maxLen; omega)
        simpa using this
      have Hn := Lib.hid (show NRows (wm.setCell ⟨bn, k, none⟩ (.slice (some ⟨wr.heap.size, 0, none⟩) nv nv)) bn w.heap.size (rowsK nb nv (k + 1)) ∧ Ext (fun k => k = bn) W2 (wm.setCell ⟨bn, k, none⟩ (.slice (some ⟨wr.heap.size, 0, none⟩) nv nv)) from
        ⟨by
          have h1 := (hnr.out.keep hkwm).put (i := k) (A := some ⟨wr.heap.size, 0, none⟩) (c := nv) (l := List.replicate nv false) (by simpa using hro)
          rw [rowsK_succ hin] at h1
          simpa using h1, (hE.out.keepTrans hkwm).setCell (p := ⟨bn, k, none⟩) (fun _ => rfl) _⟩)
      have hkk : (k : Int) < (nb : Int) := by omega
      have hk0 : (0 : Int) ≤ (k : Int) := by omega
      have Hkwm := Lib.hid hkwm
      have hmk' : (Instr.makeSlice 68 (.int .i64 (nv : Int)) (.int .i64 (nv : Int))).run Try.prog wr.drew = .ok (.slice (some ⟨wr.heap.size, 0, none⟩) nv nv) wm := hmk
      have Hmk := Lib.hid hmk'
      clear hnr hE hbm hkm hck hro hkwm hmk hmk'
      go_wp2_with fail
      refine region_begin (S := fun w' => ∃ z : KE (fun k => k = bn) wr, w' = z.val) (by kernel_rfl) ?_
      refine region_take [0, 1, 2, 3, 4] [] 3 (by kernel_rfl) (by kernel_rfl) (KE.mk' (hd.ext _)) ?_
      show wpQuiet _ _ _ _ [_, _, _, _, _] _
      repeat (go_big_quiet_step (fail))
      refine wpQuiet_nil ?_
      refine region_fixU (i := 5) (fuel := 2) rfl rfl (by kernel_rfl) (fun K hK => ?_)
      refine wp_make_eq _ _ _ rfl _ _ rfl rfl _ _ Hmk.out ?_
      refine hK _ _ (KE.mk' (Hkwm.out.ext _)) ?_
      clear hK K
      refine region_fixU (i := 6) (fuel := 1) rfl rfl (by kernel_rfl) (fun K hK => ?_)
      go_simp
      refine hK _ _ (KE.mk' (Hkwm.out.ext _)) ?_
      clear hK K
      refine region_fixU (i := 7) (fuel := 0) rfl rfl (by kernel_rfl) (fun K hK => ?_)
      go_simp
      refine hK _ _ (KE.mk' ((Hkwm.out.ext (fun k => k = bn)).setCell (p := ⟨bn, k, none⟩) (fun _ => rfl) _)) ?_
      clear hK K
      refine region_done (by kernel_rfl) ?_
      clear kq k1
      go_wp2
      go_roundw
      case rel => exact ⟨k + 1, hin, by go_num, Lib.hid Hn.out.1, Lib.hid Hn.out.2⟩
      case measure => simp [intOf]; omega
    · obtain rfl : k = nb := by omega
      obtain ⟨W5, hW5⟩ : ∃ W5, wr.alloc (.cells #[.bool true] 4) = W5 := ⟨_, rfl⟩
      have hk5 : Keep wr W5 := by rw [← hW5]; exact (Keep.refl _).alloc _
      have hb5 : Blk W5 wr.heap.size 4 [.bool true] := by rw [← hW5]; exact Blk.new wr _ _
      obtain ⟨cb, hcb⟩ : ∃ cb, wr.heap.size = cb := ⟨_, rfl⟩
      rw [hcb] at hb5
      have hsz := hE.out.size
      have hbc : bn < cb := by omega
      have hnc : nx < cb := by omega
      have hwc : w.heap.size < cb := by omega
      have HNR5 := Lib.hid (show NRowsA W5 bn w.heap.size cb (List.replicate k (List.replicate nv false)) from by
        have := hnr.out.away hk5 (av := cb) (by omega)
        rwa [rowsK_end] at this)
      have HB5 := Lib.hid hb5
      have HK5 := Lib.hid (show Keep w W5 from Keep.of_ext HkW.out (hE.out.keepTrans hk5) (fun k hk e => by omega))
      have y0 := (World.cell?_of_block ((hE.out.keepTrans hk5).block nx lnx (by omega))).trans q0
      have x0 := (World.cell?_of_block ((hE.out.keepTrans hk5).block w.heap.size lw2 (by omega))).trans d0
      have x1 := (World.cell?_of_block ((hE.out.keepTrans hk5).block w.heap.size lw2 (by omega))).trans d1
      have x2 := (World.cell?_of_block ((hE.out.keepTrans hk5).block w.heap.size lw2 (by omega))).trans d2
      have x3 := (World.cell?_of_block ((hE.out.keepTrans hk5).block w.heap.size lw2 (by omega))).trans d3
      clear hnr hE hk5 hb5 d0 d1 d2 d3 q0 zq0 z1 lw2 lnx HkW hsz
      go_wp2_with fail
      refine wp_loop_fr3 28 29 30 undef undef undef (by unfold fr3; simp) (fun g ds W => ∃ S chg, NRowsA W bn w.heap.size cb S ∧ FI x S ∧ Blk W cb 4 [.bool chg] ∧ (chg = false → Shut x S) ∧ fuelF x S chg ≤ g ∧ Marks W5.heap.size W ds ∧ Ext (fun k => k = bn ∨ k = cb) W5 W)
        (fuelF x (List.replicate k (List.replicate nv false)) true) ⟨_, true, HNR5.out, Hz.out, HB5.out, (fun h => by cases h), Nat.le_refl _, trivial, Ext.refl _ _⟩ ?_
      intro g ds vx vy vz Wr hI J hJ
      obtain ⟨S, chg, hnr, hfi, hcbk, hsh, hfu, hmk, hE⟩ := hI
      have zz0 := (World.cell?_of_block (hE.block nx (World.block_lt_of_cell? _ _ y0) (by show ¬ (nx = bn ∨ nx = cb); omega))).trans y0
      have zx0 := (World.cell?_of_block (hE.block w.heap.size (World.block_lt_of_cell? _ _ x0) (by show ¬ (w.heap.size = bn ∨ w.heap.size = cb); omega))).trans x0
      have zx1 := (World.cell?_of_block (hE.block w.heap.size (World.block_lt_of_cell? _ _ x1) (by show ¬ (w.heap.size = bn ∨ w.heap.size = cb); omega))).trans x1
      have zx2 := (World.cell?_of_block (hE.block w.heap.size (World.block_lt_of_cell? _ _ x2) (by show ¬ (w.heap.size = bn ∨ w.heap.size = cb); omega))).trans x2
      have zx3 := (World.cell?_of_block (hE.block w.heap.size (World.block_lt_of_cell? _ _ x3) (by show ¬ (w.heap.size = bn ∨ w.heap.size = cb); omega))).trans x3
      have zc0 : Wr.cell? ⟨cb, 0, none⟩ = some (.bool chg) := hcbk.cell 0
      have zcf := hcbk.frozen 0
      have zcl := hcbk.lt
      have HJ := Lib.hid hJ
      have Hmk := Lib.hid hmk
      have Hnr := Lib.hid hnr
      have Hfi := Lib.hid hfi
      have Hcbk := Lib.hid hcbk
      have HEr := Lib.hid hE
      have Hsh := Lib.hid hsh
      have Hfu := Lib.hid hfu
      clear hnr hfi hcbk hsh hfu hmk hE hJ
      unfold fr3
      cases chg with
      | false =>
        go_wp2_with fail
        refine leaves_marks ds Wr Hmk.out fun w' hE => ?_
        have hszE := HEr.out.size
        refine ⟨_, results_tmp rfl _ _ _, bn, rfl, by omega, S, (Hnr.out.marks hE).rows, ?_, Hfi.out, Hsh.out (by simp)⟩
        have hlt5 := World.block_lt_of_cell? _ _ x0
        replace hlt5 : w.heap.size < W5.heap.size := hlt5
        exact Keep.of_ext (Keep.of_ext HK5.out HEr.out (fun k hk e => by omega)) hE (fun k hk e => by have := e.1; omega)
      | true =>
        have hkq : Ext (fun k => k = bn ∨ k = cb) Wr (Wr.setCell ⟨cb, 0, none⟩ (.bool false)) := (Ext.refl _ _).setCell (p := ⟨cb, 0, none⟩) (fun _ => .inr rfl) _
        go_wp2_with fail
        refine (callsIn_wide.1 (backI_calls Fence.wide 5 trivial rfl _ _ _ _)).mono ?_
        rintro e w4 ⟨rfl, hw4⟩
        obtain ⟨Wq, hWq⟩ : ∃ Wq, Wr.setCell ⟨cb, 0, none⟩ (.bool false) = Wq := ⟨_, rfl⟩
        rw [hWq] at hw4 hkq ⊢
        have hk4 : Keep Wq w4 := by rw [hw4]; exact (Keep.refl _).alloc _
        have hb4 : Blk w4 Wq.heap.size 33 [.slice A x.ord.length c] := by rw [hw4]; exact Blk.new Wq _ _
        have hszq : Wq.heap.size = Wr.heap.size := by rw [← hWq]; simp [World.setCell]
        have hs4 : w4.heap.size = Wr.heap.size + 1 := by rw [hw4]; simp [hszq]
        rw [hszq] at hb4
        have hcb4 : Blk w4 cb 4 [.bool false] := by
          have : Blk Wq cb 4 [.bool false] := by rw [← hWq]; exact Hcbk.out.set_ 0 (.bool false)
          exact this.keep hk4
        have hnr4 : NRowsA w4 bn w.heap.size cb S := by
          have : NRowsA Wq bn w.heap.size cb S := by rw [← hWq]; exact Hnr.out.other (by omega) 0 _
          exact this.keep hk4
        have hW5r := HEr.out.size
        have hq4 : Ext (fun k => k = bn ∨ k = cb) Wr w4 := hkq.keepTrans hk4
        have hw5 : w.heap.size < W5.heap.size := World.block_lt_of_cell? _ _ x0
        have hrow := Hown.out.segN.2
        have hAlt : ∀ ad, A = some ad → ad.block < w.heap.size := fun ad ha => Hown.out.addr_lt ha
        have Hst := Lib.hid (backI_stops Fence.wide 5 trivial rfl (by omega) Wr.heap.size c (fun k => (k = bn ∨ k = cb) ∨ w4.heap.size ≤ k) A (ints x.ord) (by rw [ints_len]; unfold maxLen; omega) w4 (by show ¬ ((Wr.heap.size = bn ∨ Wr.heap.size = cb) ∨ _); omega) (by rw [ints_len]; exact hb4.cell 0) (hrow.keep (Keep.of_ext HK5.out (HEr.out.trans hq4 (fun _ _ e => e)) (fun k hk e => by omega))) (fun ad ha _ => by
          have := hAlt ad ha
          show ¬ ((ad.block = bn ∨ ad.block = cb) ∨ w4.heap.size ≤ ad.block)
          omega))
        have Hnr4 := Lib.hid hnr4
        have Hcb4 := Lib.hid hcb4
        have Hq4 := Lib.hid hq4
        have HKw4 := Lib.hid (show Keep w w4 from Keep.of_ext HK5.out (HEr.out.trans hq4 (fun _ _ e => e)) (fun k hk e => by omega))
        have w0 := (World.cell?_of_block (hq4.block nx (World.block_lt_of_cell? _ _ zz0) (by show ¬ (nx = bn ∨ nx = cb); omega))).trans zz0
        have v0 := (World.cell?_of_block (hq4.block w.heap.size (World.block_lt_of_cell? _ _ zx0) (by show ¬ (w.heap.size = bn ∨ w.heap.size = cb); omega))).trans zx0
        have v1 := (World.cell?_of_block (hq4.block w.heap.size (World.block_lt_of_cell? _ _ zx1) (by show ¬ (w.heap.size = bn ∨ w.heap.size = cb); omega))).trans zx1
        have v2 := (World.cell?_of_block (hq4.block w.heap.size (World.block_lt_of_cell? _ _ zx2) (by show ¬ (w.heap.size = bn ∨ w.heap.size = cb); omega))).trans zx2
        have v3 := (World.cell?_of_block (hq4.block w.heap.size (World.block_lt_of_cell? _ _ zx3) (by show ¬ (w.heap.size = bn ∨ w.heap.size = cb); omega))).trans zx3
        rw [hszq]
        clear hWq hw4 hkq hk4 hb4 hcb4 hnr4 hq4 hrow hAlt hszq zz0 zx0 zx1 zx2 zx3 zc0 zcf zcl y0 x0 x1 x2 x3
        go_wp2_with fail
        refine (wpIn_wide (n := 6)).1 ?_
        refine wpIn_range_var rfl (by omega) (gf := 47) (lb := #[.pointer (some ⟨Wr.heap.size, 0, none⟩)]) rfl trivial (enters_of Try.func47 (by kernel_rfl) rfl) Hst.out
          (fun h k => h.trans k (fun _ _ h => h)) (fun W l o o' hl ho _ _ => ext_putObj o' ho (.inr hl)) (Below.refl _ _) (fun _ => rfl)
          (fun pre W => ∃ S' chg, NRowsA W bn w.heap.size cb S' ∧ Pass x S pre S' chg ∧ Blk W cb 4 [.bool chg] ∧ Ext (fun k => k = bn ∨ k = cb) w4 W)
          (fun s A' B' row hs hg hr => by
            obtain ⟨S', chg, h1, h2, h3, h4⟩ := hs
            exact ⟨S', chg, h1.turn hg hr, h2, h3.turn hg hr, h4.turn hg (Nat.le_refl _) hr⟩)
          ⟨S, false, Hnr4.out, Pass.start Hfi.out, Hcb4.out, Ext.refl _ _⟩ 9 (fun i => .int .i64 (ints x.ord)[i.1]) ?assign ?body ?done
        case assign =>
          intro l i Wa K hK
          have HK := Lib.hid hK
          clear hK
          gi_wp2
          exact HK.out _ (by unfold inRnd; simp)
        case body =>
          rintro l pre i Wa ⟨S', chg, hnr, hp, hcb, hE⟩ hlen
          obtain ⟨b, hb⟩ := get_some (l := x.ord) (k := i.1) (Nat.lt_of_lt_of_eq i.2 (ints_len _))
          have eb : (ints x.ord)[i.1] = (b : Int) := Option.some.inj ((List.getElem?_eq_getElem i.2).symm.trans (ints_get hb))
          have hbm := List.mem_of_getElem? hb
          have hbl := x.ord_spec.2 b hbm
          obtain ⟨y, hy⟩ := get_some hbl
          have hbk : b < k := Hlt.out b hbm
          obtain ⟨r, hr1, hr2, hr3⟩ := hp.fi.get hbl
          rw [Hnop.out] at hr2
          have hkw : Keep w Wa := Keep.of_ext HKw4.out hE (fun k hk e => by omega)
          have hbeg := Hbeg.out Wa hkw b bn y S' hy hbm hnr.rows hp.fi
          have e1 := (World.cell?_of_block (hE.block nx (World.block_lt_of_cell? _ _ w0) (by show ¬ (nx = bn ∨ nx = cb); omega))).trans w0
          have f0 := (World.cell?_of_block (hE.block w.heap.size (World.block_lt_of_cell? _ _ v0) (by show ¬ (w.heap.size = bn ∨ w.heap.size = cb); omega))).trans v0
          have f1 := (World.cell?_of_block (hE.block w.heap.size (World.block_lt_of_cell? _ _ v1) (by show ¬ (w.heap.size = bn ∨ w.heap.size = cb); omega))).trans v1
          have f2 := (World.cell?_of_block (hE.block w.heap.size (World.block_lt_of_cell? _ _ v2) (by show ¬ (w.heap.size = bn ∨ w.heap.size = cb); omega))).trans v2
          have f3 := (World.cell?_of_block (hE.block w.heap.size (World.block_lt_of_cell? _ _ v3) (by show ¬ (w.heap.size = bn ∨ w.heap.size = cb); omega))).trans v3
          obtain ⟨NW, hNW⟩ : ∃ NW, Lv.newAt x.F nv S' b = NW := ⟨_, rfl⟩
          have hNWl : NW.length = nv := by
            have := (Lv.newAt_getD Hok.out hp.fi.fs hbm 0).1
            rw [Hnop.out, hNW] at this; exact this
          have Hsame := Lib.hid (show NW = r → Pass x S (pre ++ [i]) S' chg from fun e => hp.same hb (by rw [Hnop.out, hNW, hr3, e]))
          have Hnew := Lib.hid (show NW ≠ r → Pass x S (pre ++ [i]) (S'.set b NW) true from fun e => by
            have := hp.new Hok.out hb (by rw [Hnop.out, hNW, hr3]; exact e)
            rwa [Hnop.out, hNW] at this)
          rw [hNW] at hbeg
          have Hbg := Lib.hid hbeg
          have Hnr' := Lib.hid hnr
          have Hr1 := Lib.hid hr1
          have Hr2 := Lib.hid hr2
          have HNWl := Lib.hid hNWl
          have HE' := Lib.hid hE
          have Hcb' := Lib.hid hcb
          have hbi : (b : Int) < (k : Int) := by omega
          have hbi0 : (0 : Int) ≤ (b : Int) := by omega
          unfold inRnd
          rw [eb]
          clear eb hb hbm hbl hy hr1 hr2 hr3 hbeg hNW hNWl hp hnr hE hcb hlen
          gi_wp2_with fail
          refine ⟨trivial, (CallsIn.inRound l (callsIn_wide.2 Hbg.out)).mono ?_⟩
          clear Hbg
          rintro e w6 ⟨g6, rfl, hg6, hb6, hk6⟩
          have hnr6 := Hnr'.out.keep hk6
          obtain ⟨Ar, cr, hrc, hrow⟩ := hnr6.rows.get Hr1.out
          rw [Hr2.out] at hrc hrow
          have e6 := hk6.cell e1
          have c6 : w6.cell? ⟨cb, 0, none⟩ = some (.bool chg) := (Hcb'.out.keep hk6).cell 0
          have cf6 := (Hcb'.out.keep hk6).frozen 0
          have cl6 := (Hcb'.out.keep hk6).lt
          have nf6 := hnr6.rows.frozen b
          have nl6 := hnr6.rows.lt
          have hg6w : g6 ≠ cb := by have := Hcb'.out.lt; omega
          have heq := equal_calls NW r (some ⟨g6, 0, none⟩) Ar nv cr w6 hb6.seg hrow.segN.2 (by rw [Hr2.out, HNWl.out]) (by rw [HNWl.out]; omega)
          rw [Hr2.out, HNWl.out] at heq
          have hgo : Own boolC 1 4 w6 w.heap.size (.slice (some ⟨g6, 0, none⟩) NW.length nv) NW := by
            have := hb6.own (base := w.heap.size) (by have := hkw.size; omega) (by rw [HNWl.out]; unfold maxLen; omega)
            rw [HNWl.out] at this ⊢; exact this
          have HGo := Lib.hid hgo
          have Hnr6 := Lib.hid hnr6
          have Hcb6 := Lib.hid (Hcb'.out.keep hk6)
          have Hk6 := Lib.hid hk6
          by_cases hne : NW = r
          · have Hp' := Lib.hid (Hsame.out hne)
            rw [decide_eq_true hne] at heq
            have Heq := Lib.hid heq
            clear heq hne hrow hgo hnr6 hb6 hk6
            gi_wp2_with fail
            refine ⟨trivial, (CallsIn.inRound l (callsIn_wide.2 Heq.out)).mono ?_⟩
            clear Heq
            rintro e w7 ⟨rfl, hk7⟩
            have Hfin := Lib.hid (show KeepsFrom w4.heap.size Wa w7 ∧ Ext (fun k => (k = bn ∨ k = cb) ∨ w4.heap.size ≤ k) Wa w7 ∧ ∃ S' chg, NRowsA w7 bn w.heap.size cb S' ∧ Pass x S (pre ++ [i]) S' chg ∧ Blk w7 cb 4 [.bool chg] ∧ Ext (fun k => k = bn ∨ k = cb) w4 w7 from
              ⟨(keepsOthers_of_keep (Hk6.out.trans hk7)).from _, (Hk6.out.trans hk7).ext _, S', chg, Hnr6.out.keep hk7, Hp'.out, Hcb6.out.keep hk7, HE'.out.keepTrans (Hk6.out.trans hk7)⟩)
            clear hk7
            gi_wp2
            exact Hfin.out
          · have Hp' := Lib.hid (Hnew.out hne)
            rw [decide_eq_false hne] at heq
            have Heq := Lib.hid heq
            clear heq hne hrow hgo hnr6 hb6 hk6
            gi_wp2_with fail
            refine ⟨trivial, (CallsIn.inRound l (callsIn_wide.2 Heq.out)).mono ?_⟩
            clear Heq
            rintro e w7 ⟨rfl, hk7⟩
            have e7 := hk7.cell e6
            have c7 := hk7.cell c6
            have cf7 := (Hcb6.out.keep hk7).frozen 0
            have cl7 := (Hcb6.out.keep hk7).lt
            have nf7 := (Hnr6.out.keep hk7).rows.frozen b
            have nl7 := (Hnr6.out.keep hk7).rows.lt
            have n7 := hk7.cell hrc
            have hbcn : bn ≠ cb := by omega
            have hcbn : cb ≠ bn := by omega
            have Hfin := Lib.hid (show KeepsFrom w4.heap.size Wa ((w7.setCell ⟨bn, b, none⟩ (.slice (some ⟨g6, 0, none⟩) nv nv)).setCell ⟨cb, 0, none⟩ (.bool true)) ∧ Ext (fun k => (k = bn ∨ k = cb) ∨ w4.heap.size ≤ k) Wa ((w7.setCell ⟨bn, b, none⟩ (.slice (some ⟨g6, 0, none⟩) nv nv)).setCell ⟨cb, 0, none⟩ (.bool true)) ∧ ∃ S' chg, NRowsA ((w7.setCell ⟨bn, b, none⟩ (.slice (some ⟨g6, 0, none⟩) nv nv)).setCell ⟨cb, 0, none⟩ (.bool true)) bn w.heap.size cb S' ∧ Pass x S (pre ++ [i]) S' chg ∧ Blk ((w7.setCell ⟨bn, b, none⟩ (.slice (some ⟨g6, 0, none⟩) nv nv)).setCell ⟨cb, 0, none⟩ (.bool true)) cb 4 [.bool chg] ∧ Ext (fun k => k = bn ∨ k = cb) w4 ((w7.setCell ⟨bn, b, none⟩ (.slice (some ⟨g6, 0, none⟩) nv nv)).setCell ⟨cb, 0, none⟩ (.bool true)) from by
              have hn7 := (Hnr6.out.keep hk7).put (i := b) (HGo.out.keep hk7) (by show some g6 ≠ some cb; exact fun e => hg6w (Option.some.inj e))
              rw [HNWl.out] at hn7
              refine ⟨(((keepsOthers_of_keep (Hk6.out.trans hk7)).trans (KeepsOthers.setCell _ _ _)).trans (KeepsOthers.setCell _ _ _)).from _, ((((Hk6.out.trans hk7).ext _).setCell (p := ⟨bn, b, none⟩) (fun _ => .inl (.inl rfl)) _).setCell (p := ⟨cb, 0, none⟩) (fun _ => .inl (.inr rfl)) _), _, true, hn7.other hbcn 0 _, Hp'.out, ?_, (((HE'.out.keepTrans (Hk6.out.trans hk7)).setCell (p := ⟨bn, b, none⟩) (fun _ => .inl rfl) _).setCell (p := ⟨cb, 0, none⟩) (fun _ => .inr rfl) _)⟩
              exact ((Hcb6.out.keep hk7).far (p := ⟨bn, b, none⟩) hcbn _).set_ 0 (.bool true))
            clear hk7
            gi_wp2
            exact Hfin.out
        case done =>
          rintro D xs Wd hD rfl ⟨S', chg, hnr, hp, hcb, hE⟩ hK
          have Hfin := Lib.hid (HJ.out (fuelF x S' chg) ({ target := .collected D, args := #[] } :: ds))
          have Hfu2 := Lib.hid (Nat.lt_of_lt_of_le (Hfl.out _ _ _ _ Hfi.out hp) Hfu.out)
          have hEr : Ext (fun k => k = bn ∨ k = cb) Wr Wd := Hq4.out.trans hE (fun _ _ e => e)
          have HI := Lib.hid (show ∃ S chg0, NRowsA Wd bn w.heap.size cb S ∧ FI x S ∧ Blk Wd cb 4 [.bool chg0] ∧ (chg0 = false → Shut x S) ∧ fuelF x S chg0 ≤ fuelF x S' chg ∧ Marks W5.heap.size Wd ({ target := .collected D, args := #[] } :: ds) ∧ Ext (fun k => k = bn ∨ k = cb) W5 Wd from
            ⟨S', chg, hnr, hp.fi, hcb, fun e => by subst e; exact hp.shut, Nat.le_refl _, Marks.push Hmk.out (Hmk.out.keep (others_of_ext2 Hnr.out.rows Hcbk.out hEr)) (by omega) (by omega) hK, HEr.out.trans hEr (fun _ _ e => e)⟩)
          clear hnr hp hcb hE hK hEr
          go_wp2_with fail
          exact Hfin.out (.bool true) (.slice A x.ord.length c) (.func (.func 47) #[] #[.pointer (some ⟨Wr.heap.size, 0, none⟩)]) _ _ Hfu2.out (by unfold fr3; simp) HI.out
end Go.Proofs.Ytjpmiejgcnfiiaa
