/-
  order: the depth first walk.
-/
import Derived.Test.YthjlfbeabobgmaaDSettle
import Derived.Deep.DeepCutAuto
import Derived.Deep.Cut
namespace Go.Proofs.Ythjlfbeabobgmaa
open Go Go.RowKit

def stepC (s : Nat × Nat) : List Value := [.int .i64 (s.1 : Int), .int .i64 (s.2 : Int)]
theorem elS : ElT Try.prog 41 43 2 16 stepC where
  slice := Try.underlying41
  info := info_of (z := .agg #[.int .i64 0, .int .i64 0]) (by kernel_rfl) rfl
  pos := by omega
  len := fun _ => rfl
  one := fun x u hu => by simp [stepC] at hu; rcases hu with rfl | rfl <;> rfl

/-- The walk in memory. -/
structure OM (w0 w : World) (bs : Nat) (st : List (Nat × Nat)) (out : List Nat) (seen : List Bool) (vs vo : Value) : Prop where
  seen : BBlk w bs 4 seen
  stk : Own stepC 2 43 w w0.heap.size vs st.reverse
  out : Own intC 1 3 w w0.heap.size vo (nats out)
  keep : Keep w0 w
  base : w0.heap.size ≤ bs

section
variable {w0 w w' : World} {bs : Nat} {st r : List (Nat × Nat)} {out : List Nat} {seen : List Bool} {vs vo : Value} {x k : Nat}
theorem OM.far (h : OM w0 w bs st out seen vs vo) (hk : Keep w w') : OM w0 w' bs st out seen vs vo := ⟨h.seen.keep hk, h.stk.keep hk, h.out.keep hk, h.keep.trans hk, h.base⟩
theorem OM.top (h : OM w0 w bs ((x, k) :: r) out seen vs vo) : ∃ g c, vs = .slice (some ⟨g, 0, none⟩) (r.length + 1) c ∧ r.length + 1 ≤ c ∧ c ≤ maxLen ∧ g < w.heap.size ∧ w0.heap.size ≤ g ∧ w.cell? ⟨g, r.length * 2, none⟩ = some (.int .i64 (x : Int)) ∧ w.cell? ⟨g, r.length * 2 + 1, none⟩ = some (.int .i64 (k : Int)) ∧ ∀ j, w.frozen? ⟨g, j, none⟩ = false := by
  have hl : ((x, k) :: r).reverse.length = r.length + 1 := by simp
  obtain ⟨g, c, hv, hg, hb, hc⟩ := own_at h.stk (by omega)
  obtain ⟨A, c', hv', h1, h2⟩ := h.stk.form
  have hs := h.stk
  rw [hv] at hs
  rw [hv, hl] at hv'
  cases hv'
  have hcell := fun (j : Nat) (u : Value) => hc (r.length * 2 + j) u
  have hlast : (((x, k) :: r).reverse)[r.length]'(by omega) = (x, k) := by simp
  have hget : ∀ j, j < 2 → (((x, k) :: r).reverse.flatMap stepC)[r.length * 2 + j]? = (stepC (x, k))[j]? := fun j hj => by
    rw [flat_get stepC 2 (fun _ => rfl) ((x, k) :: r).reverse r.length j (by omega) hj, hlast]
  refine ⟨g, c, by rw [hv, hl], by omega, h2, hg, hb, hcell 0 _ (hget 0 (by omega)), hcell 1 _ (hget 1 (by omega)), fun j => hs.thawed j⟩

theorem flat_bump (l : List (Nat × Nat)) (x k : Nat) : (l ++ [(x, k + 1)]).flatMap stepC = ((l ++ [(x, k)]).flatMap stepC).set (l.length * 2 + 1) (.int .i64 ((k + 1 : Nat) : Int)) := by
  have hl := flat_length stepC 2 (fun _ => rfl) l
  rw [List.flatMap_append, List.flatMap_append, List.set_append, if_neg (by omega), hl]
  rw [show l.length * 2 + 1 - l.length * 2 = 1 by omega]
  rfl
theorem OM.bump (h : OM w0 w bs ((x, k) :: r) out seen vs vo) {g c : Nat} (hv : vs = .slice (some ⟨g, 0, none⟩) (r.length + 1) c) {z : Int} (hz : z = ((k + 1 : Nat) : Int)) : OM w0 (w.setCell ⟨g, r.length * 2 + 1, none⟩ (.int .i64 z)) bs ((x, k + 1) :: r) out seen vs vo := by
  subst hv hz
  have hb : w0.heap.size ≤ g := (h.stk.lt g rfl).1
  refine ⟨h.seen.far (p := ⟨g, r.length * 2 + 1, none⟩) (fun e => h.stk.blk_apart h.seen (by decide) rfl e.symm) _, ?_, h.out.put_far (fun q hq e => h.out.kinds h.stk (by decide) hq (by rw [e]; rfl)) _, h.keep.setCell (p := ⟨g, r.length * 2 + 1, none⟩) hb _, h.base⟩
  refine Own.put (f := stepC) (s := 2) (ys := ((x, k + 1) :: r).reverse) (fun _ => rfl) h.stk _ _ ?_ (by simp)
  rw [List.reverse_cons, List.reverse_cons]
  have := flat_bump r.reverse x k
  rw [List.length_reverse] at this
  exact this
theorem OM.push (h : OM w0 w bs st out seen vs vo) {m sz : Nat} (hm : st.length = m) (hn : m < 900000) (hsz : w.heap.size = sz) (b : Nat) {z : Int} (hz : z = (b : Int)) : ∃ A c, vs = .slice A m c ∧ ∃ A' c' w2,
    (Builtin.append_ #[41, 41] 41 #[.slice A m c, .slice (some ⟨sz, 0, none⟩) 1 1]).run Try.prog (w.alloc (.cells #[.int .i64 z, .int .i64 0] 43)) = .ok (.slice A' (m + 1) c') w2 ∧
      OM w0 w2 bs ((b, 0) :: st) out seen (.slice A' (m + 1) c') vo := by
  subst hm hsz hz
  obtain ⟨A, c, hv, A', c', w2, hrun, hown, hE, hbl, hB⟩ := h.stk.push1 elS (b, 0) (by simp; omega) (by omega) h.keep.size 41
  rw [List.length_reverse] at hv hrun hown
  rw [hv] at hrun
  refine ⟨A, c, hv, A', c', w2, hrun, ?_⟩
  refine ⟨hB _ _ _ h.seen (by decide), by rw [List.reverse_cons]; exact hown, ?_, Keep.of_ext h.keep hE (fun i hi h => by omega), h.base⟩
  refine h.out.ext (S := fun q => q < w.heap.size → vs.ownBlock = some q) ⟨hE.os, hE.tape, hE.output, hE.size, fun q hq hnq => hbl q hq (fun e => hnq (fun _ => e))⟩ (fun q hq hs => ?_)
  exact h.out.kinds h.stk (by decide) hq (hs (h.out.lt q hq).2)
theorem OM.mark (h : OM w0 w bs st out seen vs vo) (b : Nat) : OM w0 (w.setCell ⟨bs, b, none⟩ (.bool true)) bs st out (seen.set b true) vs vo :=
  ⟨h.seen.put b true, h.stk.put_far (fun q hq => h.stk.blk_apart h.seen (by decide) hq) _, h.out.put_far (fun q hq => h.out.blk_apart h.seen (by decide) hq) _, h.keep.setCell (p := ⟨bs, b, none⟩) h.base _, h.base⟩
theorem nats_snoc (l : List Nat) (x : Nat) : nats (l ++ [x]) = nats l ++ [(x : Int)] := by simp [nats]
theorem OM.leave (h : OM w0 w bs ((x, k) :: r) out seen vs vo) (hn : out.length < 900000) {g c : Nat} (hv : vs = .slice (some ⟨g, 0, none⟩) (r.length + 1) c) : ∃ A c0, vo = .slice A out.length c0 ∧ ∃ A' c' w2,
    (Builtin.append_ #[29, 29] 29 #[.slice A out.length c0, .slice (some ⟨w.heap.size, 0, none⟩) 1 1]).run Try.prog (w.alloc (.cells #[.int .i64 (x : Int)] 3)) = .ok (.slice A' (out.length + 1) c') w2 ∧
      OM w0 w2 bs r (out ++ [x]) seen (.slice (some ⟨g, 0, none⟩) r.length c) (.slice A' (out.length + 1) c') := by
  obtain ⟨A, c0, hvo, A', c', w2, hrun, hown, hE, hbl, hB⟩ := h.out.push1 elI (x : Int) (by rw [nats_len]; omega) (by omega) h.keep.size 29
  rw [nats_len] at hvo hrun hown
  rw [hvo] at hrun
  refine ⟨A, c0, hvo, A', c', w2, hrun, ?_⟩
  subst hv
  have hstk2 : Own stepC 2 43 w2 w0.heap.size (.slice (some ⟨g, 0, none⟩) (r.length + 1) c) ((x, k) :: r).reverse := by
    refine h.stk.ext (S := fun q => q < w.heap.size → vo.ownBlock = some q) ⟨hE.os, hE.tape, hE.output, hE.size, fun q hq hnq => hbl q hq (fun e => hnq (fun _ => e))⟩ (fun q hq hs => ?_)
    exact h.stk.kinds h.out (by decide) hq (hs (h.stk.lt q hq).2)
  have hfr := Own.front (f := stepC) (s := 2) (fun _ => rfl) hstk2 (m := r.length) (by simp)
  rw [List.reverse_cons, List.take_left' (by simp)] at hfr
  exact ⟨hB _ _ _ h.seen (by decide), hfr, by rw [nats_snoc]; exact hown, Keep.of_ext h.keep hE (fun i hi h => by omega), h.base⟩

section
variable {ops : Array Oper} {rest : List Oper} {o : Oper} {a : Act} {Q : Exit → Act → World → Prop}
theorem OM.push_wp (h : OM w0 w bs st out seen vs vo) (hgd : o.guard = none) (p q : Operand) (ho : o.op = .call { callee := .builtin .append, args := #[p, q], argTypes := #[41, 41] }) (hty : o.type = 41)
    (hx : a.eval p = vs) {sz : Nat} (hy : a.eval q = .slice (some ⟨sz, 0, none⟩) 1 1) (b : Nat) {z : Int} {m : Nat} (hm : st.length = m) (hn : m < 900000) (hsz : w.heap.size = sz) (hz : z = (b : Int))
    (k : ∀ A' c' w2, OM w0 w2 bs ((b, 0) :: st) out seen (.slice A' (m + 1) c') vo → wpList Try.prog ops Q rest (a.put o.dst (.slice A' (m + 1) c')) w2) :
    wpList Try.prog ops Q (o :: rest) a (w.alloc (.cells #[.int .i64 z, .int .i64 0] 43)) := by
  obtain ⟨A, c, hv, A', c', w2, hrun, hOM⟩ := h.push hm hn hsz b hz
  rw [← hv] at hrun
  exact wpList_append_eq hgd p q _ ho _ _ hx hy _ _ (by rw [hty]; exact hrun) (k _ _ _ hOM)
theorem OM.leave_wp (h : OM w0 w bs ((x, k) :: r) out seen vs vo) (hgd : o.guard = none) (p q : Operand) (ho : o.op = .call { callee := .builtin .append, args := #[p, q], argTypes := #[29, 29] }) (hty : o.type = 29)
    (hx : a.eval p = vo) {sz : Nat} (hy : a.eval q = .slice (some ⟨sz, 0, none⟩) 1 1) (hn : out.length < 900000) (hsz : w.heap.size = sz) {g c : Nat} (hv : vs = .slice (some ⟨g, 0, none⟩) (r.length + 1) c)
    (k' : ∀ v' w2, OM w0 w2 bs r (out ++ [x]) seen (.slice (some ⟨g, 0, none⟩) r.length c) v' → wpList Try.prog ops Q rest (a.put o.dst v') w2) :
    wpList Try.prog ops Q (o :: rest) a (w.alloc (.cells #[.int .i64 (x : Int)] 3)) := by
  obtain ⟨A, c0, hvo, A', c', w2, hrun, hOM⟩ := h.leave hn hv
  rw [← hvo, hsz] at hrun
  exact wpList_append_eq hgd p q _ ho _ _ hx hy _ _ (by rw [hty]; exact hrun) (k' _ _ hOM)
end
end

/-- What order leaves. -/
def OrderPost (N : Dom.Gr) (w : World) (e : Ending) (w' : World) : Prop := ∃ v out, e = .returned v ∧ Own intC 1 3 w' w.heap.size v (nats out) ∧ Dom.Post N out ∧ Keep w w'

set_option maxHeartbeats 2000000 in
set_option maxRecDepth 100000 in
theorem order_calls (rs : List Row) (A : Option Addr) (c : Nat) (w : World) (hg : Graph w A rs) (hn : rs.length ≤ 100000) :
    Calls Try.prog 20 #[.slice A rs.length c] w (OrderPost (gr rs) w) := by
  obtain ⟨w1, hmake, hblk, hk1⟩ := make_bools w rs.length (by omega)
  have Hg := Lib.hid hg
  have hN : (gr rs).length = rs.length := gr_len rs
  have Hlen := Lib.hid hN
  have Hblk := Lib.hid hblk
  have Hk1 := Lib.hid hk1
  have hlt1 := hblk.lt
  clear hg hblk hk1
  have Hempty := Lib.hid (show rs = [] → OM w w1 w.heap.size [] [] [] (.slice none 0 0) (.slice none 0 0) ∧ Dom.Dfs (gr rs) [] [] [] from fun e => by
    subst e
    exact ⟨⟨Hblk.out, Own.nil _ _ _ _ _, Own.nil _ _ _ _ _, Hk1.out, Nat.le_refl _⟩, Dom.Dfs.empty⟩)
  have Hstart := Lib.hid (show 0 < rs.length → OM w w1 w.heap.size [] [] (List.replicate rs.length false) (.slice none 0 0) (.slice none 0 0) ∧ Dom.Dfs (gr rs) [(0, 0)] [] ((List.replicate rs.length false).set 0 true) from fun h => by
    refine ⟨⟨Hblk.out, Own.nil _ _ _ _ _, Own.nil _ _ _ _ _, Hk1.out, Nat.le_refl _⟩, ?_⟩
    have := Dom.Dfs.start (N := gr rs) (fun e => by rw [e] at hN; simp at hN; omega)
    rwa [hN] at this)
  clear hN
  go_enter Try.func20, Try.ntmps20
  go_wp2_with fail
  go_step3
  go_upto_if 13 with (refine wpList_make_eq rfl _ _ _ rfl _ _ rfl rfl _ _ hmake ?_; clear hmake)
  go_cut [5] from 13 to 19 (fun v5 wx => ∃ st seen, OM w wx w.heap.size st [] seen v5 (.slice none 0 0) ∧ Dom.Dfs (gr rs) st [] seen)
  case first =>
    by_cases h0 : 0 < rs.length
    · have h0' : (0 : Int) < (rs.length : Int) := by omega
      obtain ⟨hOM, hD⟩ := Hstart.out h0
      have fx := hOM.seen.frozen 0
      have cx := hOM.seen.get (k := 0) (by simpa using h0)
      obtain ⟨B, d, hv, B', d', w3, hrun, hOM3⟩ := (hOM.mark 0).push (m := 0) (sz := w1.heap.size) rfl (by omega) (by simp [World.setCell]) 0 (z := 0) rfl
      cases hv
      have HOM3 := Lib.hid hOM3
      have HD := Lib.hid hD
      clear hOM hD hOM3
      go_wp2_with (at_builtin; refine wpList_append_eq rfl _ _ _ rfl _ _ rfl rfl _ _ hrun ?_; clear hrun)
      go_meet
      case rel => exact ⟨[(0, 0)], _, HOM3.out, HD.out⟩
    · have h0' : ¬ (0 : Int) < (rs.length : Int) := by omega
      have He := Lib.hid (Hempty.out (List.eq_nil_of_length_eq_zero (by omega)))
      go_wp2
      go_meet
      case rel => exact ⟨[], [], He.out.1, He.out.2⟩
  case rest =>
    obtain ⟨st, seen, hOM, hD⟩ := hcut
    have HS := Lib.hid (show OM w wc w.heap.size st [] seen _ (.slice none 0 0) ∧ Dom.Dfs (gr rs) st [] seen from ⟨hOM, hD⟩)
    clear Hempty Hstart hOM hD Hblk Hk1 hlt1
    go_wp2_with fail
    go_step3
    go_wp2_with fail
    go_loopg [4, 5] (Dom.fuel seen st) (fun g vo vs wr => ∃ st out seen, OM w wr w.heap.size st out seen vs vo ∧ Dom.Dfs (gr rs) st out seen ∧ Dom.fuel seen st ≤ g)
    case atStart => exact ⟨st, [], seen, HS.out.1, HS.out.2, Nat.le_refl _⟩
    case round =>
      clear HS
      obtain ⟨st, out, seen, hOM, hD, hf⟩ := hrel
      obtain ⟨vo, rfl⟩ : ∃ vo, vo = u4 := ⟨_, rfl⟩
      obtain ⟨vs, rfl⟩ : ∃ vs, vs = u5 := ⟨_, rfl⟩
      obtain ⟨go, rfl⟩ : ∃ go : Nat, go = gk := ⟨_, rfl⟩
      cases st with
      | nil =>
        obtain ⟨B, d, hv, _⟩ := hOM.stk.form
        have hv' : vs = .slice B 0 d := hv
        subst hv'
        have Hfin := Lib.hid (show Own intC 1 3 wr w.heap.size vo (nats out) ∧ Dom.Post (gr rs) out ∧ Keep w wr from ⟨hOM.out, hD.post, hOM.keep⟩)
        clear hv hOM hD
        go_wp2_with fail
        rw [Exit.noGoto_ret]
        go_ret
        exact ⟨_, out, rfl, Hfin.out⟩
      | cons s r =>
        obtain ⟨x, k⟩ := s
        obtain ⟨gb, cc, rfl, h1, h2, hgl, hgb, cx, ck, hfr⟩ := hOM.top
        obtain ⟨M, hM⟩ : ∃ M, M = r.length + 1 := ⟨_, rfl⟩
        rw [← hM] at hOM h1 ⊢
        have hxl : x < rs.length := by have := hD.top_lt; rw [Hlen.out] at this; exact this
        unfold maxLen at h2
        have hM1 : (M : Int) - 1 = (r.length : Int) := by omega
        have hw : IntKind.i64.wrap ((M : Int) - 1) = (r.length : Int) := by rw [hM1]; exact IntWalk.i64_in _ (by omega)
        have m0 : (0 : Int) ≤ (r.length : Int) := by omega
        have m1 : (r.length : Int) < (M : Int) := by omega
        have m2 : (r.length : Int) ≤ (cc : Int) := by omega
        have mp : decide (0 < M) = true := decide_eq_true (by omega)
        have HM := Lib.hid hM
        have Hst := Lib.hid (show OM w wr w.heap.size ((x, k) :: r) out seen (.slice (some ⟨gb, 0, none⟩) M cc) vo ∧ Dom.Dfs (gr rs) ((x, k) :: r) out seen from ⟨hOM, hD⟩)
        clear hM hM1 hOM hD cx ck hfr
        obtain ⟨wo, rfl⟩ : ∃ wo : World, wo = wr := ⟨_, rfl⟩
        go_wp2_with fail
        go_loopg [5, 7] (rs[x].l.length) (fun g2 v5 _ wi => ∃ k, v5 = .slice (some ⟨gb, 0, none⟩) M cc ∧ OM w wi w.heap.size ((x, k) :: r) out seen (.slice (some ⟨gb, 0, none⟩) M cc) vo ∧ Dom.Dfs (gr rs) ((x, k) :: r) out seen ∧ rs[x].l.length - k ≤ g2)
        case atStart => exact ⟨k, rfl, Hst.out.1, Hst.out.2, by omega⟩
        case round =>
          clear Hst
          obtain ⟨k, rfl, hOM, hD, hg2⟩ := hrel
          obtain ⟨gb', cc', e, _, _, hgl', _, cx, ck, hfr⟩ := hOM.top
          injection e with e1 e2 e3
          clear e2 e3
          injection e1 with e1
          injection e1 with e1
          subst e1
          have f1 := hfr (r.length * 2 + 1)
          obtain ⟨b, off, rfl, _, qr⟩ := row_at Hg.out.seg hOM.keep hxl
          have hgrow : (gr rs).getD x [] = rs[x].l := gr_get hxl
          have hint := fun (wx : World) (hk : Keep w wx) (j : Nat) (hj : j < rs[x].l.length) => int_at (Hg.out.rows rs[x] (List.getElem_mem hxl)).seg hk hj
          have hlm := (Hg.out.rows rs[x] (List.getElem_mem hxl)).len
          obtain ⟨l, hl⟩ : ∃ l, l = rs[x].l := ⟨_, rfl⟩
          obtain ⟨Ax, hAx⟩ : ∃ A, A = rs[x].a := ⟨_, rfl⟩
          obtain ⟨cr, hcr⟩ : ∃ c, c = rs[x].c := ⟨_, rfl⟩
          rw [← hl, ← hAx, ← hcr] at qr
          rw [← hl] at hint hgrow hg2 hlm
          rw [← hAx] at hint
          have Hgrow := Lib.hid hgrow
          have Hl := Lib.hid hl
          have Hint := Lib.hid hint
          have HOM := Lib.hid hOM
          have HD := Lib.hid hD
          unfold maxLen at hlm
          have x0 : (0 : Int) ≤ (x : Int) := by omega
          have x1 : (x : Int) < (rs.length : Int) := by omega
          clear hgrow hint hOM hD hl hAx hcr hfr
          by_cases hkl : k < l.length
          · have dk : decide ((k : Int) < (l.length : Int)) = true := decide_eq_true (by omega)
            have dk' : decide (k < l.length) = true := decide_eq_true hkl
            obtain ⟨b5, off5, rfl, _, qt⟩ := Hint.out wr HOM.out.keep k hkl
            obtain ⟨tv, htv⟩ : ∃ tv, tv = l[k] := ⟨_, rfl⟩
            rw [← htv] at qt
            have Htv := Lib.hid htv
            have k0 : (0 : Int) ≤ (k : Int) := by omega
            have k1 : (k : Int) < (l.length : Int) := by omega
            clear htv
            have hne : w.heap.size ≠ gb := fun e => HOM.out.stk.blk_apart HOM.out.seen (by decide) rfl e.symm
            have hne' : gb ≠ w.heap.size := fun e => hne e.symm
            have Hskip := Lib.hid (show (∀ b : Nat, tv = (b : Int) → b < rs.length → seen.getD b false = true) → Dom.Dfs (gr rs) ((x, k + 1) :: r) out seen from fun h => HD.out.skip (fun b hb hlt => by
              rw [Hlen.out] at hlt
              rw [Hgrow.out, List.getElem?_eq_getElem hkl, ← Htv.out] at hb
              exact h b (Option.some.inj hb) hlt))
            by_cases t0 : tv < 0
            · have dt : decide (0 ≤ tv) = false := decide_eq_false (by omega)
              have Hs := Lib.hid (Hskip.out (fun b hb _ => by omega))
              go_wp2_with fail
              go_quiet (fail)
              go_wp2_with fail
              go_quiet (fail)
              go_wp2_with fail
              go_roundg (gk - 1)
              case measure => omega
              case rel => exact ⟨k + 1, rfl, (HOM.out.far ((Keep.refl _).drewN _)).bump (by rw [HM.out]) rfl, Hs.out, by rw [← Hl.out]; omega⟩
            · have dt : decide (0 ≤ tv) = true := decide_eq_true (by omega)
              obtain ⟨tb, rfl⟩ : ∃ tb : Nat, tv = (tb : Int) := ⟨tv.toNat, by omega⟩
              by_cases t1 : tb < rs.length
              · have dt1 : decide ((tb : Int) < (rs.length : Int)) = true := decide_eq_true (by omega)
                have dt1' : decide (tb < rs.length) = true := decide_eq_true t1
                have hsl : tb < seen.length := by rw [HD.out.len, Hlen.out]; exact t1
                have qs := HOM.out.seen.get hsl
                have fs := HOM.out.seen.frozen tb
                have ls := HOM.out.seen.lt
                have b0 : (0 : Int) ≤ (tb : Int) := by omega
                have b1 : (tb : Int) < (rs.length : Int) := by omega
                cases hsb : seen[tb] with
                | true =>
                  rw [hsb] at qs
                  have Hs := Lib.hid (Hskip.out (fun b hb _ => by
                    obtain rfl : tb = b := by omega
                    rw [List.getD_eq_getElem?_getD, List.getElem?_eq_getElem hsl, hsb]; rfl))
                  clear hsb hsl
                  go_wp2_with fail
                  go_quiet (fail)
                  go_wp2_with fail
                  go_quiet (fail)
                  go_wp2_with fail
                  go_roundg (gk - 1)
                  case measure => omega
                  case rel => exact ⟨k + 1, rfl, (HOM.out.far ((Keep.refl _).drewN _)).bump (by rw [HM.out]) rfl, Hs.out, by rw [← Hl.out]; omega⟩
                | false =>
                  rw [hsb] at qs
                  have hsf : seen.getD tb false = false := by rw [List.getD_eq_getElem?_getD, List.getElem?_eq_getElem hsl, hsb]; rfl
                  have Hpush := Lib.hid (HD.out.push (b := tb) (by rw [Hgrow.out, List.getElem?_eq_getElem hkl, ← Htv.out]) (by rw [Hlen.out]; exact t1) hsf)
                  have Hfu := Lib.hid (Dom.fuel_push (x := x) (k := k) (r := r) hsl hsf)
                  clear hsb hsl hsf
                  have Hst := Lib.hid (show r.length + 1 = M ∧ M < 900000 from ⟨HM.out.symm, by
                    have h1 := HD.out.cnt
                    rw [Hlen.out] at h1
                    simp only [List.length_cons] at h1
                    have h2 := HM.out
                    omega⟩)
                  go_wp2_with fail
                  go_quiet (fail)
                  go_wp2_with fail
                  go_quiet (fail)
                  go_wp2_with (at_builtin; refine OM.push_wp ((((HOM.out.far ((Keep.refl _).drewN _)).bump (by rw [HM.out]) rfl).mark tb)) rfl _ _ rfl rfl rfl rfl tb Hst.out.1 Hst.out.2 (by simp [World.setCell]) rfl ?_; intro A' c' w2 hO; have HO := Lib.hid hO; clear hO)
                  go_roundg (Dom.fuel (seen.set tb true) ((tb, 0) :: (x, k + 1) :: r))
                  case measure => exact Nat.lt_of_lt_of_le Hfu.out hf
                  case rel => exact ⟨_, out, _, HO.out, Hpush.out, Nat.le_refl _⟩
              · have dt1 : decide ((tb : Int) < (rs.length : Int)) = false := decide_eq_false (by omega)
                have dt1' : decide (tb < rs.length) = false := decide_eq_false t1
                have Hs := Lib.hid (Hskip.out (fun b hb hlt => by omega))
                go_wp2_with fail
                go_quiet (fail)
                go_wp2_with fail
                go_quiet (fail)
                go_wp2_with fail
                go_roundg (gk - 1)
                case measure => omega
                case rel => exact ⟨k + 1, rfl, (HOM.out.far ((Keep.refl _).drewN _)).bump (by rw [HM.out]) rfl, Hs.out, by rw [← Hl.out]; omega⟩
          · have dk : decide ((k : Int) < (l.length : Int)) = false := decide_eq_false (by omega)
            have dk' : decide (k < l.length) = false := decide_eq_false hkl
            have Hpop := Lib.hid (HD.out.pop (by rw [Hgrow.out]; omega))
            have Hfu := Lib.hid (Dom.fuel_pop (seen := seen) (r := r) (x := x) (k := k))
            have Hout := Lib.hid (show out.length < 900000 by
              have h1 := HD.out.cnt
              rw [Hlen.out] at h1
              omega)
            go_wp2_with fail
            go_quiet (fail)
            go_wp2_with (at_builtin; refine OM.leave_wp (HOM.out.far ((Keep.refl _).drewN _)) rfl _ _ rfl rfl rfl rfl Hout.out (by simp) (by rw [HM.out]) ?_; intro v' w2 hO; have HO := Lib.hid hO; clear hO)
            go_roundg (Dom.fuel seen r)
            case measure => exact Nat.lt_of_lt_of_le Hfu.out hf
            case rel => exact ⟨r, _, seen, HO.out, Hpop.out, Nat.le_refl _⟩
end Go.Proofs.Ythjlfbeabobgmaa
