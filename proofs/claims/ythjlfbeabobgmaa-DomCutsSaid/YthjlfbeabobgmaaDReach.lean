/-
  The reference's reached: a flood that avoids a node.
-/
import Derived.Test.YthjlfbeabobgmaaDOrder
import Derived.Test.YthjlfbeabobgmaaDLaws
namespace Go.Proofs.Ythjlfbeabobgmaa
open Go Go.RowKit

/-- The flood: what is still to be looked at lies in todo (the last first); of node a the first i edges have been followed. -/
structure Flood (N : Dom.Gr) (d : Nat) (part : Option (Nat × Nat)) (todo : List Nat) (seen : List Bool) : Prop where
  len : seen.length = N.length
  sound : ∀ x, seen.getD x false = true → x < N.length ∧ Dom.RA (Dom.Ed N) d x
  tod : ∀ x ∈ todo, seen.getD x false = true
  root : N ≠ [] → 0 ≠ d → seen.getD 0 false = true
  closed : ∀ x, seen.getD x false = true → x ∉ todo → (∀ i, part ≠ some (x, i)) → ∀ b, Dom.Ed N x b → b ≠ d → seen.getD b false = true
  some_ : ∀ x i, part = some (x, i) → seen.getD x false = true ∧ ∀ j, j < i → ∀ b : Nat, (N.getD x [])[j]? = some (b : Int) → b < N.length → b ≠ d → seen.getD b false = true
  cnt : todo.length + seen.count false ≤ N.length

section
variable {N : Dom.Gr} {d : Nat} {todo : List Nat} {seen : List Bool} {x i b : Nat}
theorem getD_rep (n x : Nat) : (List.replicate n false).getD x false = false := by
  rw [List.getD_eq_getElem?_getD, List.getElem?_replicate]
  split <;> rfl
theorem getD_mark {seen : List Bool} {b y : Nat} (hb : b < seen.length) : (seen.set b true).getD y false = true ↔ y = b ∨ seen.getD y false = true := by
  rw [List.getD_eq_getElem?_getD, List.getElem?_set]
  by_cases e : b = y
  · subst e; simp [hb]
  · rw [if_neg e, ← List.getD_eq_getElem?_getD]
    exact ⟨.inr, fun h => h.elim (fun h => absurd h.symm e) id⟩
theorem Flood.none_ (h : N = [] ∨ 0 = d) : Flood N d none [] (List.replicate N.length false) where
  len := by simp
  sound := fun x hx => by rw [getD_rep] at hx; cases hx
  tod := fun x hx => by simp at hx
  root := fun h1 h2 => absurd (h.resolve_left h1) h2
  closed := fun x hx => by rw [getD_rep] at hx; cases hx
  some_ := fun x i e => by cases e
  cnt := by simp
theorem Flood.start (hN : N ≠ []) (h0 : 0 ≠ d) : Flood N d none [0] ((List.replicate N.length false).set 0 true) := by
  have hl : 0 < N.length := List.length_pos_iff.2 hN
  have hm : ∀ y, ((List.replicate N.length false).set 0 true).getD y false = true ↔ y = 0 := fun y => by
    rw [getD_mark (by simpa using hl), getD_rep]; simp
  refine ⟨by simp, fun x hx => ?_, fun x hx => ?_, fun _ _ => (hm 0).2 rfl, fun x hx hnt => ?_, (fun x i e => by cases e), ?_⟩
  · rw [hm] at hx; subst hx; exact ⟨hl, .root h0⟩
  · rw [hm]; simpa using hx
  · rw [hm] at hx; subst hx; exact absurd (by simp) hnt
  · have := Dom.count_mark (seen := List.replicate N.length false) (b := 0) (by simpa using hl) (getD_rep _ _)
    rw [List.count_replicate_self] at this
    simp only [List.length_singleton]; omega
/-- The last is taken. -/
theorem Flood.take (h : Flood N d none (x :: todo) seen) : Flood N d (some (x, 0)) todo seen where
  len := h.len
  sound := h.sound
  tod := fun y hy => h.tod y (List.mem_cons_of_mem _ hy)
  root := h.root
  closed := fun y hy hnt hp => by
    refine h.closed y hy (fun hm => ?_) (fun i e => by cases e)
    rcases List.mem_cons.1 hm with e | h1
    · exact hp 0 (by rw [e])
    · exact hnt h1
  some_ := fun y i e => by
    cases e
    exact ⟨h.tod x (by simp), fun j hj => absurd hj (Nat.not_lt_zero _)⟩
  cnt := by have := h.cnt; simp only [List.length_cons] at this; omega
theorem Flood.skip (h : Flood N d (some (x, i)) todo seen) (hs : ∀ b : Nat, (N.getD x [])[i]? = some (b : Int) → b < N.length → b ≠ d → seen.getD b false = true) : Flood N d (some (x, i + 1)) todo seen where
  len := h.len
  sound := h.sound
  tod := h.tod
  root := h.root
  closed := fun y hy hnt hp => h.closed y hy hnt (fun j e => by cases e; exact hp (i + 1) rfl)
  some_ := fun y j e => by
    cases e
    obtain ⟨h1, h2⟩ := h.some_ x i rfl
    refine ⟨h1, fun j hj b hb => ?_⟩
    rcases Nat.lt_or_ge j i with h3 | h3
    · exact h2 j h3 b hb
    · obtain rfl : j = i := by omega
      exact hs b hb
  cnt := h.cnt
theorem Flood.add (h : Flood N d (some (x, i)) todo seen) (hx : x < N.length) (hb : (N.getD x [])[i]? = some (b : Int)) (hlt : b < N.length) (hne : b ≠ d) (hs : seen.getD b false = false) : Flood N d (some (x, i + 1)) (b :: todo) (seen.set b true) := by
  have hbl : b < seen.length := by rw [h.len]; exact hlt
  obtain ⟨h1, h2⟩ := h.some_ x i rfl
  refine ⟨by simpa using h.len, fun y hy => ?_, fun y hy => ?_, fun h3 h4 => (getD_mark hbl).2 (.inr (h.root h3 h4)), fun y hy hnt hp c hc hcd => (getD_mark hbl).2 (.inr ?_), fun y j e => ?_, ?_⟩
  · rcases (getD_mark hbl).1 hy with rfl | h3
    · exact ⟨hlt, .step (h.sound x h1).2 (Dom.Ed.of_get hx hlt hb) hne⟩
    · exact h.sound y h3
  · rw [getD_mark hbl]
    rcases List.mem_cons.1 hy with e | h3
    · exact .inl e
    · exact .inr (h.tod y h3)
  · rcases (getD_mark hbl).1 hy with rfl | h3
    · exact absurd (by simp) hnt
    · exact h.closed y h3 (fun hm => hnt (List.mem_cons_of_mem _ hm)) (fun j e => by cases e; exact hp (i + 1) rfl) c hc hcd
  · cases e
    refine ⟨(getD_mark hbl).2 (.inr h1), fun j hj c hc hcl hcd => (getD_mark hbl).2 ?_⟩
    rcases Nat.lt_or_ge j i with h3 | h3
    · exact .inr (h2 j h3 c hc hcl hcd)
    · obtain rfl : j = i := by omega
      rw [hb] at hc
      injection hc with hc
      exact .inl (by omega)
  · have h3 := Dom.count_mark hbl hs
    have h4 := h.cnt
    simp only [List.length_cons]; omega
theorem Flood.close (h : Flood N d (some (x, i)) todo seen) (hx : x < N.length) (hi : (N.getD x []).length ≤ i) : Flood N d none todo seen where
  len := h.len
  sound := h.sound
  tod := h.tod
  root := h.root
  closed := fun y hy hnt _ b hb hbd => by
    obtain ⟨h1, h2⟩ := h.some_ x i rfl
    by_cases e : y = x
    · subst e
      obtain ⟨j, h3, h4⟩ := hb.get
      exact h2 j (by omega) b h4 hb.2.1 hbd
    · exact h.closed y hy hnt (fun j e1 => by cases e1; exact e rfl) b hb hbd
  some_ := fun y j e => by cases e
  cnt := h.cnt
theorem Flood.full (h : Flood N d none [] seen) (hN : N ≠ []) (x : Nat) : seen.getD x false = true ↔ Dom.RA (Dom.Ed N) d x := by
  refine ⟨fun hx => (h.sound x hx).2, fun hr => ?_⟩
  induction hr with
  | root h0 => exact h.root hN h0
  | step _ he hne ih => exact h.closed _ ih (by simp) (fun i e => by cases e) _ he hne
/-- What is still to come, at most. -/
def floodFuel (seen : List Bool) (todo : List Nat) : Nat := 2 * seen.count false + todo.length
end

/-- The flood in memory. -/
structure FM (w0 w : World) (bs : Nat) (todo : List Nat) (seen : List Bool) (vt : Value) : Prop where
  seen : BBlk w bs 4 seen
  tod : Own intC 1 3 w w0.heap.size vt (nats todo.reverse)
  keep : Keep w0 w
  base : w0.heap.size ≤ bs
section
variable {w0 w w' : World} {bs : Nat} {todo : List Nat} {seen : List Bool} {vt : Value} {x : Nat}
theorem FM.mark (h : FM w0 w bs todo seen vt) (b : Nat) : FM w0 (w.setCell ⟨bs, b, none⟩ (.bool true)) bs todo (seen.set b true) vt :=
  ⟨h.seen.put b true, h.tod.put_far (fun q hq => h.tod.blk_apart h.seen (by decide) hq) _, h.keep.setCell (p := ⟨bs, b, none⟩) h.base _, h.base⟩
theorem FM.push (h : FM w0 w bs todo seen vt) {m sz : Nat} (hm : todo.length = m) (hn : m < 900000) (hsz : w.heap.size = sz) (b : Nat) {z : Int} (hz : z = (b : Int)) : ∃ A c, vt = .slice A m c ∧ ∃ A' c' w2,
    (Builtin.append_ #[29, 29] 29 #[.slice A m c, .slice (some ⟨sz, 0, none⟩) 1 1]).run Try.prog (w.alloc (.cells #[.int .i64 z] 3)) = .ok (.slice A' (m + 1) c') w2 ∧
      FM w0 w2 bs (b :: todo) seen (.slice A' (m + 1) c') := by
  subst hm hsz hz
  obtain ⟨A, c, hv, A', c', w2, hrun, hown, hE, hbl, hB⟩ := h.tod.push1 elI (b : Int) (by rw [nats_len]; simp; omega) (by omega) h.keep.size 29
  rw [nats_len, List.length_reverse] at hv hrun hown
  rw [hv] at hrun
  exact ⟨A, c, hv, A', c', w2, hrun, hB _ _ _ h.seen (by decide), by rw [List.reverse_cons, nats_snoc]; exact hown, Keep.of_ext h.keep hE (fun i hi h => by omega), h.base⟩
theorem FM.top (h : FM w0 w bs (x :: todo) seen vt) : ∃ g c, vt = .slice (some ⟨g, 0, none⟩) (todo.length + 1) c ∧ todo.length + 1 ≤ c ∧ c ≤ maxLen ∧ w.cell? ⟨g, todo.length, none⟩ = some (.int .i64 (x : Int)) ∧ FM w0 w bs todo seen (.slice (some ⟨g, 0, none⟩) todo.length c) := by
  have hl : (nats (x :: todo).reverse).length = todo.length + 1 := by rw [nats_len]; simp
  obtain ⟨g, c, hv, hg, hb, hc⟩ := own_at h.tod (by omega)
  obtain ⟨A, c', hv', h1, h2⟩ := h.tod.form
  have hs := h.tod
  rw [hv] at hs
  rw [hv, hl] at hv'
  cases hv'
  have hlast : (nats (x :: todo).reverse)[todo.length]? = some (x : Int) := by
    rw [List.reverse_cons, nats_snoc, List.getElem?_append_right (by rw [nats_len]; simp), nats_len]; simp
  have hcell := hc todo.length (.int .i64 (x : Int)) (by rw [flat_int, List.getElem?_map, hlast]; rfl)
  have hfr := Own.front (f := intC) (s := 1) (fun _ => rfl) hs (m := todo.length) (by rw [hl]; omega)
  rw [List.reverse_cons, nats_snoc, List.take_left' (by rw [nats_len]; simp)] at hfr
  exact ⟨g, c, by rw [hv, hl], by omega, h2, hcell, h.seen, hfr, h.keep, h.base⟩
end

/-- What reached leaves. -/
def ReachPost (N : Dom.Gr) (n d : Nat) (w : World) (e : Ending) (w' : World) : Prop := ∃ seen, e = .returned (.slice (some ⟨w.heap.size, 0, none⟩) n n) ∧ BBlk w' w.heap.size 4 seen ∧ seen.length = n ∧ (N ≠ [] → ∀ x, seen.getD x false = true ↔ Dom.RA (Dom.Ed N) d x) ∧ Keep w w'

set_option maxHeartbeats 2000000 in
set_option maxRecDepth 100000 in
theorem reached_calls (rs : List Row) (A : Option Addr) (c : Nat) (w : World) (hg : Graph w A rs) (hn : rs.length ≤ 100000) (wo : Int) (d : Nat) (hd : (wo = (d : Int)) ∨ (wo = -1 ∧ d = rs.length)) :
    Calls Try.prog 22 #[.slice A rs.length c, .int .i64 wo] w (ReachPost (gr rs) rs.length d w) := by
  obtain ⟨w1, hmake, hblk, hk1⟩ := make_bools w rs.length (by omega)
  have Hg := Lib.hid hg
  have hN : (gr rs).length = rs.length := gr_len rs
  have Hlen := Lib.hid hN
  have Hblk := Lib.hid hblk
  have Hk1 := Lib.hid hk1
  have hlt1 := hblk.lt
  have Hne := Lib.hid (show ∀ b : Nat, b < rs.length → (((b : Int) ≠ wo) ↔ b ≠ d) from fun b hb => by rcases hd with e | ⟨e, e'⟩ <;> omega)
  have H0 := Lib.hid (show 0 < rs.length → ((wo ≠ 0) ↔ 0 ≠ d) from fun h => by rcases hd with e | ⟨e, e'⟩ <;> omega)
  clear hg hblk hk1 hN hd
  have Hstart := Lib.hid (show FM w w1 w.heap.size [] (List.replicate rs.length false) (.slice none 0 0) from ⟨Hblk.out, Own.nil _ _ _ _ _, Hk1.out, Nat.le_refl _⟩)
  go_enter Try.func22, Try.ntmps22
  go_upto_region 3 with (refine wpList_make_eq rfl _ _ _ rfl _ _ rfl rfl _ _ hmake ?_; clear hmake)
  go_cut [19] from 13 to 18 (fun v19 wx => wx = w1 ∧ v19 = .bool (decide (0 < rs.length) && (wo != 0)))
  case first =>
    by_cases h0 : 0 < rs.length
    · have h0d : decide (0 < rs.length) = true := decide_eq_true h0
      cases hw : (wo != 0)
      all_goals
        go_wp2_with fail
        go_meet
        case rel => exact ⟨rfl, by rw [h0d, hw]; rfl⟩
    · have h0d : decide (0 < rs.length) = false := decide_eq_false h0
      go_wp2_with fail
      go_meet
      case rel => exact ⟨rfl, by rw [h0d]; rfl⟩
  case rest =>
  obtain ⟨rfl, rfl⟩ := hcut
  have Hgen : ∃ t, t = (decide (0 < rs.length) && (wo != 0)) := ⟨_, rfl⟩
  obtain ⟨t, ht⟩ := Hgen
  rw [← ht]
  have Ht := Lib.hid ht
  clear ht
  go_upto_if 19 with fail
  go_cut [6] from 19 to 24 (fun v6 wx => ∃ todo seen, FM w wx w.heap.size todo seen v6 ∧ Flood (gr rs) d none todo seen)
  case first =>
    cases t with
    | true =>
      have hb := Ht.out.symm
      rw [Bool.and_eq_true] at hb
      have h0 := of_decide_eq_true hb.1
      have hw : wo ≠ 0 := by simpa using hb.2
      have cx := Hblk.out.get (k := 0) (by simpa using h0)
      have fx := Hblk.out.frozen 0
      have h0' : (0 : Int) < (rs.length : Int) := by omega
      obtain ⟨B, e, hv, B', e', w3, hrun, hF⟩ := (Hstart.out.mark 0).push (m := 0) (sz := wc.heap.size) rfl (by omega) (by simp [World.setCell]) 0 (z := 0) rfl
      cases hv
      have HF := Lib.hid (show FM w w3 w.heap.size [0] _ _ ∧ Flood (gr rs) d none [0] ((List.replicate rs.length false).set 0 true) from ⟨hF, by
        have := Flood.start (N := gr rs) (d := d) (fun e => by have := Hlen.out; rw [e] at this; simp at this; omega) ((H0.out h0).1 hw)
        rw [Hlen.out] at this; exact this⟩)
      clear hF hw hb
      go_wp2_with (at_builtin; refine wpList_append_eq rfl _ _ _ rfl _ _ rfl rfl _ _ hrun ?_; clear hrun)
      go_meet
      case rel => exact ⟨[0], _, HF.out.1, HF.out.2⟩
    | false =>
      have HF := Lib.hid (show Flood (gr rs) d none [] (List.replicate rs.length false) from by
        have := Flood.none_ (N := gr rs) (d := d) (by
          by_cases h0 : 0 < rs.length
          · right
            by_cases e : 0 = d
            · exact e
            · have h1 := (H0.out h0).2 e
              have h2 := Ht.out
              rw [decide_eq_true h0, show (wo != 0) = true by simpa using h1] at h2
              cases h2
          · exact .inl (List.eq_nil_of_length_eq_zero (by rw [Hlen.out]; omega)))
        rw [Hlen.out] at this; exact this)
      go_wp2_with fail
      go_meet
      case rel => exact ⟨[], _, Hstart.out, HF.out⟩
  case rest =>
    obtain ⟨todo, seen, hF, hL⟩ := hcut
    have HS := Lib.hid (show FM w wc w.heap.size todo seen _ ∧ Flood (gr rs) d none todo seen from ⟨hF, hL⟩)
    clear hF hL Hstart Hblk Hk1 hlt1
    go_wp2_with fail
    go_loopg [6] (floodFuel seen todo) (fun g vt wr => ∃ todo seen, FM w wr w.heap.size todo seen vt ∧ Flood (gr rs) d none todo seen ∧ floodFuel seen todo ≤ g)
    case atStart => exact ⟨todo, seen, HS.out.1, HS.out.2, Nat.le_refl _⟩
    case round =>
      clear HS
      obtain ⟨todo, seen, hF, hL, hfu⟩ := hrel
      obtain ⟨vt, rfl⟩ : ∃ vt, vt = u6 := ⟨_, rfl⟩
      obtain ⟨go, rfl⟩ : ∃ go : Nat, go = gk := ⟨_, rfl⟩
      cases todo with
      | nil =>
        obtain ⟨B, e, hv, _⟩ := hF.tod.form
        have hv' : vt = .slice B 0 e := hv
        subst hv'
        have Hfin := Lib.hid (show ReachPost (gr rs) rs.length d w (.returned (.slice (some ⟨w.heap.size, 0, none⟩) rs.length rs.length)) wr from
          ⟨seen, rfl, hF.seen, by rw [hL.len, Hlen.out], fun hN => hL.full hN, hF.keep⟩)
        clear hv hF hL
        go_wp2_with fail
        go_ret
        exact Hfin.out
      | cons x todo =>
        obtain ⟨gb, cc, rfl, h1, h2, cx, hF2⟩ := hF.top
        have hxs := hL.sound x (hL.tod x (by simp))
        have hxl : x < rs.length := by have := hxs.1; rw [Hlen.out] at this; exact this
        obtain ⟨M, hM⟩ : ∃ M, M = todo.length + 1 := ⟨_, rfl⟩
        rw [← hM] at h1 ⊢
        unfold maxLen at h2
        have hM1 : (M : Int) - 1 = (todo.length : Int) := by omega
        have hw : IntKind.i64.wrap ((M : Int) - 1) = (todo.length : Int) := by rw [hM1]; exact IntWalk.i64_in _ (by omega)
        have m0 : (0 : Int) ≤ (todo.length : Int) := by omega
        have m1 : (todo.length : Int) < (M : Int) := by omega
        have m2 : (todo.length : Int) ≤ (cc : Int) := by omega
        have mp : decide (0 < M) = true := decide_eq_true (by omega)
        obtain ⟨b, off, rfl, _, qr0⟩ := row_at Hg.out.seg hF.keep hxl
        have Hrow := Lib.hid (fun (wx : World) (hk : Keep w wx) => show wx.cell? ⟨b, off + x, none⟩ = some (.slice rs[x].a rs[x].l.length rs[x].c) by
          obtain ⟨_, _, e, _, h⟩ := row_at Hg.out.seg hk hxl
          cases e; exact h)
        have Hgrow := Lib.hid (show (gr rs).getD x [] = rs[x].l from gr_get hxl)
        have Hint := Lib.hid (fun (wx : World) (hk : Keep w wx) (j : Nat) (hj : j < rs[x].l.length) => int_at (Hg.out.rows rs[x] (List.getElem_mem hxl)).seg hk hj)
        have hlm := (Hg.out.rows rs[x] (List.getElem_mem hxl)).len
        obtain ⟨l, hl⟩ : ∃ l, l = rs[x].l := ⟨_, rfl⟩
        obtain ⟨Ax, hAx⟩ : ∃ A, A = rs[x].a := ⟨_, rfl⟩
        obtain ⟨cr, hcr⟩ : ∃ c, c = rs[x].c := ⟨_, rfl⟩
        rw [← hl, ← hAx, ← hcr] at Hrow
        rw [← hl] at Hint Hgrow hlm
        rw [← hAx] at Hint
        unfold maxLen at hlm
        have x0 : (0 : Int) ≤ (x : Int) := by omega
        have x1 : (x : Int) < (rs.length : Int) := by omega
        have HS := Lib.hid (show FM w wr w.heap.size todo seen (.slice (some ⟨gb, 0, none⟩) todo.length cc) ∧ Flood (gr rs) d (some (x, 0)) todo seen ∧ floodFuel seen todo ≤ go - 1 ∧ go - 1 < go from
          ⟨hF2, hL.take, by unfold floodFuel at hfu ⊢; simp only [List.length_cons] at hfu; omega, by unfold floodFuel at hfu; simp only [List.length_cons] at hfu; omega⟩)
        have hgo := HS.out.2.2.2
        clear hF hF2 hL hfu hM hM1 hxs qr0 hl hAx hcr
        obtain ⟨wq, rfl⟩ : ∃ wo : World, wo = wr := ⟨_, rfl⟩
        go_wp2_with fail
        clear cx
        go_loopw [6, 8] (fun vt vi wx => ∃ todo seen i, i ≤ l.length ∧ vi = .int .i64 ((i : Nat) : Int) ∧ FM w wx w.heap.size todo seen vt ∧ Flood (gr rs) d (some (x, i)) todo seen ∧ floodFuel seen todo ≤ go - 1) (fun _ vi _ => l.length - (intOf vi).toNat)
        case atStart => exact ⟨todo, seen, 0, Nat.zero_le _, rfl, HS.out.1, HS.out.2.1, HS.out.2.2.1⟩
        case round =>
          clear HS m0 m1 m2 hw mp h1 h2
          obtain ⟨todo, seen, i, hi, rfl, hM, hF, hfu⟩ := hrel
          obtain ⟨vt, rfl⟩ : ∃ vt, vt = u6 := ⟨_, rfl⟩
          have q1 := Hrow.out wr hM.keep
          have HM := Lib.hid hM
          have HF := Lib.hid hF
          clear hM hF
          by_cases hlti : i < l.length
          · have di : decide ((i : Int) < (l.length : Int)) = true := decide_eq_true (by omega)
            have di' : decide (i < l.length) = true := decide_eq_true hlti
            have i0 : (0 : Int) ≤ (i : Int) := by omega
            have i1 : (i : Int) < (l.length : Int) := by omega
            obtain ⟨b5, off5, rfl, _, qt⟩ := Hint.out wr HM.out.keep i hlti
            obtain ⟨tv, htv⟩ : ∃ tv, tv = l[i] := ⟨_, rfl⟩
            have Htm := Lib.hid (show ((gr rs).getD x [])[i]? = some tv by rw [Hgrow.out, List.getElem?_eq_getElem hlti, htv])
            rw [← htv] at qt
            clear htv
            by_cases t0 : tv < 0
            · have dt : decide (0 ≤ tv) = false := decide_eq_false (by omega)
              have Hs := Lib.hid (HF.out.skip (fun b hb => by rw [Htm.out] at hb; have := Option.some.inj hb; omega))
              go_wp2_with fail
              go_roundw
              case rel => exact ⟨todo, seen, i + 1, hlti, by go_num, HM.out, Hs.out, hfu⟩
              case measure => simp [intOf] <;> omega
            · have dt : decide (0 ≤ tv) = true := decide_eq_true (by omega)
              obtain ⟨tb, rfl⟩ : ∃ tb : Nat, tv = (tb : Int) := ⟨tv.toNat, by omega⟩
              by_cases t1 : tb < rs.length
              · have dt1 : decide ((tb : Int) < (rs.length : Int)) = true := decide_eq_true (by omega)
                have dt1' : decide (tb < rs.length) = true := decide_eq_true t1
                have hsl : tb < seen.length := by rw [HF.out.len, Hlen.out]; exact t1
                by_cases hwd : (tb : Int) = wo
                · have dw : ((tb : Int) != wo) = false := by simpa using hwd
                  have Hs := Lib.hid (HF.out.skip (fun b hb hlt hbd => by
                    rw [Htm.out] at hb
                    have := Option.some.inj hb
                    exact absurd (by omega) ((Hne.out b (by omega)).2 hbd)))
                  clear hwd hsl
                  go_wp2_with fail
                  go_roundw
                  case rel => exact ⟨todo, seen, i + 1, hlti, by go_num, HM.out, Hs.out, hfu⟩
                  case measure => simp [intOf] <;> omega
                · have dw : ((tb : Int) != wo) = true := by simpa using hwd
                  have hbd : tb ≠ d := (Hne.out tb t1).1 hwd
                  have qs := HM.out.seen.get hsl
                  have fs := HM.out.seen.frozen tb
                  have ls := HM.out.seen.lt
                  have b0 : (0 : Int) ≤ (tb : Int) := by omega
                  have b1 : (tb : Int) < (rs.length : Int) := by omega
                  cases hsb : seen[tb] with
                  | true =>
                    rw [hsb] at qs
                    have Hs := Lib.hid (HF.out.skip (fun b hb hlt _ => by
                      rw [Htm.out] at hb
                      have := Option.some.inj hb
                      obtain rfl : tb = b := by omega
                      rw [List.getD_eq_getElem?_getD, List.getElem?_eq_getElem hsl, hsb]; rfl))
                    clear hsb hsl hwd hbd
                    go_wp2_with fail
                    go_roundw
                    case rel => exact ⟨todo, seen, i + 1, hlti, by go_num, HM.out, Hs.out, hfu⟩
                    case measure => simp [intOf] <;> omega
                  | false =>
                    rw [hsb] at qs
                    have hsf : seen.getD tb false = false := by rw [List.getD_eq_getElem?_getD, List.getElem?_eq_getElem hsl, hsb]; rfl
                    have Hs := Lib.hid (HF.out.add (by rw [Hlen.out]; exact hxl) Htm.out (by rw [Hlen.out]; exact t1) hbd hsf)
                    have Hfu := Lib.hid (show floodFuel (seen.set tb true) (tb :: todo) ≤ go - 1 by
                      have h3 := Dom.count_mark hsl hsf
                      unfold floodFuel at hfu ⊢
                      simp only [List.length_cons]; omega)
                    obtain ⟨B, e, hv, B', e', w3, hrun, hF3⟩ := (HM.out.mark tb).push (m := todo.length) (sz := wr.heap.size) rfl (by have := HF.out.cnt; rw [Hlen.out] at this; omega) (by simp [World.setCell]) tb (z := (tb : Int)) rfl
                    subst hv
                    have HF3 := Lib.hid hF3
                    clear hsb hsl hwd hbd hsf hF3
                    go_wp2_with (at_builtin; refine wpList_append_eq rfl _ _ _ rfl _ _ rfl rfl _ _ hrun ?_; clear hrun)
                    go_roundw
                    case rel => exact ⟨tb :: todo, _, i + 1, hlti, by go_num, HF3.out, Hs.out, Hfu.out⟩
                    case measure => simp [intOf] <;> omega
              · have dt1 : decide ((tb : Int) < (rs.length : Int)) = false := decide_eq_false (by omega)
                have dt1' : decide (tb < rs.length) = false := decide_eq_false t1
                have Hs := Lib.hid (HF.out.skip (fun b hb hlt => by rw [Htm.out] at hb; rw [Hlen.out] at hlt; have := Option.some.inj hb; omega))
                go_wp2_with fail
                go_roundw
                case rel => exact ⟨todo, seen, i + 1, hlti, by go_num, HM.out, Hs.out, hfu⟩
                case measure => simp [intOf] <;> omega
          · have di : decide ((i : Int) < (l.length : Int)) = false := decide_eq_false (by omega)
            have di' : decide (i < l.length) = false := decide_eq_false hlti
            have Hs := Lib.hid (HF.out.close (by rw [Hlen.out]; exact hxl) (by rw [Hgrow.out]; omega))
            go_wp2_with fail
            go_roundg (go - 1)
            case measure => exact hgo
            case rel => exact ⟨todo, seen, HM.out, Hs.out, hfu⟩
end Go.Proofs.Ythjlfbeabobgmaa
