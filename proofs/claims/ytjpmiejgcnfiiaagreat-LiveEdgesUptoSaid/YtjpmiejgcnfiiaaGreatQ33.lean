import Derived.Test.YtjpmiejgcnfiiaaGreatQ15
import Derived.Test.YtjpmiejgcnfiiaaGreatQ30
import Derived.WalkMore
import Derived.Deep.DeepCutAuto
import Derived.Deep.Cut
set_option linter.unusedVariables false
set_option linter.unusedSimpArgs false
namespace Go.Proofs.YtjpmiejgcnfiiaaGreat.DZ
open Go Go.RowKit
def nats (l : List Nat) : List Int := l.map (fun x : Nat => (x : Int))
theorem nats_len (l : List Nat) : (nats l).length = l.length := by simp [nats]
theorem nats_get {l : List Nat} {k : Nat} (h : k < (nats l).length) : (nats l)[k] = ((l[k]'(by rw [nats_len] at h; exact h) : Nat) : Int) := by simp [nats]
theorem nats_take (l : List Nat) (k : Nat) : (nats l).take k = nats (l.take k) := by simp [nats, List.map_take]

theorem nats_snoc (l : List Nat) (x : Nat) : nats (l ++ [x]) = nats l ++ [(x : Int)] := by simp [nats]

/-- The flood: what is still to be looked at lies in todo (the last first); of node a the first i edges have been followed. -/
structure Flood (N : Dom.Gr) (d : Nat) (part : Option (Nat × Nat)) (todo : List Nat) (seen : List Bool) : Prop where
 len : seen.length = N.length
 sound : ∀ x, seen.getD x false = true → x < N.length ∧ Dom.RA (Dom.Ed N) d x
 tod : ∀ x ∈ todo, seen.getD x false = true
 root : N ≠ [] → 0 ≠ d → seen.getD 0 false = true
 closed : ∀ x, seen.getD x false = true → x ∉ todo → (∀ i, part ≠ some (x, i)) → ∀ b, Dom.Ed N x b → b ≠ d → seen.getD b false = true
 some_ : ∀ x i, part = some (x, i) → seen.getD x false = true ∧ ∀ j, j < i → ∀ b : Nat, (N.getD x [])[j]? = some (b : Int) → b < N.length → b ≠ d → seen.getD b false = true
 cnt : todo.length + seen.count false ≤ N.length

section
variable {N : Dom.Gr} {d : Nat} {todo : List Nat} {seen : List Bool} {x i b : Nat}
theorem getD_rep (n x : Nat) : (List.replicate n false).getD x false = false := by
 rw [List.getD_eq_getElem?_getD, List.getElem?_replicate]
 split <;> rfl
theorem getD_mark {seen : List Bool} {b y : Nat} (hb : b < seen.length) : (seen.set b true).getD y false = true ↔ y = b ∨ seen.getD y false = true := by
 rw [List.getD_eq_getElem?_getD, List.getElem?_set]
 by_cases e : b = y
 ·subst e; simp [hb]
 ·rw [if_neg e, ← List.getD_eq_getElem?_getD]
  exact ⟨.inr, fun h => h.elim (fun h => absurd h.symm e) id⟩
theorem Flood.none_ (h : N = [] ∨ 0 = d) : Flood N d none [] (List.replicate N.length false) where
 len := by simp
 sound := fun x hx => by rw [getD_rep] at hx; cases hx
 tod := fun x hx => by simp at hx
 root := fun h1 h2 => absurd (h.resolve_left h1) h2
 closed := fun x hx => by rw [getD_rep] at hx; cases hx
 some_ := fun x i e => by cases e
 cnt := by simp
theorem Flood.start (hN : N ≠ []) (h0 : 0 ≠ d) : Flood N d none [0] ((List.replicate N.length false).set 0 true) := by
 have hl : 0 < N.length := List.length_pos_iff.2 hN
 have hm : ∀ y, ((List.replicate N.length false).set 0 true).getD y false = true ↔ y = 0 := fun y => by
  rw [getD_mark (by simpa using hl), getD_rep]; simp
 refine ⟨by simp, fun x hx => ?_, fun x hx => ?_, fun _ _ => (hm 0).2 rfl, fun x hx hnt => ?_, (fun x i e => by cases e), ?_⟩
 ·rw [hm] at hx; subst hx; exact ⟨hl, .root h0⟩
 ·rw [hm]; simpa using hx
 ·rw [hm] at hx; subst hx; exact absurd (by simp) hnt
 ·have := Dom.count_mark (seen := List.replicate N.length false) (b := 0) (by simpa using hl) (getD_rep _ _)
  rw [List.count_replicate_self] at this
  simp only [List.length_singleton]; omega
/-- The last is taken. -/
theorem Flood.take (h : Flood N d none (x :: todo) seen) : Flood N d (some (x, 0)) todo seen where
 len := h.len
 sound := h.sound
 tod := fun y hy => h.tod y (List.mem_cons_of_mem _ hy)
 root := h.root
 closed := fun y hy hnt hp => by
  refine h.closed y hy (fun hm => ?_) (fun i e => by cases e)
  rcases List.mem_cons.1 hm with e | h1
  ·exact hp 0 (by rw [e])
  ·exact hnt h1
 some_ := fun y i e => by
  cases e
  exact ⟨h.tod x (by simp), fun j hj => absurd hj (Nat.not_lt_zero _)⟩
 cnt := by have := h.cnt; simp only [List.length_cons] at this; omega
theorem Flood.skip (h : Flood N d (some (x, i)) todo seen) (hs : ∀ b : Nat, (N.getD x [])[i]? = some (b : Int) → b < N.length → b ≠ d → seen.getD b false = true) : Flood N d (some (x, i + 1)) todo seen where
 len := h.len
 sound := h.sound
 tod := h.tod
 root := h.root
 closed := fun y hy hnt hp => h.closed y hy hnt (fun j e => by cases e; exact hp (i + 1) rfl)
 some_ := fun y j e => by
  cases e
  obtain ⟨h1, h2⟩ := h.some_ x i rfl
  refine ⟨h1, fun j hj b hb => ?_⟩
  rcases Nat.lt_or_ge j i with h3 | h3
  ·exact h2 j h3 b hb
  ·obtain rfl : j = i := by omega
   exact hs b hb
 cnt := h.cnt
theorem Flood.add (h : Flood N d (some (x, i)) todo seen) (hx : x < N.length) (hb : (N.getD x [])[i]? = some (b : Int)) (hlt : b < N.length) (hne : b ≠ d) (hs : seen.getD b false = false) : Flood N d (some (x, i + 1)) (b :: todo) (seen.set b true) := by
 have hbl : b < seen.length := by rw [h.len]; exact hlt
 obtain ⟨h1, h2⟩ := h.some_ x i rfl
 refine ⟨by simpa using h.len, fun y hy => ?_, fun y hy => ?_, fun h3 h4 => (getD_mark hbl).2 (.inr (h.root h3 h4)), fun y hy hnt hp c hc hcd => (getD_mark hbl).2 (.inr ?_), fun y j e => ?_, ?_⟩
 ·rcases (getD_mark hbl).1 hy with rfl | h3
  ·exact ⟨hlt, .step (h.sound x h1).2 (Dom.Ed.of_get hx hlt hb) hne⟩
  ·exact h.sound y h3
 ·rw [getD_mark hbl]
  rcases List.mem_cons.1 hy with e | h3
  ·exact .inl e
  ·exact .inr (h.tod y h3)
 ·rcases (getD_mark hbl).1 hy with rfl | h3
  ·exact absurd (by simp) hnt
  ·exact h.closed y h3 (fun hm => hnt (List.mem_cons_of_mem _ hm)) (fun j e => by cases e; exact hp (i + 1) rfl) c hc hcd
 ·cases e
  refine ⟨(getD_mark hbl).2 (.inr h1), fun j hj c hc hcl hcd => (getD_mark hbl).2 ?_⟩
  rcases Nat.lt_or_ge j i with h3 | h3
  ·exact .inr (h2 j h3 c hc hcl hcd)
  ·obtain rfl : j = i := by omega
   rw [hb] at hc
   injection hc with hc
   exact .inl (by omega)
 ·have h3 := Dom.count_mark hbl hs
  have h4 := h.cnt
  simp only [List.length_cons]; omega
theorem Flood.close (h : Flood N d (some (x, i)) todo seen) (hx : x < N.length) (hi : (N.getD x []).length ≤ i) : Flood N d none todo seen where
 len := h.len
 sound := h.sound
 tod := h.tod
 root := h.root
 closed := fun y hy hnt _ b hb hbd => by
  obtain ⟨h1, h2⟩ := h.some_ x i rfl
  by_cases e : y = x
  ·subst e
   obtain ⟨j, h3, h4⟩ := hb.get
   exact h2 j (by omega) b h4 hb.2.1 hbd
  ·exact h.closed y hy hnt (fun j e1 => by cases e1; exact e rfl) b hb hbd
 some_ := fun y j e => by cases e
 cnt := h.cnt
theorem Flood.full (h : Flood N d none [] seen) (hN : N ≠ []) (x : Nat) : seen.getD x false = true ↔ Dom.RA (Dom.Ed N) d x := by
 refine ⟨fun hx => (h.sound x hx).2, fun hr => ?_⟩
 induction hr with
 | root h0 => exact h.root hN h0
 | step _ he hne ih => exact h.closed _ ih (by simp) (fun i e => by cases e) _ he hne
/-- What is still to come, at most. -/
def floodFuel (seen : List Bool) (todo : List Nat) : Nat := 2 * seen.count false + todo.length
end

/-- The flood in memory. -/
structure FM (w0 w : World) (bs : Nat) (todo : List Nat) (seen : List Bool) (vt : Value) : Prop where
 seen : BBlk w bs 4 seen
 tod : Own intC 1 3 w w0.heap.size vt (nats todo.reverse)
 keep : Keep w0 w
 base : w0.heap.size ≤ bs
section
variable {w0 w w' : World} {bs : Nat} {todo : List Nat} {seen : List Bool} {vt : Value} {x : Nat}
theorem FM.mark (h : FM w0 w bs todo seen vt) (b : Nat) : FM w0 (w.setCell ⟨bs, b, none⟩ (.bool true)) bs todo (seen.set b true) vt :=
 ⟨h.seen.put b true, h.tod.put_far (fun q hq => h.tod.blk_apart h.seen (by decide) hq) _, h.keep.setCell (p := ⟨bs, b, none⟩) h.base _, h.base⟩
theorem FM.push (h : FM w0 w bs todo seen vt) {m sz : Nat} (hm : todo.length = m) (hn : m < 900000) (hsz : w.heap.size = sz) (b : Nat) {z : Int} (hz : z = (b : Int)) : ∃ A c, vt = .slice A m c ∧ ∃ A' c' w2,
  (Builtin.append_ #[45, 45] 45 #[.slice A m c, .slice (some ⟨sz, 0, none⟩) 1 1]).run Tryz.prog (w.alloc (.cells #[.int .i64 z] 3)) = .ok (.slice A' (m + 1) c') w2 ∧
   FM w0 w2 bs (b :: todo) seen (.slice A' (m + 1) c') := by
 subst hm hsz hz
 obtain ⟨A, c, hv, A', c', w2, hrun, hown, hE, hbl, hB⟩ := h.tod.push1 elI (b : Int) (by rw [nats_len]; simp; omega) (by omega) h.keep.size 45
 rw [nats_len, List.length_reverse] at hv hrun hown
 rw [hv] at hrun
 exact ⟨A, c, hv, A', c', w2, hrun, hB _ _ _ h.seen (by decide), by rw [List.reverse_cons, nats_snoc]; exact hown, Keep.of_ext h.keep hE (fun i hi h => by omega), h.base⟩
theorem FM.top (h : FM w0 w bs (x :: todo) seen vt) : ∃ g c, vt = .slice (some ⟨g, 0, none⟩) (todo.length + 1) c ∧ todo.length + 1 ≤ c ∧ c ≤ maxLen ∧ w.cell? ⟨g, todo.length, none⟩ = some (.int .i64 (x : Int)) ∧ FM w0 w bs todo seen (.slice (some ⟨g, 0, none⟩) todo.length c) := by
 have hl : (nats (x :: todo).reverse).length = todo.length + 1 := by rw [nats_len]; simp
 obtain ⟨g, c, hv, hg, hb, hc⟩ := own_at h.tod (by omega)
 obtain ⟨A, c', hv', h1, h2⟩ := h.tod.form
 have hs := h.tod
 rw [hv] at hs
 rw [hv, hl] at hv'
 cases hv'
 have hlast : (nats (x :: todo).reverse)[todo.length]? = some (x : Int) := by
  rw [List.reverse_cons, nats_snoc, List.getElem?_append_right (by rw [nats_len]; simp), nats_len]; simp
 have hcell := hc todo.length (.int .i64 (x : Int)) (by rw [flat_int, List.getElem?_map, hlast]; rfl)
 have hfr := Own.front (f := intC) (s := 1) (fun _ => rfl) hs (m := todo.length) (by rw [hl]; omega)
 rw [List.reverse_cons, nats_snoc, List.take_left' (by rw [nats_len]; simp)] at hfr
 exact ⟨g, c, by rw [hv, hl], by omega, h2, hcell, h.seen, hfr, h.keep, h.base⟩
end

/-- What reached leaves. -/
def ReachPost (N : Dom.Gr) (n d : Nat) (w : World) (e : Ending) (w' : World) : Prop := ∃ seen, e = .returned (.slice (some ⟨w.heap.size, 0, none⟩) n n) ∧ BBlk w' w.heap.size 4 seen ∧ seen.length = n ∧ (N ≠ [] → ∀ x, seen.getD x false = true ↔ Dom.RA (Dom.Ed N) d x) ∧ Keep w w'

set_option maxHeartbeats 2000000 in
set_option maxRecDepth 100000 in
theorem reached_calls (rs : List Row) (A : Option Addr) (c : Nat) (w : World) (hg : Graph w A rs) (hn : rs.length ≤ 100000) (wo : Int) (d : Nat) (hd : (wo = (d : Int)) ∨ (wo = -1 ∧ d = rs.length)) :
  Calls Tryz.prog 53 #[.slice A rs.length c, .int .i64 wo] w (ReachPost (gr rs) rs.length d w) := by
 obtain ⟨w1, hmake, hblk, hk1⟩ := make_bools w rs.length (by omega)
 have Hg := Lib.hid hg
 have hN : (gr rs).length = rs.length := gr_len rs
 have Hlen := Lib.hid hN
 have Hblk := Lib.hid hblk
 have Hk1 := Lib.hid hk1
 have hlt1 := hblk.lt
 have Hne := Lib.hid (show ∀ b : Nat, b < rs.length → (((b : Int) ≠ wo) ↔ b ≠ d) from fun b hb => by rcases hd with e | ⟨e, e'⟩ <;> omega)
 have H0 := Lib.hid (show 0 < rs.length → ((wo ≠ 0) ↔ 0 ≠ d) from fun h => by rcases hd with e | ⟨e, e'⟩ <;> omega)
 clear hg hblk hk1 hN hd
 have Hstart := Lib.hid (show FM w w1 w.heap.size [] (List.replicate rs.length false) (.slice none 0 0) from ⟨Hblk.out, Own.nil _ _ _ _ _, Hk1.out, Nat.le_refl _⟩)
 go_enter Tryz.func53, Tryz.ntmps53
 go_upto_region 3 with (refine wpList_make_eq rfl _ _ _ rfl _ _ rfl rfl _ _ hmake ?_; clear hmake)
 go_cut [19] from 13 to 18 (fun v19 wx => wx = w1 ∧ v19 = .bool (decide (0 < rs.length) && (wo != 0)))
 case first =>
  by_cases h0 : 0 < rs.length
  ·have h0d : decide (0 < rs.length) = true := decide_eq_true h0
   cases hw : (wo != 0)
   all_goals
    go_wp2_with fail
    go_meet
    case rel => exact ⟨rfl, by rw [h0d, hw]; rfl⟩
  ·have h0d : decide (0 < rs.length) = false := decide_eq_false h0
   go_wp2_with fail
   go_meet
   case rel => exact ⟨rfl, by rw [h0d]; rfl⟩
 case rest =>
 obtain ⟨rfl, rfl⟩ := hcut
 have Hgen : ∃ t, t = (decide (0 < rs.length) && (wo != 0)) := ⟨_, rfl⟩
 obtain ⟨t, ht⟩ := Hgen
 rw [← ht]
 have Ht := Lib.hid ht
 clear ht
 go_upto_if 19 with fail
 go_cut [6] from 19 to 24 (fun v6 wx => ∃ todo seen, FM w wx w.heap.size todo seen v6 ∧ Flood (gr rs) d none todo seen)
 case first =>
  cases t with
  | true =>
   have hb := Ht.out.symm
   rw [Bool.and_eq_true] at hb
   have h0 := of_decide_eq_true hb.1
   have hw : wo ≠ 0 := by simpa using hb.2
   have cx := Hblk.out.get (k := 0) (by simpa using h0)
   have fx := Hblk.out.frozen 0
   have h0' : (0 : Int) < (rs.length : Int) := by omega
   obtain ⟨B, e, hv, B', e', w3, hrun, hF⟩ := (Hstart.out.mark 0).push (m := 0) (sz := wc.heap.size) rfl (by omega) (by simp [World.setCell]) 0 (z := 0) rfl
   cases hv
   have HF := Lib.hid (show FM w w3 w.heap.size [0] _ _ ∧ Flood (gr rs) d none [0] ((List.replicate rs.length false).set 0 true) from ⟨hF, by
    have := Flood.start (N := gr rs) (d := d) (fun e => by have := Hlen.out; rw [e] at this; simp at this; omega) ((H0.out h0).1 hw)
    rw [Hlen.out] at this; exact this⟩)
   clear hF hw hb
   go_wp2_with (at_builtin; refine wpList_append_eq rfl _ _ _ rfl _ _ rfl rfl _ _ hrun ?_; clear hrun)
   go_meet
   case rel => exact ⟨[0], _, HF.out.1, HF.out.2⟩
  | false =>
   have HF := Lib.hid (show Flood (gr rs) d none [] (List.replicate rs.length false) from by
    have := Flood.none_ (N := gr rs) (d := d) (by
     by_cases h0 : 0 < rs.length
     ·right
      by_cases e : 0 = d
      ·exact e
      ·have h1 := (H0.out h0).2 e
       have h2 := Ht.out
       rw [decide_eq_true h0, show (wo != 0) = true by simpa using h1] at h2
       cases h2
     ·exact .inl (List.eq_nil_of_length_eq_zero (by rw [Hlen.out]; omega)))
    rw [Hlen.out] at this; exact this)
   go_wp2_with fail
   go_meet
   case rel => exact ⟨[], _, Hstart.out, HF.out⟩
 case rest =>
  obtain ⟨todo, seen, hF, hL⟩ := hcut
  have HS := Lib.hid (show FM w wc w.heap.size todo seen _ ∧ Flood (gr rs) d none todo seen from ⟨hF, hL⟩)
  clear hF hL Hstart Hblk Hk1 hlt1
  go_wp2_with fail
  go_loopg [6] (floodFuel seen todo) (fun g vt wr => ∃ todo seen, FM w wr w.heap.size todo seen vt ∧ Flood (gr rs) d none todo seen ∧ floodFuel seen todo ≤ g)
  case atStart => exact ⟨todo, seen, HS.out.1, HS.out.2, Nat.le_refl _⟩
  case round =>
   clear HS
   obtain ⟨todo, seen, hF, hL, hfu⟩ := hrel
   obtain ⟨vt, rfl⟩ : ∃ vt, vt = u6 := ⟨_, rfl⟩
   obtain ⟨go, rfl⟩ : ∃ go : Nat, go = gk := ⟨_, rfl⟩
   cases todo with
   | nil =>
    obtain ⟨B, e, hv, _⟩ := hF.tod.form
    have hv' : vt = .slice B 0 e := hv
    subst hv'
    have Hfin := Lib.hid (show ReachPost (gr rs) rs.length d w (.returned (.slice (some ⟨w.heap.size, 0, none⟩) rs.length rs.length)) wr from
     ⟨seen, rfl, hF.seen, by rw [hL.len, Hlen.out], fun hN => hL.full hN, hF.keep⟩)
    clear hv hF hL
    go_wp2_with fail
    go_ret
    exact Hfin.out
   | cons x todo =>
    obtain ⟨gb, cc, rfl, h1, h2, cx, hF2⟩ := hF.top
    have hxs := hL.sound x (hL.tod x (by simp))
    have hxl : x < rs.length := by have := hxs.1; rw [Hlen.out] at this; exact this
    obtain ⟨M, hM⟩ : ∃ M, M = todo.length + 1 := ⟨_, rfl⟩
    rw [← hM] at h1 ⊢
    unfold maxLen at h2
    have hM1 : (M : Int) - 1 = (todo.length : Int) := by omega
    have hw : IntKind.i64.wrap ((M : Int) - 1) = (todo.length : Int) := by rw [hM1]; exact IntWalk.i64_in _ (by omega)
    have m0 : (0 : Int) ≤ (todo.length : Int) := by omega
    have m1 : (todo.length : Int) < (M : Int) := by omega
    have m2 : (todo.length : Int) ≤ (cc : Int) := by omega
    have mp : decide (0 < M) = true := decide_eq_true (by omega)
    obtain ⟨b, off, rfl, _, qr0⟩ := row_at Hg.out.seg hF.keep hxl
    have Hrow := Lib.hid (fun (wx : World) (hk : Keep w wx) => show wx.cell? ⟨b, off + x, none⟩ = some (.slice rs[x].a rs[x].l.length rs[x].c) by
     obtain ⟨_, _, e, _, h⟩ := row_at Hg.out.seg hk hxl
     cases e; exact h)
    have Hgrow := Lib.hid (show (gr rs).getD x [] = rs[x].l from gr_get hxl)
    have Hint := Lib.hid (fun (wx : World) (hk : Keep w wx) (j : Nat) (hj : j < rs[x].l.length) => int_at (Hg.out.rows rs[x] (List.getElem_mem hxl)).seg hk hj)
    have hlm := (Hg.out.rows rs[x] (List.getElem_mem hxl)).len
    obtain ⟨l, hl⟩ : ∃ l, l = rs[x].l := ⟨_, rfl⟩
    obtain ⟨Ax, hAx⟩ : ∃ A, A = rs[x].a := ⟨_, rfl⟩
    obtain ⟨cr, hcr⟩ : ∃ c, c = rs[x].c := ⟨_, rfl⟩
    rw [← hl, ← hAx, ← hcr] at Hrow
    rw [← hl] at Hint Hgrow hlm
    rw [← hAx] at Hint
    unfold maxLen at hlm
    have x0 : (0 : Int) ≤ (x : Int) := by omega
    have x1 : (x : Int) < (rs.length : Int) := by omega
    have HS := Lib.hid (show FM w wr w.heap.size todo seen (.slice (some ⟨gb, 0, none⟩) todo.length cc) ∧ Flood (gr rs) d (some (x, 0)) todo seen ∧ floodFuel seen todo ≤ go - 1 ∧ go - 1 < go from
     ⟨hF2, hL.take, by unfold floodFuel at hfu ⊢; simp only [List.length_cons] at hfu; omega, by unfold floodFuel at hfu; simp only [List.length_cons] at hfu; omega⟩)
    have hgo := HS.out.2.2.2
    clear hF hF2 hL hfu hM hM1 hxs qr0 hl hAx hcr
    obtain ⟨wq, rfl⟩ : ∃ wo : World, wo = wr := ⟨_, rfl⟩
    go_wp2_with fail
    clear cx
    go_loopw [6, 8] (fun vt vi wx => ∃ todo seen i, i ≤ l.length ∧ vi = .int .i64 ((i : Nat) : Int) ∧ FM w wx w.heap.size todo seen vt ∧ Flood (gr rs) d (some (x, i)) todo seen ∧ floodFuel seen todo ≤ go - 1) (fun _ vi _ => l.length - (intOf vi).toNat)
    case atStart => exact ⟨todo, seen, 0, Nat.zero_le _, rfl, HS.out.1, HS.out.2.1, HS.out.2.2.1⟩
    case round =>
     clear HS m0 m1 m2 hw mp h1 h2
     obtain ⟨todo, seen, i, hi, rfl, hM, hF, hfu⟩ := hrel
     obtain ⟨vt, rfl⟩ : ∃ vt, vt = u6 := ⟨_, rfl⟩
     have q1 := Hrow.out wr hM.keep
     have HM := Lib.hid hM
     have HF := Lib.hid hF
     clear hM hF
     by_cases hlti : i < l.length
     ·have di : decide ((i : Int) < (l.length : Int)) = true := decide_eq_true (by omega)
      have di' : decide (i < l.length) = true := decide_eq_true hlti
      have i0 : (0 : Int) ≤ (i : Int) := by omega
      have i1 : (i : Int) < (l.length : Int) := by omega
      obtain ⟨b5, off5, rfl, _, qt⟩ := Hint.out wr HM.out.keep i hlti
      obtain ⟨tv, htv⟩ : ∃ tv, tv = l[i] := ⟨_, rfl⟩
      have Htm := Lib.hid (show ((gr rs).getD x [])[i]? = some tv by rw [Hgrow.out, List.getElem?_eq_getElem hlti, htv])
      rw [← htv] at qt
      clear htv
      by_cases t0 : tv < 0
      ·have dt : decide (0 ≤ tv) = false := decide_eq_false (by omega)
       have Hs := Lib.hid (HF.out.skip (fun b hb => by rw [Htm.out] at hb; have := Option.some.inj hb; omega))
       go_wp2_with fail
       go_roundw
       case rel => exact ⟨todo, seen, i + 1, hlti, by go_num, HM.out, Hs.out, hfu⟩
       case measure => simp [intOf] <;> omega
      ·have dt : decide (0 ≤ tv) = true := decide_eq_true (by omega)
       obtain ⟨tb, rfl⟩ : ∃ tb : Nat, tv = (tb : Int) := ⟨tv.toNat, by omega⟩
       by_cases t1 : tb < rs.length
       ·have dt1 : decide ((tb : Int) < (rs.length : Int)) = true := decide_eq_true (by omega)
        have dt1' : decide (tb < rs.length) = true := decide_eq_true t1
        have hsl : tb < seen.length := by rw [HF.out.len, Hlen.out]; exact t1
        by_cases hwd : (tb : Int) = wo
        ·have dw : ((tb : Int) != wo) = false := by simpa using hwd
         have Hs := Lib.hid (HF.out.skip (fun b hb hlt hbd => by
          rw [Htm.out] at hb
          have := Option.some.inj hb
          exact absurd (by omega) ((Hne.out b (by omega)).2 hbd)))
         clear hwd hsl
         go_wp2_with fail
         go_roundw
         case rel => exact ⟨todo, seen, i + 1, hlti, by go_num, HM.out, Hs.out, hfu⟩
         case measure => simp [intOf] <;> omega
        ·have dw : ((tb : Int) != wo) = true := by simpa using hwd
         have hbd : tb ≠ d := (Hne.out tb t1).1 hwd
         have qs := HM.out.seen.get hsl
         have fs := HM.out.seen.frozen tb
         have ls := HM.out.seen.lt
         have b0 : (0 : Int) ≤ (tb : Int) := by omega
         have b1 : (tb : Int) < (rs.length : Int) := by omega
         cases hsb : seen[tb] with
         | true =>
          rw [hsb] at qs
          have Hs := Lib.hid (HF.out.skip (fun b hb hlt _ => by
           rw [Htm.out] at hb
           have := Option.some.inj hb
           obtain rfl : tb = b := by omega
           rw [List.getD_eq_getElem?_getD, List.getElem?_eq_getElem hsl, hsb]; rfl))
          clear hsb hsl hwd hbd
          go_wp2_with fail
          go_roundw
          case rel => exact ⟨todo, seen, i + 1, hlti, by go_num, HM.out, Hs.out, hfu⟩
          case measure => simp [intOf] <;> omega
         | false =>
          rw [hsb] at qs
          have hsf : seen.getD tb false = false := by rw [List.getD_eq_getElem?_getD, List.getElem?_eq_getElem hsl, hsb]; rfl
          have Hs := Lib.hid (HF.out.add (by rw [Hlen.out]; exact hxl) Htm.out (by rw [Hlen.out]; exact t1) hbd hsf)
          have Hfu := Lib.hid (show floodFuel (seen.set tb true) (tb :: todo) ≤ go - 1 by
           have h3 := Dom.count_mark hsl hsf
           unfold floodFuel at hfu ⊢
           simp only [List.length_cons]; omega)
          obtain ⟨B, e, hv, B', e', w3, hrun, hF3⟩ := (HM.out.mark tb).push (m := todo.length) (sz := wr.heap.size) rfl (by have := HF.out.cnt; rw [Hlen.out] at this; omega) (by simp [World.setCell]) tb (z := (tb : Int)) rfl
          subst hv
          have HF3 := Lib.hid hF3
          clear hsb hsl hwd hbd hsf hF3
          go_wp2_with (at_builtin; refine wpList_append_eq rfl _ _ _ rfl _ _ rfl rfl _ _ hrun ?_; clear hrun)
          go_roundw
          case rel => exact ⟨tb :: todo, _, i + 1, hlti, by go_num, HF3.out, Hs.out, Hfu.out⟩
          case measure => simp [intOf] <;> omega
       ·have dt1 : decide ((tb : Int) < (rs.length : Int)) = false := decide_eq_false (by omega)
        have dt1' : decide (tb < rs.length) = false := decide_eq_false t1
        have Hs := Lib.hid (HF.out.skip (fun b hb hlt => by rw [Htm.out] at hb; rw [Hlen.out] at hlt; have := Option.some.inj hb; omega))
        go_wp2_with fail
        go_roundw
        case rel => exact ⟨todo, seen, i + 1, hlti, by go_num, HM.out, Hs.out, hfu⟩
        case measure => simp [intOf] <;> omega
     ·have di : decide ((i : Int) < (l.length : Int)) = false := decide_eq_false (by omega)
      have di' : decide (i < l.length) = false := decide_eq_false hlti
      have Hs := Lib.hid (HF.out.close (by rw [Hlen.out]; exact hxl) (by rw [Hgrow.out]; omega))
      go_wp2_with fail
      go_roundg (go - 1)
      case measure => exact hgo
      case rel => exact ⟨todo, seen, HM.out, Hs.out, hfu⟩
end Go.Proofs.YtjpmiejgcnfiiaaGreat.DZ
namespace Go.Proofs.YtjpmiejgcnfiiaaGreat.DZ
open Go Go.RowKit

open Classical in
noncomputable def dmB (N : Dom.Gr) (a b : Nat) : Bool := decide (Dom.Dm (Dom.Ed N) a b)
open Classical in
theorem dmB_iff {N : Dom.Gr} {a b : Nat} : dmB N a b = true ↔ Dom.Dm (Dom.Ed N) a b := by unfold dmB; exact decide_eq_true_iff
noncomputable def domRow (N : Dom.Gr) (a : Nat) : List Bool := (List.range N.length).map (dmB N a)
noncomputable def domTab (N : Dom.Gr) : List (List Bool) := (List.range N.length).map (domRow N)
theorem domTab_len (N : Dom.Gr) : (domTab N).length = N.length := by simp [domTab]
theorem domRow_len (N : Dom.Gr) (a : Nat) : (domRow N a).length = N.length := by simp [domRow]
theorem domRow_get {N : Dom.Gr} {a i : Nat} (h : i < (domRow N a).length) : (domRow N a)[i] = dmB N a i := by simp [domRow]
theorem ra_all {N : Dom.Gr} (hN : N ≠ []) {x : Nat} : Dom.RA (Dom.Ed N) N.length x ↔ Dom.R (Dom.Ed N) x := by
 refine ⟨fun h => h.reach, fun h => ?_⟩
 have h0 : 0 < N.length := List.length_pos_iff.2 hN
 induction h with
 | root => exact .root (by omega)
 | step h1 he ih => exact .step ih he (by have := he.2.1; omega)
theorem row_of {N : Dom.Gr} (hN : N ≠ []) {a : Nat} {al le r : List Bool} (h1 : ∀ x, al.getD x false = true ↔ Dom.RA (Dom.Ed N) N.length x) (h2 : ∀ x, le.getD x false = true ↔ Dom.RA (Dom.Ed N) a x)
  (hl : r.length = N.length) (hr : ∀ i (h : i < r.length), r[i] = (al.getD i false && !le.getD i false)) : r = domRow N a := by
 apply List.ext_getElem
 ·rw [hl, domRow_len]
 ·intro i h3 h4
  rw [hr i h3]
  rw [domRow_get]
  have e1 := h1 i
  have e2 := h2 i
  rw [ra_all hN] at e1
  cases ha : al.getD i false <;> cases hb : le.getD i false <;> rw [ha] at e1 <;> rw [hb] at e2 <;> symm
  ·rw [show (false && !false) = false from rfl, ← Bool.not_eq_true, dmB_iff]; exact fun h => absurd (e1.2 h.1) (by decide)
  ·rw [show (false && !true) = false from rfl, ← Bool.not_eq_true, dmB_iff]; exact fun h => absurd (e1.2 h.1) (by decide)
  ·rw [show (true && !false) = true from rfl, dmB_iff]; exact ⟨e1.1 rfl, fun h => absurd (e2.2 h) (by decide)⟩
  ·rw [show (true && !true) = false from rfl, ← Bool.not_eq_true, dmB_iff]; exact fun h => h.2 (e2.1 rfl)

theorem elRB : ElT Tryz.prog 77 80 1 24 (rowG (α := Bool)) where
 slice := Tryz.underlying77
 info := info_of (z := .slice none 0 0) (by kernel_rfl) rfl
 pos := by omega
 len := fun _ => rfl
 one := fun x u hu => by simp [rowG, RowG.v] at hu; subst hu; rfl
abbrev BRows := OutRows boolC 1 4 80

/-- What Stands leaves. -/
def StandsPost (N : Dom.Gr) (w : World) (e : Ending) (w' : World) : Prop := ∃ v, e = .returned v ∧ BRows w' w.heap.size v (domTab N) ∧ Keep w w'

set_option maxHeartbeats 2000000 in
set_option maxRecDepth 100000 in
theorem stands_calls (rs : List Row) (A : Option Addr) (c : Nat) (w : World) (hg : Graph w A rs) (hn : rs.length ≤ 100000) :
  Calls Tryz.prog 36 #[.slice A rs.length c] w (StandsPost (gr rs) w) := by
 have Hall := Lib.hid (reached_calls rs A c w hg hn (-1) rs.length (.inr ⟨rfl, rfl⟩))
 have Hless := Lib.hid (fun (wr : World) (hk : Keep w wr) (a : Nat) => reached_calls rs A c wr (hg.keep hk) hn (a : Int) a (.inl rfl))
 have Hlen := Lib.hid (gr_len rs)
 have Htl := Lib.hid (domTab_len (gr rs))
 clear hg
 go_enter Tryz.func36, Tryz.ntmps36
 go_wp2_with fail
 refine Hall.out.mono ?_
 rintro e w1 ⟨al, rfl, hal, hall, hals, hk1⟩
 have Hal := Lib.hid hal
 have Hall' := Lib.hid hall
 have Hals := Lib.hid hals
 have Hk1 := Lib.hid hk1
 have hlt := hal.lt
 clear hal hall hals hk1 Hall
 go_wp2_with fail
 go_loopw [4, 5] (fun v i wr => ∃ k : Nat, k ≤ rs.length ∧ i = .int .i64 (k : Int) ∧ BRows wr w1.heap.size v ((domTab (gr rs)).take k) ∧ Keep w1 wr) (fun _ i _ => rs.length - (intOf i).toNat)
 case atStart => exact ⟨0, Nat.zero_le _, rfl, OutRows.nil _ _ _ _ _ _, Keep.refl _⟩
 case round =>
  obtain ⟨k, hk, rfl, hout, hkeep⟩ := hrel
  obtain ⟨v4, rfl⟩ : ∃ v, v = u4 := ⟨_, rfl⟩
  have Hout := Lib.hid hout
  have Hkeep := Lib.hid hkeep
  clear hout hkeep
  by_cases hlk : k < rs.length
  ·have hkk : (k : Int) < (rs.length : Int) := by omega
   go_wp2_with fail
   refine (Hless.out wr (Hk1.out.trans Hkeep.out) k).mono ?_
   rintro e w2 ⟨le, rfl, hle, hlel, hles, hk2⟩
   obtain ⟨w3, hmake, hrow, hk3⟩ := make_bools w2 rs.length (by omega)
   obtain ⟨bw, hbw⟩ : ∃ b, b = w2.heap.size := ⟨_, rfl⟩
   obtain ⟨bl, hbl⟩ : ∃ b, b = wr.heap.size := ⟨_, rfl⟩
   have hle3 := hle.keep hk3
   have hal3 := Hal.out.keep ((Hkeep.out.trans hk2).trans hk3)
   have hz2 : w2.heap.size ≤ bw := by omega
   rw [← hbw] at hmake hrow
   rw [← hbl] at hle3 ⊢
   have Hst := Lib.hid (show BBlk w3 bw 4 (List.replicate rs.length false) ∧ BBlk w3 bl 4 le ∧ BBlk w3 w.heap.size 4 al ∧ Keep w2 w3 from ⟨hrow, hle3, hal3, hk3⟩)
   have Hlel := Lib.hid hlel
   have Hles := Lib.hid hles
   have Hk2 := Lib.hid hk2
   have hne1 : bw ≠ bl := by have := hle.lt; rw [hbw, hbl]; omega
   have hne2 : bw ≠ w.heap.size := by have := (Hal.out.keep (Hkeep.out.trans hk2)).lt; rw [hbw]; omega
   have Hbw := Lib.hid hbw
   clear hle hlel hles hk2 hrow hk3 hle3 hal3 hbw hbl
   go_wp2_with (refine wpList_make_eq rfl _ _ _ rfl _ _ rfl rfl _ _ hmake ?_; clear hmake)
   go_loopw [8] (fun j wx => ∃ (m : Nat) (r : List Bool), m ≤ rs.length ∧ j = .int .i64 (m : Int) ∧ BBlk wx bw 4 r ∧ r.length = rs.length ∧ (∀ i (h : i < r.length), i < m → r[i] = (al.getD i false && !le.getD i false)) ∧ BBlk wx bl 4 le ∧ BBlk wx w.heap.size 4 al ∧ Keep w2 wx) (fun j _ => rs.length - (intOf j).toNat)
   case atStart => exact ⟨0, _, Nat.zero_le _, rfl, Hst.out.1, by simp, fun i _ h => absurd h (Nat.not_lt_zero _), Hst.out.2⟩
   case round =>
    clear Hst
    obtain ⟨m, r, hm, rfl, hr, hrl, hri, hle, hal, hkx⟩ := hrel
    by_cases hlm : m < rs.length
    ·have hmm : (m : Int) < (rs.length : Int) := by omega
     have m0 : (0 : Int) ≤ (m : Int) := by omega
     have q1 := hal.get (k := m) (by rw [Hall'.out]; exact hlm)
     have q2 := hle.get (k := m) (by rw [Hlel.out]; exact hlm)
     have q3 := hr.get (k := m) (by rw [hrl]; exact hlm)
     have f3 := hr.frozen m
     have l1 := hal.lt
     have l2 := hle.lt
     have l3 := hr.lt
     have Hnew := Lib.hid (fun (y : Bool) (hy : y = (al.getD m false && !le.getD m false)) => show ∃ (m' : Nat) (r : List Bool), m' = m + 1 ∧ BBlk (wr.setCell ⟨bw, m, none⟩ (.bool y)) bw 4 r ∧ r.length = rs.length ∧ (∀ i (h : i < r.length), i < m' → r[i] = (al.getD i false && !le.getD i false)) ∧ BBlk (wr.setCell ⟨bw, m, none⟩ (.bool y)) bl 4 le ∧ BBlk (wr.setCell ⟨bw, m, none⟩ (.bool y)) w.heap.size 4 al ∧ Keep w2 (wr.setCell ⟨bw, m, none⟩ (.bool y)) from by
      refine ⟨m + 1, r.set m y, rfl, hr.put m y, by simpa using hrl, fun i hi hlt => ?_, hle.far (p := ⟨bw, m, none⟩) (fun e => hne1 e.symm) _, hal.far (p := ⟨bw, m, none⟩) (fun e => hne2 e.symm) _, hkx.setCell (p := ⟨bw, m, none⟩) (by rw [Hbw.out]; exact Nat.le_refl _) _⟩
      rw [List.getElem_set]
      by_cases e : m = i
      ·subst e; rw [if_pos rfl, hy]
      ·rw [if_neg e]; exact hri i (by simpa using hi) (by omega))
     have e1 : al.getD m false = al[m]'(by rw [Hall'.out]; exact hlm) := by rw [List.getD_eq_getElem?_getD, List.getElem?_eq_getElem (by rw [Hall'.out]; exact hlm)]; rfl
     have e2 : le.getD m false = le[m]'(by rw [Hlel.out]; exact hlm) := by rw [List.getD_eq_getElem?_getD, List.getElem?_eq_getElem (by rw [Hlel.out]; exact hlm)]; rfl
     rw [e1, e2] at Hnew
     obtain ⟨xa, hxa⟩ : ∃ x, x = al[m]'(by rw [Hall'.out]; exact hlm) := ⟨_, rfl⟩
     obtain ⟨xl, hxl⟩ : ∃ x, x = le[m]'(by rw [Hlel.out]; exact hlm) := ⟨_, rfl⟩
     obtain ⟨xr, hxr⟩ : ∃ x, x = r[m]'(by rw [hrl]; exact hlm) := ⟨_, rfl⟩
     rw [← hxa] at q1 Hnew
     rw [← hxl] at q2 Hnew
     rw [← hxr] at q3
     clear hr hrl hri hle hal hkx e1 e2 hxa hxl hxr
     have hne1' : bl ≠ bw := fun e => hne1 e.symm
     have hne2' : w.heap.size ≠ bw := fun e => hne2 e.symm
     cases xa <;> cases xl
     all_goals
      obtain ⟨m', r', hm', h1⟩ := Hnew.out _ rfl
      have H1 := Lib.hid h1
      have Hm' := Lib.hid hm'
      clear h1 hm' Hnew
      go_wp2_with fail
      go_roundw
      case rel => exact ⟨m', r', by rw [Hm'.out]; exact hlm, by rw [Hm'.out]; go_num, H1.out⟩
      case measure => simp [intOf] <;> omega
    ·have hge : ¬ (m : Int) < (rs.length : Int) := by omega
     have hml : m = rs.length := by omega
     have hN : gr rs ≠ [] := fun e => by have := Hlen.out; rw [e] at this; simp at this; omega
     have hrow : r = domRow (gr rs) k := by
      have ha := Hals.out hN
      rw [← Hlen.out] at ha
      exact row_of hN ha (Hles.out hN) (by rw [hrl, Hlen.out]) (fun i hi => hri i hi (by omega))
     have hown : Own boolC 1 4 wr w1.heap.size (.slice (some ⟨bw, 0, none⟩) rs.length rs.length) (domRow (gr rs) k) := by
      rw [← hrow]
      have := hr.own (base := w1.heap.size) (by rw [Hbw.out]; have h2 := Hkeep.out.size; have h3 := Hk2.out.size; omega) (by unfold maxLen; omega)
      rw [hrl] at this; exact this
     have hout := Hout.out.keep (Hk2.out.trans hkx)
     have hxv : (⟨some ⟨bw, 0, none⟩, domRow (gr rs) k, rs.length⟩ : RowG Bool).v = .slice (some ⟨bw, 0, none⟩) rs.length rs.length := by unfold RowG.v; rw [domRow_len, Hlen.out]
     obtain ⟨v', w6, hrun, hout2, hE⟩ := OutRows.push elRB (by decide) hout ⟨some ⟨bw, 0, none⟩, domRow (gr rs) k, rs.length⟩ (by rw [hxv]; exact hown) (by simp; omega) (by omega) ((Hkeep.out.trans Hk2.out).trans hkx).size 77
     rw [hxv] at hrun
     have hlk' : ((domTab (gr rs)).take k).length = k := by rw [List.length_take, Htl.out, Hlen.out]; omega
     have Hn := Lib.hid (show (domTab (gr rs)).take (k + 1) = (domTab (gr rs)).take k ++ [domRow (gr rs) k] by
      rw [take_snoc _ (by rw [Htl.out, Hlen.out]; exact hlk)]; simp [domTab])
     have Hout2 := Lib.hid hout2
     have Hk6 := Lib.hid (Keep.of_ext ((Hkeep.out.trans Hk2.out).trans hkx) hE (fun i hi h => by omega))
     obtain ⟨B, d, hvf, _⟩ := hout.form
     rw [hlk'] at hvf
     subst hvf
     clear hr hrl hri hle hal hkx hrow hown hout hout2 hxv hE hlk' hml
     go_wp2_with (at_builtin; refine wpList_append_eq rfl _ _ _ rfl _ _ rfl rfl _ _ hrun ?_; clear hrun)
     go_roundw
     case rel => exact ⟨k + 1, hlk, by go_num, by rw [Hn.out]; exact Hout2.out, Hk6.out⟩
     case measure => simp [intOf] <;> omega
  ·have hge : ¬ (k : Int) < (rs.length : Int) := by omega
   have Hr := Lib.hid (show StandsPost (gr rs) w (.returned v4) wr from ⟨v4, rfl, by
    have := Hout.out
    rw [List.take_of_length_le (by rw [Htl.out, Hlen.out]; omega)] at this; exact this.mono Hk1.out.size, Hk1.out.trans Hkeep.out⟩)
   go_wp2_with fail
   go_ret
   exact Hr.out
end Go.Proofs.YtjpmiejgcnfiiaaGreat.DZ
namespace Go.Proofs.YtjpmiejgcnfiiaaGreat.DZ
open Go Go.RowKit

/-- The table of dominators can be read. -/
def TabAt (N : Dom.Gr) (w : World) (A : Option Addr) (n : Nat) : Prop :=
 ∀ a b, a < n → b < n → ∃ bo oo b2 o2 c2, A = some ⟨bo, oo, none⟩ ∧ w.cell? ⟨bo, oo + a, none⟩ = some (.slice (some ⟨b2, o2, none⟩) n c2) ∧ w.cell? ⟨b2, o2 + b, none⟩ = some (.bool (dmB N a b))
theorem TabAt.keep {N : Dom.Gr} {w w' : World} {A : Option Addr} {n : Nat} (h : TabAt N w A n) (hk : Keep w w') : TabAt N w' A n := fun a b ha hb => by
 obtain ⟨bo, oo, b2, o2, c2, e, h1, h2⟩ := h a b ha hb
 exact ⟨bo, oo, b2, o2, c2, e, hk.cell h1, hk.cell h2⟩
theorem tab_of {N : Dom.Gr} {w : World} {base : Nat} {v : Value} (h : BRows w base v (domTab N)) : ∃ A c, v = .slice A N.length c ∧ TabAt N w A N.length := by
 obtain ⟨rt, A, c, e1, e2, e3, e4, _, _⟩ := h.read
 have hl : rt.length = N.length := by rw [← domTab_len N, ← e1]; simp
 refine ⟨A, c, by rw [e2, hl], fun a b ha hb => ?_⟩
 have hra : a < rt.length := by omega
 obtain ⟨bo, oo, eA, _, hc⟩ := e3.elem 1 (fun _ => rfl) (by omega) hra
 have hrow : rt[a].l = domRow N a := by
  have e := congrArg (fun l => l[a]?) e1
  simp [hra, domTab, ha] at e
  exact e
 have hlen : rt[a].l.length = N.length := by rw [hrow, domRow_len]
 obtain ⟨b2, o2, eR, _, hb2⟩ := bool_at (e4 rt[a] (List.getElem_mem hra)) (Keep.refl _) (k := b) (by omega)
 have h0 := hc 0 _ rfl
 refine ⟨bo, oo, b2, o2, rt[a].c, eA, ?_, ?_⟩
 ·have h1 : w.cell? ⟨bo, oo + (a * 1 + 0), none⟩ = some rt[a].v := h0
  unfold RowG.v at h1
  rw [eR, hlen] at h1
  simpa using h1
 ·rw [hb2]
  have : rt[a].l[b]'(by omega) = dmB N a b := by
   have e := congrArg (fun l => l[b]?) hrow
   rw [List.getElem?_eq_getElem (by omega), List.getElem?_eq_getElem (by rw [domRow_len]; exact hb), domRow_get] at e
   exact Option.some.inj e
  rw [this]

/-- What the reference's Of leaves. -/
def RefOfPost (I : List Int) (w : World) (e : Ending) (w' : World) : Prop := ∃ v, e = .returned v ∧ Own intC 1 3 w' w.heap.size v I ∧ Keep w w'

set_option maxHeartbeats 2000000 in
set_option maxRecDepth 100000 in
theorem refOf_calls (rs : List Row) (A : Option Addr) (c : Nat) (w : World) (hg : Graph w A rs) (hn : rs.length ≤ 100000) {I : List Int} (hI : Dom.Idom (gr rs) I) :
  Calls Tryz.prog 19 #[.slice A rs.length c] w (RefOfPost I w) := by
 have Hst := Lib.hid (stands_calls rs A c w hg hn)
 have Hlen := Lib.hid (gr_len rs)
 have HI := Lib.hid hI
 have HIl := Lib.hid (show I.length = rs.length by rw [hI.len, gr_len])
 clear hg hI
 go_enter Tryz.func19, Tryz.ntmps19
 go_wp2_with fail
 refine Hst.out.mono ?_
 rintro e w1 ⟨v, rfl, htab, hk1⟩
 obtain ⟨At, ct, rfl, htb⟩ := tab_of htab
 have Htb := Lib.hid (show TabAt (gr rs) w1 At rs.length by have := htb; rw [gr_len] at this; exact this)
 rw [gr_len]
 have Hk1 := Lib.hid hk1
 clear htab htb hk1 Hst
 go_wp2_with fail
 go_loopw [4, 5] (fun v i wr => ∃ k : Nat, k ≤ rs.length ∧ i = .int .i64 (k : Int) ∧ Own intC 1 3 wr w1.heap.size v (I.take k) ∧ Keep w1 wr) (fun _ i _ => rs.length - (intOf i).toNat)
 case atStart => exact ⟨0, Nat.zero_le _, rfl, Own.nil _ _ _ _ _, Keep.refl _⟩
 case round =>
  obtain ⟨k, hk, rfl, hout, hkeep⟩ := hrel
  obtain ⟨v4, rfl⟩ : ∃ v, v = u4 := ⟨_, rfl⟩
  have Hout := Lib.hid hout
  have Hkeep := Lib.hid hkeep
  clear hout hkeep
  by_cases hlk : k < rs.length
  ·have hkk : (k : Int) < (rs.length : Int) := by omega
   have k0 : (0 : Int) ≤ (k : Int) := by omega
   have hN : gr rs ≠ [] := fun e => by have := Hlen.out; rw [e] at this; simp at this; omega
   have HN := Lib.hid hN
   obtain ⟨bo, oo, _, _, _, rfl, _⟩ := Htb.out k k hlk hlk
   have Hcell := Lib.hid (fun (a b : Nat) (ha : a < rs.length) (hb : b < rs.length) => show ∃ b2 o2 c2, wr.cell? ⟨bo, oo + a, none⟩ = some (.slice (some ⟨b2, o2, none⟩) rs.length c2) ∧ wr.cell? ⟨b2, o2 + b, none⟩ = some (.bool (dmB (gr rs) a b)) by
    obtain ⟨_, _, b2, o2, c2, e, h1, h2⟩ := (Htb.out.keep Hkeep.out) a b ha hb
    cases e
    exact ⟨b2, o2, c2, h1, h2⟩)
   clear hN
   obtain ⟨wo, rfl⟩ : ∃ wo : World, wo = wr := ⟨_, rfl⟩
   go_wp2_with fail
   go_loop [6, 7] (fun vb va => ∃ (a : Nat) (best : Int), a ≤ rs.length ∧ va = .int .i64 (a : Int) ∧ vb = .int .i64 best ∧ Dom.Scan (gr rs) k a best) (fun _ va => rs.length - (intOf va).toNat)
   case atStart => exact ⟨0, -1, Nat.zero_le _, rfl, rfl, Dom.Scan.zero _ _⟩
   case round =>
    obtain ⟨a, best, ha, rfl, rfl, hs⟩ := hrel
    by_cases hla : a < rs.length
    ·have haa : (a : Int) < (rs.length : Int) := by omega
     have a0 : (0 : Int) ≤ (a : Int) := by omega
     obtain ⟨b2, o2, c2, q1, q2⟩ := Hcell.out a k hla hlk
     by_cases hak : a = k
     ·have Hs := Lib.hid (hs.no (.inl hak))
      subst hak
      have dd : ((a : Int) != (a : Int)) = false := by simp
      clear hs
      go_wp2_with fail
      go_round
      case rel => exact ⟨a + 1, best, hla, by go_num, rfl, Hs.out⟩
      case measure => simp [intOf] <;> omega
     ·have dd : ((a : Int) != (k : Int)) = true := by simp; omega
      cases hd : dmB (gr rs) a k with
      | false =>
       rw [hd] at q2
       have Hs := Lib.hid (hs.no (.inr (fun h => by rw [dmB_iff.2 h] at hd; cases hd)))
       clear hs hd hak
       go_wp2_with fail
       go_round
       case rel => exact ⟨a + 1, best, hla, by go_num, rfl, Hs.out⟩
       case measure => simp [intOf] <;> omega
      | true =>
       rw [hd] at q2
       have hD := dmB_iff.1 hd
       rcases hs with ⟨rfl, hno⟩ | ⟨m, rfl, hm1, hm2, hm3, hm4⟩
       ·have Hs := Lib.hid (Dom.Scan.first hno (by rw [Hlen.out]; exact hla) hak hD (fun x hx => Dom.dm_self hx) (HI.out.total HN.out hD hD).1)
        clear hno hd hak hD
        go_wp2_with fail
        go_round
        case rel => exact ⟨a + 1, (a : Int), hla, by go_num, rfl, Hs.out⟩
        case measure => simp [intOf] <;> omega
       ·have hml : m < rs.length := by rw [Hlen.out] at hm1; exact hm1
        obtain ⟨b3, o3, c3, q3, q4⟩ := Hcell.out m a hml hla
        have m0 : (0 : Int) ≤ (m : Int) := by omega
        have m1 : (m : Int) < (rs.length : Int) := by omega
        have dm : decide ((m : Int) < 0) = false := decide_eq_false (by omega)
        cases hd2 : dmB (gr rs) m a with
        | true =>
         rw [hd2] at q4
         have Hs := Lib.hid (Dom.Scan.put HI.out HN.out hm4 (by rw [Hlen.out]; exact hla) hak hD (dmB_iff.1 hd2))
         clear hd hd2 hak hD hm1 hm2 hm3 hm4
         go_wp2_with fail
         go_round
         case rel => exact ⟨a + 1, (a : Int), hla, by go_num, rfl, Hs.out⟩
         case measure => simp [intOf] <;> omega
        | false =>
         rw [hd2] at q4
         have Hs := Lib.hid (Dom.Scan.stay HI.out HN.out hm1 hm2 hm3 hm4 (fun h => by rw [dmB_iff.2 h] at hd2; cases hd2))
         clear hd hd2 hak hD hm1 hm2 hm3 hm4
         go_wp2_with fail
         go_round
         case rel => exact ⟨a + 1, (m : Int), hla, by go_num, rfl, Hs.out⟩
         case measure => simp [intOf] <;> omega
    ·have hge : ¬ (a : Int) < (rs.length : Int) := by omega
     have hal : a = rs.length := by omega
     have hfull : best = I.getD k 0 := Dom.Scan.full HI.out HN.out (by rw [Hlen.out]; exact hlk) (by rw [Hlen.out, ← hal]; exact hs)
     have hkI : k < I.length := by rw [HIl.out]; exact hlk
     have hbI : best = I[k] := by rw [hfull, List.getD_eq_getElem?_getD, List.getElem?_eq_getElem hkI]; rfl
     have hlt : (I.take k).length = k := by rw [List.length_take]; omega
     obtain ⟨B, d, hv, B', d', w3, hrun, hown, hE, _, _⟩ := Hout.out.push1 elI best (by rw [hlt]; omega) (by omega) Hkeep.out.size 45
     rw [hlt] at hv hrun hown
     subst hv
     have Hown := Lib.hid (show Own intC 1 3 w3 w1.heap.size (.slice B' (k + 1) d') (I.take (k + 1)) by rw [take_snoc I hkI, ← hbI]; exact hown)
     have Hk3 := Lib.hid (Keep.of_ext Hkeep.out hE (fun i hi h => by omega))
     clear hs hfull hbI hown hE hlt hal
     go_wp2_with (at_builtin; refine wpList_append_eq rfl _ _ _ rfl _ _ rfl rfl _ _ hrun ?_; clear hrun)
     go_roundw
     case rel => exact ⟨k + 1, hlk, by go_num, Hown.out, Hk3.out⟩
     case measure => simp [intOf] <;> omega
  ·have hge : ¬ (k : Int) < (rs.length : Int) := by omega
   have Hr := Lib.hid (show RefOfPost I w (.returned v4) wr from ⟨v4, rfl, by
    have := Hout.out
    rw [List.take_of_length_le (by rw [HIl.out]; omega)] at this
    exact this.mono Hk1.out.size, Hk1.out.trans Hkeep.out⟩)
   go_wp2_with fail
   go_ret
   exact Hr.out
end Go.Proofs.YtjpmiejgcnfiiaaGreat.DZ
