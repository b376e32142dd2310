import Derived.Test.YtjpmiejgcnfiiaaGreatQ39
import Derived.Test.YtjpmiejgcnfiiaaGreatQ4
import Derived.Test.YtjpmiejgcnfiiaaGreatQ13
import Derived.Test.YtjpmiejgcnfiiaaGreatQ38
set_option linter.unusedVariables false
set_option linter.unusedSimpArgs false
namespace Go.Proofs.YtjpmiejgcnfiiaaGreat
open Go Go.RowKit Go.Shelf Go.Lib Go.Sort Go.Proofs

/-- A turn: its position, and whether it begins. -/
abbrev TB := Int × Bool
def tb (b : Bool) : Int := if b then 1 else -1
def tC (t : TB) : List Value := [.int .i64 t.1, .int .i64 (tb t.2)]
def toT (t : TB) : Lv.Turn := (t.1, tb t.2)
def cfT (x y : TB) : Int := if x.1 = y.1 then tb x.2 - tb y.2 else if x.1 < y.1 then -1 else 1
theorem lt_turn (x y : TB) : ltOf cfT x y = (decide (x.1 < y.1) || (decide (x.1 = y.1) && (!x.2 && y.2))) := by
 unfold ltOf cfT
 by_cases h1 : x.1 = y.1
 ·obtain ⟨x1, x2⟩ := x
  obtain ⟨y1, y2⟩ := y
  simp only at h1
  subst h1
  cases x2 <;> cases y2 <;> simp [tb]
 ·by_cases h2 : x.1 < y.1 <;> simp [h1, h2]
theorem swo_turn : SWO (ltOf cfT) where
 irrefl x := by rw [lt_turn]; simp
 trans x y z h1 h2 := by
  rw [lt_turn] at *
  obtain ⟨x1, x2⟩ := x; obtain ⟨y1, y2⟩ := y; obtain ⟨z1, z2⟩ := z
  cases x2 <;> cases y2 <;> cases z2 <;> simp at * <;> omega
 ntrans x y z h1 h2 := by
  rw [lt_turn] at *
  obtain ⟨x1, x2⟩ := x; obtain ⟨y1, y2⟩ := y; obtain ⟨z1, z2⟩ := z
  cases x2 <;> cases y2 <;> cases z2 <;> simp at * <;> omega
theorem tle_of {x y : TB} (h : ltOf cfT y x = false) : Lv.TLe (toT x) (toT y) := by
 rw [lt_turn] at h
 obtain ⟨x1, x2⟩ := x; obtain ⟨y1, y2⟩ := y
 unfold Lv.TLe toT
 cases x2 <;> cases y2 <;> simp [tb] at * <;> omega
theorem elTn : ElT Tryz.prog 110 113 2 16 tC where
 slice := Tryz.underlying110
 info := info_of (z := .agg #[.int .i64 0, .int .i64 0]) (by kernel_rfl) rfl
 pos := by omega
 len := fun _ => rfl
 one := fun x u hu => by simp [tC] at hu; rcases hu with rfl | rfl <;> rfl

set_option maxHeartbeats 1000000 in
theorem turnCmp_calls (x y : TB) (W : World) : Calls Tryz.prog 44 #[.agg (tC x).toArray, .agg (tC y).toArray] W fun e w' => e = .returned (.int .i64 (cfT x y)) ∧ ∃ q os', w' = grow (W.drewN q) os' := by
 obtain ⟨x1, x2⟩ := x
 obtain ⟨y1, y2⟩ := y
 unfold cfT
 show Calls Tryz.prog _ #[.agg #[.int .i64 x1, .int .i64 (tb x2)], .agg #[.int .i64 y1, .int .i64 (tb y2)]] W fun e w' => e = .returned (.int .i64 (if x1 = y1 then tb x2 - tb y2 else if x1 < y1 then -1 else 1)) ∧ _
 have hE : ∃ q os', (W.alloc (.cells #[.int .i64 x1, .int .i64 (tb x2)] 113)).alloc (.cells #[.int .i64 y1, .int .i64 (tb y2)] 113) = grow (W.drewN q) os' := ⟨0, _, by rw [alloc_eq_grow, alloc_eq_grow, grow_grow]; rfl⟩
 have HE := Lib.hid hE
 clear hE
 by_cases h1 : x1 = y1
 ·subst h1
  have hne : (x1 != x1) = false := by simp
  rw [if_pos rfl]
  have hb1 : -1 ≤ tb x2 ∧ tb x2 ≤ 1 := by unfold tb; split <;> omega
  have hb2 : -1 ≤ tb y2 ∧ tb y2 ≤ 1 := by unfold tb; split <;> omega
  generalize tb x2 = p at *
  generalize tb y2 = q at *
  obtain ⟨g1, g2⟩ := hb1
  obtain ⟨g3, g4⟩ := hb2
  go_enter Tryz.func44, Tryz.ntmps44
  go_wp2
  go_ret
  exact ⟨by first | rfl | (congr 2; exact IntWalk.i64_in _ (by omega)), HE.out⟩
 ·have hne : (x1 != y1) = true := by simpa using h1
  rw [if_neg h1]
  by_cases h2 : x1 < y1
  ·rw [if_pos h2]
   clear h1
   go_enter Tryz.func44, Tryz.ntmps44
   go_wp2
   go_ret
   exact ⟨rfl, HE.out⟩
  ·rw [if_neg h2]
   clear h1
   go_enter Tryz.func44, Tryz.ntmps44
   go_wp2
   go_ret
   exact ⟨rfl, HE.out⟩

theorem sortTurn_calls (l : List TB) (A : Option Addr) (c base : Nat) (w : World) (h : Own tC 2 113 w base (.slice A l.length c) l) (hn : l.length ≤ 100000000) :
  Calls Tryz.prog 43 #[.slice A l.length c, .func (.func 44) #[] #[]] w fun e w' => ∃ d : List TB, e = .returned (.tuple #[]) ∧ d.Perm l ∧ (d.map toT).Pairwise Lv.TLe ∧
   Own tC 2 113 w' base (.slice A l.length c) d ∧ Ext (fun k => base ≤ k) w w' := by
 rcases h.2 with ⟨hv, h0⟩ | ⟨g, cap, cur, hv, hb, hh, _⟩
 ·have hl : l = [] := List.eq_nil_of_length_eq_zero h0
  subst hl
  have hcon := AnyF.slices_SortFunc_none sortTurn A c (.func (.func 44) #[] #[]) w
  change Calls Tryz.prog 43 _ _ _ at hcon
  refine hcon.mono ?_
  rintro e w' ⟨rfl, rfl⟩
  exact ⟨[], rfl, List.Perm.nil, .nil, h, Ext.refl _ _⟩
 ·injection hv with h1 h2 h3
  subst h1
  have hcon := AnyQ.slices_SortFunc sortTurn 2 Tryz.isAgg113 Tryz.sizeOf113 tC (fun _ => rfl) (fun x v hv => by simp [tC] at hv; rcases hv with rfl | rfl <;> rfl) cfT swo_turn 44 #[] g 0 c l.toArray w
   (enters_of Tryz.func44 (by kernel_rfl) rfl) (fun _ _ _ _ x y => turnCmp_calls x y _) (Own.holdsK (f := tC) (s := 2) (fun _ => rfl) h) ((Array.getElem?_eq_some_iff.1 hh).1) (by simp; omega)
  change Calls Tryz.prog 43 _ _ _ at hcon
  rw [show l.toArray.size = l.length by simp] at hcon
  refine hcon.mono ?_
  rintro e w' ⟨rfl, d, m, os, hp, hs, rfl⟩
  obtain ⟨e1, e2, e3⟩ := sorted_list (l := l) (by simpa using hp) (by simpa using hs)
  obtain ⟨o1, o2⟩ := Own.sorted (f := tC) (s := 2) (fun _ => rfl) h d m os e1
  exact ⟨d.toList, rfl, e2, List.pairwise_map.2 (e3.imp fun {a b} hab => tle_of hab), o1, o2.mono fun i _ e => by rw [e]; exact hb⟩

theorem turnPush {w : World} {base : Nat} {v : Value} {xs : List TB} (h : Own tC 2 113 w base v xs) (x y : Int) (hn : xs.length ≤ 100000000) (hb : base ≤ w.heap.size) :
  ∃ A c, v = .slice A xs.length c ∧ ∃ A' c' w2, (Builtin.append_ #[110, 110] 110 #[.slice A xs.length c, .slice (some ⟨w.heap.size, 0, none⟩) 2 2]).run Tryz.prog (w.alloc (.cells #[.int .i64 x, .int .i64 1, .int .i64 y, .int .i64 (-1)] 113)) = .ok (.slice A' (xs.length + 2) c') w2 ∧
   Own tC 2 113 w2 base (.slice A' (xs.length + 2) c') (xs ++ [(x, true), (y, false)]) ∧ Ext (fun k => base ≤ k) w w2 ∧ ∀ (base' : Nat) (v' : Value) (ys : List Lv.Rng), Own rngC 2 70 w base' v' ys → Own rngC 2 70 w2 base' v' ys := by
 obtain ⟨A, c, hform, _⟩ := h.form
 have hka : Keep w (w.alloc (.cells #[.int .i64 x, .int .i64 1, .int .i64 y, .int .i64 (-1)] 113)) := (Keep.refl _).alloc _
 have hseg : Seg (w.alloc (.cells #[.int .i64 x, .int .i64 1, .int .i64 y, .int .i64 (-1)] 113)) (some ⟨w.heap.size, 0, none⟩) (([(x, true), (y, false)] : List TB).flatMap tC) := Seg.of_blk (Blk.new w 113 [.int .i64 x, .int .i64 1, .int .i64 y, .int .i64 (-1)])
 obtain ⟨v', w2, hrun, hown, hg, _⟩ := append_run (ys := [(x, true), (y, false)]) elTn (h.keep hka) hseg 2 110 (by simp [maxLen]; omega) (by simp; omega) (Nat.le_trans hb hka.size)
 obtain ⟨A', c', rfl, _⟩ := hown.form
 have e : (xs ++ [((x, true) : TB), (y, false)]).length = xs.length + 2 := by simp
 rw [e] at hrun hown
 have hlow : ∀ k, v.ownBlock = some k → base ≤ k := fun k hk => (h.lt k hk).1
 subst hform
 refine ⟨A, c, rfl, A', c', w2, hrun, hown, (hka.ext _).grown hg (fun k hk _ => hlow k hk), fun base' v' ys ho => (ho.keep hka).grown hg ?_⟩
 cases hv : v'.ownBlock with
 | none => exact .inl rfl
 | some q => exact .inr fun e => (ho.kinds h (by decide) hv) e.symm

/-- The turns of a list of ranges. -/
def trB (M : List Lv.Rng) : List TB := M.flatMap fun r => [(r.1, true), (r.2, false)]
theorem trB_len (M : List Lv.Rng) : (trB M).length = 2 * M.length := by
 unfold trB
 induction M with
 | nil => rfl
 | cons r M ih => rw [List.flatMap_cons, List.length_append, ih]; simp; omega
theorem trB_snoc {M : List Lv.Rng} {k : Nat} {r : Lv.Rng} (h : M[k]? = some r) : trB (M.take (k + 1)) = trB (M.take k) ++ [(r.1, true), (r.2, false)] := by
 unfold trB
 rw [List.take_add_one, h, List.flatMap_append]; rfl
theorem trB_append (M N : List Lv.Rng) : trB (M ++ N) = trB M ++ trB N := by unfold trB; rw [List.flatMap_append]
theorem trB_toT (M : List Lv.Rng) : (trB M).map toT = Lv.turnsOf M := by
 unfold trB Lv.turnsOf
 induction M with
 | nil => rfl
 | cons r M ih => rw [List.flatMap_cons, List.flatMap_cons, List.map_append, ih]; rfl
theorem turn_get {w wr : World} {A : Option Addr} {l : List TB} {k : Nat} {r : TB} (h : Seg w A (l.flatMap tC)) (hkeep : Keep w wr) (hr : l[k]? = some r) :
  ∃ b off, A = some ⟨b, off, none⟩ ∧ b < w.heap.size ∧ wr.cell? ⟨b, off + k * 2, none⟩ = some (.int .i64 r.1) ∧ wr.cell? ⟨b, off + k * 2 + 1, none⟩ = some (.int .i64 (tb r.2)) := by
 obtain ⟨hk, e⟩ := List.getElem?_eq_some_iff.1 hr
 obtain ⟨b, off, e', hb, hc⟩ := h.elem 2 (fun _ => rfl) (by omega) hk
 rw [e] at hc
 exact ⟨b, off, e', hb, by have := hkeep.cell (hc 0 _ rfl); simpa using this, by have := hkeep.cell (hc 1 _ rfl); rwa [← Nat.add_assoc] at this⟩
/-- Where the gathering stands. -/
structure Gat (ls : List LvD) (k : Nat) (tl : List TB) : Prop where
 ex : ∃ Ms, Lv.MgAll ((ls.take k).map (·.l)) Ms ∧ tl = trB Ms.flatten ∧ Ms.flatten.length ≤ k * 1000
theorem Gat.zero (ls : List LvD) : Gat ls 0 [] := ⟨[], .nil, rfl, by simp⟩
theorem Gat.len {ls : List LvD} {k : Nat} {tl : List TB} (h : Gat ls k tl) : tl.length ≤ k * 2000 := by
 obtain ⟨Ms, _, rfl, h3⟩ := h.ex
 rw [trB_len]; omega
theorem Gat.step {ls : List LvD} {k : Nat} {tl : List TB} (h : Gat ls k tl) {x : LvD} {out : List Lv.Rng} (hx : ls[k]? = some x) (hm : Lv.Mg x.l out) (hl : out.length ≤ 1000) : Gat ls (k + 1) (tl ++ trB out) := by
 obtain ⟨Ms, h1, rfl, h3⟩ := h.ex
 refine ⟨Ms ++ [out], ?_, by simp [trB_append], by simp at h3 ⊢; omega⟩
 rw [List.take_add_one, hx, List.map_append]
 exact h1.snoc hm

set_option maxHeartbeats 4000000 in
set_option maxRecDepth 100000 in
theorem most_calls (ls : List LvD) (A : Option Addr) (c : Nat) (w : World) (h : Lives w A ls) (hn : ls.length ≤ 1000) (hb : ∀ x ∈ ls, x.l.length ≤ 1000) :
  Calls Tryz.prog 22 #[.slice A ls.length c] w fun e w' => ∃ m, e = .returned (.int .i64 m) ∧ (∀ m', Lv.RefM (ls.map (·.l)) m' → m = m') ∧ Keep w w' := by
 have Hl := Lib.hid h
 have Hb := Lib.hid hb
 obtain ⟨n, hnl⟩ : ∃ n, ls.length = n := ⟨_, rfl⟩
 have Hnl := Lib.hid hnl
 rw [hnl] at hn ⊢
 clear h hb hnl
 go_enter Tryz.func22, Tryz.ntmps22
 go_wp2_with fail
 go_loopw [3, 5, 7, 14] (fun vt _ _ vi wr => ∃ (k : Nat) (tl : List TB), k ≤ n ∧ vi = .int .i64 k ∧ Hid (Own tC 2 113 wr w.heap.size vt tl) ∧ Hid (Gat ls k tl) ∧ Hid (Keep w wr)) (fun _ _ _ vi _ => n - (intOf vi).toNat)
 case atStart => exact ⟨0, [], Nat.zero_le _, rfl, Lib.hid (Own.nil _ _ _ _ _), Lib.hid (Gat.zero ls), Lib.hid (Keep.refl _)⟩
 case round =>
  obtain ⟨k, tl, hk, rfl, hown, hgat, hkeep⟩ := hrel
  by_cases hin : k < n
  ·obtain ⟨x, hx⟩ := get_some (l := ls) (k := k) (by rw [Hnl.out]; exact hin)
   have hxm := List.mem_of_getElem? hx
   obtain ⟨bE, oE, hE, hbE, q0, q1, hok⟩ := Hl.out.get hkeep.out hx
   subst hE
   have lE := Nat.lt_of_lt_of_le hbE hkeep.out.size
   have k1 : (k : Int) < (n : Int) := by omega
   have k0 : (0 : Int) ≤ (k : Int) := by omega
   obtain ⟨wb, hwb, kb, bb⟩ := box2 wr 68 (.int .i64 x.val) (.slice x.a x.l.length x.c)
   have y1 : wb.cell? ⟨wr.heap.size, 1, none⟩ = some (.slice x.a x.l.length x.c) := bb.cell 1
   have yl := bb.lt
   have hmg := merged_calls x.l x.a x.c wb (hok.seg.keep kb) (by have := Hb.out x hxm; omega)
   have Hmg := Lib.hid hmg
   have Hxl := Lib.hid (Hb.out x hxm)
   have Hx := Lib.hid hx
   have Hkb := Lib.hid (hkeep.out.trans kb)
   have Hob := Lib.hid (hown.out.keep kb)
   rw [hwb] at y1 yl
   have Hwb := Lib.hid hwb
   clear hmg hxm hx hown hkeep hok kb bb hwb
   go_wp2_with fail
   rw [← Hwb.out]
   refine Hmg.out.mono ?_
   clear Hmg y1 yl
   rintro e w1 ⟨v1, out, rfl, ho1, hmg1, hlen1, hk1⟩
   obtain ⟨A1, c1, rfl, _, hc1⟩ := ho1.form
   have Hob1 := Lib.hid (Hob.out.keep hk1)
   have Hk1 := Lib.hid (Hkb.out.trans hk1)
   have Hout := Lib.hid (show Own rngC 2 70 w1 wb.heap.size (.slice A1 out.length c1) out from ho1)
   have hol : out.length ≤ 1000 := Nat.le_trans hlen1 Hxl.out
   have Hgat2 := Lib.hid (hgat.out.step Hx.out hmg1 hol)
   have htl := hgat.out.len
   obtain ⟨mo, hmo⟩ : ∃ mo, out.length = mo := ⟨_, rfl⟩
   have Hmo := Lib.hid hmo
   rw [hmo] at hol Hout ⊢
   clear ho1 hmg1 hlen1 hk1 hmo hgat Hob Hkb hc1
   go_wp2_with fail
   go_loopw [3, 7, 22] (fun vt _ vj wr => ∃ j : Nat, j ≤ mo ∧ vj = .int .i64 j ∧ Hid (Own tC 2 113 wr w.heap.size vt (tl ++ trB (out.take j))) ∧ Hid (Keep w wr) ∧ Hid (Own rngC 2 70 wr wb.heap.size (.slice A1 mo c1) out)) (fun _ _ vj _ => mo - (intOf vj).toNat)
   case atStart => exact ⟨0, Nat.zero_le _, rfl, Lib.hid (by simpa [trB] using Hob1.out), Lib.hid Hk1.out, Hout⟩
   case round =>
    clear Hout
    obtain ⟨j, hj, rfl, hown, hkeep, hout⟩ := hrel
    by_cases hinj : j < mo
    ·obtain ⟨r, hr⟩ := get_some (l := out) (k := j) (by rw [Hmo.out]; exact hinj)
     obtain ⟨b2, o2, h2, hb2, q0, q1⟩ := rng_get hout.out.segN.2 (Keep.refl _) hr
     subst h2
     have j1 : (j : Int) < (mo : Int) := by omega
     have j0 : (0 : Int) ≤ (j : Int) := by omega
     have hsn := trB_snoc hr
     obtain ⟨p, q⟩ := r
     replace q0 : wr.cell? ⟨b2, o2 + j * 2, none⟩ = some (.int .i64 p) := q0
     replace q1 : wr.cell? ⟨b2, o2 + j * 2 + 1, none⟩ = some (.int .i64 q) := q1
     obtain ⟨wc, hwc, kc, bc⟩ := box2 wr 70 (.int .i64 p) (.int .i64 q)
     have y0 : wc.cell? ⟨wr.heap.size, 0, none⟩ = some (.int .i64 p) := bc.cell 0
     have y1 : wc.cell? ⟨wr.heap.size, 1, none⟩ = some (.int .i64 q) := bc.cell 1
     have yl := bc.lt
     have hzc : wc.heap.size = wr.heap.size + 1 := by rw [hwc]; simp
     have hlen : (tl ++ trB (out.take j)).length ≤ 10000000 := by
      rw [List.length_append, trB_len, List.length_take]; omega
     obtain ⟨At, ct, rfl, A', c', w7, hrun, ho7, hE7, hR7⟩ := turnPush (hown.out.keep kc) p q (by omega) (Nat.le_trans hkeep.out.size kc.size)
     have Hn := Lib.hid (show Own tC 2 113 w7 w.heap.size (.slice A' ((tl ++ trB (out.take j)).length + 2) c') (tl ++ trB (out.take (j + 1))) ∧ Keep w w7 ∧ Own rngC 2 70 w7 wb.heap.size (.slice (some ⟨b2, o2, none⟩) mo c1) out from
      ⟨by rw [hsn, ← List.append_assoc]; exact ho7, Keep.of_ext (hkeep.out.trans kc) hE7 (fun k hk e => by omega), hR7 _ _ _ (hout.out.keep kc)⟩)
     rw [hzc] at hrun
     rw [hwc] at hrun y0 y1 yl
     obtain ⟨lt, hlt⟩ : ∃ lt, (tl ++ trB (out.take j)).length = lt := ⟨_, rfl⟩
     rw [hlt] at hrun Hn ⊢
     clear hown hkeep hout ho7 hE7 hR7 hsn hr kc bc hzc hwc hlen hlt
     go_wp2_with (at_builtin; refine wpList_append_eq rfl _ _ _ rfl _ _ rfl rfl _ _ hrun ?_; clear hrun)
     go_roundw
     case rel => exact ⟨j + 1, hinj, by go_num, Lib.hid Hn.out.1, Lib.hid Hn.out.2.1, Lib.hid Hn.out.2.2⟩
     case measure => simp [intOf]; omega
    ·have hjm : mo = j := by omega
     subst hjm
     have Hn := Lib.hid (show Own tC 2 113 wr w.heap.size u3 (tl ++ trB out) from by
      have := hown.out
      rwa [List.take_of_length_le (by rw [Hmo.out]; exact Nat.le_refl _)] at this)
     clear hown hout
     go_wp2
     go_roundw
     case rel => exact ⟨k + 1, tl ++ trB out, hin, by go_num, Hn, Hgat2, hkeep⟩
     case measure => simp [intOf]; omega
  ·have hkn : n = k := by omega
   subst hkn
   obtain ⟨A3, c3, hform, _, hc3⟩ := hown.out.form
   subst hform
   have htl := hgat.out.len
   have hso := sortTurn_calls tl A3 c3 w.heap.size wr hown.out (by omega)
   obtain ⟨nt, hnt⟩ : ∃ nt, tl.length = nt := ⟨_, rfl⟩
   have Hnt := Lib.hid hnt
   rw [hnt] at hso htl ⊢
   have Hso := Lib.hid hso
   clear hso hown hnt hc3
   go_wp2_with fail
   refine Hso.out.mono ?_
   clear Hso
   rintro e w3 ⟨d, rfl, hp, hpw, hown3, hE3⟩
   have Hk3 := Lib.hid (show Keep w w3 from Keep.of_ext hkeep.out hE3 (fun k hk e => by omega))
   have Hseg := Lib.hid hown3.segN.2
   have Hd := Lib.hid (show d.length = nt by rw [← Hnt.out]; exact hp.length_eq)
   obtain ⟨Ms, hall, htb, _⟩ := hgat.out.ex
   have HT := Lib.hid (show (d.map toT).Perm (Lv.turnsOf Ms.flatten) from by rw [← trB_toT, ← htb]; exact hp.map _)
   have Hall := Lib.hid (show Lv.MgAll (ls.map (·.l)) Ms from by rwa [List.take_of_length_le (by rw [Hnl.out]; exact Nat.le_refl _)] at hall)
   have Hpw := Lib.hid hpw
   clear hp hpw hown3 hE3 hall htb hgat hkeep
   go_wp2_with fail
   go_loopw [8, 9, 11, 41] (fun vm vn _ vj wr => ∃ (j : Nat) (now most : Int), j ≤ nt ∧ vj = .int .i64 j ∧ vm = .int .i64 most ∧ vn = .int .i64 now ∧ Hid (Lv.Sw Ms.flatten ((d.take j).map toT) now most) ∧ -(j : Int) ≤ now ∧ now ≤ (j : Int) ∧ 0 ≤ most ∧ most ≤ (j : Int) ∧ Hid (Keep w3 wr)) (fun _ _ _ vj _ => nt - (intOf vj).toNat)
   case atStart => exact ⟨0, 0, 0, Nat.zero_le _, rfl, rfl, rfl, Lib.hid (Lv.Sw.nil _), by omega, by omega, by omega, by omega, Lib.hid (Keep.refl _)⟩
   case round =>
    obtain ⟨j, now, most, hj, rfl, rfl, rfl, hsw, b1, b2, b3, b4, hkeep⟩ := hrel
    by_cases hinj : j < nt
    ·obtain ⟨r, hr⟩ := get_some (l := d) (k := j) (by rw [Hd.out]; exact hinj)
     obtain ⟨bg, og, hg, hbg, q0, q1⟩ := turn_get Hseg.out hkeep.out hr
     subst hg
     have lg := Nat.lt_of_lt_of_le hbg hkeep.out.size
     have j1 : (j : Int) < (nt : Int) := by omega
     have j0 : (0 : Int) ≤ (j : Int) := by omega
     have hst := hsw.out.step Hall.out.pos HT.out Hpw.out (t := toT r) (post := (d.drop (j + 1)).map toT) (by
      conv => lhs; rw [← List.take_append_drop j d]
      rw [List.map_append, List.drop_eq_getElem_cons (by rw [Hd.out]; exact hinj)]
      have e : d[j]'(by rw [Hd.out]; exact hinj) = r := Option.some.inj ((List.getElem?_eq_getElem _).symm.trans hr)
      rw [e]; rfl)
     have e3 : (d.take j).map toT ++ [toT r] = (d.take (j + 1)).map toT := by rw [List.take_add_one, hr, List.map_append]; rfl
     rw [e3] at hst
     obtain ⟨p, q⟩ := r
     replace q0 : wr.cell? ⟨bg, og + j * 2, none⟩ = some (.int .i64 p) := q0
     replace q1 : wr.cell? ⟨bg, og + j * 2 + 1, none⟩ = some (.int .i64 (tb q)) := q1
     have hst2 : Lv.Sw Ms.flatten ((d.take (j + 1)).map toT) (now + tb q) (max most (now + tb q)) := hst
     have hb1 : -1 ≤ tb q ∧ tb q ≤ 1 := by unfold tb; split <;> omega
     obtain ⟨g1, g2⟩ := hb1
     obtain ⟨z, hz⟩ : ∃ z, tb q = z := ⟨_, rfl⟩
     rw [hz] at hst2 q1 g1 g2
     obtain ⟨wc, hwc, kc, bc⟩ := box2 wr 113 (.int .i64 p) (.int .i64 z)
     have y1 : wc.cell? ⟨wr.heap.size, 1, none⟩ = some (.int .i64 z) := bc.cell 1
     have yl := bc.lt
     have Hn := Lib.hid hst2
     have Hk := Lib.hid (hkeep.out.trans kc)
     rw [hwc] at y1 yl
     have Hwc := Lib.hid hwc
     clear hsw hkeep hr hst hst2 e3 hz kc bc hwc
     go_wp2
     rw [← Hwc.out]
     go_roundw
     case rel => exact ⟨j + 1, now + z, max most (now + z), hinj, by go_num, rfl, rfl, Hn, by omega, by omega, by omega, by omega, Hk⟩
     case measure => simp [intOf]; omega
    ·have hjn : nt = j := by omega
     subst hjn
     have Hfin := Lib.hid (show (∀ m', Lv.RefM (ls.map (·.l)) m' → most = m') ∧ Keep w wr from ⟨fun m' hr => by
      have h1 := hsw.out
      rw [List.take_of_length_le (by rw [Hd.out]; exact Nat.le_refl _)] at h1
      exact Lv.most_eq Hall.out HT.out Hpw.out h1 hr, Hk3.out.trans hkeep.out⟩)
     clear hsw hkeep
     go_wp2
     go_ret
     exact ⟨_, rfl, Hfin.out.1, Hfin.out.2⟩
end Go.Proofs.YtjpmiejgcnfiiaaGreat
namespace Go.Proofs.YtjpmiejgcnfiiaaGreat
open Go Go.RowKit

set_option maxRecDepth 100000
/-- The example, laid. -/
theorem alive_form (w : World) (s : Nat) (hs : w.heap.size = s) : ∃ W, ((((((((((w.alloc (.cells #[.int .i64 1] 74)).alloc (.cells #[.int .i64 1, .int .i64 1, .int .i64 1] 74)).alloc (.cells #[.int .i64 0] 3)).alloc (.cells #[.int .i64 1] 3)).alloc (.cells #[.int .i64 0, .int .i64 1] 3)).alloc (.cells #[.int .i64 2] 3)).alloc (.cells #[.int .i64 0, .int .i64 0, .int .i64 0, .int .i64 0, .int .u64 0, .slice none 0 0, .slice (some ⟨s + 1 + 1, 0, none⟩) 1 1, .int .i64 1, .int .i64 0, .int .i64 0, .int .i64 0, .int .u64 5, .slice none 0 0, .slice (some ⟨s + 1 + 1 + 1, 0, none⟩) 1 1, .int .i64 4, .int .i64 106, .int .i64 0, .int .i64 0, .int .u64 0, .slice (some ⟨s + 1 + 1 + 1 + 1, 0, none⟩) 2 2, .slice (some ⟨s + 1 + 1 + 1 + 1 + 1, 0, none⟩) 1 1] 63)).alloc (.cells #[.int .i64 2] 3)).alloc (.cells #[.slice none 0 0, .slice (some ⟨s + 1 + 1 + 1 + 1 + 1 + 1, 0, none⟩) 3 3, .int .i64 3, .int .i64 0, .slice (some ⟨s + 1 + 1 + 1 + 1 + 1 + 1 + 1, 0, none⟩) 1 1, .slice none 0 0, .int .i64 0] 57)).alloc (.cells #[.slice (some ⟨s, 0, none⟩) 1 1, .slice (some ⟨s, 0, none⟩) 1 1, .slice (some ⟨s + 1, 0, none⟩) 3 3, .slice (some ⟨s + 1 + 1 + 1 + 1 + 1 + 1 + 1 + 1, 0, none⟩) 1 1] 39)) = W ∧ Keep w W ∧ W.heap.size = s + 1 + 1 + 1 + 1 + 1 + 1 + 1 + 1 + 1 + 1 ∧
  Blk W (s) 74 [.int .i64 1] ∧
  Blk W (s + 1) 74 [.int .i64 1, .int .i64 1, .int .i64 1] ∧
  Blk W (s + 1 + 1) 3 [.int .i64 0] ∧
  Blk W (s + 1 + 1 + 1) 3 [.int .i64 1] ∧
  Blk W (s + 1 + 1 + 1 + 1) 3 [.int .i64 0, .int .i64 1] ∧
  Blk W (s + 1 + 1 + 1 + 1 + 1) 3 [.int .i64 2] ∧
  Blk W (s + 1 + 1 + 1 + 1 + 1 + 1) 63 [.int .i64 0, .int .i64 0, .int .i64 0, .int .i64 0, .int .u64 0, .slice none 0 0, .slice (some ⟨s + 1 + 1, 0, none⟩) 1 1, .int .i64 1, .int .i64 0, .int .i64 0, .int .i64 0, .int .u64 5, .slice none 0 0, .slice (some ⟨s + 1 + 1 + 1, 0, none⟩) 1 1, .int .i64 4, .int .i64 106, .int .i64 0, .int .i64 0, .int .u64 0, .slice (some ⟨s + 1 + 1 + 1 + 1, 0, none⟩) 2 2, .slice (some ⟨s + 1 + 1 + 1 + 1 + 1, 0, none⟩) 1 1] ∧
  Blk W (s + 1 + 1 + 1 + 1 + 1 + 1 + 1) 3 [.int .i64 2] ∧
  Blk W (s + 1 + 1 + 1 + 1 + 1 + 1 + 1 + 1) 57 [.slice none 0 0, .slice (some ⟨s + 1 + 1 + 1 + 1 + 1 + 1, 0, none⟩) 3 3, .int .i64 3, .int .i64 0, .slice (some ⟨s + 1 + 1 + 1 + 1 + 1 + 1 + 1, 0, none⟩) 1 1, .slice none 0 0, .int .i64 0] ∧
  Blk W (s + 1 + 1 + 1 + 1 + 1 + 1 + 1 + 1 + 1) 39 [.slice (some ⟨s, 0, none⟩) 1 1, .slice (some ⟨s, 0, none⟩) 1 1, .slice (some ⟨s + 1, 0, none⟩) 3 3, .slice (some ⟨s + 1 + 1 + 1 + 1 + 1 + 1 + 1 + 1, 0, none⟩) 1 1] := by
 obtain ⟨w1, h1⟩ : ∃ w1, w.alloc (.cells #[.int .i64 1] 74) = w1 := ⟨_, rfl⟩
 have k1 : Keep w w1 := by rw [← h1]; exact (Keep.refl _).alloc _
 have b1 : Blk w1 (s) 74 [.int .i64 1] := by have := Blk.new w 74 [.int .i64 1]; rw [hs] at this; rw [← h1]; exact this
 have s1 : w1.heap.size = s + 1 := by rw [← h1]; simp [hs]
 obtain ⟨w2, h2⟩ : ∃ w2, w1.alloc (.cells #[.int .i64 1, .int .i64 1, .int .i64 1] 74) = w2 := ⟨_, rfl⟩
 have k2 : Keep w1 w2 := by rw [← h2]; exact (Keep.refl _).alloc _
 have b2 : Blk w2 (s + 1) 74 [.int .i64 1, .int .i64 1, .int .i64 1] := by have := Blk.new w1 74 [.int .i64 1, .int .i64 1, .int .i64 1]; rw [s1] at this; rw [← h2]; exact this
 have s2 : w2.heap.size = s + 1 + 1 := by rw [← h2]; simp [s1]
 obtain ⟨w3, h3⟩ : ∃ w3, w2.alloc (.cells #[.int .i64 0] 3) = w3 := ⟨_, rfl⟩
 have k3 : Keep w2 w3 := by rw [← h3]; exact (Keep.refl _).alloc _
 have b3 : Blk w3 (s + 1 + 1) 3 [.int .i64 0] := by have := Blk.new w2 3 [.int .i64 0]; rw [s2] at this; rw [← h3]; exact this
 have s3 : w3.heap.size = s + 1 + 1 + 1 := by rw [← h3]; simp [s2]
 obtain ⟨w4, h4⟩ : ∃ w4, w3.alloc (.cells #[.int .i64 1] 3) = w4 := ⟨_, rfl⟩
 have k4 : Keep w3 w4 := by rw [← h4]; exact (Keep.refl _).alloc _
 have b4 : Blk w4 (s + 1 + 1 + 1) 3 [.int .i64 1] := by have := Blk.new w3 3 [.int .i64 1]; rw [s3] at this; rw [← h4]; exact this
 have s4 : w4.heap.size = s + 1 + 1 + 1 + 1 := by rw [← h4]; simp [s3]
 obtain ⟨w5, h5⟩ : ∃ w5, w4.alloc (.cells #[.int .i64 0, .int .i64 1] 3) = w5 := ⟨_, rfl⟩
 have k5 : Keep w4 w5 := by rw [← h5]; exact (Keep.refl _).alloc _
 have b5 : Blk w5 (s + 1 + 1 + 1 + 1) 3 [.int .i64 0, .int .i64 1] := by have := Blk.new w4 3 [.int .i64 0, .int .i64 1]; rw [s4] at this; rw [← h5]; exact this
 have s5 : w5.heap.size = s + 1 + 1 + 1 + 1 + 1 := by rw [← h5]; simp [s4]
 obtain ⟨w6, h6⟩ : ∃ w6, w5.alloc (.cells #[.int .i64 2] 3) = w6 := ⟨_, rfl⟩
 have k6 : Keep w5 w6 := by rw [← h6]; exact (Keep.refl _).alloc _
 have b6 : Blk w6 (s + 1 + 1 + 1 + 1 + 1) 3 [.int .i64 2] := by have := Blk.new w5 3 [.int .i64 2]; rw [s5] at this; rw [← h6]; exact this
 have s6 : w6.heap.size = s + 1 + 1 + 1 + 1 + 1 + 1 := by rw [← h6]; simp [s5]
 obtain ⟨w7, h7⟩ : ∃ w7, w6.alloc (.cells #[.int .i64 0, .int .i64 0, .int .i64 0, .int .i64 0, .int .u64 0, .slice none 0 0, .slice (some ⟨s + 1 + 1, 0, none⟩) 1 1, .int .i64 1, .int .i64 0, .int .i64 0, .int .i64 0, .int .u64 5, .slice none 0 0, .slice (some ⟨s + 1 + 1 + 1, 0, none⟩) 1 1, .int .i64 4, .int .i64 106, .int .i64 0, .int .i64 0, .int .u64 0, .slice (some ⟨s + 1 + 1 + 1 + 1, 0, none⟩) 2 2, .slice (some ⟨s + 1 + 1 + 1 + 1 + 1, 0, none⟩) 1 1] 63) = w7 := ⟨_, rfl⟩
 have k7 : Keep w6 w7 := by rw [← h7]; exact (Keep.refl _).alloc _
 have b7 : Blk w7 (s + 1 + 1 + 1 + 1 + 1 + 1) 63 [.int .i64 0, .int .i64 0, .int .i64 0, .int .i64 0, .int .u64 0, .slice none 0 0, .slice (some ⟨s + 1 + 1, 0, none⟩) 1 1, .int .i64 1, .int .i64 0, .int .i64 0, .int .i64 0, .int .u64 5, .slice none 0 0, .slice (some ⟨s + 1 + 1 + 1, 0, none⟩) 1 1, .int .i64 4, .int .i64 106, .int .i64 0, .int .i64 0, .int .u64 0, .slice (some ⟨s + 1 + 1 + 1 + 1, 0, none⟩) 2 2, .slice (some ⟨s + 1 + 1 + 1 + 1 + 1, 0, none⟩) 1 1] := by have := Blk.new w6 63 [.int .i64 0, .int .i64 0, .int .i64 0, .int .i64 0, .int .u64 0, .slice none 0 0, .slice (some ⟨s + 1 + 1, 0, none⟩) 1 1, .int .i64 1, .int .i64 0, .int .i64 0, .int .i64 0, .int .u64 5, .slice none 0 0, .slice (some ⟨s + 1 + 1 + 1, 0, none⟩) 1 1, .int .i64 4, .int .i64 106, .int .i64 0, .int .i64 0, .int .u64 0, .slice (some ⟨s + 1 + 1 + 1 + 1, 0, none⟩) 2 2, .slice (some ⟨s + 1 + 1 + 1 + 1 + 1, 0, none⟩) 1 1]; rw [s6] at this; rw [← h7]; exact this
 have s7 : w7.heap.size = s + 1 + 1 + 1 + 1 + 1 + 1 + 1 := by rw [← h7]; simp [s6]
 obtain ⟨w8, h8⟩ : ∃ w8, w7.alloc (.cells #[.int .i64 2] 3) = w8 := ⟨_, rfl⟩
 have k8 : Keep w7 w8 := by rw [← h8]; exact (Keep.refl _).alloc _
 have b8 : Blk w8 (s + 1 + 1 + 1 + 1 + 1 + 1 + 1) 3 [.int .i64 2] := by have := Blk.new w7 3 [.int .i64 2]; rw [s7] at this; rw [← h8]; exact this
 have s8 : w8.heap.size = s + 1 + 1 + 1 + 1 + 1 + 1 + 1 + 1 := by rw [← h8]; simp [s7]
 obtain ⟨w9, h9⟩ : ∃ w9, w8.alloc (.cells #[.slice none 0 0, .slice (some ⟨s + 1 + 1 + 1 + 1 + 1 + 1, 0, none⟩) 3 3, .int .i64 3, .int .i64 0, .slice (some ⟨s + 1 + 1 + 1 + 1 + 1 + 1 + 1, 0, none⟩) 1 1, .slice none 0 0, .int .i64 0] 57) = w9 := ⟨_, rfl⟩
 have k9 : Keep w8 w9 := by rw [← h9]; exact (Keep.refl _).alloc _
 have b9 : Blk w9 (s + 1 + 1 + 1 + 1 + 1 + 1 + 1 + 1) 57 [.slice none 0 0, .slice (some ⟨s + 1 + 1 + 1 + 1 + 1 + 1, 0, none⟩) 3 3, .int .i64 3, .int .i64 0, .slice (some ⟨s + 1 + 1 + 1 + 1 + 1 + 1 + 1, 0, none⟩) 1 1, .slice none 0 0, .int .i64 0] := by have := Blk.new w8 57 [.slice none 0 0, .slice (some ⟨s + 1 + 1 + 1 + 1 + 1 + 1, 0, none⟩) 3 3, .int .i64 3, .int .i64 0, .slice (some ⟨s + 1 + 1 + 1 + 1 + 1 + 1 + 1, 0, none⟩) 1 1, .slice none 0 0, .int .i64 0]; rw [s8] at this; rw [← h9]; exact this
 have s9 : w9.heap.size = s + 1 + 1 + 1 + 1 + 1 + 1 + 1 + 1 + 1 := by rw [← h9]; simp [s8]
 obtain ⟨w10, h10⟩ : ∃ w10, w9.alloc (.cells #[.slice (some ⟨s, 0, none⟩) 1 1, .slice (some ⟨s, 0, none⟩) 1 1, .slice (some ⟨s + 1, 0, none⟩) 3 3, .slice (some ⟨s + 1 + 1 + 1 + 1 + 1 + 1 + 1 + 1, 0, none⟩) 1 1] 39) = w10 := ⟨_, rfl⟩
 have k10 : Keep w9 w10 := by rw [← h10]; exact (Keep.refl _).alloc _
 have b10 : Blk w10 (s + 1 + 1 + 1 + 1 + 1 + 1 + 1 + 1 + 1) 39 [.slice (some ⟨s, 0, none⟩) 1 1, .slice (some ⟨s, 0, none⟩) 1 1, .slice (some ⟨s + 1, 0, none⟩) 3 3, .slice (some ⟨s + 1 + 1 + 1 + 1 + 1 + 1 + 1 + 1, 0, none⟩) 1 1] := by have := Blk.new w9 39 [.slice (some ⟨s, 0, none⟩) 1 1, .slice (some ⟨s, 0, none⟩) 1 1, .slice (some ⟨s + 1, 0, none⟩) 3 3, .slice (some ⟨s + 1 + 1 + 1 + 1 + 1 + 1 + 1 + 1, 0, none⟩) 1 1]; rw [s9] at this; rw [← h10]; exact this
 have s10 : w10.heap.size = s + 1 + 1 + 1 + 1 + 1 + 1 + 1 + 1 + 1 + 1 := by rw [← h10]; simp [s9]
 have q10 := Keep.refl w10
 have q9 := k10.trans q10
 have q8 := k9.trans q9
 have q7 := k8.trans q8
 have q6 := k7.trans q7
 have q5 := k6.trans q6
 have q4 := k5.trans q5
 have q3 := k4.trans q4
 have q2 := k3.trans q3
 have q1 := k2.trans q2
 exact ⟨w10, by rw [h1, h2, h3, h4, h5, h6, h7, h8, h9, h10], k1.trans q1, s10, b1.keep q1, b2.keep q2, b3.keep q3, b4.keep q4, b5.keep q5, b6.keep q6, b7.keep q7, b8.keep q8, b9.keep q9, b10.keep q10⟩
/-- What is wanted of it, laid. -/
theorem alive_want (w : World) (s : Nat) (hs : w.heap.size = s) : ∃ W, ((((w.alloc (.cells #[.int .i64 3, .int .i64 7] 70)).alloc (.cells #[.int .i64 5, .int .i64 7] 70)).alloc (.cells #[.int .i64 7, .int .i64 9] 70)).alloc (.cells #[.int .i64 0, .slice (some ⟨s, 0, none⟩) 1 1, .int .i64 1, .slice (some ⟨s + 1, 0, none⟩) 1 1, .int .i64 2, .slice (some ⟨s + 1 + 1, 0, none⟩) 1 1] 68)) = W ∧ Keep w W ∧ W.heap.size = s + 1 + 1 + 1 + 1 ∧
  Blk W (s) 70 [.int .i64 3, .int .i64 7] ∧
  Blk W (s + 1) 70 [.int .i64 5, .int .i64 7] ∧
  Blk W (s + 1 + 1) 70 [.int .i64 7, .int .i64 9] ∧
  Blk W (s + 1 + 1 + 1) 68 [.int .i64 0, .slice (some ⟨s, 0, none⟩) 1 1, .int .i64 1, .slice (some ⟨s + 1, 0, none⟩) 1 1, .int .i64 2, .slice (some ⟨s + 1 + 1, 0, none⟩) 1 1] := by
 obtain ⟨w1, h1⟩ : ∃ w1, w.alloc (.cells #[.int .i64 3, .int .i64 7] 70) = w1 := ⟨_, rfl⟩
 have k1 : Keep w w1 := by rw [← h1]; exact (Keep.refl _).alloc _
 have b1 : Blk w1 (s) 70 [.int .i64 3, .int .i64 7] := by have := Blk.new w 70 [.int .i64 3, .int .i64 7]; rw [hs] at this; rw [← h1]; exact this
 have s1 : w1.heap.size = s + 1 := by rw [← h1]; simp [hs]
 obtain ⟨w2, h2⟩ : ∃ w2, w1.alloc (.cells #[.int .i64 5, .int .i64 7] 70) = w2 := ⟨_, rfl⟩
 have k2 : Keep w1 w2 := by rw [← h2]; exact (Keep.refl _).alloc _
 have b2 : Blk w2 (s + 1) 70 [.int .i64 5, .int .i64 7] := by have := Blk.new w1 70 [.int .i64 5, .int .i64 7]; rw [s1] at this; rw [← h2]; exact this
 have s2 : w2.heap.size = s + 1 + 1 := by rw [← h2]; simp [s1]
 obtain ⟨w3, h3⟩ : ∃ w3, w2.alloc (.cells #[.int .i64 7, .int .i64 9] 70) = w3 := ⟨_, rfl⟩
 have k3 : Keep w2 w3 := by rw [← h3]; exact (Keep.refl _).alloc _
 have b3 : Blk w3 (s + 1 + 1) 70 [.int .i64 7, .int .i64 9] := by have := Blk.new w2 70 [.int .i64 7, .int .i64 9]; rw [s2] at this; rw [← h3]; exact this
 have s3 : w3.heap.size = s + 1 + 1 + 1 := by rw [← h3]; simp [s2]
 obtain ⟨w4, h4⟩ : ∃ w4, w3.alloc (.cells #[.int .i64 0, .slice (some ⟨s, 0, none⟩) 1 1, .int .i64 1, .slice (some ⟨s + 1, 0, none⟩) 1 1, .int .i64 2, .slice (some ⟨s + 1 + 1, 0, none⟩) 1 1] 68) = w4 := ⟨_, rfl⟩
 have k4 : Keep w3 w4 := by rw [← h4]; exact (Keep.refl _).alloc _
 have b4 : Blk w4 (s + 1 + 1 + 1) 68 [.int .i64 0, .slice (some ⟨s, 0, none⟩) 1 1, .int .i64 1, .slice (some ⟨s + 1, 0, none⟩) 1 1, .int .i64 2, .slice (some ⟨s + 1 + 1, 0, none⟩) 1 1] := by have := Blk.new w3 68 [.int .i64 0, .slice (some ⟨s, 0, none⟩) 1 1, .int .i64 1, .slice (some ⟨s + 1, 0, none⟩) 1 1, .int .i64 2, .slice (some ⟨s + 1 + 1, 0, none⟩) 1 1]; rw [s3] at this; rw [← h4]; exact this
 have s4 : w4.heap.size = s + 1 + 1 + 1 + 1 := by rw [← h4]; simp [s3]
 have q4 := Keep.refl w4
 have q3 := k4.trans q4
 have q2 := k3.trans q3
 have q1 := k2.trans q2
 exact ⟨w4, by rw [h1, h2, h3, h4], k1.trans q1, s4, b1.keep q1, b2.keep q2, b3.keep q3, b4.keep q4⟩

def alB (s : Nat) : BkD := ⟨⟨none, [], 0⟩, ⟨some ⟨s + 1 + 1 + 1 + 1 + 1 + 1, 0, none⟩, [⟨0, 0, 0, 0, 0, ⟨none, [], 0⟩, ⟨some ⟨s + 1 + 1, 0, none⟩, [0], 1⟩⟩, ⟨1, 0, 0, 0, 5, ⟨none, [], 0⟩, ⟨some ⟨s + 1 + 1 + 1, 0, none⟩, [1], 1⟩⟩, ⟨4, 106, 0, 0, 0, ⟨some ⟨s + 1 + 1 + 1 + 1, 0, none⟩, [0, 1], 2⟩, ⟨some ⟨s + 1 + 1 + 1 + 1 + 1, 0, none⟩, [2], 1⟩⟩], 3⟩, 3, 0, ⟨some ⟨s + 1 + 1 + 1 + 1 + 1 + 1 + 1, 0, none⟩, [2], 1⟩, ⟨none, [], 0⟩, 0⟩
def alF (s : Nat) : SsD := ⟨⟨some ⟨s, 0, none⟩, [1], 1⟩, ⟨some ⟨s, 0, none⟩, [1], 1⟩, ⟨some ⟨s + 1, 0, none⟩, [1, 1, 1], 3⟩, ⟨some ⟨s + 1 + 1 + 1 + 1 + 1 + 1 + 1 + 1, 0, none⟩, [alB s], 1⟩⟩
def alW (s : Nat) : List LvD := [⟨0, some ⟨s, 0, none⟩, [(3, 7)], 1⟩, ⟨1, some ⟨s + 1, 0, none⟩, [(5, 7)], 1⟩, ⟨2, some ⟨s + 1 + 1, 0, none⟩, [(7, 9)], 1⟩]
theorem num_of {W : World} {b : Nat} {t : TypeId} {l : List Int} {c : Nat} (h : Blk W b t (l.map (Value.int .i64))) (hl : l.length ≤ 1000) : NumOk W ⟨some ⟨b, 0, none⟩, l, c⟩ :=
 ⟨by show Seg W _ (l.flatMap intC); rw [flat_int]; exact Seg.of_blk h, by show l.length ≤ maxLen; unfold maxLen; omega⟩
theorem num_nil (W : World) : NumOk W ⟨none, [], 0⟩ := ⟨Seg.nil _ _, by show 0 ≤ maxLen; omega⟩
theorem alF_ok {W : World} {s : Nat}
  (h1 : Blk W (s + 1) 74 [.int .i64 1, .int .i64 1, .int .i64 1])
  (h2 : Blk W (s + 1 + 1) 3 [.int .i64 0])
  (h3 : Blk W (s + 1 + 1 + 1) 3 [.int .i64 1])
  (h4 : Blk W (s + 1 + 1 + 1 + 1) 3 [.int .i64 0, .int .i64 1])
  (h5 : Blk W (s + 1 + 1 + 1 + 1 + 1) 3 [.int .i64 2])
  (h6 : Blk W (s + 1 + 1 + 1 + 1 + 1 + 1) 63 [.int .i64 0, .int .i64 0, .int .i64 0, .int .i64 0, .int .u64 0, .slice none 0 0, .slice (some ⟨s + 1 + 1, 0, none⟩) 1 1, .int .i64 1, .int .i64 0, .int .i64 0, .int .i64 0, .int .u64 5, .slice none 0 0, .slice (some ⟨s + 1 + 1 + 1, 0, none⟩) 1 1, .int .i64 4, .int .i64 106, .int .i64 0, .int .i64 0, .int .u64 0, .slice (some ⟨s + 1 + 1 + 1 + 1, 0, none⟩) 2 2, .slice (some ⟨s + 1 + 1 + 1 + 1 + 1, 0, none⟩) 1 1])
  (h7 : Blk W (s + 1 + 1 + 1 + 1 + 1 + 1 + 1) 3 [.int .i64 2])
  (h8 : Blk W (s + 1 + 1 + 1 + 1 + 1 + 1 + 1 + 1) 57 [.slice none 0 0, .slice (some ⟨s + 1 + 1 + 1 + 1 + 1 + 1, 0, none⟩) 3 3, .int .i64 3, .int .i64 0, .slice (some ⟨s + 1 + 1 + 1 + 1 + 1 + 1 + 1, 0, none⟩) 1 1, .slice none 0 0, .int .i64 0])
  : SsOk W (alF s) := by
 have hi0 : InOk W ⟨0, 0, 0, 0, 0, ⟨none, [], 0⟩, ⟨some ⟨s + 1 + 1, 0, none⟩, [0], 1⟩⟩ := ⟨num_nil W, num_of (l := [0]) h2 (by simp)⟩
 have hi1 : InOk W ⟨1, 0, 0, 0, 5, ⟨none, [], 0⟩, ⟨some ⟨s + 1 + 1 + 1, 0, none⟩, [1], 1⟩⟩ := ⟨num_nil W, num_of (l := [1]) h3 (by simp)⟩
 have hi2 : InOk W ⟨4, 106, 0, 0, 0, ⟨some ⟨s + 1 + 1 + 1 + 1, 0, none⟩, [0, 1], 2⟩, ⟨some ⟨s + 1 + 1 + 1 + 1 + 1, 0, none⟩, [2], 1⟩⟩ := ⟨num_of (l := [0, 1]) h4 (by simp), num_of (l := [2]) h5 (by simp)⟩
 have hb : BkOk W (alB s) := ⟨num_nil W, Seg.of_blk h6, fun i hi => by
  simp only [alB, List.mem_cons, List.not_mem_nil, or_false] at hi
  rcases hi with rfl | rfl | rfl
  ·exact hi0
  ·exact hi1
  ·exact hi2, by show 3 ≤ maxLen; unfold maxLen; omega, num_of (l := [2]) h7 (by simp), Seg.nil _ _, fun e he => by simp [alB] at he, by show 0 ≤ maxLen; omega⟩
 exact ⟨num_of (l := [1, 1, 1]) h1 (by simp), Seg.of_blk h8, fun b hb' => by
  simp only [alF, List.mem_cons, List.not_mem_nil, or_false] at hb'
  subst hb'; exact hb, by show 1 ≤ maxLen; unfold maxLen; omega⟩
theorem alF_small (s : Nat) : Small (alF s) where
 blocks := by simp [alF]
 ins := fun y hy => by simp [alF] at hy; subst hy; simp [alB]
 params := fun y hy => by simp [alF] at hy; subst hy; simp [alB]
 vals := by simp [alF]
 ends := fun y hy => by simp [alF] at hy; subst hy; simp [alB, BkD.endsI]
 edges := fun y hy => by simp [alF] at hy; subst hy; simp [alB]
theorem alF_ord (s : Nat) : (alF s).ord = [0] := by
 refine OrdOk.unique (alF s).ordOk ?_
 unfold OrdOk
 rw [if_neg (by simp [alF])]
 exact ⟨_, [], Lv.Vis.nil _ _, rfl⟩
theorem alF_in (s : Nat) : ∀ b y, b ∈ (alF s).ord → (alF s).blocks.l[b]? = some y → y.In (alF s).vals.l.length := fun b y hb hy => by
 rw [alF_ord] at hb
 obtain rfl := List.mem_singleton.1 hb
 have hy : some (alB s) = some y := hy
 cases hy
 refine ⟨fun v hv => by simp [alB] at hv, fun i hi v hv => ?_, fun i hi v hv => ?_, fun v hv => ?_⟩
 ·simp only [alB, List.mem_cons, List.not_mem_nil, or_false] at hi
  rcases hi with rfl | rfl | rfl <;> simp at hv <;> simp [alF] <;> omega
 ·simp only [alB, List.mem_cons, List.not_mem_nil, or_false] at hi
  rcases hi with rfl | rfl | rfl <;> simp at hv <;> simp [alF] <;> omega
 ·simp [alB, BkD.endsI] at hv; simp [alF]; omega
theorem alF_atk (s : Nat) : (alF s).atk 0 = 0 ∧ (alF s).atk 1 = 10 := by
 have h0 : (alF s).atk 0 = 0 := by unfold SsD.atk; simp [Lv.endAt]
 refine ⟨h0, ?_⟩
 rw [SsD.atk_succ (k := 0) (b := 0) (y := alB s) (by rw [alF_ord]; rfl) rfl, h0]
 rfl
theorem alF_of {s : Nat} {S : List (List Bool)} (hs : Shut (alF s) S) : ofR (alF s) S (alF s).vals.l.length = [(0, [(3, 7)]), (1, [(5, 7)]), (2, [(7, 9)])] := by
 have h0 : S.getD 0 [] = [false, false, false] := by
  rw [← hs 0 (by rw [alF_ord]; simp)]; rfl
 have hl : (alF s).ord.length = 1 := by rw [alF_ord]; rfl
 have hM : ofM (alF s) 1 = m2 (alB s) (fun _ => false) 3 := by
  rw [ofM_succ (k := 0) (b := 0) (y := alB s) (by rw [alF_ord]; rfl) rfl]; rfl
 have hL : ofL (alF s) S 1 = [[(3, 7)], [(5, 7)], [(7, 9)]] := by
  rw [ofL_succ (k := 0) (b := 0) (y := alB s) (by rw [alF_ord]; rfl) rfl, (alF_atk s).1, h0]
  rfl
 unfold ofR
 rw [hl, hM, hL]
 rfl
theorem alW_ok {W : World} {s : Nat}
  (h0 : Blk W (s) 70 [.int .i64 3, .int .i64 7])
  (h1 : Blk W (s + 1) 70 [.int .i64 5, .int .i64 7])
  (h2 : Blk W (s + 1 + 1) 70 [.int .i64 7, .int .i64 9])
  (h3 : Blk W (s + 1 + 1 + 1) 68 [.int .i64 0, .slice (some ⟨s, 0, none⟩) 1 1, .int .i64 1, .slice (some ⟨s + 1, 0, none⟩) 1 1, .int .i64 2, .slice (some ⟨s + 1 + 1, 0, none⟩) 1 1])
  : Lives W (some ⟨s + 1 + 1 + 1, 0, none⟩) (alW s) :=
 ⟨Seg.of_blk h3, fun x hx => by
  simp only [alW, List.mem_cons, List.not_mem_nil, or_false] at hx
  rcases hx with rfl | rfl | rfl
  ·exact ⟨Seg.of_blk h0, by show 1 ≤ maxLen; unfold maxLen; omega⟩
  ·exact ⟨Seg.of_blk h1, by show 1 ≤ maxLen; unfold maxLen; omega⟩
  ·exact ⟨Seg.of_blk h2, by show 1 ≤ maxLen; unfold maxLen; omega⟩⟩
theorem al_refM : Lv.RefM [[(3, 7)], [(5, 7)], [(7, 9)]] 2 where
 zero := by omega
 up := fun x hx r hr => by
  simp only [List.mem_cons, List.not_mem_nil, or_false] at hx
  rcases hx with rfl | rfl | rfl <;> (simp only [List.mem_cons, List.not_mem_nil, or_false] at hr; subst hr; decide)
 at_ := .inr ⟨[(5, 7)], by simp, (5, 7), by simp, by decide⟩

set_option maxHeartbeats 4000000 in
theorem alive_calls (w : World) : Calls Tryz.prog 7 #[] w fun e w' => e = .returned (.bool true) ∧ Keep w w' := by
 obtain ⟨W, hW, hkW, hsz, b0, b1, b2, b3, b4, b5, b6, b7, b8, b9⟩ := alive_form w w.heap.size rfl
 obtain ⟨s, hs⟩ : ∃ s, w.heap.size = s := ⟨_, rfl⟩
 have HW := Lib.hid hW
 rw [hs] at hsz b0 b1 b2 b3 b4 b5 b6 b7 b8 b9
 have hok := alF_ok b1 b2 b3 b4 b5 b6 b7 b8
 have c0 : W.cell? ⟨s + 1 + 1 + 1 + 1 + 1 + 1 + 1 + 1 + 1, 0, none⟩ = some (.slice (some ⟨s, 0, none⟩) 1 1) := b9.cell 0
 have c1 : W.cell? ⟨s + 1 + 1 + 1 + 1 + 1 + 1 + 1 + 1 + 1, 1, none⟩ = some (.slice (some ⟨s, 0, none⟩) 1 1) := b9.cell 1
 have c2 : W.cell? ⟨s + 1 + 1 + 1 + 1 + 1 + 1 + 1 + 1 + 1, 2, none⟩ = some (.slice (some ⟨s + 1, 0, none⟩) 3 3) := b9.cell 2
 have c3 : W.cell? ⟨s + 1 + 1 + 1 + 1 + 1 + 1 + 1 + 1 + 1, 3, none⟩ = some (.slice (some ⟨s + 1 + 1 + 1 + 1 + 1 + 1 + 1 + 1, 0, none⟩) 1 1) := b9.cell 3
 have lt := b9.lt
 have hof := of_calls (alF s) W hok (alF_small s) (alF_in s)
 have Hof := Lib.hid hof
 have Hok := Lib.hid hok
 have HkW := Lib.hid hkW
 have Hs := Lib.hid hs
 clear hW hof hok hkW hsz b0 b1 b2 b3 b4 b5 b6 b7 b8 b9 hs
 go_enter Tryz.func7, Tryz.ntmps7
 go_wp2_with fail
 rw [HW.out, Hs.out]
 clear HW
 refine Hof.out.mono ?_
 clear Hof
 rintro e w1 ⟨A, ls, c, S, rfl, hlv, hmp, hfi, hsh, hk1⟩
 rw [alF_of hsh] at hmp
 have hll : ls.length = 3 := by have := congrArg List.length hmp; simpa using this
 obtain ⟨W2, hW2, hk2, hsz2, e0, e1, e2, e3⟩ := alive_want w1 w1.heap.size rfl
 have hwant := alW_ok e0 e1 e2 e3
 have hok2 := (Hok.out.keep hk1).keep hk2
 have hlv2 := hlv.keep hk2
 have hpl := places_calls (alF s) W2 hok2 (alF_small s)
 rw [alF_ord, show ([0] : List Nat).length = 1 from rfl, (alF_atk s).2] at hpl
 have Hsame := Lib.hid (show ∀ W3, Keep W2 W3 → Calls Tryz.prog 15 #[.slice A 3 c, .slice (some ⟨w1.heap.size + 1 + 1 + 1, 0, none⟩) 3 3] W3 fun e w' => e = .returned (.bool true) ∧ Keep W3 w' from fun W3 hk3 => by
  have := same_calls ls (alW w1.heap.size) A (some ⟨w1.heap.size + 1 + 1 + 1, 0, none⟩) c 3 W3 (hlv2.keep hk3) (hwant.keep hk3) (by rw [hmp]; rfl) (by omega)
  rw [hll] at this; exact this)
 have Hmost := Lib.hid (show ∀ W3, Keep W2 W3 → Calls Tryz.prog 22 #[.slice A 3 c] W3 fun e w' => e = .returned (.int .i64 2) ∧ Keep W3 w' from fun W3 hk3 => by
  have hm := most_calls ls A c W3 (hlv2.keep hk3) (by omega) (fun x hx => by
   have : (x.val, x.l) ∈ ls.map (fun z => (z.val, z.l)) := List.mem_map.2 ⟨x, hx, rfl⟩
   rw [hmp] at this
   simp at this
   rcases this with ⟨_, e⟩ | ⟨_, e⟩ | ⟨_, e⟩ <;> rw [e] <;> simp)
  rw [hll] at hm
  refine hm.mono ?_
  rintro e w' ⟨m, rfl, hm2, hk⟩
  have hL : ls.map (·.l) = [[(3, 7)], [(5, 7)], [(7, 9)]] := by
   have := congrArg (List.map Prod.snd) hmp
   rw [List.map_map] at this
   exact this
  rw [hL] at hm2
  rw [hm2 2 al_refM]
  exact ⟨rfl, hk⟩)
 have Hord := Lib.hid (show ∀ W3, Keep W2 W3 → Calls Tryz.prog 11 #[.agg (ssC (alF s)).toArray] W3 fun e w' => ∃ A c, e = .returned (.slice A 1 c) ∧ Seg w' A (([0] : List Int).flatMap intC) ∧ Keep W3 w' from fun W3 hk3 => by
  have := order_gives (alF s) W3 (hok2.keep hk3) (alF_small s).edges (by simp [alF])
  rw [alF_ord] at this
  refine this.mono ?_
  rintro e w' ⟨A, c, rfl, ho, hk⟩
  exact ⟨A, c, rfl, ho.segN.2, hk⟩)
 have Hpl := Lib.hid hpl
 have HW2 := Lib.hid hW2
 have Hk2 := Lib.hid (hk1.trans hk2)
 have d0 := Hk2.out.cell c0
 have d1 := Hk2.out.cell c1
 have d2 := Hk2.out.cell c2
 have d3 := Hk2.out.cell c3
 have lt2 := Nat.lt_of_lt_of_le lt Hk2.out.size
 rw [hll]
 clear hlv hmp hfi hsh hll hW2 hk2 hsz2 e0 e1 e2 e3 hwant hok2 hlv2 hpl
 have dk0 := hk1.cell c0
 have dk1 := hk1.cell c1
 have dk2 := hk1.cell c2
 have dk3 := hk1.cell c3
 have lt1 := Nat.lt_of_lt_of_le lt hk1.size
 have lta : s + 1 + 1 + 1 + 1 + 1 + 1 + 1 + 1 + 1 < w1.heap.size + 1 := by omega
 have ltb : s + 1 + 1 + 1 + 1 + 1 + 1 + 1 + 1 + 1 < w1.heap.size + 1 + 1 := by omega
 have ltc : s + 1 + 1 + 1 + 1 + 1 + 1 + 1 + 1 + 1 < w1.heap.size + 1 + 1 + 1 := by omega
 clear c0 c1 c2 c3 lt hk1
 go_wp2_with fail
 rw [HW2.out]
 refine Hpl.out.mono ?_
 clear Hpl HW2 dk0 dk1 dk2 dk3 lt1 lta ltb ltc
 rintro e w3 ⟨rfl, hk3⟩
 have Hk3 := Lib.hid hk3
 have f0 := hk3.cell d0
 have f1 := hk3.cell d1
 have f2 := hk3.cell d2
 have f3 := hk3.cell d3
 have lt3 := Nat.lt_of_lt_of_le lt2 hk3.size
 clear hk3 d0 d1 d2 d3 lt2
 go_wp2_with fail
 refine (Hsame.out _ Hk3.out).mono ?_
 clear Hsame
 rintro e w4 ⟨rfl, hk4⟩
 replace f0 := hk4.cell f0
 replace f1 := hk4.cell f1
 replace f2 := hk4.cell f2
 replace f3 := hk4.cell f3
 replace lt3 := Nat.lt_of_lt_of_le lt3 hk4.size
 have Hk4 := Lib.hid (Hk3.out.trans hk4)
 clear hk4 Hk3
 go_wp2_with fail
 refine (Hmost.out _ Hk4.out).mono ?_
 clear Hmost
 rintro e w5 ⟨rfl, hk5⟩
 replace f0 := hk5.cell f0
 replace f1 := hk5.cell f1
 replace f2 := hk5.cell f2
 replace f3 := hk5.cell f3
 replace lt3 := Nat.lt_of_lt_of_le lt3 hk5.size
 have Hk5 := Lib.hid (Hk4.out.trans hk5)
 clear hk5 Hk4
 go_wp2_with fail
 refine (Hord.out _ Hk5.out).mono ?_
 clear Hord
 rintro e w6 ⟨A6, c6, rfl, hs6, hk6⟩
 have Hints := Lib.hid (refInts_drew [0] A6 (some ⟨w6.heap.size, 0, none⟩) c6 1 (w6.alloc (.cells #[.int .i64 0] 3)) (hs6.keep ((Keep.refl _).alloc _)) (Seg.of_blk (Blk.new w6 3 [.int .i64 0])) (by simp))
 have Hk6 := Lib.hid (Hk5.out.trans hk6)
 clear hk6 hs6 Hk5 f0 f1 f2 f3 lt3
 go_wp2_with fail
 refine Hints.out.mono ?_
 clear Hints
 rintro e w7 ⟨rfl, nq, rfl⟩
 have Hfin := Lib.hid (show Keep w ((w6.alloc (.cells #[.int .i64 0] 3)).drewN nq) from ((HkW.out.trans (Hk2.out.trans Hk6.out)).alloc _).drewN nq)
 go_wp2
 go_ret
 exact ⟨rfl, Hfin.out⟩
end Go.Proofs.YtjpmiejgcnfiiaaGreat
