/-
  The program's Most.
-/
import Derived.Test.YtjpmiejgcnfiiaaLMerged
import Derived.Test.YtjpmiejgcnfiiaaGrows
set_option linter.unusedVariables false
set_option linter.unusedSimpArgs false
namespace Go.Proofs.Ytjpmiejgcnfiiaa
open Go Go.RowKit Go.Shelf Go.Lib Go.Sort Go.Proofs

/-- A turn: its position, and whether it begins. -/
abbrev TB := Int × Bool
def tb (b : Bool) : Int := if b then 1 else -1
def tC (t : TB) : List Value := [.int .i64 t.1, .int .i64 (tb t.2)]
def toT (t : TB) : Lv.Turn := (t.1, tb t.2)
def cfT (x y : TB) : Int := if x.1 = y.1 then tb x.2 - tb y.2 else if x.1 < y.1 then -1 else 1
theorem lt_turn (x y : TB) : ltOf cfT x y = (decide (x.1 < y.1) || (decide (x.1 = y.1) && (!x.2 && y.2))) := by
  unfold ltOf cfT
  by_cases h1 : x.1 = y.1
  · obtain ⟨x1, x2⟩ := x
    obtain ⟨y1, y2⟩ := y
    simp only at h1
    subst h1
    cases x2 <;> cases y2 <;> simp [tb]
  · by_cases h2 : x.1 < y.1 <;> simp [h1, h2]
theorem swo_turn : SWO (ltOf cfT) where
  irrefl x := by rw [lt_turn]; simp
  trans x y z h1 h2 := by
    rw [lt_turn] at *
    obtain ⟨x1, x2⟩ := x; obtain ⟨y1, y2⟩ := y; obtain ⟨z1, z2⟩ := z
    cases x2 <;> cases y2 <;> cases z2 <;> simp at * <;> omega
  ntrans x y z h1 h2 := by
    rw [lt_turn] at *
    obtain ⟨x1, x2⟩ := x; obtain ⟨y1, y2⟩ := y; obtain ⟨z1, z2⟩ := z
    cases x2 <;> cases y2 <;> cases z2 <;> simp at * <;> omega
theorem tle_of {x y : TB} (h : ltOf cfT y x = false) : Lv.TLe (toT x) (toT y) := by
  rw [lt_turn] at h
  obtain ⟨x1, x2⟩ := x; obtain ⟨y1, y2⟩ := y
  unfold Lv.TLe toT
  cases x2 <;> cases y2 <;> simp [tb] at * <;> omega
theorem elTn : ElT Try.prog 55 58 2 16 tC where
  slice := Try.underlying55
  info := info_of (z := .agg #[.int .i64 0, .int .i64 0]) (by kernel_rfl) rfl
  pos := by omega
  len := fun _ => rfl
  one := fun x u hu => by simp [tC] at hu; rcases hu with rfl | rfl <;> rfl

set_option maxHeartbeats 1000000 in
theorem turnCmp_calls (x y : TB) (W : World) : Calls Try.prog 15 #[.agg (tC x).toArray, .agg (tC y).toArray] W fun e w' => e = .returned (.int .i64 (cfT x y)) ∧ ∃ q os', w' = grow (W.drewN q) os' := by
  obtain ⟨x1, x2⟩ := x
  obtain ⟨y1, y2⟩ := y
  unfold cfT
  show Calls Try.prog _ #[.agg #[.int .i64 x1, .int .i64 (tb x2)], .agg #[.int .i64 y1, .int .i64 (tb y2)]] W fun e w' => e = .returned (.int .i64 (if x1 = y1 then tb x2 - tb y2 else if x1 < y1 then -1 else 1)) ∧ _
  have hE : ∃ q os', (W.alloc (.cells #[.int .i64 x1, .int .i64 (tb x2)] 58)).alloc (.cells #[.int .i64 y1, .int .i64 (tb y2)] 58) = grow (W.drewN q) os' := ⟨0, _, by rw [alloc_eq_grow, alloc_eq_grow, grow_grow]; rfl⟩
  have HE := Lib.hid hE
  clear hE
  by_cases h1 : x1 = y1
  · subst h1
    have hne : (x1 != x1) = false := by simp
    rw [if_pos rfl]
    have hb1 : -1 ≤ tb x2 ∧ tb x2 ≤ 1 := by unfold tb; split <;> omega
    have hb2 : -1 ≤ tb y2 ∧ tb y2 ≤ 1 := by unfold tb; split <;> omega
    generalize tb x2 = p at *
    generalize tb y2 = q at *
    obtain ⟨g1, g2⟩ := hb1
    obtain ⟨g3, g4⟩ := hb2
    go_enter Try.func15, Try.ntmps15
    go_wp2
    go_ret
    exact ⟨by first | rfl | (congr 2; exact IntWalk.i64_in _ (by omega)), HE.out⟩
  · have hne : (x1 != y1) = true := by simpa using h1
    rw [if_neg h1]
    by_cases h2 : x1 < y1
    · rw [if_pos h2]
      clear h1
      go_enter Try.func15, Try.ntmps15
      go_wp2
      go_ret
      exact ⟨rfl, HE.out⟩
    · rw [if_neg h2]
      clear h1
      go_enter Try.func15, Try.ntmps15
      go_wp2
      go_ret
      exact ⟨rfl, HE.out⟩

theorem sortTurn_calls (l : List TB) (A : Option Addr) (c base : Nat) (w : World) (h : Own tC 2 58 w base (.slice A l.length c) l) (hn : l.length ≤ 100000000) :
    Calls Try.prog 14 #[.slice A l.length c, .func (.func 15) #[] #[]] w fun e w' => ∃ d : List TB, e = .returned (.tuple #[]) ∧ d.Perm l ∧ (d.map toT).Pairwise Lv.TLe ∧
      Own tC 2 58 w' base (.slice A l.length c) d ∧ Ext (fun k => base ≤ k) w w' := by
  rcases h.2 with ⟨hv, h0⟩ | ⟨g, cap, cur, hv, hb, hh, _⟩
  · have hl : l = [] := List.eq_nil_of_length_eq_zero h0
    subst hl
    have hcon := AnyF.slices_SortFunc_none sortTurn A c (.func (.func 15) #[] #[]) w
    change Calls Try.prog 14 _ _ _ at hcon
    refine hcon.mono ?_
    rintro e w' ⟨rfl, rfl⟩
    exact ⟨[], rfl, List.Perm.nil, .nil, h, Ext.refl _ _⟩
  · injection hv with h1 h2 h3
    subst h1
    have hcon := AnyQ.slices_SortFunc sortTurn 2 Try.isAgg58 Try.sizeOf58 tC (fun _ => rfl) (fun x v hv => by simp [tC] at hv; rcases hv with rfl | rfl <;> rfl) cfT swo_turn 15 #[] g 0 c l.toArray w
      (enters_of Try.func15 (by kernel_rfl) rfl) (fun _ _ _ _ x y => turnCmp_calls x y _) (Own.holdsK (f := tC) (s := 2) (fun _ => rfl) h) ((Array.getElem?_eq_some_iff.1 hh).1) (by simp; omega)
    change Calls Try.prog 14 _ _ _ at hcon
    rw [show l.toArray.size = l.length by simp] at hcon
    refine hcon.mono ?_
    rintro e w' ⟨rfl, d, m, os, hp, hs, rfl⟩
    obtain ⟨e1, e2, e3⟩ := sorted_list (l := l) (by simpa using hp) (by simpa using hs)
    obtain ⟨o1, o2⟩ := Own.sorted (f := tC) (s := 2) (fun _ => rfl) h d m os e1
    exact ⟨d.toList, rfl, e2, List.pairwise_map.2 (e3.imp fun {a b} hab => tle_of hab), o1, o2.mono fun i _ e => by rw [e]; exact hb⟩

theorem turnPush {w : World} {base : Nat} {v : Value} {xs : List TB} (h : Own tC 2 58 w base v xs) (x y : Int) (hn : xs.length ≤ 100000000) (hb : base ≤ w.heap.size) :
    ∃ A c, v = .slice A xs.length c ∧ ∃ A' c' w2, (Builtin.append_ #[55, 55] 55 #[.slice A xs.length c, .slice (some ⟨w.heap.size, 0, none⟩) 2 2]).run Try.prog (w.alloc (.cells #[.int .i64 x, .int .i64 1, .int .i64 y, .int .i64 (-1)] 58)) = .ok (.slice A' (xs.length + 2) c') w2 ∧
      Own tC 2 58 w2 base (.slice A' (xs.length + 2) c') (xs ++ [(x, true), (y, false)]) ∧ Ext (fun k => base ≤ k) w w2 ∧ ∀ (base' : Nat) (v' : Value) (ys : List Lv.Rng), Own rngC 2 50 w base' v' ys → Own rngC 2 50 w2 base' v' ys := by
  obtain ⟨A, c, hform, _⟩ := h.form
  have hka : Keep w (w.alloc (.cells #[.int .i64 x, .int .i64 1, .int .i64 y, .int .i64 (-1)] 58)) := (Keep.refl _).alloc _
  have hseg : Seg (w.alloc (.cells #[.int .i64 x, .int .i64 1, .int .i64 y, .int .i64 (-1)] 58)) (some ⟨w.heap.size, 0, none⟩) (([(x, true), (y, false)] : List TB).flatMap tC) := Seg.of_blk (Blk.new w 58 [.int .i64 x, .int .i64 1, .int .i64 y, .int .i64 (-1)])
  obtain ⟨v', w2, hrun, hown, hg, _⟩ := append_run (ys := [(x, true), (y, false)]) elTn (h.keep hka) hseg 2 55 (by simp [maxLen]; omega) (by simp; omega) (Nat.le_trans hb hka.size)
  obtain ⟨A', c', rfl, _⟩ := hown.form
  have e : (xs ++ [((x, true) : TB), (y, false)]).length = xs.length + 2 := by simp
  rw [e] at hrun hown
  have hlow : ∀ k, v.ownBlock = some k → base ≤ k := fun k hk => (h.lt k hk).1
  subst hform
  refine ⟨A, c, rfl, A', c', w2, hrun, hown, (hka.ext _).grown hg (fun k hk _ => hlow k hk), fun base' v' ys ho => (ho.keep hka).grown hg ?_⟩
  cases hv : v'.ownBlock with
  | none => exact .inl rfl
  | some q => exact .inr fun e => (ho.kinds h (by decide) hv) e.symm

/-- The turns of a list of ranges. -/
def trB (M : List Lv.Rng) : List TB := M.flatMap fun r => [(r.1, true), (r.2, false)]
theorem trB_len (M : List Lv.Rng) : (trB M).length = 2 * M.length := by
  unfold trB
  induction M with
  | nil => rfl
  | cons r M ih => rw [List.flatMap_cons, List.length_append, ih]; simp; omega
theorem trB_snoc {M : List Lv.Rng} {k : Nat} {r : Lv.Rng} (h : M[k]? = some r) : trB (M.take (k + 1)) = trB (M.take k) ++ [(r.1, true), (r.2, false)] := by
  unfold trB
  rw [List.take_add_one, h, List.flatMap_append]; rfl
theorem trB_append (M N : List Lv.Rng) : trB (M ++ N) = trB M ++ trB N := by unfold trB; rw [List.flatMap_append]
theorem trB_toT (M : List Lv.Rng) : (trB M).map toT = Lv.turnsOf M := by
  unfold trB Lv.turnsOf
  induction M with
  | nil => rfl
  | cons r M ih => rw [List.flatMap_cons, List.flatMap_cons, List.map_append, ih]; rfl
theorem turn_get {w wr : World} {A : Option Addr} {l : List TB} {k : Nat} {r : TB} (h : Seg w A (l.flatMap tC)) (hkeep : Keep w wr) (hr : l[k]? = some r) :
    ∃ b off, A = some ⟨b, off, none⟩ ∧ b < w.heap.size ∧ wr.cell? ⟨b, off + k * 2, none⟩ = some (.int .i64 r.1) ∧ wr.cell? ⟨b, off + k * 2 + 1, none⟩ = some (.int .i64 (tb r.2)) := by
  obtain ⟨hk, e⟩ := List.getElem?_eq_some_iff.1 hr
  obtain ⟨b, off, e', hb, hc⟩ := h.elem 2 (fun _ => rfl) (by omega) hk
  rw [e] at hc
  exact ⟨b, off, e', hb, by have := hkeep.cell (hc 0 _ rfl); simpa using this, by have := hkeep.cell (hc 1 _ rfl); rwa [← Nat.add_assoc] at this⟩
/-- Where the gathering stands. -/
structure Gat (ls : List LvD) (k : Nat) (tl : List TB) : Prop where
  ex : ∃ Ms, Lv.MgAll ((ls.take k).map (·.l)) Ms ∧ tl = trB Ms.flatten ∧ Ms.flatten.length ≤ k * 1000
theorem Gat.zero (ls : List LvD) : Gat ls 0 [] := ⟨[], .nil, rfl, by simp⟩
theorem Gat.len {ls : List LvD} {k : Nat} {tl : List TB} (h : Gat ls k tl) : tl.length ≤ k * 2000 := by
  obtain ⟨Ms, _, rfl, h3⟩ := h.ex
  rw [trB_len]; omega
theorem Gat.step {ls : List LvD} {k : Nat} {tl : List TB} (h : Gat ls k tl) {x : LvD} {out : List Lv.Rng} (hx : ls[k]? = some x) (hm : Lv.Mg x.l out) (hl : out.length ≤ 1000) : Gat ls (k + 1) (tl ++ trB out) := by
  obtain ⟨Ms, h1, rfl, h3⟩ := h.ex
  refine ⟨Ms ++ [out], ?_, by simp [trB_append], by simp at h3 ⊢; omega⟩
  rw [List.take_add_one, hx, List.map_append]
  exact h1.snoc hm

set_option maxHeartbeats 4000000 in
set_option maxRecDepth 100000 in
theorem most_calls (ls : List LvD) (A : Option Addr) (c : Nat) (w : World) (h : Lives w A ls) (hn : ls.length ≤ 1000) (hb : ∀ x ∈ ls, x.l.length ≤ 1000) :
    Calls Try.prog 6 #[.slice A ls.length c] w fun e w' => ∃ m, e = .returned (.int .i64 m) ∧ (∀ m', Lv.RefM (ls.map (·.l)) m' → m = m') ∧ Keep w w' := by
  have Hl := Lib.hid h
  have Hb := Lib.hid hb
  obtain ⟨n, hnl⟩ : ∃ n, ls.length = n := ⟨_, rfl⟩
  have Hnl := Lib.hid hnl
  rw [hnl] at hn ⊢
  clear h hb hnl
  go_enter Try.func6, Try.ntmps6
  go_wp2_with fail
  go_loopw [3, 5, 7, 14] (fun vt _ _ vi wr => ∃ (k : Nat) (tl : List TB), k ≤ n ∧ vi = .int .i64 k ∧ Hid (Own tC 2 58 wr w.heap.size vt tl) ∧ Hid (Gat ls k tl) ∧ Hid (Keep w wr)) (fun _ _ _ vi _ => n - (intOf vi).toNat)
  case atStart => exact ⟨0, [], Nat.zero_le _, rfl, Lib.hid (Own.nil _ _ _ _ _), Lib.hid (Gat.zero ls), Lib.hid (Keep.refl _)⟩
  case round =>
    obtain ⟨k, tl, hk, rfl, hown, hgat, hkeep⟩ := hrel
    by_cases hin : k < n
    · obtain ⟨x, hx⟩ := get_some (l := ls) (k := k) (by rw [Hnl.out]; exact hin)
      have hxm := List.mem_of_getElem? hx
      obtain ⟨bE, oE, hE, hbE, q0, q1, hok⟩ := Hl.out.get hkeep.out hx
      subst hE
      have lE := Nat.lt_of_lt_of_le hbE hkeep.out.size
      have k1 : (k : Int) < (n : Int) := by omega
      have k0 : (0 : Int) ≤ (k : Int) := by omega
      obtain ⟨wb, hwb, kb, bb⟩ := box2 wr 28 (.int .i64 x.val) (.slice x.a x.l.length x.c)
      have y1 : wb.cell? ⟨wr.heap.size, 1, none⟩ = some (.slice x.a x.l.length x.c) := bb.cell 1
      have yl := bb.lt
      have hmg := merged_calls x.l x.a x.c wb (hok.seg.keep kb) (by have := Hb.out x hxm; omega)
      have Hmg := Lib.hid hmg
      have Hxl := Lib.hid (Hb.out x hxm)
      have Hx := Lib.hid hx
      have Hkb := Lib.hid (hkeep.out.trans kb)
      have Hob := Lib.hid (hown.out.keep kb)
      rw [hwb] at y1 yl
      have Hwb := Lib.hid hwb
      clear hmg hxm hx hown hkeep hok kb bb hwb
      go_wp2_with fail
      rw [← Hwb.out]
      refine Hmg.out.mono ?_
      clear Hmg y1 yl
      rintro e w1 ⟨v1, out, rfl, ho1, hmg1, hlen1, hk1⟩
      obtain ⟨A1, c1, rfl, _, hc1⟩ := ho1.form
      have Hob1 := Lib.hid (Hob.out.keep hk1)
      have Hk1 := Lib.hid (Hkb.out.trans hk1)
      have Hout := Lib.hid (show Own rngC 2 50 w1 wb.heap.size (.slice A1 out.length c1) out from ho1)
      have hol : out.length ≤ 1000 := Nat.le_trans hlen1 Hxl.out
      have Hgat2 := Lib.hid (hgat.out.step Hx.out hmg1 hol)
      have htl := hgat.out.len
      obtain ⟨mo, hmo⟩ : ∃ mo, out.length = mo := ⟨_, rfl⟩
      have Hmo := Lib.hid hmo
      rw [hmo] at hol Hout ⊢
      clear ho1 hmg1 hlen1 hk1 hmo hgat Hob Hkb hc1
      go_wp2_with fail
      go_loopw [3, 7, 22] (fun vt _ vj wr => ∃ j : Nat, j ≤ mo ∧ vj = .int .i64 j ∧ Hid (Own tC 2 58 wr w.heap.size vt (tl ++ trB (out.take j))) ∧ Hid (Keep w wr) ∧ Hid (Own rngC 2 50 wr wb.heap.size (.slice A1 mo c1) out)) (fun _ _ vj _ => mo - (intOf vj).toNat)
      case atStart => exact ⟨0, Nat.zero_le _, rfl, Lib.hid (by simpa [trB] using Hob1.out), Lib.hid Hk1.out, Hout⟩
      case round =>
        clear Hout
        obtain ⟨j, hj, rfl, hown, hkeep, hout⟩ := hrel
        by_cases hinj : j < mo
        · obtain ⟨r, hr⟩ := get_some (l := out) (k := j) (by rw [Hmo.out]; exact hinj)
          obtain ⟨b2, o2, h2, hb2, q0, q1⟩ := rng_get hout.out.segN.2 (Keep.refl _) hr
          subst h2
          have j1 : (j : Int) < (mo : Int) := by omega
          have j0 : (0 : Int) ≤ (j : Int) := by omega
          have hsn := trB_snoc hr
          obtain ⟨p, q⟩ := r
          replace q0 : wr.cell? ⟨b2, o2 + j * 2, none⟩ = some (.int .i64 p) := q0
          replace q1 : wr.cell? ⟨b2, o2 + j * 2 + 1, none⟩ = some (.int .i64 q) := q1
          obtain ⟨wc, hwc, kc, bc⟩ := box2 wr 50 (.int .i64 p) (.int .i64 q)
          have y0 : wc.cell? ⟨wr.heap.size, 0, none⟩ = some (.int .i64 p) := bc.cell 0
          have y1 : wc.cell? ⟨wr.heap.size, 1, none⟩ = some (.int .i64 q) := bc.cell 1
          have yl := bc.lt
          have hzc : wc.heap.size = wr.heap.size + 1 := by rw [hwc]; simp
          have hlen : (tl ++ trB (out.take j)).length ≤ 10000000 := by
            rw [List.length_append, trB_len, List.length_take]; omega
          obtain ⟨At, ct, rfl, A', c', w7, hrun, ho7, hE7, hR7⟩ := turnPush (hown.out.keep kc) p q (by omega) (Nat.le_trans hkeep.out.size kc.size)
          have Hn := Lib.hid (show Own tC 2 58 w7 w.heap.size (.slice A' ((tl ++ trB (out.take j)).length + 2) c') (tl ++ trB (out.take (j + 1))) ∧ Keep w w7 ∧ Own rngC 2 50 w7 wb.heap.size (.slice (some ⟨b2, o2, none⟩) mo c1) out from
            ⟨by rw [hsn, ← List.append_assoc]; exact ho7, Keep.of_ext (hkeep.out.trans kc) hE7 (fun k hk e => by omega), hR7 _ _ _ (hout.out.keep kc)⟩)
          rw [hzc] at hrun
          rw [hwc] at hrun y0 y1 yl
          obtain ⟨lt, hlt⟩ : ∃ lt, (tl ++ trB (out.take j)).length = lt := ⟨_, rfl⟩
          rw [hlt] at hrun Hn ⊢
          clear hown hkeep hout ho7 hE7 hR7 hsn hr kc bc hzc hwc hlen hlt
          go_wp2_with (at_builtin; refine wpList_append_eq rfl _ _ _ rfl _ _ rfl rfl _ _ hrun ?_; clear hrun)
          go_roundw
          case rel => exact ⟨j + 1, hinj, by go_num, Lib.hid Hn.out.1, Lib.hid Hn.out.2.1, Lib.hid Hn.out.2.2⟩
          case measure => simp [intOf]; omega
        · have hjm : mo = j := by omega
          subst hjm
          have Hn := Lib.hid (show Own tC 2 58 wr w.heap.size u3 (tl ++ trB out) from by
            have := hown.out
            rwa [List.take_of_length_le (by rw [Hmo.out]; exact Nat.le_refl _)] at this)
          clear hown hout
          go_wp2
          go_roundw
          case rel => exact ⟨k + 1, tl ++ trB out, hin, by go_num, Hn, Hgat2, hkeep⟩
          case measure => simp [intOf]; omega
    · have hkn : n = k := by omega
      subst hkn
      obtain ⟨A3, c3, hform, _, hc3⟩ := hown.out.form
      subst hform
      have htl := hgat.out.len
      have hso := sortTurn_calls tl A3 c3 w.heap.size wr hown.out (by omega)
      obtain ⟨nt, hnt⟩ : ∃ nt, tl.length = nt := ⟨_, rfl⟩
      have Hnt := Lib.hid hnt
      rw [hnt] at hso htl ⊢
      have Hso := Lib.hid hso
      clear hso hown hnt hc3
      go_wp2_with fail
      refine Hso.out.mono ?_
      clear Hso
      rintro e w3 ⟨d, rfl, hp, hpw, hown3, hE3⟩
      have Hk3 := Lib.hid (show Keep w w3 from Keep.of_ext hkeep.out hE3 (fun k hk e => by omega))
      have Hseg := Lib.hid hown3.segN.2
      have Hd := Lib.hid (show d.length = nt by rw [← Hnt.out]; exact hp.length_eq)
      obtain ⟨Ms, hall, htb, _⟩ := hgat.out.ex
      have HT := Lib.hid (show (d.map toT).Perm (Lv.turnsOf Ms.flatten) from by rw [← trB_toT, ← htb]; exact hp.map _)
      have Hall := Lib.hid (show Lv.MgAll (ls.map (·.l)) Ms from by rwa [List.take_of_length_le (by rw [Hnl.out]; exact Nat.le_refl _)] at hall)
      have Hpw := Lib.hid hpw
      clear hp hpw hown3 hE3 hall htb hgat hkeep
      go_wp2_with fail
      go_loopw [8, 9, 11, 41] (fun vm vn _ vj wr => ∃ (j : Nat) (now most : Int), j ≤ nt ∧ vj = .int .i64 j ∧ vm = .int .i64 most ∧ vn = .int .i64 now ∧ Hid (Lv.Sw Ms.flatten ((d.take j).map toT) now most) ∧ -(j : Int) ≤ now ∧ now ≤ (j : Int) ∧ 0 ≤ most ∧ most ≤ (j : Int) ∧ Hid (Keep w3 wr)) (fun _ _ _ vj _ => nt - (intOf vj).toNat)
      case atStart => exact ⟨0, 0, 0, Nat.zero_le _, rfl, rfl, rfl, Lib.hid (Lv.Sw.nil _), by omega, by omega, by omega, by omega, Lib.hid (Keep.refl _)⟩
      case round =>
        obtain ⟨j, now, most, hj, rfl, rfl, rfl, hsw, b1, b2, b3, b4, hkeep⟩ := hrel
        by_cases hinj : j < nt
        · obtain ⟨r, hr⟩ := get_some (l := d) (k := j) (by rw [Hd.out]; exact hinj)
          obtain ⟨bg, og, hg, hbg, q0, q1⟩ := turn_get Hseg.out hkeep.out hr
          subst hg
          have lg := Nat.lt_of_lt_of_le hbg hkeep.out.size
          have j1 : (j : Int) < (nt : Int) := by omega
          have j0 : (0 : Int) ≤ (j : Int) := by omega
          have hst := hsw.out.step Hall.out.pos HT.out Hpw.out (t := toT r) (post := (d.drop (j + 1)).map toT) (by
            conv => lhs; rw [← List.take_append_drop j d]
            rw [List.map_append, List.drop_eq_getElem_cons (by rw [Hd.out]; exact hinj)]
            have e : d[j]'(by rw [Hd.out]; exact hinj) = r := Option.some.inj ((List.getElem?_eq_getElem _).symm.trans hr)
            rw [e]; rfl)
          have e3 : (d.take j).map toT ++ [toT r] = (d.take (j + 1)).map toT := by rw [List.take_add_one, hr, List.map_append]; rfl
          rw [e3] at hst
          obtain ⟨p, q⟩ := r
          replace q0 : wr.cell? ⟨bg, og + j * 2, none⟩ = some (.int .i64 p) := q0
          replace q1 : wr.cell? ⟨bg, og + j * 2 + 1, none⟩ = some (.int .i64 (tb q)) := q1
          have hst2 : Lv.Sw Ms.flatten ((d.take (j + 1)).map toT) (now + tb q) (max most (now + tb q)) := hst
          have hb1 : -1 ≤ tb q ∧ tb q ≤ 1 := by unfold tb; split <;> omega
          obtain ⟨g1, g2⟩ := hb1
          obtain ⟨z, hz⟩ : ∃ z, tb q = z := ⟨_, rfl⟩
          rw [hz] at hst2 q1 g1 g2
          obtain ⟨wc, hwc, kc, bc⟩ := box2 wr 58 (.int .i64 p) (.int .i64 z)
          have y1 : wc.cell? ⟨wr.heap.size, 1, none⟩ = some (.int .i64 z) := bc.cell 1
          have yl := bc.lt
          have Hn := Lib.hid hst2
          have Hk := Lib.hid (hkeep.out.trans kc)
          rw [hwc] at y1 yl
          have Hwc := Lib.hid hwc
          clear hsw hkeep hr hst hst2 e3 hz kc bc hwc
          go_wp2
          rw [← Hwc.out]
          go_roundw
          case rel => exact ⟨j + 1, now + z, max most (now + z), hinj, by go_num, rfl, rfl, Hn, by omega, by omega, by omega, by omega, Hk⟩
          case measure => simp [intOf]; omega
        · have hjn : nt = j := by omega
          subst hjn
          have Hfin := Lib.hid (show (∀ m', Lv.RefM (ls.map (·.l)) m' → most = m') ∧ Keep w wr from ⟨fun m' hr => by
            have h1 := hsw.out
            rw [List.take_of_length_le (by rw [Hd.out]; exact Nat.le_refl _)] at h1
            exact Lv.most_eq Hall.out HT.out Hpw.out h1 hr, Hk3.out.trans hkeep.out⟩)
          clear hsw hkeep
          go_wp2
          go_ret
          exact ⟨_, rfl, Hfin.out.1, Hfin.out.2⟩
end Go.Proofs.Ytjpmiejgcnfiiaa
