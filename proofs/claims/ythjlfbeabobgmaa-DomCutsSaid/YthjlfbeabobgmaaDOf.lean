/-
  Of.
-/
import Derived.Test.YthjlfbeabobgmaaDOrder
import Derived.Test.YthjlfbeabobgmaaDSpec
namespace Go.Proofs.Ythjlfbeabobgmaa
open Go Go.RowKit

/-- What Of leaves: the row of immediate dominators in a new array. -/
def OfPost (N : Dom.Gr) (n : Nat) (w : World) (e : Ending) (w' : World) : Prop := ∃ bi I, e = .returned (.slice (some ⟨bi, 0, none⟩) n n) ∧ w.heap.size ≤ bi ∧ IBlk w' bi 3 I ∧ Dom.Idom N I ∧ Keep w w'

/-- The two arrays behind the first loop's rounds. -/
structure TwoM (w1 wr : World) (br bi n k : Nat) (RL D : List Int) : Prop where
  rank : IBlk wr br 3 RL
  idom : IBlk wr bi 3 D
  lenR : RL.length = n
  lenD : D.length = n
  negD : ∀ i (h : i < D.length), i < k → D[i] = -1
  keep : Keep w1 wr
theorem TwoM.step {w1 wr : World} {br bi n k : Nat} {RL D : List Int} (h : TwoM w1 wr br bi n k RL D) (hne : br ≠ bi) (h1 : w1.heap.size ≤ br) (h2 : w1.heap.size ≤ bi) (hk : k < n) :
    TwoM w1 ((wr.setCell ⟨br, k, none⟩ (.int .i64 (-1))).setCell ⟨bi, k, none⟩ (.int .i64 (-1))) br bi n (k + 1) (RL.set k (-1)) (D.set k (-1)) where
  rank := (h.rank.put k (-1)).far (p := ⟨bi, k, none⟩) hne _
  idom := IBlk.put (h.idom.far (p := ⟨br, k, none⟩) (fun e => hne e.symm) _) k (-1)
  lenR := by simpa using h.lenR
  lenD := by simpa using h.lenD
  negD := fun i hi hk' => by
    rw [List.getElem_set]
    by_cases e : k = i
    · rw [if_pos e]
    · rw [if_neg e]; exact h.negD i (by simpa using hi) (by omega)
  keep := (h.keep.setCell (p := ⟨br, k, none⟩) h1 _).setCell (p := ⟨bi, k, none⟩) h2 _
theorem TwoM.full {w1 wr : World} {br bi n : Nat} {RL D : List Int} (h : TwoM w1 wr br bi n n RL D) : D = List.replicate n (-1) := by
  apply List.ext_getElem
  · simp [h.lenD]
  · intro i h1 h2
    rw [h.negD i h1 (by rw [← h.lenD]; exact h1)]; simp

/-- Ranks laid in so far. -/
def RankTo (out : List Nat) (k : Nat) (RL : List Int) : Prop := ∀ j (h : j < out.length), j < k → RL.getD out[j] 0 = (j : Int)
theorem RankTo.step {out : List Nat} {k : Nat} {RL : List Int} (h : RankTo out k RL) (hn : out.Nodup) (hk : k < out.length) (hl : out[k] < RL.length) : RankTo out (k + 1) (RL.set out[k] (k : Int)) := fun j hj hjk => by
  rw [List.getD_eq_getElem?_getD, List.getElem?_set]
  by_cases e : j = k
  · subst e; rw [if_pos rfl, if_pos hl]; rfl
  · rw [if_neg (fun e1 => e (by have h1 := hn.idxOf_getElem j hj; have h2 := hn.idxOf_getElem k hk; rw [← e1, h2] at h1; exact h1.symm)), ← List.getD_eq_getElem?_getD]
    exact h j hj (by omega)

/-- The predecessors laid in so far: those among the first k nodes, and by the first m edges of the next. -/
structure PredTo (N : Dom.Gr) (out : List Nat) (k m : Nat) (P : List (List Nat)) : Prop where
  len : P.length = N.length
  mem : ∀ x (h : x < P.length) p, p ∈ P[x] ↔ (∃ j, j < k ∧ out[j]? = some p ∧ Dom.Ed N p x) ∨ ∃ i, i < m ∧ out[k]? = some p ∧ (N.getD p [])[i]? = some (x : Int)
  bound : ∀ x (h : x < P.length), P[x].length ≤ k * 1000 + m
theorem PredTo.start (N : Dom.Gr) (out : List Nat) : PredTo N out 0 0 (List.replicate N.length []) := by
  refine ⟨by simp, fun x h p => ?_, fun x h => ?_⟩
  · simp
  · simp
theorem PredTo.skip {N : Dom.Gr} {out : List Nat} {k m q : Nat} {P : List (List Nat)} (h : PredTo N out k m P) (hq : out[k]? = some q) (ht : ∀ b : Nat, (N.getD q [])[m]? = some (b : Int) → ¬ b < N.length) : PredTo N out k (m + 1) P := by
  refine ⟨h.len, fun x hx p => (h.mem x hx p).trans ?_, fun x hx => by have := h.bound x hx; omega⟩
  refine ⟨fun h1 => h1.imp id (fun ⟨i, h2, h3⟩ => ⟨i, by omega, h3⟩), fun h1 => h1.imp id (fun ⟨i, h2, h3, h4⟩ => ?_)⟩
  by_cases e : i = m
  · subst e
    rw [hq] at h3
    cases h3
    exact absurd (by rw [← h.len]; exact hx) (ht x h4)
  · exact ⟨i, by omega, h3, h4⟩
theorem PredTo.add {N : Dom.Gr} {out : List Nat} {k m q b : Nat} {P : List (List Nat)} (h : PredTo N out k m P) (hq : out[k]? = some q) (ht : (N.getD q [])[m]? = some (b : Int)) (hb : b < P.length) : PredTo N out k (m + 1) (P.set b (P[b] ++ [q])) := by
  refine ⟨by simpa using h.len, fun x hx p => ?_, fun x hx => ?_⟩
  · have hx' : x < P.length := by simpa using hx
    rw [List.getElem_set]
    by_cases e : b = x
    · subst e
      rw [if_pos rfl, List.mem_append, List.mem_singleton, h.mem b hb p]
      constructor
      · rintro ((h1 | ⟨i, h2, h3⟩) | rfl)
        · exact .inl h1
        · exact .inr ⟨i, by omega, h3⟩
        · exact .inr ⟨m, by omega, hq, ht⟩
      · rintro (h1 | ⟨i, h2, h3, h4⟩)
        · exact .inl (.inl h1)
        · by_cases e : i = m
          · subst e; rw [hq] at h3; exact .inr (Option.some.inj h3).symm
          · exact .inl (.inr ⟨i, by omega, h3, h4⟩)
    · rw [if_neg e, h.mem x hx' p]
      refine ⟨fun h1 => h1.imp id (fun ⟨i, h2, h3⟩ => ⟨i, by omega, h3⟩), fun h1 => h1.imp id (fun ⟨i, h2, h3, h4⟩ => ?_)⟩
      by_cases e' : i = m
      · subst e'
        rw [hq] at h3
        cases h3
        rw [ht] at h4
        injection h4 with h4
        exact absurd (by omega) e
      · exact ⟨i, by omega, h3, h4⟩
  · have hx' : x < P.length := by simpa using hx
    rw [List.getElem_set]
    by_cases e : b = x
    · subst e
      rw [if_pos rfl, List.length_append, List.length_singleton]
      have := h.bound b hb; omega
    · rw [if_neg e]; have := h.bound x hx'; omega
theorem PredTo.next {N : Dom.Gr} {out : List Nat} {k m q : Nat} {P : List (List Nat)} (h : PredTo N out k m P) (hq : out[k]? = some q) (hqn : q < N.length) (hm : (N.getD q []).length ≤ m) (hm2 : m ≤ 1000) : PredTo N out (k + 1) 0 P := by
  refine ⟨h.len, fun x hx p => (h.mem x hx p).trans ?_, fun x hx => Nat.le_trans (h.bound x hx) (by rw [Nat.add_mul]; omega)⟩
  constructor
  · rintro (⟨j, h1, h2⟩ | ⟨i, h1, h2, h3⟩)
    · exact .inl ⟨j, by omega, h2⟩
    · rw [hq] at h2
      cases h2
      exact .inl ⟨k, by omega, hq, Dom.Ed.of_get hqn (by rw [← h.len]; exact hx) h3⟩
  · rintro (⟨j, h1, h2, h3⟩ | ⟨i, h1, _⟩)
    · by_cases e : j = k
      · subst e
        rw [hq] at h2
        cases h2
        obtain ⟨i, h4, h5⟩ := h3.get
        exact .inr ⟨i, by omega, hq, h5⟩
      · exact .inl ⟨j, by omega, h2, h3⟩
    · exact absurd h1 (Nat.not_lt_zero _)
theorem PredTo.full {N : Dom.Gr} {out : List Nat} {k : Nat} {P : List (List Nat)} (h : PredTo N out k 0 P) (hk : out.length ≤ k) {x : Nat} (hx : x < P.length) (p : Nat) : p ∈ P[x] ↔ p ∈ out ∧ Dom.Ed N p x := by
  rw [h.mem x hx p]
  constructor
  · rintro (⟨j, _, h2, h3⟩ | ⟨i, h1, _⟩)
    · exact ⟨List.mem_of_getElem? h2, h3⟩
    · exact absurd h1 (Nat.not_lt_zero _)
  · rintro ⟨h1, h2⟩
    obtain ⟨j, hj, e⟩ := List.getElem_of_mem h1
    exact .inl ⟨j, by omega, by rw [List.getElem?_eq_getElem hj, e], h2⟩

set_option maxHeartbeats 4000000 in
set_option maxRecDepth 100000 in
theorem of_calls (rs : List Row) (A : Option Addr) (c : Nat) (w : World) (hg : Graph w A rs) (hn : rs.length ≤ 900) (hl : ∀ x ∈ rs, x.l.length ≤ 1000) :
    Calls Try.prog 12 #[.slice A rs.length c] w (OfPost (gr rs) rs.length w) := by
  have Hord := Lib.hid (order_calls rs A c w hg (by omega))
  have Hlen := Lib.hid (gr_len rs)
  have Hg := Lib.hid hg
  have Hl := Lib.hid hl
  clear hg hl
  go_enter Try.func12, Try.ntmps12
  go_wp2_with fail
  refine Hord.out.mono ?_
  rintro e w1 ⟨v, out, rfl, hown, hpost, hk1⟩
  obtain ⟨Ao, co, hvo, _⟩ := hown.form
  rw [nats_len] at hvo
  subst hvo
  have hol : out.length ≤ rs.length := by have := hpost.len; rw [Hlen.out] at this; exact this
  obtain ⟨w2, hmake2, hblk2, hk2⟩ := make_ints w1 rs.length (by omega)
  obtain ⟨w3, hmake3, hblk3, hk3⟩ := make_ints w2 rs.length (by omega)
  have hb2 := hblk2.lt
  have hb3 := hblk3.lt
  have hk13 := hk2.trans hk3
  obtain ⟨br, hbr⟩ : ∃ br, br = w1.heap.size := ⟨_, rfl⟩
  obtain ⟨bi, hbi⟩ : ∃ bi, bi = w2.heap.size := ⟨_, rfl⟩
  have hge1 : w1.heap.size ≤ br := by omega
  have hge2 : w1.heap.size ≤ bi := by have := hk2.size; omega
  have hne : br ≠ bi := by omega
  have hne' : bi ≠ br := by omega
  have Htwo := Lib.hid (show TwoM w1 w3 br bi rs.length 0 (List.replicate rs.length 0) (List.replicate rs.length 0) from ⟨by rw [hbr]; exact hblk2.keep hk3, by rw [hbi]; exact hblk3, by simp, by simp, fun i _ h => absurd h (Nat.not_lt_zero _), hk13⟩)
  rw [← hbr] at hmake2
  rw [← hbi] at hmake3
  have Hown := Lib.hid hown
  have Hpost := Lib.hid hpost
  have Hk1 := Lib.hid hk1
  have Hge1 := Lib.hid hge1
  have Hge2 := Lib.hid hge2
  have Hsz := Lib.hid (show w.heap.size ≤ w1.heap.size from hk1.size)
  clear hown hpost hk1 hblk2 hblk3 hk2 hk3 hk13 hb2 hb3 hbr hbi
  go_wp2_with (first | (refine wpList_make_eq rfl _ _ _ rfl _ _ rfl rfl _ _ hmake2 ?_; clear hmake2) | (refine wpList_make_eq rfl _ _ _ rfl _ _ rfl rfl _ _ hmake3 ?_; clear hmake3))
  go_loopw [24] (fun i wr => ∃ k RL D, k ≤ rs.length ∧ i = .int .i64 ((k : Nat) : Int) ∧ TwoM w1 wr br bi rs.length k RL D) (fun i _ => rs.length - (intOf i).toNat)
  case atStart => exact ⟨0, _, _, Nat.zero_le _, rfl, Htwo.out⟩
  case round =>
    clear Htwo
    obtain ⟨k, RL, D, hk, rfl, htwo⟩ := hrel
    by_cases hlt : k < rs.length
    · have hkk : (k : Int) < (rs.length : Int) := by omega
      have hk0 : (0 : Int) ≤ (k : Int) := by omega
      have q1 := htwo.rank.get (k := k) (by rw [htwo.lenR]; exact hlt)
      have q2 := htwo.idom.get (k := k) (by rw [htwo.lenD]; exact hlt)
      have f1 := htwo.rank.frozen k
      have f2 := htwo.idom.frozen k
      have l1 := htwo.rank.lt
      have l2 := htwo.idom.lt
      have Hn := Lib.hid (htwo.step hne Hge1.out Hge2.out hlt)
      obtain ⟨xr, hxr⟩ : ∃ x, x = RL[k]'(by rw [htwo.lenR]; exact hlt) := ⟨_, rfl⟩
      obtain ⟨xd, hxd⟩ : ∃ x, x = D[k]'(by rw [htwo.lenD]; exact hlt) := ⟨_, rfl⟩
      rw [← hxr] at q1
      rw [← hxd] at q2
      clear htwo hxr hxd
      go_wp2_with fail
      go_roundw
      case rel => exact ⟨k + 1, _, _, hlt, by go_num, Hn.out⟩
      case measure => simp [intOf] <;> omega
    · have hkl : k = rs.length := by omega
      have Hz := Lib.hid (show ∃ RL, IBlk wr br 3 RL ∧ RL.length = rs.length ∧ IBlk wr bi 3 (List.replicate rs.length (-1)) ∧ Keep w1 wr from by
        subst hkl
        exact ⟨RL, htwo.rank, htwo.lenR, by rw [← htwo.full]; exact htwo.idom, htwo.keep⟩)
      clear htwo hkl
      obtain ⟨wo, rfl⟩ : ∃ wo : World, wo = wr := ⟨_, rfl⟩
      go_wp2_with fail
      go_loopw [36] (fun i wr => ∃ k RL, k ≤ out.length ∧ i = .int .i64 ((k : Nat) : Int) ∧ IBlk wr br 3 RL ∧ RL.length = rs.length ∧ RankTo out k RL ∧ IBlk wr bi 3 (List.replicate rs.length (-1)) ∧ Keep w1 wr) (fun i _ => out.length - (intOf i).toNat)
      case atStart =>
        obtain ⟨RL, h1, h2, h3, h4⟩ := Hz.out
        exact ⟨0, RL, Nat.zero_le _, rfl, h1, h2, fun j _ h => absurd h (Nat.not_lt_zero _), h3, h4⟩
      case round =>
        clear Hz
        obtain ⟨k2, RL, hk2, rfl, hrank, hlr, hto, hidom, hkeep⟩ := hrel
        by_cases hlt2 : k2 < out.length
        · have hkk2 : (k2 : Int) < (out.length : Int) := by omega
          have hk20 : (0 : Int) ≤ (k2 : Int) := by omega
          obtain ⟨bo, oo, rfl, _, qo⟩ := int_at Hown.out.segN.2 hkeep (k := k2) (by rw [nats_len]; exact hlt2)
          rw [nats_get] at qo
          have hxn : out[k2] < rs.length := by have := Hpost.out.lt out[k2] (List.getElem_mem hlt2); rw [Hlen.out] at this; exact this
          have Hto := Lib.hid (hto.step Hpost.out.nodup hlt2 (by rw [hlr]; exact hxn))
          obtain ⟨x, hxd⟩ : ∃ x, x = out[k2] := ⟨_, rfl⟩
          rw [← hxd] at qo hxn Hto
          have q1 := hrank.get (k := x) (by rw [hlr]; exact hxn)
          have f1 := hrank.frozen x
          have l1 := hrank.lt
          have x0 : (0 : Int) ≤ (x : Int) := by omega
          have x1 : (x : Int) < (rs.length : Int) := by omega
          have Hnew := Lib.hid (show IBlk (wr.setCell ⟨br, x, none⟩ (.int .i64 (k2 : Int))) br 3 (RL.set x (k2 : Int)) ∧ (RL.set x (k2 : Int)).length = rs.length ∧ IBlk (wr.setCell ⟨br, x, none⟩ (.int .i64 (k2 : Int))) bi 3 (List.replicate rs.length (-1)) ∧ Keep w1 (wr.setCell ⟨br, x, none⟩ (.int .i64 (k2 : Int))) from
            ⟨hrank.put x _, by simpa using hlr, hidom.far (p := ⟨br, x, none⟩) hne' _, hkeep.setCell (p := ⟨br, x, none⟩) Hge1.out _⟩)
          obtain ⟨xr, hxr⟩ : ∃ y, y = RL[x]'(by rw [hlr]; exact hxn) := ⟨_, rfl⟩
          rw [← hxr] at q1
          clear hrank hlr hto hidom hkeep hxr hxd
          go_wp2_with fail
          go_roundw
          case rel => exact ⟨k2 + 1, _, hlt2, by go_num, Hnew.out.1, Hnew.out.2.1, Hto.out, Hnew.out.2.2.1, Hnew.out.2.2.2⟩
          case measure => simp [intOf] <;> omega
        · have hkl2 : k2 = out.length := by omega
          subst hkl2
          obtain ⟨w5, hmake5, hblk5, hk5⟩ := make_rows wr rs.length (by omega)
          obtain ⟨bp, hbp⟩ : ∃ bp, bp = wr.heap.size := ⟨_, rfl⟩
          have hp1 : br < bp := by rw [hbp]; exact hrank.lt
          have hp2 : bi < bp := by rw [hbp]; exact hidom.lt
          have hb5 : bp < w5.heap.size := by rw [hbp]; exact hblk5.lt
          rw [← hbp] at hmake5 hblk5
          have Hz := Lib.hid (show IRows w5 bp w5.heap.size ((List.replicate rs.length []).map nats) ∧ PredTo (gr rs) out 0 0 (List.replicate rs.length []) ∧ IBlk w5 br 3 RL ∧ IBlk w5 bi 3 (List.replicate rs.length (-1)) ∧ Keep w1 w5 from
            ⟨by rw [List.map_replicate]; exact RowsAt.made _ _ _ _ _ hblk5, by have := PredTo.start (gr rs) out; rw [Hlen.out] at this; exact this, hrank.keep hk5, hidom.keep hk5, hkeep.trans hk5⟩)
          have Hto := Lib.hid hto
          have Hlr := Lib.hid hlr
          have Hbp := Lib.hid hbp
          clear hrank hlr hto hidom hkeep hblk5 hk5 hbp
          obtain ⟨wp, rfl⟩ : ∃ wo : World, wo = wr := ⟨_, rfl⟩
          go_wp2_with (refine wpList_make_eq rfl _ _ _ rfl _ _ rfl rfl _ _ hmake5 ?_; clear hmake5)
          go_loopw [51] (fun i wx => ∃ k P, k ≤ out.length ∧ i = .int .i64 ((k : Nat) : Int) ∧ IRows wx bp w5.heap.size (P.map nats) ∧ PredTo (gr rs) out k 0 P ∧ IBlk wx br 3 RL ∧ IBlk wx bi 3 (List.replicate rs.length (-1)) ∧ Keep w1 wx ∧ w5.heap.size ≤ wx.heap.size) (fun i _ => out.length - (intOf i).toNat)
          case atStart => exact ⟨0, _, Nat.zero_le _, rfl, Hz.out.1, Hz.out.2.1, Hz.out.2.2.1, Hz.out.2.2.2.1, Hz.out.2.2.2.2, Nat.le_refl _⟩
          case round =>
            clear Hz
            obtain ⟨k3, P, hk3, rfl, hrows, hpt, hrank, hidom, hkeep, hsz⟩ := hrel
            by_cases hlt3 : k3 < out.length
            · have hkk3 : (k3 : Int) < (out.length : Int) := by omega
              have hk30 : (0 : Int) ≤ (k3 : Int) := by omega
              obtain ⟨bo, oo, rfl, _, qo⟩ := int_at Hown.out.segN.2 hkeep (k := k3) (by rw [nats_len]; exact hlt3)
              rw [nats_get] at qo
              have hqn : out[k3] < rs.length := by have := Hpost.out.lt out[k3] (List.getElem_mem hlt3); rw [Hlen.out] at this; exact this
              have Hq := Lib.hid (show out[k3]? = some out[k3] from List.getElem?_eq_getElem hlt3)
              obtain ⟨q, hqd⟩ : ∃ q, q = out[k3] := ⟨_, rfl⟩
              rw [← hqd] at qo hqn Hq
              obtain ⟨b, off, rfl, _, qr⟩ := row_at Hg.out.seg (Hk1.out.trans hkeep) hqn
              have Hgrow := Lib.hid (show (gr rs).getD q [] = rs[q].l from gr_get hqn)
              have Hint := Lib.hid (fun (wx : World) (hk : Keep w wx) (j : Nat) (hj : j < rs[q].l.length) => int_at (Hg.out.rows rs[q] (List.getElem_mem hqn)).seg hk hj)
              have hlm := Hl.out rs[q] (List.getElem_mem hqn)
              obtain ⟨l, hl⟩ : ∃ l, l = rs[q].l := ⟨_, rfl⟩
              obtain ⟨Ax, hAx⟩ : ∃ A, A = rs[q].a := ⟨_, rfl⟩
              obtain ⟨cr, hcr⟩ : ∃ c, c = rs[q].c := ⟨_, rfl⟩
              rw [← hl, ← hAx, ← hcr] at qr
              rw [← hl] at Hint Hgrow hlm
              rw [← hAx] at Hint
              have x0 : (0 : Int) ≤ (q : Int) := by omega
              have x1 : (q : Int) < (rs.length : Int) := by omega
              have Hz := Lib.hid (show IRows wr bp w5.heap.size (P.map nats) ∧ PredTo (gr rs) out k3 0 P ∧ IBlk wr br 3 RL ∧ IBlk wr bi 3 (List.replicate rs.length (-1)) ∧ Keep w1 wr ∧ w5.heap.size ≤ wr.heap.size from ⟨hrows, hpt, hrank, hidom, hkeep, hsz⟩)
              clear hrows hpt hrank hidom hkeep hsz hqd hl hAx hcr
              obtain ⟨wq, rfl⟩ : ∃ wo : World, wo = wr := ⟨_, rfl⟩
              go_wp2_with fail
              go_loopw [60] (fun i wx => ∃ m P, m ≤ l.length ∧ i = .int .i64 ((m : Nat) : Int) ∧ IRows wx bp w5.heap.size (P.map nats) ∧ PredTo (gr rs) out k3 m P ∧ IBlk wx br 3 RL ∧ IBlk wx bi 3 (List.replicate rs.length (-1)) ∧ Keep w1 wx ∧ w5.heap.size ≤ wx.heap.size) (fun i _ => l.length - (intOf i).toNat)
              case atStart => exact ⟨0, P, Nat.zero_le _, rfl, Hz.out⟩
              case round =>
                clear Hz
                obtain ⟨m, P, hm, rfl, hrows, hpt, hrank, hidom, hkeep, hsz⟩ := hrel
                clear qo qr
                by_cases hltm : m < l.length
                · have hmm : (m : Int) < (l.length : Int) := by omega
                  have hm0 : (0 : Int) ≤ (m : Int) := by omega
                  obtain ⟨b5, off5, rfl, _, qt⟩ := Hint.out wr (Hk1.out.trans hkeep) m hltm
                  obtain ⟨tv, htv⟩ : ∃ tv, tv = l[m] := ⟨_, rfl⟩
                  have htm : ((gr rs).getD q [])[m]? = some tv := by rw [Hgrow.out, List.getElem?_eq_getElem hltm, htv]
                  rw [← htv] at qt
                  have Hskip := Lib.hid (show (∀ b : Nat, tv = (b : Int) → ¬ b < rs.length) → PredTo (gr rs) out k3 (m + 1) P from fun h => hpt.skip Hq.out (fun b hb => by
                    rw [htm] at hb; rw [Hlen.out]; exact h b (Option.some.inj hb)))
                  clear htv
                  by_cases t0 : tv < 0
                  · have dt : decide (0 ≤ tv) = false := decide_eq_false (by omega)
                    have Hs := Lib.hid (Hskip.out (fun b hb => by omega))
                    have Hz := Lib.hid (show IRows wr bp w5.heap.size (P.map nats) ∧ IBlk wr br 3 RL ∧ IBlk wr bi 3 (List.replicate rs.length (-1)) ∧ Keep w1 wr ∧ w5.heap.size ≤ wr.heap.size from ⟨hrows, hrank, hidom, hkeep, hsz⟩)
                    clear hrows hpt hrank hidom hkeep hsz htm
                    go_wp2_with fail
                    go_roundw
                    case rel => exact ⟨m + 1, P, hltm, by go_num, Hz.out.1, Hs.out, Hz.out.2⟩
                    case measure => simp [intOf] <;> omega
                  · have dt : decide (0 ≤ tv) = true := decide_eq_true (by omega)
                    obtain ⟨tb, rfl⟩ : ∃ tb : Nat, tv = (tb : Int) := ⟨tv.toNat, by omega⟩
                    by_cases t1 : tb < rs.length
                    · have dt1 : decide ((tb : Int) < (rs.length : Int)) = true := decide_eq_true (by omega)
                      have dt1' : decide (tb < rs.length) = true := decide_eq_true t1
                      have hPl : tb < P.length := by rw [hpt.len, Hlen.out]; exact t1
                      have hML : tb < (P.map nats).length := by simpa using hPl
                      have hget : (P.map nats)[tb] = nats P[tb] := by simp
                      have hbd : (P.map nats)[tb].length < 1000000 := by
                        rw [hget, nats_len]
                        have := hpt.bound tb hPl
                        have : k3 * 1000 ≤ 900 * 1000 := Nat.mul_le_mul_right _ (by omega)
                        omega
                      obtain ⟨B, d, hcell, _, w6, ⟨B', d', rfl⟩, hrun, hcell2, hfr2, hb2, hrows2, hE, _⟩ := RowsAt.push elI (by decide) hrows hML (q : Int) hbd (by omega) hsz 29
                      obtain ⟨ln, hln⟩ : ∃ ln, ln = (P.map nats)[tb].length := ⟨_, rfl⟩
                      rw [← hln] at hcell hcell2 hrun hrows2 hE
                      have Hz := Lib.hid (show IRows (w6.setCell ⟨bp, tb, none⟩ (.slice B' (ln + 1) d')) bp w5.heap.size ((P.set tb (P[tb] ++ [q])).map nats) ∧ PredTo (gr rs) out k3 (m + 1) (P.set tb (P[tb] ++ [q])) ∧ IBlk (w6.setCell ⟨bp, tb, none⟩ (.slice B' (ln + 1) d')) br 3 RL ∧ IBlk (w6.setCell ⟨bp, tb, none⟩ (.slice B' (ln + 1) d')) bi 3 (List.replicate rs.length (-1)) ∧ Keep w1 (w6.setCell ⟨bp, tb, none⟩ (.slice B' (ln + 1) d')) ∧ w5.heap.size ≤ (w6.setCell ⟨bp, tb, none⟩ (.slice B' (ln + 1) d')).heap.size from
                        ⟨by rw [List.map_set, nats_snoc, ← hget]; exact hrows2, hpt.add Hq.out htm hPl, hrank.ext hE (by omega), hidom.ext hE (by omega), Keep.of_ext hkeep hE (fun i hi h => by have := Hge2.out; omega), Nat.le_trans hsz hE.size⟩)
                      have b0 : (0 : Int) ≤ (tb : Int) := by omega
                      have b1 : (tb : Int) < (rs.length : Int) := by omega
                      clear hrows hpt hrank hidom hkeep hsz htm hrows2 hE hget hbd Hskip hln
                      go_wp2_with (at_builtin; refine wpList_append_eq rfl _ _ _ rfl _ _ rfl rfl _ _ hrun ?_; clear hrun)
                      go_roundw
                      case rel => exact ⟨m + 1, _, hltm, by go_num, Hz.out⟩
                      case measure => simp [intOf] <;> omega
                    · have dt1 : decide ((tb : Int) < (rs.length : Int)) = false := decide_eq_false (by omega)
                      have dt1' : decide (tb < rs.length) = false := decide_eq_false t1
                      have Hs := Lib.hid (Hskip.out (fun b hb => by omega))
                      have Hz := Lib.hid (show IRows wr bp w5.heap.size (P.map nats) ∧ IBlk wr br 3 RL ∧ IBlk wr bi 3 (List.replicate rs.length (-1)) ∧ Keep w1 wr ∧ w5.heap.size ≤ wr.heap.size from ⟨hrows, hrank, hidom, hkeep, hsz⟩)
                      clear hrows hpt hrank hidom hkeep hsz htm
                      go_wp2_with fail
                      go_roundw
                      case rel => exact ⟨m + 1, P, hltm, by go_num, Hz.out.1, Hs.out, Hz.out.2⟩
                      case measure => simp [intOf] <;> omega
                · have hge : ¬ (m : Int) < (l.length : Int) := by omega
                  have Hn := Lib.hid (hpt.next Hq.out (by rw [Hlen.out]; exact hqn) (by rw [Hgrow.out]; omega) (by omega))
                  have Hz := Lib.hid (show IRows wr bp w5.heap.size (P.map nats) ∧ IBlk wr br 3 RL ∧ IBlk wr bi 3 (List.replicate rs.length (-1)) ∧ Keep w1 wr ∧ w5.heap.size ≤ wr.heap.size from ⟨hrows, hrank, hidom, hkeep, hsz⟩)
                  clear hrows hpt hrank hidom hkeep hsz
                  go_wp2_with fail
                  go_roundw
                  case rel => exact ⟨k3 + 1, P, hlt3, by go_num, Hz.out.1, Hn.out, Hz.out.2⟩
                  case measure => simp [intOf] <;> omega
            · have hge : ¬ (k3 : Int) < (out.length : Int) := by omega
              have hkl3 : k3 = out.length := by omega
              subst hkl3
              by_cases hnil : out.length = 0
              · have hN : gr rs = [] := by
                  rcases List.eq_nil_or_concat (gr rs) with e | ⟨_, _, e⟩
                  · exact e
                  · obtain ⟨l, e1⟩ := Hpost.out.last (by rw [e]; simp)
                    rw [e1] at hnil; simp at hnil
                have hn0 : rs.length = 0 := by rw [← Hlen.out, hN]; rfl
                have Hfin := Lib.hid (show OfPost (gr rs) rs.length w (.returned (.slice (some ⟨bi, 0, none⟩) rs.length rs.length)) wr from
                  ⟨bi, [], rfl, Nat.le_trans Hsz.out Hge2.out, by have := hidom; rw [hn0] at this; exact this, by rw [hN]; exact Dom.Idom.nil, Hk1.out.trans hkeep⟩)
                have dz : ((out.length : Int) == 0) = true := by rw [hnil]; rfl
                have dz' : (out.length == 0) = true := by rw [hnil]; rfl
                clear hrows hpt hrank hidom hkeep hsz hn0 hnil hN
                go_wp2_with fail
                go_ret
                exact Hfin.out
              · have hN : gr rs ≠ [] := fun e => by
                  have := Hpost.out.len
                  rw [e] at this
                  simp at this
                  exact hnil (by rw [this]; rfl)
                have hn0 : 0 < rs.length := by rw [← Hlen.out]; exact List.length_pos_iff.2 hN
                have dz : ((out.length : Int) == 0) = false := by rw [beq_eq_false_iff_ne]; omega
                have dz' : (out.length == 0) = false := by rw [beq_eq_false_iff_ne]; exact hnil
                have q0 := hidom.get (k := 0) (by simpa using hn0)
                have f0 := hidom.frozen 0
                have l0 := hidom.lt
                obtain ⟨W, hW⟩ : ∃ W : World, W = wr.setCell ⟨bi, 0, none⟩ (.int .i64 0) := ⟨_, rfl⟩
                have hidomW : IBlk W bi 3 ((List.replicate rs.length (-1)).set 0 0) := by rw [hW]; exact hidom.put 0 0
                have hrankW : IBlk W br 3 RL := by rw [hW]; exact hrank.far (p := ⟨bi, 0, none⟩) hne _
                have hbp5 : bi < w5.heap.size := by omega
                have hrowsW : IRows W bp w5.heap.size (P.map nats) := by rw [hW]; exact hrows.put_far hidom (by omega) (.inl hbp5) _
                have hkeepW : Keep w1 W := by rw [hW]; exact hkeep.setCell (p := ⟨bi, 0, none⟩) Hge2.out _
                obtain ⟨prs, e1, e2, e3, e4, e5, e6⟩ := hrowsW.read
                have hPl : prs.length = rs.length := by rw [e4, List.length_map, hpt.len, Hlen.out]
                have hget : ∀ x (h : x < prs.length) (h' : x < P.length), prs[x].l = nats P[x] := fun x h h' => by
                  have e := congrArg (fun l => l[x]?) e1
                  simp [h, h'] at e
                  exact e
                have hin : SetIn (gr rs) out rs.length RL prs :=
                  { pst := Hpost.out, len := Hlen.out, pos := hn0, lenR := Hlr.out
                    rk := fun x hx hxp => by
                      have h1 := Hto.out (Dom.rk out x) (Dom.rk_lt hxp) (Dom.rk_lt hxp)
                      have h2 : out[Dom.rk out x]'(Dom.rk_lt hxp) = x := by
                        have := Dom.rk_get hxp
                        rw [List.getElem?_eq_getElem (Dom.rk_lt hxp)] at this
                        exact Option.some.inj this
                      rw [h2, List.getD_eq_getElem?_getD, List.getElem?_eq_getElem hx] at h1
                      exact h1
                    lenP := hPl
                    preds := fun x hx hxp => by
                      have hxP : x < P.length := by rw [hpt.len, Hlen.out]; omega
                      exact ⟨P[x], hget x hx hxP, fun p => hpt.full (Nat.le_refl _) hxP p⟩
                    plen := fun x hx => by
                      obtain ⟨i, hi, rfl⟩ := List.getElem_of_mem hx
                      have hiP : i < P.length := by rw [hpt.len, Hlen.out]; omega
                      rw [hget i hi hiP, nats_len]
                      have := hpt.bound i hiP
                      have : out.length * 1000 ≤ 900 * 1000 := Nat.mul_le_mul_right _ (by omega)
                      omega }
                have hAo := Hown.out.segN.2.keep hkeepW
                have Hset := Lib.hid (settle_calls hin Ao (some ⟨br, 0, none⟩) (some ⟨bp, 0, none⟩) co rs.length rs.length bi W hAo hrankW.seg e2 e3
                  (fun ad ha hb => by have := Hown.out.addr_lt ha; have := Hge2.out; omega) (fun ad ha => by cases ha; exact hne) (fun ad ha => by cases ha; exact (show bp ≠ bi by omega)) (fun x hx ad ha hb => by have := e6 x hx ad ha; omega)
                  (by omega) (by omega) hidomW)
                have HkW := Lib.hid hkeepW
                have HN := Lib.hid hN
                obtain ⟨x0, hx0⟩ : ∃ x, x = (List.replicate rs.length (-1 : Int))[0]'(by simpa using hn0) := ⟨_, rfl⟩
                rw [← hx0] at q0
                have n0 : (0 : Int) < (rs.length : Int) := by omega
                clear hx0 hin hget hPl e1 e2 e3 e4 e5 e6 hAo hkeepW hrowsW hbp5 hrankW hidomW hrows hpt hrank hidom hkeep hsz hnil hN
                go_wp2_with fail
                rw [← hW]
                clear hW
                refine Hset.out.mono ?_
                rintro e w8 ⟨⟨u, rfl⟩, D, hSM, hfin⟩
                have qd := hSM.blk.get (k := 0) (by rw [hSM.len]; exact hn0)
                have fd := hSM.blk.frozen 0
                have ld := hSM.blk.lt
                have Hfin := Lib.hid (show OfPost (gr rs) rs.length w (.returned (.slice (some ⟨bi, 0, none⟩) rs.length rs.length)) (w8.setCell ⟨bi, 0, none⟩ (.int .i64 (-1))) from
                  ⟨bi, _, rfl, Nat.le_trans Hsz.out Hge2.out, hSM.blk.put 0 (-1), Dom.Idom.of_fin Hpost.out HN.out (by rw [hSM.len, Hlen.out]) hfin hSM.neg,
                    (Keep.of_ext (Hk1.out.trans HkW.out) hSM.ext (fun k hk e => by have := Hsz.out; have := Hge2.out; omega)).setCell (p := ⟨bi, 0, none⟩) (Nat.le_trans Hsz.out Hge2.out) _⟩)
                obtain ⟨xd, hxd⟩ : ∃ x, x = D[0]'(by rw [hSM.len]; exact hn0) := ⟨_, rfl⟩
                rw [← hxd] at qd
                clear hxd hSM hfin
                go_wp2_with fail
                go_ret
                exact Hfin.out
end Go.Proofs.Ythjlfbeabobgmaa
