/-
  plays: one call on the program's stack and on the reference's.
-/
import Derived.Test.YtkeefajfndmpeaaRefShut
import Derived.Test.YtkeefajfndmpeaaAlive
namespace Go.Proofs.Ytkeefajfndmpeaa
open Go Go.RowKit

/-- One call: its number, its list. -/
def Stk.play (s : Stk) (n : Int) (l : List Int) : Stk :=
  if n = 1 then s.push l else if n = 2 then s.pop.1 else if n = 3 then (s.want l).1 else if n = 4 then s.opened else if n = 5 then (s.shut l).1 else if n = 6 then s.loosen else s

theorem Seg.ext' {S : Nat → Prop} {w w' : World} {A : Option Addr} {xs : List Value} (h : Seg w A xs) (hk : Ext S w w') (hs : 0 < xs.length → ∀ ad, A = some ad → ¬ S ad.block) : Seg w' A xs := by
  rcases Nat.eq_zero_or_pos xs.length with h0 | h0
  · have : xs = [] := List.eq_nil_of_length_eq_zero h0
    subst this; exact Seg.nil _ _
  · exact h.ext hk fun ad ha _ => hs h0 ad ha
theorem val_len (l : List Int) : (l.flatMap valC).length = l.length := by rw [flat_length valC 1 (fun _ => rfl)]; omega
theorem mark_len (l : List Part) : (l.flatMap markC).length = l.length := by rw [flat_length markC 1 (fun _ => rfl)]; omega
theorem loose_len (l : List Part) : (l.flatMap looseC).length = l.length := by rw [flat_length looseC 1 (fun _ => rfl)]; omega
/-- A list that lies in no block of F. -/
def Out (F : Nat → Prop) (A : Option Addr) (n : Nat) : Prop := 0 < n → ∀ ad, A = some ad → ¬ F ad.block
theorem Seg.out {F : Nat → Prop} {w w' : World} {A : Option Addr} {l : List Int} (h : Seg w A (l.flatMap valC)) (hk : Ext F w w') (ho : Out F A l.length) : Seg w' A (l.flatMap valC) :=
  h.ext' hk fun h0 => ho (by rwa [val_len] at h0)
theorem RefAt.ext {G S : Nat → Prop} {w w' : World} {v : Value} {s : Stk} (h : RefAt G w v s) (hk : Ext S w w') (hS : ∀ k, G k → ¬ S k) : RefAt G w' v s := by
  obtain ⟨A1, A2, A3, c1, c2, c3, most, e, s1, s2, s3, h4, h5, h6, h7, h8, g1, g2, g3⟩ := h
  exact ⟨A1, A2, A3, c1, c2, c3, most, e, s1.ext' hk (fun h0 ad ha => hS _ (g1 (by rwa [val_len] at h0) ad ha)), s2.ext' hk (fun h0 ad ha => hS _ (g2 (by rwa [mark_len] at h0) ad ha)), s3.ext' hk (fun h0 ad ha => hS _ (g3 (by rwa [loose_len] at h0) ad ha)), h4, h5, h6, h7, h8, g1, g2, g3⟩
theorem RefAt.mono {G H : Nat → Prop} {w : World} {v : Value} {s : Stk} (h : RefAt G w v s) (hg : ∀ k, k < w.heap.size → G k → H k) : RefAt H w v s := by
  obtain ⟨A1, A2, A3, c1, c2, c3, most, e, s1, s2, s3, h4, h5, h6, h7, h8, g1, g2, g3⟩ := h
  have lt : ∀ {xs : List Value} {A : Option Addr} {n : Nat}, Seg w A xs → xs.length = n → InG G A n → InG H A n := fun {xs A n} hs hl hG hn ad ha => by
    obtain ⟨b, off, e, hb, _⟩ := hs.addr (by omega)
    rw [ha] at e; cases e
    exact hg _ hb (hG hn _ ha)
  exact ⟨A1, A2, A3, c1, c2, c3, most, e, s1, s2, s3, h4, h5, h6, h7, h8, lt s1 (val_len _) g1, lt s2 (mark_len _) g2, lt s3 (loose_len _) g3⟩
theorem refAt_cut {G : Nat → Prop} {w : World} {A1 A2 A3 : Option Addr} {c1 c2 c3 most : Nat} {s : Stk} (h : RefIs w A1 A2 A3 c1 c2 c3 most s) (g1 : InG G A1 s.T.length) (g2 : InG G A2 s.P.length) (g3 : InG G A3 s.P.length) {s' : Stk} (hs : s' = s ∨ ∃ n, s' = s.cut n) :
    RefAt G w (.agg #[.slice A1 s'.T.length c1, .slice A2 s.P.length c2, .slice A3 s.P.length c3, .int .i64 (most : Int)]) s' := by
  rcases hs with rfl | ⟨n, rfl⟩
  · obtain ⟨h1, h2, h3, h4, h5, h6, h7, h8⟩ := h
    exact ⟨A1, A2, A3, c1, c2, c3, most, rfl, h1, h2, h3, h4, h5, h6, h7, h8, g1, g2, g3⟩
  · obtain ⟨h1, h2, h3, h4, h5, h6, h7, h8⟩ := h.cut n
    exact ⟨A1, A2, A3, c1, c2, c3, most, rfl, h1, h2, h3, h4, h5, h6, h7, h8, g1.less (by simp [Stk.cut]; omega), g2, g3⟩
theorem Stk.pop_cut (s : Stk) : s.pop.1 = s ∨ ∃ n, s.pop.1 = s.cut n := by
  unfold Stk.pop
  split
  · exact .inr ⟨_, rfl⟩
  · split <;> exact .inl rfl
theorem Stk.want_cut (s : Stk) (l : List Int) : (s.want l).1 = s ∨ ∃ n, (s.want l).1 = s.cut n := by
  unfold Stk.want
  split
  · exact .inr ⟨_, rfl⟩
  · exact .inl rfl

/-- What plays leaves: the stack and the reference's at s', in blocks of F and G or new ones; of the others nothing has changed. -/
def PlaysLeft (F G : Nat → Prop) (w : World) (b : Nat) (s' : Stk) (v' : Value) (w' : World) : Prop :=
  Ext F w w' ∧ ∃ F' G' : Nat → Prop, At F' w' b s' ∧ RefAt G' w' v' s' ∧ (∀ k, G' k → F' k → False) ∧ (∀ k, F' k → F k ∨ w.heap.size ≤ k) ∧ (∀ k, G' k → k < w'.heap.size) ∧ (∀ k, G' k → G k ∨ w.heap.size ≤ k)

theorem plays_left {F F' G : Nat → Prop} {w wa w1 w2 W : World} {b : Nat} {s s' : Stk} {v' : Value} (h : At F w b s) (hka : Keep w wa) (hz : wa.heap.size = w.heap.size + 3)
    (he : Ext F wa w1) (hat : At F' w1 b s') (hF : ∀ k, F' k → F k ∨ wa.heap.size ≤ k) (hk2 : Keep w1 w2) (hr : RefAt (Grow G w1) w2 v' s')
    (hG : ∀ k, G k → F k → False) (hGl : ∀ k, G k → k < w.heap.size) (hW : Ext (fun k => k = w.heap.size + 2) w2 W) : PlaysLeft F G w b s' v' W := by
  have hs1 := he.size
  have hs2 := hk2.size
  refine ⟨?_, F', fun k => Grow G w1 k ∧ k < W.heap.size, ?_, ?_, ?_, fun k hk => ?_, fun k hk => hk.2, fun k hk => ?_⟩
  · refine ((hka.ext F).trans he (fun _ _ h => h)).keepTrans hk2 |>.trans hW fun i hi e => ?_
    omega
  · refine (hat.keep hk2).of_keep (fun k hk => hW.block k ?_ ?_) hW.size
    · exact Nat.lt_of_lt_of_le (hat.lt k hk) hs2
    · rintro rfl
      rcases hF _ hk with h1 | h1
      · have := h.lt _ h1; omega
      · omega
  · refine (hr.ext hW (fun k hk e => ?_)).mono fun k hk hg => ⟨hg, hk⟩
    rcases hk with h1 | h1
    · have := hGl k h1; omega
    · omega
  · rintro k ⟨h1 | h1, _⟩ h2
    · rcases hF k h2 with h3 | h3
      · exact hG k h1 h3
      · have := hGl k h1; omega
    · have := hat.lt k h2; omega
  · rcases hF k hk with h1 | h1
    · exact .inl h1
    · exact .inr (by omega)
  · rcases hk.1 with h1 | h1
    · exact .inl h1
    · exact .inr (by have := hka.size; omega)

/-- The three first blocks of plays. -/
theorem play_boxes (w : World) (cs ds : List Value) {wa : World} (hwa : wa = ((w.alloc (.cells cs.toArray 31)).alloc (.cells ds.toArray 36)).alloc (.cells rzero.toArray 31)) :
    Keep w wa ∧ Blk wa w.heap.size 31 cs ∧ Blk wa (w.heap.size + 1) 36 ds ∧ Blk wa (w.heap.size + 1 + 1) 31 rzero ∧ wa.heap.size = w.heap.size + 3 := by
  refine ⟨by rw [hwa]; exact (((Keep.refl _).alloc _).alloc _).alloc _, by rw [hwa]; exact (Blk.new w _ _).keep (((Keep.refl _).alloc _).alloc _), ?_, ?_, by rw [hwa]; simp⟩
  · rw [hwa]
    have := Blk.new (w.alloc (.cells cs.toArray 31)) 36 ds
    simp at this
    exact this.keep ((Keep.refl _).alloc _)
  · rw [hwa]
    have := Blk.new ((w.alloc (.cells cs.toArray 31)).alloc (.cells ds.toArray 36)) 31 rzero
    simpa using this
def actCells (n : Int) (A : Option Addr) (l : List Int) (c : Nat) : List Value := [.int .i64 n, .slice A l.length c]

theorem refIs_ext {F G : Nat → Prop} {w wa w1 : World} {A1 A2 A3 : Option Addr} {c1 c2 c3 most : Nat} {s : Stk} (s1 : Seg w A1 (s.T.flatMap valC)) (s2 : Seg w A2 (s.P.flatMap markC)) (s3 : Seg w A3 (s.P.flatMap looseC)) (ho : s.over = decide (256 < most)) (hc1 : s.T.length ≤ c1) (hc2 : s.P.length ≤ c2) (hc3 : s.P.length ≤ c3) (hmost : most ≤ 1000000)
    (g1 : InG G A1 s.T.length) (g2 : InG G A2 s.P.length) (g3 : InG G A3 s.P.length) (hka : Keep w wa) (he : Ext F wa w1) (hG : ∀ k, G k → F k → False) : RefIs w1 A1 A2 A3 c1 c2 c3 most s :=
  ⟨(s1.keep hka).ext' he (fun h0 ad ha hf => hG _ (g1 (by rwa [val_len] at h0) ad ha) hf), (s2.keep hka).ext' he (fun h0 ad ha hf => hG _ (g2 (by rwa [mark_len] at h0) ad ha) hf), (s3.keep hka).ext' he (fun h0 ad ha hf => hG _ (g3 (by rwa [loose_len] at h0) ad ha) hf), ho, hc1, hc2, hc3, hmost⟩


set_option maxHeartbeats 1000000 in
theorem plays_push {F G : Nat → Prop} {b : Nat} {s : Stk} {w : World} {v : Value} (h : At F w b s) (hr : RefAt G w v s) (hG : ∀ k, G k → F k → False) (hGl : ∀ k, G k → k < w.heap.size) (hok : s.Ok) (l : List Int) (A : Option Addr) (c : Nat) (hs : Seg w A (l.flatMap valC)) (hA : Out F A l.length)
    (hn : s.T.length + l.length ≤ 1000000) (hm : s.P.length ≤ 1000000) :
    Calls Try.prog 17 #[.pointer (some ⟨b, 0, none⟩), v, .agg #[.int .i64 1, .slice A l.length c]] w fun e w' => ∃ v', e = .returned (.tuple #[v', .bool true]) ∧ PlaysLeft F G w b (s.push l) v' w' := by
  obtain ⟨A1, A2, A3, c1, c2, c3, most, rfl, s1, s2, s3, ho, hc1, hc2, hc3, hmost, g1, g2, g3⟩ := id hr
  have hn' : s.T.length ≤ 1000000 := by omega
  have hl : l.length ≤ 1000000 := by omega
  obtain ⟨wa, hwa⟩ : ∃ wa : World, wa = ((w.alloc (.cells (rcells A1 A2 A3 s.T.length s.P.length c1 c2 c3 most).toArray 31)).alloc (.cells (actCells 1 A l c).toArray 36)).alloc (.cells rzero.toArray 31) := ⟨_, rfl⟩
  obtain ⟨hka, ba, bb, bc, hz⟩ := play_boxes w _ _ hwa
  have Hs := Lib.hid (push_calls (h.keep hka) l A c (hs.keep hka) hn)
  have Hr := Lib.hid (fun (w1 : World) (he : Ext F wa w1) => refPush_calls (hr.keep hka |>.ext he (fun k hk hf => hG k hk hf)) l A c (hs.keep hka |>.out he hA) hn)
  have Hh := Lib.hid h
  have nb : ∀ i, ¬ F (w.heap.size + i) := fun i hf => by have := h.lt _ hf; omega
  clear ho
  go_enter Try.func17, Try.ntmps17
  go_wp2_with fail
  show Calls Try.prog _ _ (((w.alloc (.cells (rcells A1 A2 A3 s.T.length s.P.length c1 c2 c3 most).toArray 31)).alloc (.cells (actCells 1 A l c).toArray 36)).alloc (.cells rzero.toArray 31)) _
  rw [← hwa]
  clear hwa
  refine Hs.out.mono ?_
  rintro e w1 ⟨⟨u, rfl⟩, he, F', hat', hF'⟩
  have ba1 := ba.ext he (nb 0)
  have bb1 := bb.ext he (nb 1)
  have bc1 := bc.ext he (nb 2)
  have x0 : w1.cell? ⟨w.heap.size, 0, none⟩ = some (.slice A1 s.T.length c1) := ba1.cell 0
  have x1 : w1.cell? ⟨w.heap.size, 1, none⟩ = some (.slice A2 s.P.length c2) := ba1.cell 1
  have x2 : w1.cell? ⟨w.heap.size, 2, none⟩ = some (.slice A3 s.P.length c3) := ba1.cell 2
  have x3 : w1.cell? ⟨w.heap.size, 3, none⟩ = some (.int .i64 (most : Int)) := ba1.cell 3
  have q1 : w1.cell? ⟨w.heap.size + 1, 1, none⟩ = some (.slice A l.length c) := bb1.cell 1
  have lx := ba1.lt
  have lq := bb1.lt
  have Hhat := Lib.hid hat'
  have HF' := Lib.hid hF'
  have Hhe := Lib.hid he
  have Hbc := Lib.hid bc1
  have Hnb := Lib.hid nb
  clear ba bb bc ba1 bb1 bc1 hat' hF' nb
  go_wp2_with fail
  refine (Hr.out w1 he).mono ?_
  rintro e w2 ⟨v', rfl, hr', hk2⟩
  have bc2 := Hbc.out.keep hk2
  have z0 : w2.cell? ⟨w.heap.size + 1 + 1, 0, none⟩ = some (.slice none 0 0) := bc2.cell 0
  have z1 : w2.cell? ⟨w.heap.size + 1 + 1, 1, none⟩ = some (.slice none 0 0) := bc2.cell 1
  have z2 : w2.cell? ⟨w.heap.size + 1 + 1, 2, none⟩ = some (.slice none 0 0) := bc2.cell 2
  have z3 : w2.cell? ⟨w.heap.size + 1 + 1, 3, none⟩ = some (.int .i64 0) := bc2.cell 3
  have fz := bc2.frozen
  have lz := bc2.lt
  clear bc2 x0 x1 x2 x3 q1 lx lq he
  obtain ⟨B1, B2, B3, d1, d2, d3, most', rfl, t1, t2, t3, tr⟩ := id hr'
  have Hr' := Lib.hid hr'
  clear hr' t1 t2 t3 tr
  go_wp2
  refine bodyPost_ret (v := .tuple #[(.agg #[.slice B1 (s.push l).T.length d1, .slice B2 (s.push l).P.length d2, .slice B3 (s.push l).P.length d3, .int .i64 (most' : Int)]), .bool true]) (by simp [results, Try.results17, go_sem, z0, z1, z2, z3, lz]) rfl ⟨_, rfl, plays_left Hh.out hka hz Hhe.out Hhat.out HF'.out hk2 Hr'.out hG hGl ?_⟩
  exact ((((Ext.refl (fun k => k = w.heap.size + 2) w2).setCell (p := ⟨w.heap.size + 1 + 1, 0, none⟩) (fun _ => rfl) _).setCell (p := ⟨w.heap.size + 1 + 1, 1, none⟩) (fun _ => rfl) _).setCell (p := ⟨w.heap.size + 1 + 1, 2, none⟩) (fun _ => rfl) _).setCell (p := ⟨w.heap.size + 1 + 1, 3, none⟩) (fun _ => rfl) _


set_option maxHeartbeats 1000000 in
theorem plays_open {F G : Nat → Prop} {b : Nat} {s : Stk} {w : World} {v : Value} (h : At F w b s) (hr : RefAt G w v s) (hG : ∀ k, G k → F k → False) (hGl : ∀ k, G k → k < w.heap.size) (hok : s.Ok) (l : List Int) (A : Option Addr) (c : Nat) (hs : Seg w A (l.flatMap valC)) (hA : Out F A l.length)
    (hn : s.T.length + l.length ≤ 1000000) (hm : s.P.length ≤ 1000000) :
    Calls Try.prog 17 #[.pointer (some ⟨b, 0, none⟩), v, .agg #[.int .i64 4, .slice A l.length c]] w fun e w' => ∃ v', e = .returned (.tuple #[v', .bool true]) ∧ PlaysLeft F G w b (s.opened) v' w' := by
  obtain ⟨A1, A2, A3, c1, c2, c3, most, rfl, s1, s2, s3, ho, hc1, hc2, hc3, hmost, g1, g2, g3⟩ := id hr
  have hn' : s.T.length ≤ 1000000 := by omega
  have hl : l.length ≤ 1000000 := by omega
  obtain ⟨wa, hwa⟩ : ∃ wa : World, wa = ((w.alloc (.cells (rcells A1 A2 A3 s.T.length s.P.length c1 c2 c3 most).toArray 31)).alloc (.cells (actCells 4 A l c).toArray 36)).alloc (.cells rzero.toArray 31) := ⟨_, rfl⟩
  obtain ⟨hka, ba, bb, bc, hz⟩ := play_boxes w _ _ hwa
  have Hs := Lib.hid (open_calls (h.keep hka) hn' hm)
  have Hr := Lib.hid (fun (w1 : World) (he : Ext F wa w1) => refOpen_calls (hr.keep hka |>.ext he (fun k hk hf => hG k hk hf)) hn' hm)
  have Hh := Lib.hid h
  have nb : ∀ i, ¬ F (w.heap.size + i) := fun i hf => by have := h.lt _ hf; omega
  clear ho
  go_enter Try.func17, Try.ntmps17
  go_wp2_with fail
  show Calls Try.prog _ _ (((w.alloc (.cells (rcells A1 A2 A3 s.T.length s.P.length c1 c2 c3 most).toArray 31)).alloc (.cells (actCells 4 A l c).toArray 36)).alloc (.cells rzero.toArray 31)) _
  rw [← hwa]
  clear hwa
  refine Hs.out.mono ?_
  rintro e w1 ⟨⟨u, rfl⟩, he, F', hat', hF'⟩
  have ba1 := ba.ext he (nb 0)
  have bb1 := bb.ext he (nb 1)
  have bc1 := bc.ext he (nb 2)
  have x0 : w1.cell? ⟨w.heap.size, 0, none⟩ = some (.slice A1 s.T.length c1) := ba1.cell 0
  have x1 : w1.cell? ⟨w.heap.size, 1, none⟩ = some (.slice A2 s.P.length c2) := ba1.cell 1
  have x2 : w1.cell? ⟨w.heap.size, 2, none⟩ = some (.slice A3 s.P.length c3) := ba1.cell 2
  have x3 : w1.cell? ⟨w.heap.size, 3, none⟩ = some (.int .i64 (most : Int)) := ba1.cell 3
  have q1 : w1.cell? ⟨w.heap.size + 1, 1, none⟩ = some (.slice A l.length c) := bb1.cell 1
  have lx := ba1.lt
  have lq := bb1.lt
  have Hhat := Lib.hid hat'
  have HF' := Lib.hid hF'
  have Hhe := Lib.hid he
  have Hbc := Lib.hid bc1
  have Hnb := Lib.hid nb
  clear ba bb bc ba1 bb1 bc1 hat' hF' nb
  go_wp2_with fail
  refine (Hr.out w1 he).mono ?_
  rintro e w2 ⟨v', rfl, hr', hk2⟩
  have bc2 := Hbc.out.keep hk2
  have z0 : w2.cell? ⟨w.heap.size + 1 + 1, 0, none⟩ = some (.slice none 0 0) := bc2.cell 0
  have z1 : w2.cell? ⟨w.heap.size + 1 + 1, 1, none⟩ = some (.slice none 0 0) := bc2.cell 1
  have z2 : w2.cell? ⟨w.heap.size + 1 + 1, 2, none⟩ = some (.slice none 0 0) := bc2.cell 2
  have z3 : w2.cell? ⟨w.heap.size + 1 + 1, 3, none⟩ = some (.int .i64 0) := bc2.cell 3
  have fz := bc2.frozen
  have lz := bc2.lt
  clear bc2 x0 x1 x2 x3 q1 lx lq he
  obtain ⟨B1, B2, B3, d1, d2, d3, most', rfl, t1, t2, t3, tr⟩ := id hr'
  have Hr' := Lib.hid hr'
  clear hr' t1 t2 t3 tr
  go_wp2
  refine bodyPost_ret (v := .tuple #[(.agg #[.slice B1 (s.opened).T.length d1, .slice B2 (s.opened).P.length d2, .slice B3 (s.opened).P.length d3, .int .i64 (most' : Int)]), .bool true]) (by simp [results, Try.results17, go_sem, z0, z1, z2, z3, lz]) rfl ⟨_, rfl, plays_left Hh.out hka hz Hhe.out Hhat.out HF'.out hk2 Hr'.out hG hGl ?_⟩
  exact ((((Ext.refl (fun k => k = w.heap.size + 2) w2).setCell (p := ⟨w.heap.size + 1 + 1, 0, none⟩) (fun _ => rfl) _).setCell (p := ⟨w.heap.size + 1 + 1, 1, none⟩) (fun _ => rfl) _).setCell (p := ⟨w.heap.size + 1 + 1, 2, none⟩) (fun _ => rfl) _).setCell (p := ⟨w.heap.size + 1 + 1, 3, none⟩) (fun _ => rfl) _


set_option maxHeartbeats 1000000 in
theorem plays_loose {F G : Nat → Prop} {b : Nat} {s : Stk} {w : World} {v : Value} (h : At F w b s) (hr : RefAt G w v s) (hG : ∀ k, G k → F k → False) (hGl : ∀ k, G k → k < w.heap.size) (hok : s.Ok) (l : List Int) (A : Option Addr) (c : Nat) (hs : Seg w A (l.flatMap valC)) (hA : Out F A l.length)
    (hn : s.T.length + l.length ≤ 1000000) (hm : s.P.length ≤ 1000000) :
    Calls Try.prog 17 #[.pointer (some ⟨b, 0, none⟩), v, .agg #[.int .i64 6, .slice A l.length c]] w fun e w' => ∃ v', e = .returned (.tuple #[v', .bool true]) ∧ PlaysLeft F G w b (s.loosen) v' w' := by
  obtain ⟨A1, A2, A3, c1, c2, c3, most, rfl, s1, s2, s3, ho, hc1, hc2, hc3, hmost, g1, g2, g3⟩ := id hr
  have hn' : s.T.length ≤ 1000000 := by omega
  have hl : l.length ≤ 1000000 := by omega
  obtain ⟨wa, hwa⟩ : ∃ wa : World, wa = ((w.alloc (.cells (rcells A1 A2 A3 s.T.length s.P.length c1 c2 c3 most).toArray 31)).alloc (.cells (actCells 6 A l c).toArray 36)).alloc (.cells rzero.toArray 31) := ⟨_, rfl⟩
  obtain ⟨hka, ba, bb, bc, hz⟩ := play_boxes w _ _ hwa
  have Hs := Lib.hid (loose_calls (h.keep hka) hok hn' hm)
  have Hr := Lib.hid (fun (w1 : World) (he : Ext F wa w1) => refLoose_calls (hr.keep hka |>.ext he (fun k hk hf => hG k hk hf)) hok hn' hm)
  have Hh := Lib.hid h
  have nb : ∀ i, ¬ F (w.heap.size + i) := fun i hf => by have := h.lt _ hf; omega
  clear ho
  go_enter Try.func17, Try.ntmps17
  go_wp2_with fail
  show Calls Try.prog _ _ (((w.alloc (.cells (rcells A1 A2 A3 s.T.length s.P.length c1 c2 c3 most).toArray 31)).alloc (.cells (actCells 6 A l c).toArray 36)).alloc (.cells rzero.toArray 31)) _
  rw [← hwa]
  clear hwa
  refine Hs.out.mono ?_
  rintro e w1 ⟨⟨u, rfl⟩, he, F', hat', hF'⟩
  have ba1 := ba.ext he (nb 0)
  have bb1 := bb.ext he (nb 1)
  have bc1 := bc.ext he (nb 2)
  have x0 : w1.cell? ⟨w.heap.size, 0, none⟩ = some (.slice A1 s.T.length c1) := ba1.cell 0
  have x1 : w1.cell? ⟨w.heap.size, 1, none⟩ = some (.slice A2 s.P.length c2) := ba1.cell 1
  have x2 : w1.cell? ⟨w.heap.size, 2, none⟩ = some (.slice A3 s.P.length c3) := ba1.cell 2
  have x3 : w1.cell? ⟨w.heap.size, 3, none⟩ = some (.int .i64 (most : Int)) := ba1.cell 3
  have q1 : w1.cell? ⟨w.heap.size + 1, 1, none⟩ = some (.slice A l.length c) := bb1.cell 1
  have lx := ba1.lt
  have lq := bb1.lt
  have Hhat := Lib.hid hat'
  have HF' := Lib.hid hF'
  have Hhe := Lib.hid he
  have Hbc := Lib.hid bc1
  have Hnb := Lib.hid nb
  clear ba bb bc ba1 bb1 bc1 hat' hF' nb
  go_wp2_with fail
  refine (Hr.out w1 he).mono ?_
  rintro e w2 ⟨v', rfl, hr', hk2⟩
  have bc2 := Hbc.out.keep hk2
  have z0 : w2.cell? ⟨w.heap.size + 1 + 1, 0, none⟩ = some (.slice none 0 0) := bc2.cell 0
  have z1 : w2.cell? ⟨w.heap.size + 1 + 1, 1, none⟩ = some (.slice none 0 0) := bc2.cell 1
  have z2 : w2.cell? ⟨w.heap.size + 1 + 1, 2, none⟩ = some (.slice none 0 0) := bc2.cell 2
  have z3 : w2.cell? ⟨w.heap.size + 1 + 1, 3, none⟩ = some (.int .i64 0) := bc2.cell 3
  have fz := bc2.frozen
  have lz := bc2.lt
  clear bc2 x0 x1 x2 x3 q1 lx lq he
  obtain ⟨B1, B2, B3, d1, d2, d3, most', rfl, t1, t2, t3, tr⟩ := id hr'
  have Hr' := Lib.hid hr'
  clear hr' t1 t2 t3 tr
  go_wp2
  refine bodyPost_ret (v := .tuple #[(.agg #[.slice B1 (s.loosen).T.length d1, .slice B2 (s.loosen).P.length d2, .slice B3 (s.loosen).P.length d3, .int .i64 (most' : Int)]), .bool true]) (by simp [results, Try.results17, go_sem, z0, z1, z2, z3, lz]) rfl ⟨_, rfl, plays_left Hh.out hka hz Hhe.out Hhat.out HF'.out hk2 Hr'.out hG hGl ?_⟩
  exact ((((Ext.refl (fun k => k = w.heap.size + 2) w2).setCell (p := ⟨w.heap.size + 1 + 1, 0, none⟩) (fun _ => rfl) _).setCell (p := ⟨w.heap.size + 1 + 1, 1, none⟩) (fun _ => rfl) _).setCell (p := ⟨w.heap.size + 1 + 1, 2, none⟩) (fun _ => rfl) _).setCell (p := ⟨w.heap.size + 1 + 1, 3, none⟩) (fun _ => rfl) _


set_option maxHeartbeats 1000000 in
theorem plays_shut {F G : Nat → Prop} {b : Nat} {s : Stk} {w : World} {v : Value} (h : At F w b s) (hr : RefAt G w v s) (hG : ∀ k, G k → F k → False) (hGl : ∀ k, G k → k < w.heap.size) (hok : s.Ok) (l : List Int) (A : Option Addr) (c : Nat) (hs : Seg w A (l.flatMap valC)) (hA : Out F A l.length)
    (hn : s.T.length + l.length ≤ 1000000) (hm : s.P.length ≤ 1000000) :
    Calls Try.prog 17 #[.pointer (some ⟨b, 0, none⟩), v, .agg #[.int .i64 5, .slice A l.length c]] w fun e w' => ∃ v', e = .returned (.tuple #[v', .bool true]) ∧ PlaysLeft F G w b ((s.shut l).1) v' w' := by
  obtain ⟨A1, A2, A3, c1, c2, c3, most, rfl, s1, s2, s3, ho, hc1, hc2, hc3, hmost, g1, g2, g3⟩ := id hr
  have hn' : s.T.length ≤ 1000000 := by omega
  have hl : l.length ≤ 1000000 := by omega
  obtain ⟨wa, hwa⟩ : ∃ wa : World, wa = ((w.alloc (.cells (rcells A1 A2 A3 s.T.length s.P.length c1 c2 c3 most).toArray 31)).alloc (.cells (actCells 5 A l c).toArray 36)).alloc (.cells rzero.toArray 31) := ⟨_, rfl⟩
  obtain ⟨hka, ba, bb, bc, hz⟩ := play_boxes w _ _ hwa
  have Hs := Lib.hid (shut_calls (h.keep hka) hok l A c (hs.keep hka) hn' hm hl)
  have Hr := Lib.hid (fun (w1 : World) (he : Ext F wa w1) => refShut_calls (refIs_ext s1 s2 s3 ho hc1 hc2 hc3 hmost g1 g2 g3 hka he hG) g1 g2 g3 hok l A c (hs.keep hka |>.out he hA) hn' hm hl)
  have Hh := Lib.hid h
  have nb : ∀ i, ¬ F (w.heap.size + i) := fun i hf => by have := h.lt _ hf; omega
  clear ho
  go_enter Try.func17, Try.ntmps17
  go_wp2_with fail
  show Calls Try.prog _ _ (((w.alloc (.cells (rcells A1 A2 A3 s.T.length s.P.length c1 c2 c3 most).toArray 31)).alloc (.cells (actCells 5 A l c).toArray 36)).alloc (.cells rzero.toArray 31)) _
  rw [← hwa]
  clear hwa
  refine Hs.out.mono ?_
  rintro e w1 ⟨rfl, he, F', hat', hF'⟩
  have ba1 := ba.ext he (nb 0)
  have bb1 := bb.ext he (nb 1)
  have bc1 := bc.ext he (nb 2)
  have x0 : w1.cell? ⟨w.heap.size, 0, none⟩ = some (.slice A1 s.T.length c1) := ba1.cell 0
  have x1 : w1.cell? ⟨w.heap.size, 1, none⟩ = some (.slice A2 s.P.length c2) := ba1.cell 1
  have x2 : w1.cell? ⟨w.heap.size, 2, none⟩ = some (.slice A3 s.P.length c3) := ba1.cell 2
  have x3 : w1.cell? ⟨w.heap.size, 3, none⟩ = some (.int .i64 (most : Int)) := ba1.cell 3
  have q1 : w1.cell? ⟨w.heap.size + 1, 1, none⟩ = some (.slice A l.length c) := bb1.cell 1
  have lx := ba1.lt
  have lq := bb1.lt
  have Hhat := Lib.hid hat'
  have HF' := Lib.hid hF'
  have Hhe := Lib.hid he
  have Hbc := Lib.hid bc1
  have Hnb := Lib.hid nb
  clear ba bb bc ba1 bb1 bc1 hat' hF' nb
  go_wp2_with fail
  refine (Hr.out w1 he).mono ?_
  rintro e w2 ⟨v', rfl, hr', hk2⟩
  have bc2 := Hbc.out.keep hk2
  have z0 : w2.cell? ⟨w.heap.size + 1 + 1, 0, none⟩ = some (.slice none 0 0) := bc2.cell 0
  have z1 : w2.cell? ⟨w.heap.size + 1 + 1, 1, none⟩ = some (.slice none 0 0) := bc2.cell 1
  have z2 : w2.cell? ⟨w.heap.size + 1 + 1, 2, none⟩ = some (.slice none 0 0) := bc2.cell 2
  have z3 : w2.cell? ⟨w.heap.size + 1 + 1, 3, none⟩ = some (.int .i64 0) := bc2.cell 3
  have fz := bc2.frozen
  have lz := bc2.lt
  clear bc2 x0 x1 x2 x3 q1 lx lq he
  obtain ⟨B1, B2, B3, d1, d2, d3, most', rfl, t1, t2, t3, tr⟩ := id hr'
  have Hr' := Lib.hid hr'
  clear hr' t1 t2 t3 tr
  have hbe : ((s.shut l).2 == (s.shut l).2) = true := by simp
  go_wp2
  refine bodyPost_ret (v := .tuple #[(.agg #[.slice B1 ((s.shut l).1).T.length d1, .slice B2 ((s.shut l).1).P.length d2, .slice B3 ((s.shut l).1).P.length d3, .int .i64 (most' : Int)]), .bool true]) (by simp [results, Try.results17, go_sem, z0, z1, z2, z3, lz]) rfl ⟨_, rfl, plays_left Hh.out hka hz Hhe.out Hhat.out HF'.out hk2 Hr'.out hG hGl ?_⟩
  exact (((((Ext.refl (fun k => k = w.heap.size + 2) w2).setCell (p := ⟨w.heap.size + 1 + 1, 0, none⟩) (fun _ => rfl) _).setCell (p := ⟨w.heap.size + 1 + 1, 1, none⟩) (fun _ => rfl) _).setCell (p := ⟨w.heap.size + 1 + 1, 2, none⟩) (fun _ => rfl) _).setCell (p := ⟨w.heap.size + 1 + 1, 3, none⟩) (fun _ => rfl) _).alloc _


set_option maxHeartbeats 1000000 in
theorem plays_want {F G : Nat → Prop} {b : Nat} {s : Stk} {w : World} {v : Value} (h : At F w b s) (hr : RefAt G w v s) (hG : ∀ k, G k → F k → False) (hGl : ∀ k, G k → k < w.heap.size) (hok : s.Ok) (l : List Int) (A : Option Addr) (c : Nat) (hs : Seg w A (l.flatMap valC)) (hA : Out F A l.length)
    (hn : s.T.length + l.length ≤ 1000000) (hm : s.P.length ≤ 1000000) :
    Calls Try.prog 17 #[.pointer (some ⟨b, 0, none⟩), v, .agg #[.int .i64 3, .slice A l.length c]] w fun e w' => ∃ v', e = .returned (.tuple #[v', .bool true]) ∧ PlaysLeft F G w b ((s.want l).1) v' w' := by
  obtain ⟨A1, A2, A3, c1, c2, c3, most, rfl, s1, s2, s3, ho, hc1, hc2, hc3, hmost, g1, g2, g3⟩ := id hr
  have hn' : s.T.length ≤ 1000000 := by omega
  have hl : l.length ≤ 1000000 := by omega
  obtain ⟨wa, hwa⟩ : ∃ wa : World, wa = ((w.alloc (.cells (rcells A1 A2 A3 s.T.length s.P.length c1 c2 c3 most).toArray 31)).alloc (.cells (actCells 3 A l c).toArray 36)).alloc (.cells rzero.toArray 31) := ⟨_, rfl⟩
  obtain ⟨hka, ba, bb, bc, hz⟩ := play_boxes w _ _ hwa
  have Hs := Lib.hid (want_calls (h.keep hka) hok l A c (hs.keep hka) hn' hm hl)
  have Hr := Lib.hid (fun (w1 : World) (he : Ext F wa w1) => refWant_calls (refIs_ext s1 s2 s3 ho hc1 hc2 hc3 hmost g1 g2 g3 hka he hG) hok l A c (hs.keep hka |>.out he hA) hn' hm hl)
  have Hh := Lib.hid h
  have nb : ∀ i, ¬ F (w.heap.size + i) := fun i hf => by have := h.lt _ hf; omega
  have ho' := Lib.hid ho
  clear ho
  go_enter Try.func17, Try.ntmps17
  go_wp2_with fail
  show Calls Try.prog _ _ (((w.alloc (.cells (rcells A1 A2 A3 s.T.length s.P.length c1 c2 c3 most).toArray 31)).alloc (.cells (actCells 3 A l c).toArray 36)).alloc (.cells rzero.toArray 31)) _
  rw [← hwa]
  clear hwa
  refine Hs.out.mono ?_
  rintro e w1 ⟨rfl, he, F', hat', hF'⟩
  have ba1 := ba.ext he (nb 0)
  have bb1 := bb.ext he (nb 1)
  have bc1 := bc.ext he (nb 2)
  have x0 : w1.cell? ⟨w.heap.size, 0, none⟩ = some (.slice A1 s.T.length c1) := ba1.cell 0
  have x1 : w1.cell? ⟨w.heap.size, 1, none⟩ = some (.slice A2 s.P.length c2) := ba1.cell 1
  have x2 : w1.cell? ⟨w.heap.size, 2, none⟩ = some (.slice A3 s.P.length c3) := ba1.cell 2
  have x3 : w1.cell? ⟨w.heap.size, 3, none⟩ = some (.int .i64 (most : Int)) := ba1.cell 3
  have q1 : w1.cell? ⟨w.heap.size + 1, 1, none⟩ = some (.slice A l.length c) := bb1.cell 1
  have lx := ba1.lt
  have lq := bb1.lt
  have Hhat := Lib.hid hat'
  have HF' := Lib.hid hF'
  have Hhe := Lib.hid he
  have Hbc := Lib.hid bc1
  have Hnb := Lib.hid nb
  clear ba bb bc ba1 bb1 bc1 hat' hF' nb
  go_wp2_with fail
  refine (Hr.out w1 he).mono ?_
  rintro e w2 ⟨rfl, hk2⟩
  have bc2 := Hbc.out.keep hk2
  have z0 : w2.cell? ⟨w.heap.size + 1 + 1, 0, none⟩ = some (.slice none 0 0) := bc2.cell 0
  have z1 : w2.cell? ⟨w.heap.size + 1 + 1, 1, none⟩ = some (.slice none 0 0) := bc2.cell 1
  have z2 : w2.cell? ⟨w.heap.size + 1 + 1, 2, none⟩ = some (.slice none 0 0) := bc2.cell 2
  have z3 : w2.cell? ⟨w.heap.size + 1 + 1, 3, none⟩ = some (.int .i64 0) := bc2.cell 3
  have fz := bc2.frozen
  have lz := bc2.lt
  clear bc2 x0 x1 x2 x3 q1 lx lq he
  have Hr' := Lib.hid ((refAt_cut (refIs_ext s1 s2 s3 ho'.out hc1 hc2 hc3 hmost g1 g2 g3 hka Hhe.out hG) (g1.grow w1) (g2.grow w1) (g3.grow w1) (s.want_cut l)).keep hk2)
  have hbe : ((s.want l).2 == (s.want l).2) = true := by simp
  go_wp2
  refine bodyPost_ret (v := .tuple #[(.agg #[.slice A1 ((s.want l).1).T.length c1, .slice A2 s.P.length c2, .slice A3 s.P.length c3, .int .i64 (most : Int)]), .bool true]) (by simp [results, Try.results17, go_sem, z0, z1, z2, z3, lz]) rfl ⟨_, rfl, plays_left Hh.out hka hz Hhe.out Hhat.out HF'.out hk2 Hr'.out hG hGl ?_⟩
  exact (((((Ext.refl (fun k => k = w.heap.size + 2) w2).setCell (p := ⟨w.heap.size + 1 + 1, 0, none⟩) (fun _ => rfl) _).setCell (p := ⟨w.heap.size + 1 + 1, 1, none⟩) (fun _ => rfl) _).setCell (p := ⟨w.heap.size + 1 + 1, 2, none⟩) (fun _ => rfl) _).setCell (p := ⟨w.heap.size + 1 + 1, 3, none⟩) (fun _ => rfl) _).alloc _


set_option maxHeartbeats 1000000 in
theorem plays_pop {F G : Nat → Prop} {b : Nat} {s : Stk} {w : World} {v : Value} (h : At F w b s) (hr : RefAt G w v s) (hG : ∀ k, G k → F k → False) (hGl : ∀ k, G k → k < w.heap.size) (hok : s.Ok) (l : List Int) (A : Option Addr) (c : Nat) (hs : Seg w A (l.flatMap valC)) (hA : Out F A l.length)
    (hn : s.T.length + l.length ≤ 1000000) (hm : s.P.length ≤ 1000000) :
    Calls Try.prog 17 #[.pointer (some ⟨b, 0, none⟩), v, .agg #[.int .i64 2, .slice A l.length c]] w fun e w' => ∃ v', e = .returned (.tuple #[v', .bool true]) ∧ PlaysLeft F G w b (s.pop.1) v' w' := by
  obtain ⟨A1, A2, A3, c1, c2, c3, most, rfl, s1, s2, s3, ho, hc1, hc2, hc3, hmost, g1, g2, g3⟩ := id hr
  have hn' : s.T.length ≤ 1000000 := by omega
  have hl : l.length ≤ 1000000 := by omega
  obtain ⟨wa, hwa⟩ : ∃ wa : World, wa = ((w.alloc (.cells (rcells A1 A2 A3 s.T.length s.P.length c1 c2 c3 most).toArray 31)).alloc (.cells (actCells 2 A l c).toArray 36)).alloc (.cells rzero.toArray 31) := ⟨_, rfl⟩
  obtain ⟨hka, ba, bb, bc, hz⟩ := play_boxes w _ _ hwa
  have Hs := Lib.hid (pop_calls (h.keep hka) hok hn' hm)
  have Hr := Lib.hid (fun (w1 : World) (he : Ext F wa w1) => refPop_calls (refIs_ext s1 s2 s3 ho hc1 hc2 hc3 hmost g1 g2 g3 hka he hG) hok hn' hm)
  have Hh := Lib.hid h
  have nb : ∀ i, ¬ F (w.heap.size + i) := fun i hf => by have := h.lt _ hf; omega
  have ho' := Lib.hid ho
  clear ho
  go_enter Try.func17, Try.ntmps17
  go_wp2_with fail
  show Calls Try.prog _ _ (((w.alloc (.cells (rcells A1 A2 A3 s.T.length s.P.length c1 c2 c3 most).toArray 31)).alloc (.cells (actCells 2 A l c).toArray 36)).alloc (.cells rzero.toArray 31)) _
  rw [← hwa]
  clear hwa
  refine Hs.out.mono ?_
  rintro e w1 ⟨rfl, he, F', hat', hF'⟩
  have ba1 := ba.ext he (nb 0)
  have bb1 := bb.ext he (nb 1)
  have bc1 := bc.ext he (nb 2)
  have x0 : w1.cell? ⟨w.heap.size, 0, none⟩ = some (.slice A1 s.T.length c1) := ba1.cell 0
  have x1 : w1.cell? ⟨w.heap.size, 1, none⟩ = some (.slice A2 s.P.length c2) := ba1.cell 1
  have x2 : w1.cell? ⟨w.heap.size, 2, none⟩ = some (.slice A3 s.P.length c3) := ba1.cell 2
  have x3 : w1.cell? ⟨w.heap.size, 3, none⟩ = some (.int .i64 (most : Int)) := ba1.cell 3
  have q1 : w1.cell? ⟨w.heap.size + 1, 1, none⟩ = some (.slice A l.length c) := bb1.cell 1
  have lx := ba1.lt
  have lq := bb1.lt
  have Hhat := Lib.hid hat'
  have HF' := Lib.hid hF'
  have Hhe := Lib.hid he
  have Hbc := Lib.hid bc1
  have Hnb := Lib.hid nb
  clear ba bb bc ba1 bb1 bc1 hat' hF' nb
  go_wp2_with fail
  refine (Hr.out w1 he).mono ?_
  rintro e w2 ⟨rfl, hk2⟩
  have bc2 := Hbc.out.keep hk2
  have z0 : w2.cell? ⟨w.heap.size + 1 + 1, 0, none⟩ = some (.slice none 0 0) := bc2.cell 0
  have z1 : w2.cell? ⟨w.heap.size + 1 + 1, 1, none⟩ = some (.slice none 0 0) := bc2.cell 1
  have z2 : w2.cell? ⟨w.heap.size + 1 + 1, 2, none⟩ = some (.slice none 0 0) := bc2.cell 2
  have z3 : w2.cell? ⟨w.heap.size + 1 + 1, 3, none⟩ = some (.int .i64 0) := bc2.cell 3
  have fz := bc2.frozen
  have lz := bc2.lt
  clear bc2 x0 x1 x2 x3 q1 lx lq he
  have Hr' := Lib.hid ((refAt_cut (refIs_ext s1 s2 s3 ho'.out hc1 hc2 hc3 hmost g1 g2 g3 hka Hhe.out hG) (g1.grow w1) (g2.grow w1) (g3.grow w1) (s.pop_cut)).keep hk2)
  have hbe : (s.pop.2.1 == s.pop.2.1) = true := by simp
  have hbf : (s.pop.2.2 == s.pop.2.2) = true := by simp
  go_wp2
  refine bodyPost_ret (v := .tuple #[(.agg #[.slice A1 (s.pop.1).T.length c1, .slice A2 s.P.length c2, .slice A3 s.P.length c3, .int .i64 (most : Int)]), .bool true]) (by simp [results, Try.results17, go_sem, z0, z1, z2, z3, lz]) rfl ⟨_, rfl, plays_left Hh.out hka hz Hhe.out Hhat.out HF'.out hk2 Hr'.out hG hGl ?_⟩
  exact (((((Ext.refl (fun k => k = w.heap.size + 2) w2).setCell (p := ⟨w.heap.size + 1 + 1, 0, none⟩) (fun _ => rfl) _).setCell (p := ⟨w.heap.size + 1 + 1, 1, none⟩) (fun _ => rfl) _).setCell (p := ⟨w.heap.size + 1 + 1, 2, none⟩) (fun _ => rfl) _).setCell (p := ⟨w.heap.size + 1 + 1, 3, none⟩) (fun _ => rfl) _).alloc _


theorem plays_none {F G : Nat → Prop} {b : Nat} {s : Stk} {w : World} {v : Value} (h : At F w b s) (hr : RefAt G w v s) (hG : ∀ k, G k → F k → False) (hGl : ∀ k, G k → k < w.heap.size) (l : List Int) (A : Option Addr) (c : Nat) (n : Int)
    (n1 : (n == 1) = false) (n2 : (n == 2) = false) (n3 : (n == 3) = false) (n4 : (n == 4) = false) (n5 : (n == 5) = false) (n6 : (n == 6) = false) :
    Calls Try.prog 17 #[.pointer (some ⟨b, 0, none⟩), v, .agg #[.int .i64 n, .slice A l.length c]] w fun e w' => ∃ v', e = .returned (.tuple #[v', .bool true]) ∧ PlaysLeft F G w b s v' w' := by
  obtain ⟨A1, A2, A3, c1, c2, c3, most, rfl, s1, s2, s3, ho, hc1, hc2, hc3, hmost, g1, g2, g3⟩ := id hr
  have Hr := Lib.hid hr
  clear ho hr
  have hfin : ∀ W, Keep w W → PlaysLeft F G w b s (.agg #[.slice A1 s.T.length c1, .slice A2 s.P.length c2, .slice A3 s.P.length c3, .int .i64 (most : Int)]) W := fun W hk =>
    ⟨hk.ext F, F, G, h.keep hk, Hr.out.keep hk, hG, fun k hk => .inl hk, fun k hk' => Nat.lt_of_lt_of_le (hGl k hk') hk.size, fun k hk => .inl hk⟩
  have Hfin := Lib.hid hfin
  clear hfin
  go_enter Try.func17, Try.ntmps17
  go_wp2
  refine bodyPost_ret (v := .tuple #[.agg #[.slice A1 s.T.length c1, .slice A2 s.P.length c2, .slice A3 s.P.length c3, .int .i64 (most : Int)], .bool true]) (by simp [results, Try.results17, go_sem]) rfl ⟨_, rfl, Hfin.out _ ?_⟩
  exact (((Keep.refl _).alloc _).alloc _).alloc _

theorem plays_calls {F G : Nat → Prop} {b : Nat} {s : Stk} {w : World} {v : Value} (h : At F w b s) (hr : RefAt G w v s) (hG : ∀ k, G k → F k → False) (hGl : ∀ k, G k → k < w.heap.size) (hok : s.Ok) (n : Int) (l : List Int) (A : Option Addr) (c : Nat) (hs : Seg w A (l.flatMap valC)) (hA : Out F A l.length)
    (hn : s.T.length + l.length ≤ 1000000) (hm : s.P.length ≤ 1000000) :
    Calls Try.prog 17 #[.pointer (some ⟨b, 0, none⟩), v, .agg #[.int .i64 n, .slice A l.length c]] w fun e w' => ∃ v', e = .returned (.tuple #[v', .bool true]) ∧ PlaysLeft F G w b (s.play n l) v' w' := by
  unfold Stk.play
  by_cases h1 : n = 1
  · subst h1; rw [if_pos rfl]; exact plays_push h hr hG hGl hok l A c hs hA hn hm
  rw [if_neg h1]
  by_cases h2 : n = 2
  · subst h2; rw [if_pos rfl]; exact plays_pop h hr hG hGl hok l A c hs hA hn hm
  rw [if_neg h2]
  by_cases h3 : n = 3
  · subst h3; rw [if_pos rfl]; exact plays_want h hr hG hGl hok l A c hs hA hn hm
  rw [if_neg h3]
  by_cases h4 : n = 4
  · subst h4; rw [if_pos rfl]; exact plays_open h hr hG hGl hok l A c hs hA hn hm
  rw [if_neg h4]
  by_cases h5 : n = 5
  · subst h5; rw [if_pos rfl]; exact plays_shut h hr hG hGl hok l A c hs hA hn hm
  rw [if_neg h5]
  by_cases h6 : n = 6
  · subst h6; rw [if_pos rfl]; exact plays_loose h hr hG hGl hok l A c hs hA hn hm
  rw [if_neg h6]
  exact plays_none h hr hG hGl l A c n (by simpa using h1) (by simpa using h2) (by simpa using h3) (by simpa using h4) (by simpa using h5) (by simpa using h6)
end Go.Proofs.Ytkeefajfndmpeaa
