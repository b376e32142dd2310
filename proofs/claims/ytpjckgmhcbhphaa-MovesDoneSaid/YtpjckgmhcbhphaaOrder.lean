/-
  moves.Order returns the specified sequence.
-/
import Derived.Test.YtpjckgmhcbhphaaRight
import Derived.Test.YtpjckgmhcbhphaaContains
import Derived.Test.YtpjckgmhcbhphaaFirst
namespace Go.Proofs.Ytpjckgmhcbhphaa
open Go Go.RowKit

/-! ### The three loops, in plain words -/

def startTo (l : List Mv) (k : Nat) : List (Option Mv) := start (l.take k) ++ List.replicate (l.length - k) none

theorem startTo_length (l : List Mv) {k : Nat} (hk : k ≤ l.length) : (startTo l k).length = l.length := by
  unfold startTo start; simp; omega
theorem startTo_end (l : List Mv) : startTo l l.length = start l := by simp [startTo]
theorem startTo_zero (l : List Mv) : startTo l 0 = List.replicate l.length none := by simp [startTo, start]
theorem startTo_split (l : List Mv) {k : Nat} (hk : k < l.length) : startTo l k = start (l.take k) ++ none :: List.replicate (l.length - (k + 1)) none := by
  unfold startTo
  rw [show l.length - k = (l.length - (k + 1)) + 1 by omega, List.replicate_succ]
theorem startTo_succ (l : List Mv) {k : Nat} (hk : k < l.length) : startTo l (k + 1) = start (l.take k) ++ (if l[k].1 != l[k].2 then some l[k] else none) :: List.replicate (l.length - (k + 1)) none := by
  unfold startTo
  rw [take_snoc l hk]
  unfold start
  rw [List.map_append, List.append_assoc]; rfl
theorem start_length (l : List Mv) : (start l).length = l.length := by simp [start]
theorem startTo_put (l : List Mv) {k : Nat} (hk : k < l.length) (h : ¬ l[k].1 = l[k].2) : startTo l (k + 1) = (startTo l k).set k (some l[k]) := by
  have h1 : (l[k].1 != l[k].2) = true := by simpa using h
  have h2 : (start (l.take k)).length = k := by rw [start_length]; simp; omega
  rw [startTo_succ l hk, startTo_split l hk, if_pos h1, List.set_append, if_neg (by omega), h2, Nat.sub_self]
  rfl
theorem startTo_skip (l : List Mv) {k : Nat} (hk : k < l.length) (h : l[k].1 = l[k].2) : startTo l (k + 1) = startTo l k := by
  rw [startTo_succ l hk, startTo_split l hk]
  simp [h]

def turnTo (L : List (Option Mv)) (f free : Plc) (k : Nat) : List (Option Mv) := (L.take k).map (Option.map (turn f free)) ++ L.drop k
theorem turnTo_zero (L : List (Option Mv)) (f free : Plc) : turnTo L f free 0 = L := by simp [turnTo]
theorem turnTo_end (L : List (Option Mv)) (f free : Plc) : turnTo L f free L.length = L.map (Option.map (turn f free)) := by simp [turnTo]
theorem turnTo_length (L : List (Option Mv)) (f free : Plc) (k : Nat) : (turnTo L f free k).length = L.length := by unfold turnTo; simp; omega
theorem turnTo_split (L : List (Option Mv)) (f free : Plc) {k : Nat} (hk : k < L.length) : turnTo L f free k = (L.take k).map (Option.map (turn f free)) ++ L[k] :: L.drop (k + 1) := by
  unfold turnTo; rw [List.drop_eq_getElem_cons hk]
theorem turnTo_succ (L : List (Option Mv)) (f free : Plc) {k : Nat} (hk : k < L.length) : turnTo L f free (k + 1) = (L.take k).map (Option.map (turn f free)) ++ (L[k].map (turn f free)) :: L.drop (k + 1) := by
  unfold turnTo; rw [take_snoc L hk, List.map_append, List.append_assoc]; rfl
theorem turnTo_get (L : List (Option Mv)) (f free : Plc) {k : Nat} (hk : k < L.length) : (turnTo L f free k).getD k none = L[k] := by
  rw [turnTo_split L f free hk]
  have h : ((L.take k).map (Option.map (turn f free))).length = k := by simp; omega
  rw [List.getD_eq_getElem?_getD, List.getElem?_append_right (by omega), h, Nat.sub_self]
  rfl
theorem turnTo_same (L : List (Option Mv)) (f free : Plc) {k : Nat} (hk : k < L.length) (h : L[k].map (turn f free) = L[k]) : turnTo L f free (k + 1) = turnTo L f free k := by
  rw [turnTo_succ L f free hk, turnTo_split L f free hk, h]
theorem turnTo_put (L : List (Option Mv)) (f free : Plc) {k : Nat} (hk : k < L.length) {x : Mv} (hx : L[k] = some x) (h : x.1 = f) : turnTo L f free (k + 1) = (turnTo L f free k).set k (some (free, x.2)) := by
  have hl : ((L.take k).map (Option.map (turn f free))).length = k := by simp; omega
  rw [turnTo_succ L f free hk, turnTo_split L f free hk, List.set_append, if_neg (by rw [hl]; omega), hl, hx]
  simp [turn, h]

/-- One step where a move is ready. -/
theorem step_ready {free : Plc} {L : List (Option Mv)} {i : Nat} {m : Mv} (hi : L[i]? = some (some m)) (hn : neededB L i m.2 = false) (hb : ∀ (j : Nat) (x : Mv), j < i → L[j]? = some (some x) → neededB L j x.2 = true) :
    stepR free (pend L) = (m, pend (L.set i none)) := by
  unfold stepR
  rw [ready_found hi hn hb]
  have ha := pend_at L i m hi
  simp only [List.getD_eq_getElem?_getD, ha, Option.getD_some, pend_set_none L i m hi]

/-- One step where none is. -/
theorem step_stuck {free : Plc} {L : List (Option Mv)} (hb : ∀ (j : Nat) (x : Mv), L[j]? = some (some x) → neededB L j x.2 = true) :
    stepR free (pend L) = ((((pend L).headD default).1, free), pend (L.map (Option.map (turn ((pend L).headD default).1 free)))) := by
  unfold stepR
  rw [ready_none hb, pend_map]

/-- What holds at the head of the main loop, when at most g rounds are to come. -/
def OrdSt (l : List Mv) (free : Plc) (w1 : World) (B : Nat) (g : Nat) (v : Value) (wr : World) : Prop :=
  ∃ (L : List (Option Mv)) (out : List Mv), L.length = l.length ∧ LeftIs wr B L ∧ Pend free (pend L) ∧ mu free (pend L) ≤ g ∧ out ++ orderN free g (pend L) = orderSpec l free ∧ out.length + g ≤ 2 * l.length ∧
    Own mvC 4 32 wr (B + 1) v out ∧ Keep w1 wr

theorem order_no (l : List Mv) (A : Option Addr) (c : Nat) (free : Plc) (w : World) (hs : Seg w A (l.flatMap mvC)) (hwf : ∀ m ∈ l, MvOk m) (hn : l.length ≤ 1000000) (hno : (rightB l && !namesB l free) = false) :
    Calls Try.prog 13 #[.slice A l.length c, .agg #[.bool free.1, .int .i64 free.2]] w fun e w' => e = .returned (.slice none 0 0) ∧ Keep w w' := by
  have hcr := Lib.hid (right_calls l A c (w.alloc (.cells #[.bool free.1, .int .i64 free.2] 24)) (hs.keep ((Keep.refl _).alloc _)) hwf hn)
  cases hr : rightB l
  · rw [hr] at hcr
    go_enter Try.func13, Try.ntmps13
    go_wp2_with (go_at_call 10; refine hcr.out.mono ?_; rintro e w1 ⟨rfl, hk1⟩)
    go_ret
    exact ⟨rfl, ((Keep.refl _).alloc _).trans hk1⟩
  · have hnm : namesB l free = true := by rw [hr] at hno; simpa using hno
    rw [hr] at hcr
    go_enter Try.func13, Try.ntmps13
    go_wp2_with (go_at_call 10; refine hcr.out.mono ?_; rintro e w1 ⟨rfl, hk1⟩)
    have hblk := (Blk.new w 24 [.bool free.1, .int .i64 free.2]).keep hk1
    have hcc := contains_calls l A c free w.heap.size w1 (hs.keep (((Keep.refl _).alloc _).trans hk1)) hn hblk.lt (hblk.cell 0) (hblk.cell 1)
    rw [hnm] at hcc
    refine hcc.mono ?_
    rintro e w2 ⟨rfl, hk2⟩
    go_wp2
    go_ret
    exact ⟨rfl, (((Keep.refl _).alloc _).trans hk1).trans hk2⟩

/-- The field 'From' of a move. -/
theorem mv_from (a b : Bool) (m n : Int) (w : World) : (Instr.field 32 (.agg #[.bool a, .int .i64 m, .bool b, .int .i64 n]) 0).run Try.prog w = .ok (.agg #[.bool a, .int .i64 m]) w := by kernel_rfl

theorem order_yes (l : List Mv) (A : Option Addr) (c : Nat) (free : Plc) (w : World) (hs : Seg w A (l.flatMap mvC)) (hwf : ∀ m ∈ l, MvOk m) (hn : l.length ≤ 1000000) (hr : rightB l = true) (hnm : namesB l free = false) :
    Calls Try.prog 13 #[.slice A l.length c, .agg #[.bool free.1, .int .i64 free.2]] w fun e w' => ∃ v, e = .returned v ∧ Own mvC 4 32 w' w.heap.size v (orderSpec l free) ∧ Keep w w' := by
  have hcr := Lib.hid (right_calls l A c (w.alloc (.cells #[.bool free.1, .int .i64 free.2] 24)) (hs.keep ((Keep.refl _).alloc _)) hwf hn)
  rw [hr] at hcr
  have hpe := Lib.hid (effective_pend hr hnm)
  have hsp : orderSpec l free = orderN free (2 * l.length) (effective l) := by unfold orderSpec; rw [hr, hnm]; rfl
  have Hsp := Lib.hid hsp
  have heq := plc_eql
  have hneq := plc_neq
  have hfld := mv_from
  have hmm := @run_makeMap Try.prog
  clear hsp hr
  go_enter Try.func13, Try.ntmps13
  go_wp2_with (go_at_call 10; refine hcr.out.mono ?_; rintro e w1 ⟨rfl, hk1⟩)
  have hblk := (Blk.new w 24 [.bool free.1, .int .i64 free.2]).keep hk1
  have hcc := contains_calls l A c free w.heap.size w1 (hs.keep (((Keep.refl _).alloc _).trans hk1)) hn hblk.lt (hblk.cell 0) (hblk.cell 1)
  rw [hnm] at hcc
  refine hcc.mono ?_
  rintro e w2 ⟨rfl, hk2⟩
  have hkw : Keep w w2 := (((Keep.refl _).alloc _).trans hk1).trans hk2
  have hblk2 := hblk.keep hk2
  clear hcr hcc hnm hblk hk1 hk2
  go_wp2
  go_loopw [25] (fun i wr => ∃ k : Nat, k ≤ l.length ∧ i = .int .i64 k ∧ LeftIs wr w2.heap.size (startTo l k) ∧ Keep w2 wr) (fun i _ => l.length - (intOf i).toNat)
  case atStart =>
    exact ⟨0, Nat.zero_le _, rfl, by rw [startTo_zero]; exact left_made w2 _, (Keep.refl _).alloc _⟩
  case round =>
    obtain ⟨k, hk, rfl, hL, hkeep⟩ := hrel
    by_cases hlt : k < l.length
    · obtain ⟨b, off, rfl, hb, c0, c1, c2, c3⟩ := mv_at (hs.keep hkw) hkeep hlt
      by_cases heq' : l[k].1 = l[k].2
      · have hpe := plcEq_true heq'
        have Hs := Lib.hid (startTo_skip l hlt heq')
        clear heq'
        go_wp2
        go_roundw
        case rel => exact ⟨k + 1, hlt, by go_num, by rw [Hs.out]; exact hL.keep ((Keep.refl _).alloc _), hkeep.alloc _⟩
        case measure => simp [intOf]; omega
      · have hpe := plcEq_false heq'
        have Hs := Lib.hid (startTo_put l hlt heq')
        obtain ⟨W', hrun, hL', hg⟩ := left_put hL k (by rw [startTo_length l hk]; exact hlt) (by rw [startTo_length l hk]; exact hn) l[k] (wr.alloc (.cells #[.bool l[k].1.1, .int .i64 l[k].1.2, .bool l[k].2.1, .int .i64 l[k].2.2] 32)) (Below.heap_alloc wr _ _ hL.lt)
        clear heq'
        go_wp2
        go_roundw
        case rel => exact ⟨k + 1, hlt, by go_num, by rw [Hs.out]; exact hL', (hkeep.alloc _).grown hg (fun j hj => by cases hj; exact Nat.le_refl _)⟩
        case measure => simp [intOf]; omega
    · have hkl : k = l.length := by omega
      have hL2 : LeftIs wr w2.heap.size (start l) := by rw [← startTo_end, ← hkl]; exact hL
      obtain ⟨w3, rfl⟩ : ∃ w3 : World, w3 = wr := ⟨_, rfl⟩
      have hst : OrdSt l free w2 w2.heap.size (2 * l.length) (.slice none 0 0) w3 :=
        ⟨start l, [], start_length l, hL2, by rw [pend_start]; exact hpe.out, by rw [pend_start]; exact effective_mu, by rw [pend_start, Hsp.out]; rfl, by simp, Own.nil _ _ _ _ _, hkeep⟩
      clear hkl hL hL2 hk
      go_wp2
      go_loopg [8] (2 * l.length) (fun g v wr => OrdSt l free w2 w2.heap.size g v wr)
      case atStart => exact hst
      case round =>
        obtain ⟨L, out, hlen, hL, hp, hmu, hout, hol, hown, hkeep2⟩ := hrel
        have hll := fun ty => left_len hL wr rfl ty
        have hlt2 := hL.lt
        by_cases hne : pend L = []
        · have hz : (pend L).length = 0 := by rw [hne]; rfl
          have hfin : out = orderSpec l free := by rw [← hout, hne, orderN_nil, List.append_nil]
          rw [hz] at hll
          have Hf := Lib.hid hfin
          clear hfin hz hne hout
          go_wp2
          go_ret
          exact ⟨_, rfl, by rw [← Hf.out]; exact hown.mono (Nat.le_trans hkw.size (Nat.le_succ _)), hkw.trans hkeep2⟩
        · have hpos : 0 < (pend L).length := List.length_pos_iff.2 hne
          obtain ⟨g, rfl, hstep, hmu'⟩ := orderN_step hp hne hmu
          have hp' := step_pend hp
          have hcall := ready_calls L A c w2.heap.size wr hL (by omega)
          rw [hlen] at hcall
          have Hcall := Lib.hid hcall
          have Hstep := Lib.hid hstep
          have Hout := Lib.hid hout
          have Hlen := Lib.hid hlen
          clear hcall hstep hout hlen
          go_wp2_with fail
          refine Hcall.out.mono ?_
          rintro e w4 ⟨r, rfl, hr, hk4⟩
          have hL4 := hL.keep hk4
          have hlt4 := hL4.lt
          have hown4 := hown.keep hk4
          have hnB : ∀ j, u8.ownBlock = some j → w2.heap.size + 1 ≤ j := fun j hj => (hown4.lt j hj).1
          clear hll
          rcases hr with ⟨rfl, hb⟩ | ⟨i, m, rfl, hi, hnd, hb⟩
          rotate_left
          · have hst' := Lib.hid (step_ready (free := free) hi hnd hb)
            have hilt : i < L.length := (List.getElem?_eq_some_iff.1 hi).1
            have hi6 : L.length ≤ 1000000 := by rw [Hlen.out]; exact hn
            have hlk := left_look hL4 i (by omega) w4 rfl false
            have hg : L.getD i none = some m := by simp [List.getD, hi]
            rw [hg] at hlk
            simp only [Bool.false_eq_true, if_false, mvV, Option.getD_some] at hlk
            obtain ⟨v', w5, hap0, hown5, hg5, hblk5⟩ := append_run (ys := [m]) elMv (hown4.alloc (.cells (mvC m).toArray 32)) (Seg.of_blk (Blk.new w4 32 (mvC m))) 1 22 (by simp only [List.length_singleton, maxLen]; omega) (by simp only [List.length_singleton]; omega) (by simp; omega)
            have hap : (Builtin.append_ #[22, 22] 22 #[u8, .slice (some ⟨w4.heap.size, 0, none⟩) 1 1]).run Try.prog (w4.alloc (.cells #[.bool m.1.1, .int .i64 m.1.2, .bool m.2.1, .int .i64 m.2.2] 32)) = .ok v' w5 := hap0
            have hWB : w5.heap[w2.heap.size]? = w4.heap[w2.heap.size]? := (hg5.block _ (by simp; omega) (fun e => by have := hnB _ e.symm; omega)).trans (Below.heap_alloc w4 _ _ hlt4)
            obtain ⟨w6, hdel, hL6, hg6⟩ := left_del hL4 i m hi hi6 w5 hWB 3 0
            have Hfin := Lib.hid (show OrdSt l free w2 w2.heap.size g v' w6 by
              have e1 := hst'.out
              refine ⟨L.set i none, out ++ [m], by rw [List.length_set]; exact Hlen.out, hL6, ?_, ?_, ?_, by simp; omega, ?_, ?_⟩
              · rw [e1] at hp'; exact hp'
              · rw [e1] at hmu'; exact hmu'
              · rw [← Hout.out, Hstep.out, e1]; simp
              · refine hown5.grown hg6 (.inr fun e => ?_)
                rcases hblk5 with h | h
                · rw [h] at e; have := hnB _ e; omega
                · rw [h] at e; simp at e; omega
              · exact (((hkeep2.trans hk4).alloc _).grown hg5 (fun j hj => by have := hnB j hj; omega)).grown hg6 (fun j hj => by cases hj; exact Nat.le_refl _))
            clear hap0 hown5 hg5 hblk5 hWB hL6 hg6 hg hi hnd hb hp hp' hmu hmu' hol
            go_wp2_with (first | (at_builtin; refine wpList_append_eq rfl _ _ _ rfl _ _ rfl rfl _ _ hap ?_) | (at_delete; refine wpList_delete_eq rfl _ _ _ _ rfl _ _ rfl rfl _ _ hdel ?_))
            go_roundg g
            case measure => omega
            case rel => exact Hfin.out
          · have hst' := step_stuck (free := free) hb
            have hcf := first_calls L A c w2.heap.size w4 hL4 (by rw [Hlen.out]; exact hn)
            rw [Hlen.out] at hcf
            generalize (pend L).headD default = h at hst' hcf
            simp only [mvV] at hcf
            have Hst := Lib.hid hst'
            have Hcf := Lib.hid hcf
            clear hst' hcf hb
            go_wp2_with fail
            refine Hcf.out.mono ?_
            rintro e w5 ⟨rfl, hk5⟩
            have hL5 := hL4.keep hk5
            have hlt5 := hL5.lt
            have hown5 := hown4.keep hk5
            have hfb := hblk2.keep (hkeep2.trans (hk4.trans hk5))
            have hfl := hfb.lt
            have f0 : w5.cell? ⟨w.heap.size, 0, none⟩ = some (.bool free.1) := hfb.cell 0
            have f1 : w5.cell? ⟨w.heap.size, 1, none⟩ = some (.int .i64 free.2) := hfb.cell 1
            obtain ⟨v', w6, hap0, hown6, hg6, hblk6⟩ := append_run (ys := [((h.1, free) : Mv)]) elMv ((hown5.alloc (.cells (plcC h.1).toArray 24)).alloc (.cells (mvC (h.1, free)).toArray 32)) (Seg.of_blk (Blk.new (w5.alloc (.cells (plcC h.1).toArray 24)) 32 (mvC (h.1, free)))) 1 22 (by simp only [List.length_singleton, maxLen]; omega) (by simp only [List.length_singleton]; omega) (by simp; omega)
            have hap : (Builtin.append_ #[22, 22] 22 #[u8, .slice (some ⟨w5.heap.size + 1, 0, none⟩) 1 1]).run Try.prog ((w5.alloc (.cells #[.bool h.1.1, .int .i64 h.1.2] 24)).alloc (.cells #[.bool h.1.1, .int .i64 h.1.2, .bool free.1, .int .i64 free.2] 32)) = .ok v' w6 := by
              rw [show w5.heap.size + 1 = (w5.alloc (.cells (plcC h.1).toArray 24)).heap.size by simp]; exact hap0
            have hk6 : Ext (fun j => u8.ownBlock = some j) w5 w6 := ((Ext.refl _ _).alloc _ |>.alloc _).grown hg6 (fun j hj _ => hj)
            have hL6 : LeftIs w6 w2.heap.size L := hL5.of_heap (hk6.block _ hlt5 (fun e => by have := hnB _ e; omega))
            have hfr6 : Blk w6 w5.heap.size 24 (plcC h.1) := by
              have h1 : Blk ((w5.alloc (.cells (plcC h.1).toArray 24)).alloc (.cells (mvC (h.1, free)).toArray 32)) w5.heap.size 24 (plcC h.1) := (Blk.new w5 _ _).keep ((Keep.refl _).alloc _)
              exact (hg6.block _ h1.lt (fun e => by have := (hown5.lt _ e.symm).2; omega)).trans h1
            have hfb6 : Blk w6 w.heap.size 24 [.bool free.1, .int .i64 free.2] := hfb.ext hk6 (fun e => by have := hnB _ e; have := hkw.size; omega)
            have hkeep6 : Keep w2 w6 := ((((hkeep2.trans hk4).trans hk5).alloc _).alloc _).grown hg6 (fun j hj => by have := hnB j hj; omega)
            have Hown6 : Own mvC 4 32 w6 (w2.heap.size + 1) v' (out ++ [(h.1, free)]) := hown6
            have hne6 : v'.ownBlock ≠ some w2.heap.size := fun e => by have := (Hown6.lt _ e).1; omega
            have hL6l := hL6.lt
            have hww : w.heap.size < w2.heap.size := hblk2.lt
            clear hap0 hown6 hg6 hblk6 hown4 hown5 hL4 hL5 hk4 hk5 hfb
            go_wp2_with (at_builtin; refine wpList_append_eq rfl _ _ _ rfl _ _ rfl rfl _ _ hap ?_)
            clear hap f0 f1
            obtain ⟨wq, rfl⟩ : ∃ wq : World, wq = wr := ⟨_, rfl⟩
            go_loopw [67] (fun i wi => ∃ k : Nat, k ≤ l.length ∧ i = .int .i64 k ∧ LeftIs wi w2.heap.size (turnTo L h.1 free k) ∧ Ext (fun j => j = w2.heap.size) w6 wi) (fun i _ => l.length - (intOf i).toNat)
            case atStart => exact ⟨0, Nat.zero_le _, rfl, by rw [turnTo_zero]; exact hL6, Ext.refl _ _⟩
            case round =>
              obtain ⟨k3, hk3, rfl, hL3, hx3⟩ := hrel
              have hs3 := hx3.size
              by_cases hlt3 : k3 < l.length
              · have hlt3' : k3 < L.length := by rw [Hlen.out]; exact hlt3
                have hlook := left_look hL3 k3 (by omega) wr rfl true
                rw [turnTo_get L h.1 free hlt3'] at hlook
                have d0 : wr.cell? ⟨w5.heap.size, 0, none⟩ = some (.bool h.1.1) := (hfr6.ext hx3 (by omega)).cell 0
                have d1 : wr.cell? ⟨w5.heap.size, 1, none⟩ = some (.int .i64 h.1.2) := (hfr6.ext hx3 (by omega)).cell 1
                have dl : w5.heap.size < wr.heap.size := (hfr6.ext hx3 (by omega)).lt
                have g0 : wr.cell? ⟨w.heap.size, 0, none⟩ = some (.bool free.1) := (hfb6.ext hx3 (by omega)).cell 0
                have g1 : wr.cell? ⟨w.heap.size, 1, none⟩ = some (.int .i64 free.2) := (hfb6.ext hx3 (by omega)).cell 1
                have gl : w.heap.size < wr.heap.size := (hfb6.ext hx3 (by omega)).lt
                cases hgk : L[k3] with
                | none =>
                  rw [hgk] at hlook
                  simp only [if_true, mvV, Option.getD_none, Option.isSome_none] at hlook
                  have Hs := Lib.hid (turnTo_same L h.1 free hlt3' (by rw [hgk]; rfl))
                  clear hgk
                  go_wp2
                  go_roundw
                  case rel => exact ⟨k3 + 1, hlt3, by go_num, by rw [Hs.out]; exact hL3.keep ((Keep.refl _).alloc _), hx3.alloc _⟩
                  case measure => simp [intOf]; omega
                | some x =>
                  rw [hgk] at hlook
                  simp only [if_true, mvV, Option.getD_some, Option.isSome_some] at hlook
                  by_cases hxf : x.1 = h.1
                  · have Hs := Lib.hid (turnTo_put L h.1 free hlt3' hgk hxf)
                    have hpq := plcEq_true hxf
                    obtain ⟨W', hrun, hL', hg⟩ := left_put hL3 k3 (by rw [turnTo_length]; exact hlt3') (by rw [turnTo_length, Hlen.out]; exact hn) (free, x.2) (wr.alloc (.cells #[.bool x.1.1, .int .i64 x.1.2, .bool x.2.1, .int .i64 x.2.2] 32)) (Below.heap_alloc wr _ _ hL3.lt)
                    clear hgk hxf
                    go_wp2
                    go_roundw
                    case rel => exact ⟨k3 + 1, hlt3, by go_num, by rw [Hs.out]; exact hL', (hx3.alloc _).grown hg (fun j hj _ => by cases hj; rfl)⟩
                    case measure => simp [intOf]; omega
                  · have Hs := Lib.hid (turnTo_same L h.1 free hlt3' (by rw [hgk]; simp [turn, hxf]))
                    have hpq := plcEq_false hxf
                    clear hgk hxf
                    go_wp2
                    go_roundw
                    case rel => exact ⟨k3 + 1, hlt3, by go_num, by rw [Hs.out]; exact hL3.keep ((Keep.refl _).alloc _), hx3.alloc _⟩
                    case measure => simp [intOf]; omega
              · have Hfin := Lib.hid (show OrdSt l free w2 w2.heap.size g v' wr by
                  have e1 := Hst.out
                  have hkl : k3 = L.length := by rw [Hlen.out]; omega
                  rw [hkl, turnTo_end] at hL3
                  refine ⟨_, out ++ [(h.1, free)], by rw [List.length_map]; exact Hlen.out, hL3, ?_, ?_, ?_, by simp; omega, ?_, ?_⟩
                  · rw [e1] at hp'; exact hp'
                  · rw [e1] at hmu'; exact hmu'
                  · rw [← Hout.out, Hstep.out, e1]; simp
                  · exact Hown6.ext hx3 (fun j hj e => hne6 (by rw [hj, e]))
                  · exact Below.trans hkeep6 (hx3.below hkeep6.size (fun j hj e => by omega)))
                clear hL3 hp hp' hmu hmu' hol
                go_wp2
                go_roundg g
                case measure => omega
                case rel => exact Hfin.out

/-- moves.Order. -/
theorem order_calls (l : List Mv) (A : Option Addr) (c : Nat) (free : Plc) (w : World) (hs : Seg w A (l.flatMap mvC)) (hwf : ∀ m ∈ l, MvOk m) (hn : l.length ≤ 1000000) :
    Calls Try.prog 13 #[.slice A l.length c, .agg #[.bool free.1, .int .i64 free.2]] w fun e w' => ∃ v, e = .returned v ∧ Own mvC 4 32 w' w.heap.size v (orderSpec l free) ∧ Keep w w' := by
  cases h : (rightB l && !namesB l free)
  · refine (order_no l A c free w hs hwf hn h).mono fun e w' ⟨he, hk⟩ => ⟨_, he, ?_, hk⟩
    unfold orderSpec
    rw [if_neg (by rw [h]; simp)]
    exact Own.nil _ _ _ _ _
  · simp only [Bool.and_eq_true, Bool.not_eq_true'] at h
    exact order_yes l A c free w hs hwf hn h.1 h.2
end Go.Proofs.Ytpjckgmhcbhphaa
