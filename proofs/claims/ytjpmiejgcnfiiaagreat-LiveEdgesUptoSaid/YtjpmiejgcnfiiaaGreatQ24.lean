import Derived.Test.YtjpmiejgcnfiiaaGreatQ20
set_option linter.unusedVariables false
set_option linter.unusedSimpArgs false
namespace Go.Proofs.YtjpmiejgcnfiiaaGreat
open Go Go.RowKit

set_option maxHeartbeats 4000000 in
set_option maxRecDepth 100000 in
theorem declared08_calls (m : MdD) (i : Int) (w : World) (h : MdOk w m) : Calls Tryz.prog 169 #[.agg (mdC m).toArray, .int .i64 i] w (RB w fun _ => True) := by
  obtain ⟨W, hW, kW, bW, sW⟩ := boxN w 33 (mdC m)
  have Hc := Lib.hid (fun (w' : World) (k : Keep W w') => (bW.keep k).md)
  have H := Lib.hid h
  have hl5 : m.globals.l.length ≤ 2000000 := h.globals.len
  have hl6 : m.exports.l.length ≤ 2000000 := h.exports.len
  have hl9 : m.elems.l.length ≤ 2000000 := h.elems.len
  obtain ⟨c0, c1, c2, c3, c4, c5, c6, c7, c8, c9, ca, cb, lt⟩ := Hc.out W (Keep.refl _)
  clear h bW sW
  by_cases hi0 : i < 0
  · go_enter Tryz.func169, Tryz.ntmps169
    go_wp2
    go_ret
    exact RB.mk rfl trivial kW
  go_enter Tryz.func169, Tryz.ntmps169
  go_wp2_with fail
  refine (funcs08_calls m _ (H.out.keep kW)).mono ?_
  rintro e w1 ⟨z, rfl, _, hk1⟩
  clear c0 c1 c2 c3 c4 c5 c6 c7 c8 c9 ca cb lt
  obtain ⟨c0, c1, c2, c3, c4, c5, c6, c7, c8, c9, ca, cb, lt⟩ := Hc.out w1 hk1
  have K1 := Lib.hid hk1
  have kw1 := kW.trans hk1
  clear hk1
  by_cases hz : z ≤ i
  · go_wp2
    go_ret
    exact RB.mk rfl trivial kw1
  go_wp2_with fail
  go_loopw [5] (fun vi wr => ∃ k : Nat, k ≤ m.exports.l.length ∧ vi = .int .i64 k ∧ wr = w1) (fun vi _ => m.exports.l.length - (intOf vi).toNat)
  case atStart => exact ⟨0, Nat.zero_le _, rfl, rfl⟩
  case round =>
    obtain ⟨k, hk, rfl, rfl⟩ := hrel
    by_cases hin : k < m.exports.l.length
    · obtain ⟨y, hy⟩ := get_some hin
      obtain ⟨b, off, hA, hb, hc⟩ := rw_get (s := 3) (fun _ => rfl) (by omega) H.out.exports kw1 hy
      have q1 : wr.cell? ⟨b, off + k * 3 + 1, none⟩ = some (.int .i64 y.kind) := hc 1 _ rfl
      have q2 : wr.cell? ⟨b, off + k * 3 + 2, none⟩ = some (.int .i64 y.index) := hc 2 _ rfl
      rw [hA] at c6
      have k1 : (k : Int) < (m.exports.l.length : Int) := by omega
      have k0 : (0 : Int) ≤ (k : Int) := by omega
      clear hc hy hA
      go_wp2
      all_goals first
        | (go_ret
           exact RB.mk rfl trivial kw1)
        | (go_roundw
           case rel => exact ⟨k + 1, hin, by go_num, trivial⟩
           case measure => simp [intOf]; omega)
    · clear c0 c1 c2 c3 c4 c7 c8 c9 ca cb
      go_wp2_with fail
      go_loopw [6] (fun vi wr => ∃ k : Nat, k ≤ m.globals.l.length ∧ vi = .int .i64 k ∧ Hid (Keep W wr)) (fun vi _ => m.globals.l.length - (intOf vi).toNat)
      case atStart => exact ⟨0, Nat.zero_le _, rfl, K1⟩
      case round =>
        clear c5 c6 lt K1 kw1
        obtain ⟨j, hj, rfl, hkeep⟩ := hrel
        have kw := kW.trans hkeep.out
        obtain ⟨c0, c1, c2, c3, c4, c5, c6, c7, c8, c9, ca, cb, lt⟩ := Hc.out _ hkeep.out
        by_cases hjn : j < m.globals.l.length
        · obtain ⟨y, hy⟩ := get_some hjn
          obtain ⟨b, off, hA, hb, hc⟩ := rw_get (s := 3) (fun _ => rfl) (by omega) H.out.globals kw hy
          have hin2 := (H.out.inits y (List.mem_of_getElem? hy)).keep kw
          obtain ⟨gv, gm, init⟩ := y
          have Hin2 := Lib.hid (show RowOk irC _ init from hin2)
          have q2 := (show World.cell? _ ⟨b, off + j * 3 + 2, none⟩ = some (.slice init.a init.l.length init.c) from hc 2 _ rfl)
          rw [hA] at c5
          have k1 : (j : Int) < (m.globals.l.length : Int) := by omega
          have k0 : (0 : Int) ≤ (j : Int) := by omega
          clear hc hy hin2 hA
          go_wp2_with (go_at_call 175; refine (names08_calls _ _ _ Hin2.out).mono ?_; rintro e w4 ⟨r, rfl, _, hk4⟩; have K4 := Lib.hid (hkeep.out.trans hk4); clear hk4)
          all_goals first
            | (go_ret
               exact RB.mk rfl trivial (kW.trans K4.out))
            | (go_roundw
               case rel => exact ⟨j + 1, hjn, by go_num, K4⟩
               case measure => simp [intOf]; omega)
        · have hkk := hkeep
          clear c0 c1 c2 c3 c4 c6 c7 c8 ca cb
          go_wp2_with fail
          go_loopw [7] (fun vi wr => ∃ k : Nat, k ≤ m.elems.l.length ∧ vi = .int .i64 k ∧ Hid (Keep W wr)) (fun vi _ => m.elems.l.length - (intOf vi).toNat)
          case atStart => exact ⟨0, Nat.zero_le _, rfl, hkk⟩
          case round =>
            clear c5 c9 lt hkk kw hkeep
            obtain ⟨k2, hk2, rfl, hkeep⟩ := hrel
            have kw := kW.trans hkeep.out
            obtain ⟨c0, c1, c2, c3, c4, c5, c6, c7, c8, c9, ca, cb, lt⟩ := Hc.out _ hkeep.out
            by_cases hkn : k2 < m.elems.l.length
            · obtain ⟨y, hy⟩ := get_some hkn
              obtain ⟨mode, tab, off0, typ, items⟩ := y
              have Hget := Lib.hid (fun (w' : World) (k : Keep W w') => rw_get (s := 5) (fun _ => rfl) (by omega) H.out.elems (kW.trans k) hy)
              have hit := H.out.items _ (List.mem_of_getElem? hy)
              have Hit := Lib.hid (show RowOk itC w items from hit.1)
              have Hiti := Lib.hid (show ∀ i ∈ items.l, RowOk irC w i from hit.2)
              obtain ⟨B, off, hA, hb, _⟩ := Hget.out _ hkeep.out
              have HA := Lib.hid hA
              have k1 : (k2 : Int) < (m.elems.l.length : Int) := by omega
              have k0 : (0 : Int) ≤ (k2 : Int) := by omega
              have hl4 : items.l.length ≤ 2000000 := Hit.out.len
              have Hq := Lib.hid (show ∀ (w' : World), Keep W w' → w'.cell? ⟨B, off + k2 * 5 + 4, none⟩ = some (.slice items.a items.l.length items.c) ∧ B < w'.heap.size ∧ w'.cell? ⟨w.heap.size, 9, none⟩ = some (.slice (some ⟨B, off, none⟩) m.elems.l.length m.elems.c) ∧ w.heap.size < w'.heap.size from fun w' k => by
                obtain ⟨_, _, e, _, hc⟩ := Hget.out w' k
                rw [HA.out] at e
                cases e
                refine ⟨hc 4 _ rfl, Nat.lt_of_lt_of_le hb (kW.trans k).size, ?_, (Hc.out w' k).lt⟩
                rw [← HA.out]
                exact (Hc.out w' k).c9)
              have hkk := hkeep
              clear hy hit c0 c1 c2 c3 c4 c5 c6 c7 c8 c9 ca cb lt hA hb
              obtain ⟨q4, lb, c9, lt⟩ := Hq.out _ hkeep.out
              go_wp2_with fail
              go_loopw [8] (fun vi wr => ∃ k : Nat, k ≤ items.l.length ∧ vi = .int .i64 k ∧ Hid (Keep W wr)) (fun vi _ => items.l.length - (intOf vi).toNat)
              case atStart => exact ⟨0, Nat.zero_le _, rfl, hkk⟩
              case round =>
                clear hkk kw hkeep q4 lb c9 lt
                obtain ⟨k3, hk3, rfl, hkeep⟩ := hrel
                have kw := kW.trans hkeep.out
                obtain ⟨q4, lb, c9, lt⟩ := Hq.out _ hkeep.out
                by_cases hk3n : k3 < items.l.length
                · obtain ⟨y, hy⟩ := get_some hk3n
                  obtain ⟨B2, off2, hA2, hb2, hc2⟩ := rw_get (s := 1) (fun _ => rfl) (by omega) Hit.out kw hy
                  have Hin2 := Lib.hid ((Hiti.out y (List.mem_of_getElem? hy)).keep kw)
                  have p0 := (show World.cell? _ ⟨B2, off2 + k3 * 1, none⟩ = some (.slice y.a y.l.length y.c) from hc2 0 _ rfl)
                  rw [Nat.mul_one] at p0
                  rw [hA2] at q4
                  have lb2 := Nat.lt_of_lt_of_le hb2 kw.size
                  have k31 : (k3 : Int) < (items.l.length : Int) := by omega
                  have k30 : (0 : Int) ≤ (k3 : Int) := by omega
                  clear hc2 hy hA2
                  go_wp2_with (go_at_call 175; refine (names08_calls _ _ _ Hin2.out).mono ?_; rintro e w4 ⟨r, rfl, _, hk4⟩; have K4 := Lib.hid (hkeep.out.trans hk4); clear hk4)
                  all_goals first
                    | (go_ret
                       exact RB.mk rfl trivial (kW.trans K4.out))
                    | (go_roundw
                       case rel => exact ⟨k3 + 1, hk3n, by go_num, K4⟩
                       case measure => simp [intOf]; omega)
                · go_wp2
                  go_roundw
                  case rel => exact ⟨k2 + 1, hkn, by go_num, hkeep⟩
                  case measure => simp [intOf]; omega
            · go_wp2
              go_ret
              exact RB.mk rfl trivial kw
end Go.Proofs.YtjpmiejgcnfiiaaGreat
namespace Go.Proofs.YtjpmiejgcnfiiaaGreat
open Go Go.RowKit

set_option maxHeartbeats 8000000 in
set_option maxRecDepth 100000 in
theorem call23_calls (m : MdD) (op a b n : Int) (w : World) (h : MdOk w m) (ha : (Lit.int .i64 a).wf = true) (hb : (Lit.int .i64 b).wf = true) : Calls Tryz.prog 157 #[.agg (mdC m).toArray, .agg #[.int .i64 op, .int .i64 a, .int .i64 b, .int .u64 n, .int .i64 0, .int .i64 0, .int .i64 0, .slice none 0 0, .slice none 0 0]] w (RW w) := by
  obtain ⟨W, hW, kW, bW, sW⟩ := boxN w 33 (mdC m)
  obtain ⟨V, hV, kV, bV, sV⟩ := boxN W 215 [.int .i64 op, .int .i64 a, .int .i64 b, .int .u64 n, .int .i64 0, .int .i64 0, .int .i64 0, .slice none 0 0, .slice none 0 0]
  obtain ⟨U, hU, kU, bU, sU⟩ := boxN V 234 [.slice none 0 0, .slice none 0 0, .int .i64 0]
  have Hs := Lib.hid (fun (w' : World) (k : Keep U w') => rule3 (((bW.keep kV).keep kU).keep k) ((bV.keep kU).keep k) (bU.keep k))
  have Hyb := Lib.hid (fun (w' : World) (k : Keep U w') => bU.keep k)
  have kk := (kW.trans kV).trans kU
  have hle : w.heap.size ≤ V.heap.size := (kW.trans kV).size
  have Hm := Lib.hid (fun (w' : World) (k : Keep U w') => h.keep (kk.trans k))
  have Ha := Lib.hid ha
  have Hb := Lib.hid hb
  have K0 : Keep U U := Keep.refl _
  obtain ⟨c0, c1, c2, c3, c4, c5, c6, c7, c8, c9, ca, cb, lt, x0, x1, x2, x3, x4, x5, x6, x7, x8, y0, y1, y2, f0, f1, f2, l1, l2, l3, l4, lx1, lx2, lx3, lx4, lt2, lt3, lt4⟩ := Hs.out U K0
  clear h ha hb bW bV bU sW sV sU
  go_enter Tryz.func157, Tryz.ntmps157
  go_wp2_with (first
    | (go_at_call 124; refine (func08_calls m _ _ (Hm.out _ (by repeat (first | assumption | apply Keep.alloc))) (by first | exact Ha.out | exact Hb.out)).mono ?_; rintro e w4 ⟨A, nn, c, B, k, d, r, rfl, hs, _, hk4⟩; have K4 : Keep U w4 := Keep.trans (by repeat (first | assumption | apply Keep.alloc)) hk4; clear hk4 c0 c1 c2 c3 c4 c5 c6 c7 c8 c9 ca cb lt x0 x1 x2 x3 x4 x5 x6 x7 x8 y0 y1 y2 f0 f1 f2 l1 l2 l3 l4 lx1 lx2 lx3 lx4 lt2 lt3 lt4; obtain ⟨c0, c1, c2, c3, c4, c5, c6, c7, c8, c9, ca, cb, lt, x0, x1, x2, x3, x4, x5, x6, x7, x8, y0, y1, y2, f0, f1, f2, l1, l2, l3, l4, lx1, lx2, lx3, lx4, lt2, lt3, lt4⟩ := Hs.out w4 K4; have HsF := Lib.hid hs; clear hs)
    | (go_at_call 156; refine (bad23_calls _ _).mono ?_; rintro e w5 ⟨rfl, rfl⟩)
    | (go_at_call 169; refine (declared08_calls m _ _ (Hm.out _ (by repeat (first | assumption | apply Keep.alloc)))).mono ?_; rintro e w4 ⟨r, rfl, _, hk4⟩; have K4 : Keep U w4 := Keep.trans (by repeat (first | assumption | apply Keep.alloc)) hk4; clear hk4 c0 c1 c2 c3 c4 c5 c6 c7 c8 c9 ca cb lt x0 x1 x2 x3 x4 x5 x6 x7 x8 y0 y1 y2 f0 f1 f2 l1 l2 l3 l4 lx1 lx2 lx3 lx4 lt2 lt3 lt4; obtain ⟨c0, c1, c2, c3, c4, c5, c6, c7, c8, c9, ca, cb, lt, x0, x1, x2, x3, x4, x5, x6, x7, x8, y0, y1, y2, f0, f1, f2, l1, l2, l3, l4, lx1, lx2, lx3, lx4, lt2, lt3, lt4⟩ := Hs.out w4 K4)
    | (go_at_call 168; refine (sig23_calls _ _).mono ?_; rintro e w4 ⟨A, nn, c, B, k, d, er, rfl, hs, hk4⟩; have K4 : Keep U w4 := Keep.trans (by repeat (first | assumption | apply Keep.alloc)) hk4; clear hk4 c0 c1 c2 c3 c4 c5 c6 c7 c8 c9 ca cb lt x0 x1 x2 x3 x4 x5 x6 x7 x8 y0 y1 y2 f0 f1 f2 l1 l2 l3 l4 lx1 lx2 lx3 lx4 lt2 lt3 lt4; obtain ⟨c0, c1, c2, c3, c4, c5, c6, c7, c8, c9, ca, cb, lt, x0, x1, x2, x3, x4, x5, x6, x7, x8, y0, y1, y2, f0, f1, f2, l1, l2, l3, l4, lx1, lx2, lx3, lx4, lt2, lt3, lt4⟩ := Hs.out w4 K4; have HsS := Lib.hid hs; clear hs))
  all_goals (refine bodyPost_ret (by simp [results, Tryz.results157, go_sem, y0, y1, y2, f0, f1, f2, l1, l2, l3, l4] <;> rfl) rfl ?_)
  all_goals (refine RW.mk rfl ?_ ?_)
  all_goals first
    | exact SigAt.nil _
    | exact HsS.out.box3 (Hyb.out _ K4) _ _ _
    | exact SigAt.alloc (HsS.out.box3 (Hyb.out _ K4) _ _ _) _
    | exact HsF.out.box3 (Hyb.out _ K4) _ _ _
    | exact SigAt.alloc (HsF.out.box3 (Hyb.out _ K4) _ _ _) _
    | exact ⟨by first | exact IntsAt.nil _ _ | exact IntsAt.one (by simp [go_sem] <;> rfl) | exact IntsAt.two (by simp [go_sem] <;> rfl) (by simp [go_sem] <;> rfl) | exact IntsAt.three (by simp [go_sem] <;> rfl) (by simp [go_sem] <;> rfl) (by simp [go_sem] <;> rfl), by first | exact IntsAt.nil _ _ | exact IntsAt.one (by simp [go_sem] <;> rfl)⟩
    | (repeat (first | apply Keep.alloc | refine Keep.setCell (p := ⟨V.heap.size, _, none⟩) ?_ hle _)
       first | exact kk.trans K4 | exact kk)
end Go.Proofs.YtjpmiejgcnfiiaaGreat
namespace Go.Proofs.YtjpmiejgcnfiiaaGreat
open Go Go.RowKit

/-- What Plain says of it. -/
def PlainQ (im a : Int) (r : Bool) : Prop := r = true → (im = 7 → 0 ≤ a) ∧ im ≠ 6

set_option maxHeartbeats 8000000 in
set_option maxRecDepth 100000 in
theorem plainIs_calls (op a b n : Int) (w : World) : Calls Tryz.prog 142 #[.agg #[.int .i64 op, .int .i64 a, .int .i64 b, .int .u64 n, .int .i64 0, .int .i64 0, .int .i64 0, .slice none 0 0, .slice none 0 0]] w (RB w (PlainQ (findRow op).1.imm a)) := by
 obtain ⟨W, hW, kW, bW, sW⟩ := boxN w 215 [.int .i64 op, .int .i64 a, .int .i64 b, .int .u64 n, .int .i64 0, .int .i64 0, .int .i64 0, .slice none 0 0, .slice none 0 0]
 have Hc := Lib.hid (fun (w' : World) (h : Keep W w') => (⟨(bW.keep h).cell 0, (bW.keep h).cell 1, (bW.keep h).cell 2, (bW.keep h).cell 3, (bW.keep h).cell 4, (bW.keep h).cell 5, (bW.keep h).cell 6, (bW.keep h).cell 7, (bW.keep h).cell 8⟩ : w'.cell? ⟨w.heap.size, 0, none⟩ = some (.int .i64 op) ∧ w'.cell? ⟨w.heap.size, 1, none⟩ = some (.int .i64 a) ∧ w'.cell? ⟨w.heap.size, 2, none⟩ = some (.int .i64 b) ∧ w'.cell? ⟨w.heap.size, 3, none⟩ = some (.int .u64 n) ∧ w'.cell? ⟨w.heap.size, 4, none⟩ = some (.int .i64 0) ∧ w'.cell? ⟨w.heap.size, 5, none⟩ = some (.int .i64 0) ∧ w'.cell? ⟨w.heap.size, 6, none⟩ = some (.int .i64 0) ∧ w'.cell? ⟨w.heap.size, 7, none⟩ = some (.slice none 0 0) ∧ w'.cell? ⟨w.heap.size, 8, none⟩ = some (.slice none 0 0)))
 obtain ⟨im, him⟩ : ∃ im, (findRow op).1.imm = im := ⟨_, rfl⟩
 obtain ⟨kn, hkn⟩ : ∃ kn, (findRow op).2 = kn := ⟨_, rfl⟩
 have Hof := Lib.hid (fun w' => him ▸ of05_calls op w')
 have Hkn := Lib.hid (fun w' => hkn ▸ known05_calls op w')
 rw [him]
 have hneq := block_neq
 obtain ⟨c0, c1, c2, c3, c4, c5, c6, c7, c8⟩ := Hc.out W (Keep.refl _)
 clear him hkn bW
 go_enter Tryz.func142, Tryz.ntmps142
 go_wp2_with fail
 refine (Hof.out _).mono ?_
 rintro e w1 ⟨rfl, hk1⟩
 clear c0 c1 c2 c3 c4 c5 c6 c7 c8
 obtain ⟨c0, c1, c2, c3, c4, c5, c6, c7, c8⟩ := Hc.out w1 hk1
 go_wp2_with fail
 refine (Hkn.out _).mono ?_
 rintro e w2 ⟨rfl, hk2⟩
 clear c0 c1 c2 c3 c4 c5 c6 c7 c8
 have K := hk1.trans hk2
 clear hk1 hk2
 obtain ⟨c0, c1, c2, c3, c4, c5, c6, c7, c8⟩ := Hc.out w2 K
 go_wp2_with (first
  | (go_at_call 153; refine (index05_calls _ _).mono ?_; rintro e w4 ⟨q, rfl, hq, hk4⟩; obtain ⟨d0, d1, d2, d3, d4, d5, d6, d7, d8⟩ := Hc.out w4 (Keep.trans (by assumption) hk4); have K4 : Keep W w4 := Keep.trans (by assumption) hk4; clear hk4)
  | (go_at_call 152; refine (block05_calls _ _ _ _).mono ?_; rintro e w4 ⟨q, rfl, _, hk4⟩; have K4 : Keep W w4 := Keep.trans (by assumption) hk4; clear hk4)
  | (go_at_call 154; refine (labels05_calls _ _ _).mono ?_; rintro e w4 ⟨q, rfl, _, hk4⟩; have K4 : Keep W w4 := Keep.trans (by assumption) hk4; clear hk4))
 all_goals go_ret
 all_goals (refine RB.mk rfl (fun hr => ⟨fun h7 => ?_, fun h6 => ?_⟩) (by first | exact kW.trans K4 | exact kW.trans K))
 all_goals first
  | (exfalso; omega)
  | (cases hr; done)
  | exact hq (by simpa using hr)
  | exact hq (by assumption)
  | (simp at hr; omega)
  | (simp_all; done)
  | (simp_all; omega)
end Go.Proofs.YtjpmiejgcnfiiaaGreat
