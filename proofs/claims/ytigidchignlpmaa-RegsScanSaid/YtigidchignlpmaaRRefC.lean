/-
  The reference's Scan.
-/
import Derived.Test.YtigidchignlpmaaRRefB
import Derived.Test.YtigidchignlpmaaRRefP
namespace Go.Proofs.Ytigidchignlpmaa
open Go Go.RowKit Rg

theorem elPlC : ElT Try.prog 25 47 2 16 plC where
  slice := Try.underlying25
  info := info_of (z := .agg #[.bool false, .int .i64 0]) (by kernel_rfl) rfl
  pos := by omega
  len := fun _ => rfl
  one := fun x u hu => by simp [plC] at hu; rcases hu with rfl | rfl <;> rfl

/-- What the reference's Scan says of what may be. -/
def RScanPost (w : World) (ls : List LvD) (k s0 : Nat) (e : Ending) (w' : World) : Prop :=
  Keep w w' ∧ ((ls.any (fun x => !may x.l) = true ∧ e = .returned (.tuple #[.agg #[.slice none 0 0, .int .i64 0], .int .i64 1])) ∨
    (ls.any (fun x => !may x.l) = false ∧ ∃ P cp, Seg w' P ((Rg.scan (BL ls) (EL ls) s0 k ls.length (ord (BL ls) ls.length)).pl.flatMap plC) ∧
      e = .returned (.tuple #[.agg #[.slice P ls.length cp, .int .i64 ((Rg.scan (BL ls) (EL ls) s0 k ls.length (ord (BL ls) ls.length)).slots : Int)], .int .i64 0])))

set_option maxHeartbeats 8000000 in
set_option maxRecDepth 100000 in
theorem rScan_main (A : Option Addr) (ls : List LvD) (c k s0 : Nat) (w : World) (hl : Lives w A ls) (h60 : ls.length ≤ 60) (hk16 : k ≤ 16) (hs : s0 ≤ 65536) :
    Calls Try.prog 11 #[.slice A ls.length c, .int .i64 (k : Int), .int .i64 (s0 : Int)] w (RScanPost w ls k s0) := by
  obtain ⟨wa, hwa⟩ : ∃ wa : World, w.alloc (.cells #[.slice none 0 0, .int .i64 0] 31) = wa := ⟨_, rfl⟩
  have hka : Keep w wa := by rw [← hwa]; exact (Keep.refl _).alloc _
  have b6 : Blk wa w.heap.size 31 [.slice none 0 0, .int .i64 0] := by rw [← hwa]; exact Blk.new w _ _
  obtain ⟨wb, hwb⟩ : ∃ wb : World, wb = wa.alloc (.cells #[.slice none 0 0, .slice none 0 0] 66) := ⟨_, rfl⟩
  have hS0 : RS wa wb ⟨none, 0, none, 0, ⟨[], []⟩⟩ := by rw [hwb]; exact RS.start wa
  have hza : wa.heap.size = w.heap.size + 1 := by rw [← hwa]; simp
  have HS0 := Lib.hid hS0
  have Hb6 := Lib.hid b6
  have Hka := Lib.hid hka
  have Hl := Lib.hid hl
  have Hza := Lib.hid hza
  have Hza2 : w.heap.size < wa.heap.size := by omega
  have g1 : ¬ (k : Int) < 0 := by omega
  have g2 : ¬ (16 : Int) < (k : Int) := by omega
  have g3 : ¬ (s0 : Int) < 0 := by omega
  have g4 : ¬ (65536 : Int) < (s0 : Int) := by omega
  clear hS0 b6 hka hl hza
  go_enter Try.func11, Try.ntmps11
  go_wp2_with fail
  rw [← hwb]
  clear hwa hwb
  go_loopw [9] (fun vi wz => ∃ (r : Nat) (x : RfD), r ≤ k ∧ vi = .int .i64 r ∧ Hid (RS wa wz x) ∧ Hid (x.t = ⟨List.replicate r none, []⟩)) (fun vi _ => k - (intOf vi).toNat)
  case atStart => exact ⟨0, _, Nat.zero_le _, rfl, HS0, Lib.hid rfl⟩
  case round =>
    clear HS0
    obtain ⟨r, ⟨a1, c1, a2, c2, t⟩, hr, rfl, hS, ht⟩ := hrel
    obtain rfl : t = _ := ht.out
    by_cases hrk : r < k
    · have hri : (r : Int) < (k : Int) := by omega
      obtain ⟨A', c', w7, hrun, ⟨u, p0⟩, pf, pl, hS7⟩ := hS.out.push1 (by show (List.replicate r (none : Option Nat)).length < _; simp; omega)
      replace hrun : (Builtin.append_ #[59, 59] 59 #[.slice a1 (List.replicate r (none : Option Nat)).length c1, .slice (some ⟨wr.heap.size, 0, none⟩) 1 1]).run Try.prog (wr.alloc (.cells #[.int .i64 (-1)] 3)) = .ok (.slice A' ((List.replicate r (none : Option Nat)).length + 1) c') w7 := hrun
      replace hS7 : RS wa (w7.setCell ⟨wa.heap.size, 0, none⟩ (.slice A' ((List.replicate r (none : Option Nat)).length + 1) c')) ⟨A', c', a2, c2, ⟨List.replicate r none ++ [none], []⟩⟩ := hS7
      rw [List.length_replicate] at hrun hS7
      rw [← List.replicate_succ'] at hS7
      have q0 : wr.cell? ⟨wa.heap.size, 0, none⟩ = some (.slice a1 r c1) := by
        have h1 : wr.cell? ⟨wa.heap.size, 0, none⟩ = some (.slice a1 (List.replicate r (none : Option Nat)).length c1) := hS.out.blk.cell 0
        rwa [List.length_replicate] at h1
      have lq := hS.out.blk.lt
      have Hn := Lib.hid hS7
      clear hS hS7 ht
      go_wp2_with (at_builtin; refine wpList_append_eq rfl _ _ _ rfl _ _ rfl rfl _ _ hrun ?_; clear hrun)
      go_roundw
      case rel => exact ⟨r + 1, _, hrk, by go_num, Hn, Lib.hid rfl⟩
      case measure => simp [intOf]; omega
    · have hrk' : r = k := by omega
      have hS0 := hS.out
      rw [hrk'] at hS0
      have HS1 := Lib.hid hS0
      clear hS hS0 ht hrk'
      go_wp2_with fail
      go_loopw [10] (fun vi wz => ∃ (i : Nat) (x : RfD), i ≤ ls.length ∧ vi = .int .i64 i ∧ Hid (RS wa wz x) ∧ Hid (x.t = ⟨List.replicate k none, List.replicate i none⟩) ∧ Hid ((ls.take i).all (fun x => may x.l) = true)) (fun vi _ => ls.length - (intOf vi).toNat)
      case atStart => exact ⟨0, _, Nat.zero_le _, rfl, HS1, Lib.hid rfl, Lib.hid rfl⟩
      case round =>
        clear HS1
        obtain ⟨i, ⟨a1, c1, a2, c2, t⟩, hi, rfl, hS, ht, hall⟩ := hrel
        obtain rfl : t = _ := ht.out
        have hkr := Lib.hid (Hka.out.trans hS.out.keep)
        by_cases hin : i < ls.length
        · obtain ⟨x, hx⟩ := get_some hin
          obtain ⟨bA, offA, hA, hbA, x0, x1, xok⟩ := Hl.out.get hkr.out hx
          subst hA
          have hbl := Nat.lt_of_lt_of_le hbA hkr.out.size
          have hii : (i : Int) < (ls.length : Int) := by omega
          have hi0 : (0 : Int) ≤ (i : Int) := by omega
          have HM := Lib.hid (rMay_calls x.val x.a x.l x.c wr xok.seg xok.len)
          have Hx := Lib.hid hx
          clear hx xok ht
          cases hm : may x.l with
          | true =>
            rw [hm] at HM
            have Hall2 := Lib.hid (all_take hall.out Hx.out hm)
            go_wp2_with fail
            refine HM.out.mono ?_
            rintro e w4 ⟨rfl, k4⟩
            have hS4 := hS.out.keepy k4
            obtain ⟨A', c', w7, hrun, ⟨u, p0⟩, pf, pl, hS7⟩ := hS4.push2 (by show (List.replicate i (none : Option Nat)).length < _; simp; omega)
            replace hrun : (Builtin.append_ #[59, 59] 59 #[.slice a2 (List.replicate i (none : Option Nat)).length c2, .slice (some ⟨w4.heap.size, 0, none⟩) 1 1]).run Try.prog (w4.alloc (.cells #[.int .i64 (-1)] 3)) = .ok (.slice A' ((List.replicate i (none : Option Nat)).length + 1) c') w7 := hrun
            replace hS7 : RS wa (w7.setCell ⟨wa.heap.size, 1, none⟩ (.slice A' ((List.replicate i (none : Option Nat)).length + 1) c')) ⟨a1, c1, A', c', ⟨List.replicate k none, List.replicate i none ++ [none]⟩⟩ := hS7
            rw [List.length_replicate] at hrun hS7
            rw [← List.replicate_succ'] at hS7
            have q1 : w4.cell? ⟨wa.heap.size, 1, none⟩ = some (.slice a2 i c2) := by
              have h1 : w4.cell? ⟨wa.heap.size, 1, none⟩ = some (.slice a2 (List.replicate i (none : Option Nat)).length c2) := hS4.blk.cell 1
              rwa [List.length_replicate] at h1
            have lq := hS4.blk.lt
            have Hn := Lib.hid hS7
            clear hS hS4 hS7 HM hm
            go_wp2_with (at_builtin; refine wpList_append_eq rfl _ _ _ rfl _ _ rfl rfl _ _ hrun ?_; clear hrun)
            go_roundw
            case rel => exact ⟨i + 1, _, hin, by go_num, Hn, Lib.hid rfl, Hall2⟩
            case measure => simp [intOf]; omega
          | false =>
            rw [hm] at HM
            have Hbad := Lib.hid (show ls.any (fun x => !may x.l) = true from List.any_eq_true.2 ⟨x, List.mem_of_getElem? Hx.out, by rw [hm]; rfl⟩)
            go_wp2_with fail
            refine HM.out.mono ?_
            rintro e w4 ⟨rfl, k4⟩
            obtain ⟨⟨u0, p0⟩, p0f, p0l, ⟨u1, p1⟩, p1f, W1, W, hW1, hW, hl1, hkW, _, v0, v1⟩ := gput (Hb6.out.keep (hS.out.keep.trans k4)) (hkr.out.trans k4) (.slice none 0 0) (.int .i64 0)
            rw [hW1] at p1 p1f
            clear hS hall
            go_wp2_with fail
            exact bodyPost_ret (v := .tuple #[.agg #[.slice none 0 0, .int .i64 0], .int .i64 1]) (by simp [results, Try.results11, go_sem, v0, v1]) rfl ⟨hkW, .inl ⟨Hbad.out, rfl⟩⟩
        · have hgood := all_end hall.out (by omega)
          have hm := may_all hgood
          have hne : ∀ x ∈ ls, 0 < x.l.length := fun x hx => may_len (hm x hx)
          have hS1 := hS.out
          rw [show i = ls.length by omega] at hS1
          obtain ⟨w5, hmk, b5, k5⟩ := make_ints wr ls.length (by omega)
          have Hord := Lib.hid (order_calls A ls c w5 (Hl.out.keep (hkr.out.trans k5)) h60 hne)
          have HS1 := Lib.hid hS1
          have Hgood := Lib.hid hgood
          have Hm := Lib.hid hm
          have Hb5 := Lib.hid b5
          have hne2 := Lib.hid hne
          have lpb := b5.lt
          clear hS hS1 ht hall hgood hm b5 hne
          go_wp2_with fail
          obtain ⟨pb, hpbe⟩ : ∃ pb, wr.heap.size = pb := ⟨_, rfl⟩
          have hqp : wa.heap.size < pb := by rw [← hpbe]; exact HS1.out.blk.lt
          rw [hpbe] at lpb ⊢
          refine Hord.out.mono ?_
          rintro e w6 ⟨v, rfl, hown, k6⟩
          obtain ⟨Ai, ci, rfl, _⟩ := hown.form
          obtain ⟨O, hO⟩ : ∃ O, ord (BL ls) ls.length = O := ⟨_, rfl⟩
          have hOP := ord_ok (BL ls) ls.length
          rw [hO] at hown hOP ⊢
          have hOl : O.length = ls.length := by have := hOP.1.length_eq; simpa using this
          rw [hOl] at hown ⊢
          have hD0 : RD wa w6 w6 pb ⟨a1, c1, a2, c2, ⟨List.replicate k none, List.replicate ls.length none⟩⟩ (List.replicate ls.length 0) :=
            ⟨HS1.out.blk.keep (k5.trans k6), by rw [List.map_replicate, ← hpbe]; exact Hb5.out.keep k6, HS1.out.ok.keep (k5.trans k6), HS1.out.off (by omega), Ext.refl _ _⟩
          have HRow := Lib.hid (show ∀ (j xi : Nat), O[j]? = some xi → ∃ bI offI, Ai = some ⟨bI, offI, none⟩ ∧ bI < w6.heap.size ∧ pb < bI ∧ w6.cell? ⟨bI, offI + j, none⟩ = some (.int .i64 (xi : Int)) from fun j xi hj => by
            obtain ⟨bI, offI, e, hb, hc⟩ := nat_at hown.segN.2 (Keep.refl _) hj
            exact ⟨bI, offI, e, hb, by have := hown.addr_ge e; show pb < bI; have h2 : w5.heap.size ≤ bI := this; omega, hc⟩)
          have HOP := Lib.hid hOP
          have HO := Lib.hid hO
          have HOl := Lib.hid hOl
          have Hkw6 := Lib.hid ((hkr.out.trans k5).trans k6)
          have HD0 := Lib.hid hD0
          have Hb66 := Lib.hid (Hb6.out.keep ((HS1.out.keep.trans k5).trans k6))
          have hpw : w.heap.size < pb := by omega
          clear hD0 hOP hO hOl hown hkr k5 k6 HS1 Hb5 Hord hpbe hmk lpb
          go_wp2_with fail
          go_loopw [13] (fun vi wz => ∃ (j : Nat) (x : RfD) (p : List Nat) (S : Sc), j ≤ ls.length ∧ vi = .int .i64 j ∧ Hid (RD wa w6 wz pb x p) ∧ Hid (RR ls.length S x.t) ∧ Hid (PlR ls.length (O.take j) S p) ∧ Hid (Inv (BL ls) (EL ls) s0 k ls.length (O.take j) S) ∧ Hid (S = (O.take j).foldl (Sc.step (BL ls) (EL ls) s0) (Sc.init s0 k ls.length))) (fun vi _ => ls.length - (intOf vi).toNat)
          case atStart => exact ⟨0, _, _, Sc.init s0 k ls.length, Nat.zero_le _, rfl, HD0, Lib.hid RR.init, Lib.hid ⟨by simp, fun y hy => by simp at hy⟩, Lib.hid Inv.init, Lib.hid rfl⟩
          case round =>
            clear HD0
            obtain ⟨j, ⟨a1, c1, a2, c2, t⟩, p, S, hj, rfl, hD, hRR, hPl, hInv, hSf⟩ := hrel
            have hkw := Lib.hid (show Keep w wr from Keep.of_ext Hkw6.out hD.out.ext (fun k hk h => by rcases h with h | h <;> omega))
            by_cases hjn : j < ls.length
            · obtain ⟨xi, hxi⟩ := get_some (l := O) (k := j) (by rw [HOl.out]; exact hjn)
              obtain ⟨bI, offI, hAi, hbI, hpbI, hcI⟩ := HRow.out j xi hxi
              subst hAi
              have hxn : xi < ls.length := by have := HOP.out.1.subset (List.mem_of_getElem? hxi); simpa using this
              have hsplit : O.take (j + 1) = O.take j ++ [xi] := by rw [List.take_add_one, hxi]; rfl
              have hpwr : (O.take (j + 1)).Pairwise (Lt (BL ls)) := HOP.out.2.sublist (List.take_sublist _ _)
              rw [hsplit, List.pairwise_append] at hpwr
              have hlt1 : ∀ y ∈ O.take j, Lt (BL ls) y xi := fun y hy => hpwr.2.2 y hy xi (by simp)
              have hnew : xi ∉ O.take j := fun hx => (hlt1 xi hx).irrefl
              have hle : ∀ y ∈ O.take j, BL ls y ≤ BL ls xi := fun y hy => by have := hlt1 y hy; unfold Lt at this; omega
              have hpos := may_lt Hgood.out xi hxn
              have hcIr : ∀ wz, Ext (fun k => k = wa.heap.size ∨ k = pb) w6 wz → wz.cell? ⟨bI, offI + j, none⟩ = some (.int .i64 (xi : Int)) := fun wz hE => by
                have h1 := hE.block bI hbI (fun h => by rcases h with h | h <;> omega)
                exact (World.cell?_of_block h1).trans hcI
              have HcI := Lib.hid hcIr
              have hcr := hcIr wr hD.out.ext
              have hbIl := Nat.lt_of_lt_of_le hbI hD.out.ext.size
              have Hone := Lib.hid (fun (wz : World) (hz : Keep wr wz) => rOne_calls ⟨a1, c1, a2, c2, t⟩ A ls c xi s0 wz (hD.out.ok.keep hz) (Hl.out.keep (hkw.out.trans hz)) h60 hne2.out hRR.out.len hxn hs
                (by show t.regs.length ≤ 60; rw [show t.regs = S.held from hRR.out.regs, hInv.out.base.hl]; omega)
                (fun y hy => by
                  replace hy : some y ∈ t.regs := hy
                  rw [show t.regs = S.held from hRR.out.regs] at hy
                  obtain ⟨r, hr⟩ := List.mem_iff_getElem?.1 hy
                  exact hInv.out.base.lt y (hInv.out.base.hin r y hr).1))
              have kq0 := fun z : KW wr => z.cell (v := .slice a1 t.regs.length c1) (hD.out.blk.cell 0)
              have kq1 := fun z : KW wr => z.cell (v := .slice a2 t.slots.length c2) (hD.out.blk.cell 1)
              have lq := hD.out.blk.lt
              have kI := fun z : KW wr => z.cell hcr
              have hjj : (j : Int) < (ls.length : Int) := by omega
              have hj0 : (0 : Int) ≤ (j : Int) := by omega
              obtain ⟨wd, hwd⟩ : ∃ wd, wr.drew = wd := ⟨_, rfl⟩
              have hkd : Keep wr wd := by rw [← hwd]; exact (Keep.refl _).drew
              have Hsplit := Lib.hid hsplit
              have Hside := Lib.hid (show xi < ls.length ∧ xi ∉ O.take j ∧ (∀ y ∈ O.take j, BL ls y ≤ BL ls xi) ∧ BL ls xi < EL ls xi from ⟨hxn, hnew, hle, hpos⟩)
              have lpd : pb < wd.heap.size := Nat.lt_of_lt_of_le hD.out.pls.lt hkd.size
              clear hsplit hpwr hlt1 hnew hle hpos hcIr hcI hcr hxi
              go_wp2_with fail
              refine tail_begin (S := fun w' => ∃ z : KW wr, w' = z.val) [8] (by kernel_rfl) ?_
              rw [hwd]
              refine tail_take [0, 1, 2, 3, 4, 5, 6] [] 2 (by kernel_rfl) (by kernel_rfl) (InK.mk' hkd) ?_
              show wpQuiet _ _ _ _ [_, _, _, _, _, _, _] _
              repeat (go_big_quiet_step (fail))
              refine wpQuiet_nil ?_
              refine tail_fix (i := 7) (fuel := 1) rfl (by kernel_rfl) (fun K hK => ?_)
              go_simp
              refine (show Calls Try.prog 32 #[.agg #[.slice a1 t.regs.length c1, .slice a2 t.slots.length c2], .slice A ls.length c, .int .i64 (xi : Int), .int .i64 (s0 : Int)] wd _ from Hone.out wd hkd).mono ?_
              rintro e w8 ⟨⟨e1, f1, e2, f2, t2⟩, he, hnext, hok8, hoff8, k8'⟩
              replace he : e = .returned (.agg #[.slice e1 t2.regs.length f1, .slice e2 t2.slots.length f2]) := he
              subst he
              have k8 := hkd.trans k8'
              refine hK _ _ (fun _ => InK.mk' k8) ?_
              clear hK K
              obtain ⟨⟨u0, p0⟩, p0f, p0l, ⟨u1, p1⟩, p1f, hDW⟩ := (hD.out.keepy k8).put hok8 (hoff8 pb lpd hD.out.off) (Nat.ne_of_gt hqp)
              obtain ⟨W1, hW1⟩ : ∃ W1, w8.setCell ⟨wa.heap.size, 0, none⟩ (.slice e1 t2.regs.length f1) = W1 := ⟨_, rfl⟩
              obtain ⟨W, hW⟩ : ∃ W, W1.setCell ⟨wa.heap.size, 1, none⟩ (.slice e2 t2.slots.length f2) = W := ⟨_, rfl⟩
              replace p1 : (w8.setCell ⟨wa.heap.size, 0, none⟩ (.slice e1 t2.regs.length f1)).cell? ⟨wa.heap.size, 1, none⟩ = some u1 := p1
              replace p1f : (w8.setCell ⟨wa.heap.size, 0, none⟩ (.slice e1 t2.regs.length f1)).frozen? ⟨wa.heap.size, 1, none⟩ = false := p1f
              replace hDW : RD wa w6 ((w8.setCell ⟨wa.heap.size, 0, none⟩ (.slice e1 t2.regs.length f1)).setCell ⟨wa.heap.size, 1, none⟩ (.slice e2 t2.slots.length f2)) pb ⟨e1, f1, e2, f2, t2⟩ p := hDW
              have lW1 : wa.heap.size < W1.heap.size := by rw [← hW1]; simpa using p0l
              rw [hW1] at p1 p1f hDW
              rw [hW] at hDW
              have HDW := Lib.hid hDW
              have HRR2 := Lib.hid (hRR.out.next hInv.out Hside.out.1 Hside.out.2.1 Hside.out.2.2.1 Hside.out.2.2.2 hnext)
              have HInv2 := Lib.hid (hInv.out.step (x := xi) Hside.out.1 Hside.out.2.1 Hside.out.2.2.1 Hside.out.2.2.2)
              have hK60 : t2.regs.length ≤ 60 := by rw [show t2.regs = (S.step (BL ls) (EL ls) s0 xi).held from HRR2.out.regs, HInv2.out.base.hl]; omega
              have Huq := Lib.hid (show ∀ r r', t2.regs[r]? = some (some xi) → t2.regs[r']? = some (some xi) → r = r' from fun r r' h1 h2 => by
                rw [show t2.regs = (S.step (BL ls) (EL ls) s0 xi).held from HRR2.out.regs] at h1 h2
                have e1 := (HInv2.out.base.hin r xi h1).2
                have e2 := (HInv2.out.base.hin r' xi h2).2
                rw [e1] at e2
                exact (Prod.mk.inj e2).2)
              clear hDW hok8 hoff8 hnext kq0 kq1 kI lq Hone
              refine tail_fix (i := 8) (fuel := 0) rfl (by kernel_rfl) (fun K hK => ?_)
              go_simp
              refine hK _ _ (fun h => absurd h (by decide)) ?_
              clear hK K
              refine tail_done (by kernel_rfl) ?_
              clear p0 p0f p0l p1 p1f hW hW1 lW1 k8 k8' hkd hwd lpd
              go_wp2_with fail
              go_loopw [14] (fun vr wz => ∃ (r : Nat) (p' : List Nat), r ≤ t2.regs.length ∧ vr = .int .i64 r ∧ Hid (RD wa w6 wz pb ⟨e1, f1, e2, f2, t2⟩ p') ∧ Hid (p'.length = ls.length ∧ (∀ y, y ≠ xi → p'[y]? = p[y]?) ∧ ∀ r', r' < r → t2.regs[r']? = some (some xi) → p'[xi]? = some r')) (fun vr _ => t2.regs.length - (intOf vr).toNat)
              case atStart => exact ⟨0, p, Nat.zero_le _, rfl, HDW, Lib.hid ⟨hPl.out.len, fun _ _ => rfl, fun r' h => by omega⟩⟩
              case round =>
                clear HDW
                obtain ⟨r, p', hr', rfl, hD2, hp'⟩ := hrel
                have q0 : wr.cell? ⟨wa.heap.size, 0, none⟩ = some (.slice e1 t2.regs.length f1) := hD2.out.blk.cell 0
                have lq := hD2.out.blk.lt
                by_cases hrk : r < t2.regs.length
                · obtain ⟨o, ho⟩ := get_some hrk
                  obtain ⟨bR, offR, hR, hbR, hcR⟩ := opt_at hD2.out.ok.regs (Keep.refl _) ho
                  replace hR : e1 = some ⟨bR, offR, none⟩ := hR
                  subst hR
                  obtain ⟨z, hz⟩ := optC_int o
                  rw [hz] at hcR
                  have hcr := HcI.out wr hD2.out.ext
                  have hbIr := Nat.lt_of_lt_of_le hbI hD2.out.ext.size
                  have kq0 := fun z : KW wr => z.cell q0
                  have kR := fun z : KW wr => z.cell hcR
                  have kI := fun z : KW wr => z.cell hcr
                  have hrr : (r : Int) < (t2.regs.length : Int) := by omega
                  have hr0 : (0 : Int) ≤ (r : Int) := by omega
                  have hx0 : (0 : Int) ≤ (xi : Int) := by omega
                  have hxx : (xi : Int) < (ls.length : Int) := by have := Hside.out.1; omega
                  obtain ⟨wd, hwd⟩ : ∃ wd, wr.drew = wd := ⟨_, rfl⟩
                  have hkd : Keep wr wd := by rw [← hwd]; exact (Keep.refl _).drew
                  have hDd := hD2.out.keepy hkd
                  by_cases dz : z = (xi : Int)
                  · have hox : o = some xi := by
                      cases o with
                      | none => have : z = -1 := by cases hz; rfl
                                omega
                      | some y => have : z = (y : Int) := by cases hz; rfl
                                  rw [show y = xi by omega]
                    subst dz
                    have c0 : wd.cell? ⟨pb, xi, none⟩ = some (natC (p'.getD xi 0)) := by
                      rw [hDd.pls.cell, List.getElem?_map, List.getD_eq_getElem?_getD, List.getElem?_eq_getElem (by rw [hp'.out.1]; exact Hside.out.1)]; rfl
                    have c0f := hDd.pls.frozen xi
                    have c0l := hDd.pls.lt
                    have Hn := Lib.hid (show RD wa w6 (wd.setCell ⟨pb, xi, none⟩ (.int .i64 (r : Int))) pb ⟨some ⟨bR, offR, none⟩, f1, e2, f2, t2⟩ (p'.set xi r) from hDd.place (Nat.ne_of_gt hqp) xi r)
                    have Hp2 := Lib.hid (show (p'.set xi r).length = ls.length ∧ (∀ y, y ≠ xi → (p'.set xi r)[y]? = p[y]?) ∧ ∀ r', r' < r + 1 → t2.regs[r']? = some (some xi) → (p'.set xi r)[xi]? = some r' from by
                      refine ⟨by simp [hp'.out.1], fun y hy => by rw [List.getElem?_set_ne (Ne.symm hy)]; exact hp'.out.2.1 y hy, fun r' _ h => ?_⟩
                      rw [List.getElem?_set_self (by rw [hp'.out.1]; exact Hside.out.1), Huq.out r' r h (by rw [ho, hox])])
                    have cI := hkd.cell hcr
                    have lI := Nat.lt_of_lt_of_le hbIr hkd.size
                    clear ho hox hD2 hDd hp' hz hcR hcr
                    go_wp2_with fail
                    refine region_begin (S := fun w' => ∃ z : KW wr, w' = z.val) (by kernel_rfl) ?_
                    rw [hwd]
                    clear q0
                    refine region_take [0, 1, 2, 3, 4, 5, 6, 7, 8, 9] [] 0 (by kernel_rfl) (by kernel_rfl) (InK.mk' hkd) ?_
                    show wpQuiet _ _ _ _ [_, _, _, _, _, _, _, _, _, _] _
                    repeat (go_big_quiet_step (fail))
                    refine wpQuiet_nil ?_
                    refine region_done (by kernel_rfl) ?_
                    clear kq0 kR kI
                    go_wp2
                    go_roundw
                    case rel => exact ⟨r + 1, _, hrk, by go_num, Hn, Hp2⟩
                    case measure => simp [intOf]; omega
                  · have dzd : decide (z = (xi : Int)) = false := decide_eq_false dz
                    have dzb : (z == (xi : Int)) = false := beq_eq_false_iff_ne.2 dz
                    have Hn := Lib.hid hDd
                    have Hp2 := Lib.hid (show p'.length = ls.length ∧ (∀ y, y ≠ xi → p'[y]? = p[y]?) ∧ ∀ r', r' < r + 1 → t2.regs[r']? = some (some xi) → p'[xi]? = some r' from by
                      refine ⟨hp'.out.1, hp'.out.2.1, fun r' hlt h => ?_⟩
                      by_cases e : r' = r
                      · exfalso
                        rw [e, ho] at h
                        have : o = some xi := Option.some.inj h
                        subst this
                        cases hz
                        exact dz rfl
                      · exact hp'.out.2.2 r' (by omega) h)
                    clear ho hD2 hDd hp' hz hcR hcr
                    go_wp2_with fail
                    refine region_begin (S := fun w' => ∃ z : KW wr, w' = z.val) (by kernel_rfl) ?_
                    rw [hwd]
                    clear q0
                    refine region_take [0, 1, 2, 3, 4, 5, 6, 7, 8, 9] [] 0 (by kernel_rfl) (by kernel_rfl) (InK.mk' hkd) ?_
                    show wpQuiet _ _ _ _ [_, _, _, _, _, _, _, _, _, _] _
                    repeat (go_big_quiet_step (fail))
                    refine wpQuiet_nil ?_
                    refine region_done (by kernel_rfl) ?_
                    clear kq0 kR kI
                    go_wp2
                    go_roundw
                    case rel => exact ⟨r + 1, _, hrk, by go_num, Hn, Hp2⟩
                    case measure => simp [intOf]; omega
                · have HPl2 := Lib.hid (show PlR ls.length (O.take (j + 1)) (S.step (BL ls) (EL ls) s0 xi) p' from by
                    rw [Hsplit.out]
                    refine hPl.out.next hInv.out Hside.out.1 Hside.out.2.1 Hside.out.2.2.1 Hside.out.2.2.2 hp'.out.1 hp'.out.2.1 fun r' _ h => ?_
                    rw [← show t2.regs = (S.step (BL ls) (EL ls) s0 xi).held from HRR2.out.regs] at h
                    exact hp'.out.2.2 r' (by have := (List.getElem?_eq_some_iff.1 h).1; omega) h)
                  have HInv3 := Lib.hid (show Inv (BL ls) (EL ls) s0 k ls.length (O.take (j + 1)) (S.step (BL ls) (EL ls) s0 xi) from by rw [Hsplit.out]; exact HInv2.out)
                  have HSf3 := Lib.hid (show S.step (BL ls) (EL ls) s0 xi = (O.take (j + 1)).foldl (Sc.step (BL ls) (EL ls) s0) (Sc.init s0 k ls.length) from by
                    rw [Hsplit.out, List.foldl_append, ← hSf.out]; rfl)
                  go_wp2
                  go_roundw
                  case rel => exact ⟨j + 1, _, _, _, hjn, by go_num, hD2, HRR2, HPl2, HInv3, HSf3⟩
                  case measure => simp [intOf]; omega
            · have hOt : O.take j = O := by rw [show j = O.length by rw [HOl.out]; omega]; exact List.take_length
              have hSS : S = Rg.scan (BL ls) (EL ls) s0 k ls.length (ord (BL ls) ls.length) := by rw [hSf.out, hOt, HO.out]; rfl
              have hI := hInv.out
              have hP := hPl.out
              rw [hOt] at hI hP
              have hd : ∀ y, y < ls.length → y ∈ O := fun y hy => HOP.out.1.mem_iff.2 (by simpa using hy)
              have hplL := hI.base.pln
              have HPL := Lib.hid (show ∀ i', i' < ls.length → S.pl[i']? = some (refPl t p i') from fun i' hi' => by
                rw [refPl_eq hRR.out hP hd hi']
                unfold Sc.at_
                rw [List.getD_eq_getElem?_getD, List.getElem?_eq_getElem (by rw [hplL]; exact hi')]; rfl)
              have HSl := Lib.hid (refSlots_eq hI)
              have Hpll := Lib.hid hplL
              obtain ⟨_, hS2, _, _, _, _, hsn, hpb2⟩ := scan_bounds Hm.out k s0
              rw [← hSS] at hS2
              subst hS2
              have Hpb := Lib.hid (show ∀ (i' : Nat) (q : Bool × Nat), S.pl[i']? = some q → q.1 = true → q.2 ≤ 100000 from fun i' q h1 h2 => by have := (hpb2 i' q h1).2 h2; omega)
              have HSS := Lib.hid hSS
              have Hp := Lib.hid hP.len
              have Htl := Lib.hid hRR.out.len
              have Hkw := Lib.hid hkw.out
              obtain ⟨wD, hwD⟩ : ∃ wD, wD = wr := ⟨_, rfl⟩
              subst hwD
              have q1 : wD.cell? ⟨wa.heap.size, 1, none⟩ = some (.slice a2 ls.length c2) := by
                have h1 : wD.cell? ⟨wa.heap.size, 1, none⟩ = some (.slice a2 t.slots.length c2) := hD.out.blk.cell 1
                rwa [Htl.out] at h1
              have lq := hD.out.blk.lt
              have Hpls := Lib.hid hD.out.pls
              have HslS := Lib.hid hD.out.ok.slots
              have Hb6D := Lib.hid (Hb66.out.ext hD.out.ext (fun h => by rcases h with h | h <;> omega))
              obtain ⟨gq, hgq⟩ : ∃ gq, wD.heap.size = gq := ⟨_, rfl⟩
              obtain ⟨wg, hwg, kg, bg⟩ := box2 wD 31 (.slice none 0 0) (.int .i64 (s0 : Int))
              rw [hgq] at bg
              have Hbg := Lib.hid bg
              have Hkg := Lib.hid kg
              have hgw : w.heap.size < gq := by have := hD.out.ext.size; have := Hkw6.out.size; have := hD.out.pls.lt; omega
              clear hOt hSS hI hP hd hplL hsn hpb2 hD hRR hPl hInv hSf hkw bg kg
              go_wp2_with fail
              rw [← hwg]
              clear hwg
              go_loopw [16] (fun vi wz => ∃ (i : Nat) (R : Option Addr) (rc : Nat) (zs : Int), i ≤ ls.length ∧ vi = .int .i64 i ∧ Hid (Blk wz gq 31 [.slice R i rc, .int .i64 zs]) ∧ Hid (Own plC 2 47 wz (gq + 1) (.slice R i rc) (S.pl.take i)) ∧ Hid (Keep wD wz) ∧ Hid (zs = ((refSlots s0 (S.pl.take i) : Nat) : Int) ∧ 0 ≤ zs ∧ zs ≤ 200000)) (fun vi _ => ls.length - (intOf vi).toNat)
              case atStart => exact ⟨0, none, 0, (s0 : Int), Nat.zero_le _, rfl, Hbg, Lib.hid (Own.nil _ _ _ _ _), Hkg, Lib.hid ⟨rfl, by omega, by omega⟩⟩
              case round =>
                clear Hbg Hkg
                obtain ⟨i, R, rc, zs, hi, rfl, hB, hown, hkz, hzs⟩ := hrel
                have g0 : wr.cell? ⟨gq, 0, none⟩ = some (.slice R i rc) := hB.out.cell 0
                have g1 : wr.cell? ⟨gq, 1, none⟩ = some (.int .i64 zs) := hB.out.cell 1
                have gl := hB.out.lt
                by_cases hin : i < ls.length
                · obtain ⟨o, ho⟩ := get_some (l := t.slots) (k := i) (by rw [Htl.out]; exact hin)
                  obtain ⟨pn, hpn⟩ := get_some (l := p) (k := i) (by rw [Hp.out]; exact hin)
                  obtain ⟨bS, offS, hSl, hbS, cS⟩ := opt_at HslS.out hkz.out ho
                  replace hSl : a2 = some ⟨bS, offS, none⟩ := hSl
                  subst hSl
                  have q1r := hkz.out.cell q1
                  have lqr := Nat.lt_of_lt_of_le lq hkz.out.size
                  have hbSl := Nat.lt_of_lt_of_le hbS hkz.out.size
                  have cP : wr.cell? ⟨pb, i, none⟩ = some (.int .i64 (pn : Int)) := hkz.out.cell (by rw [Hpls.out.cell, List.getElem?_map, hpn]; rfl)
                  have lP := Nat.lt_of_lt_of_le Hpls.out.lt hkz.out.size
                  have hii : (i : Int) < (ls.length : Int) := by omega
                  have hi0 : (0 : Int) ≤ (i : Int) := by omega
                  have hpl := HPL.out i hin
                  obtain ⟨pz, hpz⟩ : ∃ z : Int, (pn : Int) = z := ⟨_, rfl⟩
                  rw [hpz] at cP
                  have hlen : (S.pl.take i).length = i := by rw [List.length_take, Hpll.out]; omega
                  obtain ⟨wb, hwb, kb, bb⟩ := box2 wr 47 (.bool false) (.int .i64 pz)
                  have hzb : wb.heap.size = wr.heap.size + 1 := by rw [hwb]; simp
                  cases o with
                  | none =>
                    have cS' : wr.cell? ⟨bS, offS + i, none⟩ = some (.int .i64 (-1)) := cS
                    have hrp : refPl t p i = (false, pn) := by
                      unfold refPl
                      rw [List.getD_eq_getElem?_getD, ho, List.getD_eq_getElem?_getD, hpn]; rfl
                    rw [hrp] at hpl
                    have ht : S.pl.take (i + 1) = S.pl.take i ++ [(false, pn)] := by rw [List.take_add_one, hpl]; rfl
                    have hrs : refSlots s0 (S.pl.take (i + 1)) = refSlots s0 (S.pl.take i) := by rw [ht]; unfold refSlots; rw [List.foldl_append]; rfl
                    obtain ⟨R0, rc0, hv, R', rc', w7, hrun, hown7, hE7, _, _⟩ := (hown.out.keep kb).push1 elPlC (false, pn) (by rw [hlen]; omega) (by omega) (by omega) 25
                    rw [hlen] at hrun hown7
                    clear hv
                    replace hrun : (Builtin.append_ #[25, 25] 25 #[.slice R i rc, .slice (some ⟨wb.heap.size, 0, none⟩) 1 1]).run Try.prog (wb.alloc (.cells #[.bool false, .int .i64 pz] 47)) = .ok (.slice R' (i + 1) rc') w7 := by rw [← hpz]; exact hrun
                    have b7 := (hB.out.keep kb).ext hE7 (by show ¬ gq + 1 ≤ gq; omega)
                    have c7 : w7.cell? ⟨gq, 0, none⟩ = some (.slice R i rc) := b7.cell 0
                    have f7 := b7.frozen 0
                    have l7 := b7.lt
                    have k7 : Keep wD w7 := Keep.of_ext (hkz.out.trans kb) hE7 (fun k hk => by show ¬ gq + 1 ≤ k; omega)
                    obtain ⟨W, hW⟩ : ∃ W : World, w7.setCell ⟨gq, 0, none⟩ (.slice R' (i + 1) rc') = W := ⟨_, rfl⟩
                    have Hfin := Lib.hid (show Blk W gq 31 [.slice R' (i + 1) rc', .int .i64 zs] ∧ Own plC 2 47 W (gq + 1) (.slice R' (i + 1) rc') (S.pl.take (i + 1)) ∧ Keep wD W from by
                      rw [← hW, ht]
                      exact ⟨b7.set_ 0 _, hown7.put_far (p := ⟨gq, 0, none⟩) (fun k hk => by have := (hown7.lt k hk).1; show ¬ k = gq; omega) _, k7.setCell (p := ⟨gq, 0, none⟩) (by show wD.heap.size ≤ gq; omega) _⟩)
                    have Hz2 := Lib.hid (show zs = ((refSlots s0 (S.pl.take (i + 1)) : Nat) : Int) ∧ 0 ≤ zs ∧ zs ≤ 200000 from by rw [hrs]; exact hzs.out)
                    have y0 : wb.cell? ⟨wr.heap.size, 0, none⟩ = some (.bool false) := bb.cell 0
                    have y1 : wb.cell? ⟨wr.heap.size, 1, none⟩ = some (.int .i64 pz) := bb.cell 1
                    have yl := bb.lt
                    have z0 := kb.cell g0
                    have zl := Nat.lt_of_lt_of_le gl kb.size
                    have x0 := kb.cell q1r
                    have xl := Nat.lt_of_lt_of_le lqr kb.size
                    have s0' := kb.cell cS'
                    have sl' := Nat.lt_of_lt_of_le hbSl kb.size
                    rw [hzb] at hrun
                    rw [hwb] at hrun y0 y1 yl z0 zl x0 xl s0' sl'
                    clear hB hown hkz hzs hown7 hE7 b7 k7 hpl hrp ht hrs ho hpn cS cS' bb hzb g0 g1 hpz hgq
                    go_wp2_with (at_builtin; refine wpList_append_eq rfl _ _ _ rfl _ _ rfl rfl _ _ hrun ?_; clear hrun)
                    go_roundw
                    case rel => exact ⟨i + 1, R', rc', zs, hin, by go_num, Lib.hid Hfin.out.1, Lib.hid Hfin.out.2.1, Lib.hid Hfin.out.2.2, Hz2⟩
                    case measure => simp [intOf]; omega
                  | some m =>
                    obtain ⟨mz, hmz⟩ : ∃ z : Int, (m : Int) = z := ⟨_, rfl⟩
                    have cS' : wr.cell? ⟨bS, offS + i, none⟩ = some (.int .i64 mz) := by rw [← hmz]; exact cS
                    have hrp : refPl t p i = (true, m) := by
                      unfold refPl
                      rw [List.getD_eq_getElem?_getD, ho]; rfl
                    rw [hrp] at hpl
                    have hmb := Hpb.out i (true, m) hpl rfl
                    have hmb2 : m ≤ 100000 := hmb
                    have ht : S.pl.take (i + 1) = S.pl.take i ++ [(true, m)] := by rw [List.take_add_one, hpl]; rfl
                    have hrs : refSlots s0 (S.pl.take (i + 1)) = max (refSlots s0 (S.pl.take i)) (m + 1) := by rw [ht]; unfold refSlots; rw [List.foldl_append]; rfl
                    obtain ⟨m1, hm1⟩ : ∃ z : Int, mz + 1 = z := ⟨_, rfl⟩
                    have s1 : IntKind.i64.wrap (mz + 1) = m1 := by rw [hm1]; exact IntWalk.i64_in _ (by omega)
                    obtain ⟨zt, hzt⟩ : ∃ z : Int, (if zs < m1 then m1 else zs) = z := ⟨_, rfl⟩
                    have Hz2 := Lib.hid (show zt = ((refSlots s0 (S.pl.take (i + 1)) : Nat) : Int) ∧ 0 ≤ zt ∧ zt ≤ 200000 from by
                      have h1 := hzs.out
                      rw [hrs]
                      rw [← hzt]
                      split <;> omega)
                    have hmz0 : ¬ mz < 0 := by omega
                    have hmz1 : (0 : Int) ≤ mz := by omega
                    -- the place's box, filled
                    have bc1 := bb.set_ 0 (.bool true)
                    have bc2 := bc1.set_ 1 (.int .i64 mz)
                    obtain ⟨wc1, hwc1⟩ : ∃ W : World, wb.setCell ⟨wr.heap.size, 0, none⟩ (.bool true) = W := ⟨_, rfl⟩
                    obtain ⟨wc, hwc⟩ : ∃ W : World, wc1.setCell ⟨wr.heap.size, 1, none⟩ (.int .i64 mz) = W := ⟨_, rfl⟩
                    rw [hwc1] at bc1 bc2
                    rw [hwc] at bc2
                    have kc : Keep wr wc := by rw [← hwc, ← hwc1]; exact (kb.setCell (p := ⟨wr.heap.size, 0, none⟩) (Nat.le_refl _) _).setCell (p := ⟨wr.heap.size, 1, none⟩) (Nat.le_refl _) _
                    have b0c : wb.cell? ⟨wr.heap.size, 0, none⟩ = some (.bool false) := bb.cell 0
                    have b0f := bb.frozen 0
                    have b0l := bb.lt
                    have b1c : wc1.cell? ⟨wr.heap.size, 1, none⟩ = some (.int .i64 pz) := bc1.cell 1
                    have b1f := bc1.frozen 1
                    have b1l := bc1.lt
                    have x0 := kb.cell q1r
                    have xl := Nat.lt_of_lt_of_le lqr kb.size
                    have s0' := kb.cell cS'
                    have sl' := Nat.lt_of_lt_of_le hbSl kb.size
                    have kq1 := fun y : KW wc => y.cell (kc.cell q1r)
                    have kS := fun y : KW wc => y.cell (kc.cell cS')
                    have kg1 := fun y : KW wc => y.cell (kc.cell g1)
                    have glc := Nat.lt_of_lt_of_le gl kc.size
                    have lqc := Nat.lt_of_lt_of_le lqr kc.size
                    have hbSc := Nat.lt_of_lt_of_le hbSl kc.size
                    obtain ⟨wd, hwd⟩ : ∃ wd, wc.drew = wd := ⟨_, rfl⟩
                    have hkd : Keep wc wd := by rw [← hwd]; exact (Keep.refl _).drew
                    have kd : Keep wr wd := kc.trans hkd
                    have bGd := hB.out.keep kd
                    have cGd : wd.cell? ⟨gq, 1, none⟩ = some (.int .i64 zs) := bGd.cell 1
                    have fGd := bGd.frozen 1
                    have lGd := bGd.lt
                    have bGf := bGd.set_ 1 (.int .i64 zt)
                    obtain ⟨wf, hwf⟩ : ∃ W : World, wd.setCell ⟨gq, 1, none⟩ (.int .i64 zt) = W := ⟨_, rfl⟩
                    rw [hwf] at bGf
                    have hgr : gq < wr.heap.size := gl
                    have bxf : Blk wf wr.heap.size 47 [.bool true, .int .i64 mz] := by rw [← hwf]; exact (bc2.keep hkd).far (p := ⟨gq, 1, none⟩) (by show ¬ wr.heap.size = gq; omega) _
                    have kf : Keep wD wf := by rw [← hwf]; exact (hkz.out.trans kd).setCell (p := ⟨gq, 1, none⟩) (by show wD.heap.size ≤ gq; omega) _
                    have hownf : Own plC 2 47 wf (gq + 1) (.slice R i rc) (S.pl.take i) := by rw [← hwf]; exact (hown.out.keep kd).put_far (p := ⟨gq, 1, none⟩) (fun k hk => by have := (hown.out.lt k hk).1; show ¬ k = gq; omega) _
                    obtain ⟨R0, rc0, hv, R', rc', w7, hrun, hown7, hE7, _, _⟩ := hownf.push1 elPlC (true, m) (by rw [hlen]; omega) (by omega) (by have := bGf.lt; omega) 25
                    rw [hlen] at hrun hown7
                    clear hv
                    replace hrun : (Builtin.append_ #[25, 25] 25 #[.slice R i rc, .slice (some ⟨wf.heap.size, 0, none⟩) 1 1]).run Try.prog (wf.alloc (.cells #[.bool true, .int .i64 mz] 47)) = .ok (.slice R' (i + 1) rc') w7 := by rw [← hmz]; exact hrun
                    have b7 := bGf.ext hE7 (by show ¬ gq + 1 ≤ gq; omega)
                    have c7 : w7.cell? ⟨gq, 0, none⟩ = some (.slice R i rc) := b7.cell 0
                    have f7 := b7.frozen 0
                    have l7 := b7.lt
                    have k7 : Keep wD w7 := Keep.of_ext kf hE7 (fun k hk => by show ¬ gq + 1 ≤ k; omega)
                    obtain ⟨W, hW⟩ : ∃ W : World, w7.setCell ⟨gq, 0, none⟩ (.slice R' (i + 1) rc') = W := ⟨_, rfl⟩
                    have Hfin := Lib.hid (show Blk W gq 31 [.slice R' (i + 1) rc', .int .i64 zt] ∧ Own plC 2 47 W (gq + 1) (.slice R' (i + 1) rc') (S.pl.take (i + 1)) ∧ Keep wD W from by
                      rw [← hW, ht]
                      exact ⟨b7.set_ 0 _, hown7.put_far (p := ⟨gq, 0, none⟩) (fun k hk => by have := (hown7.lt k hk).1; show ¬ k = gq; omega) _, k7.setCell (p := ⟨gq, 0, none⟩) (by show wD.heap.size ≤ gq; omega) _⟩)
                    have y0 : wf.cell? ⟨wr.heap.size, 0, none⟩ = some (.bool true) := bxf.cell 0
                    have y1 : wf.cell? ⟨wr.heap.size, 1, none⟩ = some (.int .i64 mz) := bxf.cell 1
                    have yl := bxf.lt
                    have z0 : wf.cell? ⟨gq, 0, none⟩ = some (.slice R i rc) := bGf.cell 0
                    have zl := bGf.lt
                    rw [hwb] at b0c b0f b0l x0 xl s0' sl' hwc1
                    clear hB hown hkz hzs hown7 hE7 b7 k7 hpl hrp ht hrs ho hpn cS cS' bb hzb hpz hgq bc1 bc2 kb kd bGd bGf bxf kf hownf hmb hmb2 hmz hm1
                    go_wp2_with fail
                    refine tail_begin (S := fun w' => ∃ z : KW wc, w' = z.val) [10] (by kernel_rfl) ?_
                    rw [hwd]
                    refine tail_take [0, 1, 2, 3, 4, 5, 6, 7] [] 3 (by kernel_rfl) (by kernel_rfl) (InK.mk' hkd) ?_
                    show wpQuiet _ _ _ _ [_, _, _, _, _, _, _, _] _
                    repeat (go_big_quiet_step (fail))
                    refine wpQuiet_nil ?_
                    clear kq1 kS kg1
                    refine tail_fix (i := 8) (fuel := 2) rfl (by kernel_rfl) (fun K hK => ?_)
                    go_simp
                    refine hK _ _ (fun _ => InK.mk' hkd) ?_
                    clear hK K
                    refine tail_fix (i := 9) (fuel := 1) rfl (by kernel_rfl) (fun K hK => ?_)
                    go_simp
                    refine hK _ _ (fun _ => InK.mk' hkd) ?_
                    clear hK K
                    refine tail_fix (i := 10) (fuel := 0) rfl (by kernel_rfl) (fun K hK => ?_)
                    go_simp
                    refine hK _ _ (fun h => absurd h (by decide)) ?_
                    clear hK K
                    refine tail_done (by kernel_rfl) ?_
                    clear hwf hwd hwc hwc1 b0c b0f b0l b1c b1f b1l x0 xl s0' sl' cGd fGd lGd hkd
                    go_wp2_with (at_builtin; refine wpList_append_eq rfl _ _ _ rfl _ _ rfl rfl _ _ hrun ?_; clear hrun)
                    go_roundw
                    case rel => exact ⟨i + 1, R', rc', zt, hin, by go_num, Lib.hid Hfin.out.1, Lib.hid Hfin.out.2.1, Lib.hid Hfin.out.2.2, Hz2⟩
                    case measure => simp [intOf]; omega
                · have hil : i = ls.length := by omega
                  have hown2 := hown.out
                  have hz2 := hzs.out.1
                  rw [hil, ← Hpll.out, List.take_length] at hz2
                  rw [HSl.out] at hz2
                  rw [show S.pl.take i = S.pl by rw [List.take_of_length_le]; rw [Hpll.out]; omega] at hown2
                  rw [hil] at hown2 g0
                  have b6r := Hb6D.out.keep hkz.out
                  obtain ⟨⟨u0, p0⟩, p0f, p0l, ⟨u1, p1⟩, p1f, W1, W, hW1, hW, hl1, hkW, hEW, v0, v1⟩ := gput b6r (Hkw.out.trans hkz.out) (.slice R ls.length rc) (.int .i64 zs)
                  rw [hW1] at p1 p1f
                  have hownW := hown2.ext hEW (fun k hk e => by have := (hown2.lt k hk).1; omega)
                  have Hres := Lib.hid (show RScanPost w ls k s0 (.returned (.tuple #[.agg #[.slice R ls.length rc, .int .i64 zs], .int .i64 0])) W from ⟨hkW, .inr ⟨Hgood.out, R, rc, by rw [← HSS.out]; exact hownW.segN.2, by rw [← HSS.out, ← hz2]⟩⟩)
                  have hil' : ¬ (i : Int) < (ls.length : Int) := by omega
                  clear hB hown hkz hzs hown2 hz2 b6r hkW hEW hownW hil
                  go_wp2_with fail
                  exact bodyPost_ret (v := .tuple #[.agg #[.slice R ls.length rc, .int .i64 zs], .int .i64 0]) (by simp [results, Try.results11, go_sem, v0, v1]) rfl Hres.out
end Go.Proofs.Ytigidchignlpmaa
