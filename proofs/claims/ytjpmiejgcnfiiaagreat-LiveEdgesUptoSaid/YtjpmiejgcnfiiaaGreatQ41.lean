import Derived.Test.YtjpmiejgcnfiiaaGreatQ11
import Derived.Test.YtjpmiejgcnfiiaaGreatQ32
import Derived.Test.YtjpmiejgcnfiiaaGreatQ3
set_option linter.unusedVariables false
set_option linter.unusedSimpArgs false
namespace Go.Proofs.YtjpmiejgcnfiiaaGreat
open Go Go.RowKit

def lvP (ls : List LvD) : List (Int × List Lv.Rng) := ls.map fun z => (z.val, z.l)
theorem livesP_snoc (ls : List LvD) {k : Nat} {z : LvD} (hz : ls[k]? = some z) (v p : Int) : livesP (lvP (ls.take (k + 1))) v p = (livesP (lvP (ls.take k)) v p || (decide (z.val = v) && Lv.cov z.l p)) := by
 unfold livesP lvP
 rw [List.take_add_one, hz, List.map_append, List.any_append]
 simp

set_option maxHeartbeats 2000000 in
theorem lives47_calls (ls : List LvD) (A : Option Addr) (c : Nat) (v p : Int) (w : World) (h : Lives w A ls) (hn : ls.length ≤ 1000000) :
  Calls Tryz.prog 37 #[.slice A ls.length c, .int .i64 v, .int .i64 p] w fun e w' => e = .returned (.bool (livesP (lvP ls) v p)) ∧ Keep w w' := by
 have H := Lib.hid h
 clear h
 go_enter Tryz.func37, Tryz.ntmps37
 go_wp2_with fail
 go_loopw [7] (fun vi wr => ∃ k : Nat, k ≤ ls.length ∧ vi = .int .i64 k ∧ Hid (livesP (lvP (ls.take k)) v p = false) ∧ Hid (Keep w wr)) (fun i _ => ls.length - (intOf i).toNat)
 case atStart => exact ⟨0, Nat.zero_le _, rfl, Lib.hid rfl, Lib.hid (Keep.refl _)⟩
 case round =>
  obtain ⟨k, hk, rfl, hno, hkeep⟩ := hrel
  by_cases hlt : k < ls.length
  ·obtain ⟨z, hz⟩ := get_some hlt
   obtain ⟨B, off, hA, hB, q0, q1⟩ := H.out.get hkeep.out hz
   subst hA
   have hBl := Nat.lt_of_lt_of_le hB hkeep.out.size
   have k0 : (0 : Int) ≤ (k : Int) := by omega
   have k1 : (k : Int) < (ls.length : Int) := by omega
   have Hsn := Lib.hid (livesP_snoc ls hz v p)
   have Hl := Lib.hid (lives_calls z p wr (((H.out.ok z (List.mem_of_getElem? hz))).keep hkeep.out))
   obtain ⟨zv, za, zl, zc⟩ := z
   dsimp only at q0 q1 Hl Hsn
   clear hz
   by_cases hv : zv = v
   ·have hvd : decide (zv = v) = true := decide_eq_true hv
    have hvb : (zv == v) = true := by simpa using hv
    rw [hvd, Bool.true_and] at Hsn
    clear hv
    go_wp2_with fail
    refine Hl.out.mono ?_
    clear Hl q0 q1
    rintro e w2 ⟨rfl, hk2⟩
    have Hk2 := Lib.hid (hkeep.out.trans hk2)
    clear hk2 hkeep
    cases hcv : Lv.cov zl p with
    | true =>
     have Hr := Lib.hid (show livesP (lvP ls) v p = true from by
      have h1 := Hsn.out
      rw [hcv, Bool.or_true] at h1
      unfold livesP lvP at h1 ⊢
      rw [List.any_eq_true] at h1 ⊢
      obtain ⟨e, he, h2⟩ := h1
      rw [List.map_take] at he
      exact ⟨e, List.mem_of_mem_take he, h2⟩)
     clear hcv hno
     go_wp2_with fail
     go_ret
     exact ⟨by rw [Hr.out]; rfl, Hk2.out⟩
    | false =>
     have Hn := Lib.hid (show livesP (lvP (ls.take (k + 1))) v p = false from by rw [Hsn.out, hno.out, hcv]; rfl)
     clear hcv hno
     go_wp2_with fail
     go_roundw
     case rel => exact ⟨k + 1, hlt, by go_num, Hn, Hk2⟩
     case measure => simp [intOf]; omega
   ·have hvd : decide (zv = v) = false := decide_eq_false hv
    have hvb : (zv == v) = false := by simpa using hv
    have Hn := Lib.hid (show livesP (lvP (ls.take (k + 1))) v p = false from by rw [Hsn.out, hno.out, hvd]; rfl)
    clear hv hno
    go_wp2_with fail
    go_roundw
    case rel => exact ⟨k + 1, hlt, by go_num, Hn, hkeep⟩
    case measure => simp [intOf]; omega
  ·have Hr := Lib.hid (show livesP (lvP ls) v p = false from by have := hno.out; rwa [List.take_of_length_le (by omega)] at this)
   clear hno
   go_wp2_with fail
   go_ret
   exact ⟨by rw [Hr.out]; rfl, hkeep.out⟩
set_option maxHeartbeats 2000000 in
theorem uses_calls (ls : List LvD) (A B : Option Addr) (c d : Nat) (l : List Int) (p : Int) (w : World) (h : Lives w A ls) (hn : ls.length ≤ 1000000) (hs : Seg w B (l.flatMap intC)) (hl : l.length ≤ 2000000) (hall : ∀ v ∈ l, livesP (lvP ls) v p = true) :
  Calls Tryz.prog 20 #[.slice A ls.length c, .slice B l.length d, .int .i64 p] w fun e w' => e = .returned (.bool true) ∧ Keep w w' := by
 have H := Lib.hid h
 have Hs := Lib.hid hs
 have Ha := Lib.hid hall
 clear h hs hall
 go_enter Tryz.func20, Tryz.ntmps20
 go_wp2_with fail
 go_loopw [7] (fun vi wr => ∃ k : Nat, k ≤ l.length ∧ vi = .int .i64 k ∧ Hid (Keep w wr)) (fun i _ => l.length - (intOf i).toNat)
 case atStart => exact ⟨0, Nat.zero_le _, rfl, Lib.hid (Keep.refl _)⟩
 case round =>
  obtain ⟨k, hk, rfl, hkeep⟩ := hrel
  by_cases hlt : k < l.length
  ·obtain ⟨b2, o2, hB2, hb2, r0⟩ := int_at Hs.out hkeep.out hlt
   obtain ⟨u, hu⟩ : ∃ u, l[k] = u := ⟨_, rfl⟩
   have hl1 := Ha.out _ (List.getElem_mem hlt)
   rw [hu] at r0 hl1
   subst hB2
   have hbl := Nat.lt_of_lt_of_le hb2 hkeep.out.size
   have k0 : (0 : Int) ≤ (k : Int) := by omega
   have k1 : (k : Int) < (l.length : Int) := by omega
   have hc := lives47_calls ls A c u p wr (H.out.keep hkeep.out) hn
   rw [hl1] at hc
   have Hc := Lib.hid hc
   clear hu hl1 hc
   go_wp2_with fail
   refine Hc.out.mono ?_
   clear Hc r0
   rintro e w2 ⟨rfl, hk2⟩
   have Hk2 := Lib.hid (hkeep.out.trans hk2)
   clear hk2 hkeep
   go_wp2_with fail
   go_roundw
   case rel => exact ⟨k + 1, hlt, by go_num, Hk2⟩
   case measure => simp [intOf]; omega
  ·go_wp2_with fail
   go_ret
   exact ⟨rfl, hkeep.out⟩
end Go.Proofs.YtjpmiejgcnfiiaaGreat
