/-
  New; Label.
-/
import Derived.Test.YtkeefajfndmpeaaCPop
namespace Go.Proofs.Ytkeefajfndmpeaa
open Go Go.RowKit

set_option maxHeartbeats 1000000 in
theorem cnew_calls (res : List Int) (A : Option Addr) (c : Nat) (w : World) (hs : Seg w A (res.flatMap valC)) (hn : res.length ≤ 1000000) :
    Calls Try.prog 33 #[.slice A res.length c] w fun e w' => ∃ b bst F, e = .returned (.pointer (some ⟨b, 0, none⟩)) ∧ CAt F w' b bst (Ctl.fresh res) ∧ Keep w w' ∧ ∀ k, F k → w.heap.size ≤ k := by
  go_enter Try.func33, Try.ntmps33
  go_wp2_with fail
  refine (new_calls w).mono ?_
  rintro e w1 ⟨rfl, hk1, hat1⟩
  go_wp2_with fail
  refine (clone_calls res A c w1 (hs.keep hk1) hn).mono ?_
  rintro e w2 ⟨v2, rfl, ho2, hk2⟩
  obtain ⟨A2, c2, rfl, _⟩ := ho2.form
  obtain ⟨wa, hwa⟩ : ∃ wa : World, wa = w2.alloc (.cells #[.pointer (some ⟨w.heap.size + 1, 0, none⟩), .slice none 0 0, .slice A2 res.length c2, .bool true, .int .i64 0] 83) := ⟨_, rfl⟩
  have hka : Keep w2 wa := by rw [hwa]; exact (Keep.refl _).alloc _
  have bb : Blk wa w2.heap.size 83 [.pointer (some ⟨w.heap.size + 1, 0, none⟩), .slice none 0 0, .slice A2 res.length c2, .bool true, .int .i64 0] := by rw [hwa]; exact Blk.new _ _ _
  have hza : wa.heap.size = w2.heap.size + 1 := by rw [hwa]; simp
  have hata := (hat1.keep hk2).keep hka
  have hs12 := hk2.size
  have ho2a := ho2.keep hka
  have hF1 : ∀ k, (w.heap.size ≤ k ∧ k < w1.heap.size) → k < w1.heap.size := fun k hk => hk.2
  have Hat := Lib.hid hata
  have Ho2 := Lib.hid ho2a
  have Hbb := Lib.hid bb
  clear hata ho2a ho2 hat1 bb
  go_wp2_with fail
  show Calls Try.prog _ _ (w2.alloc (.cells #[.pointer (some ⟨w.heap.size + 1, 0, none⟩), .slice none 0 0, .slice A2 res.length c2, .bool true, .int .i64 0] 83)) _
  rw [← hwa]
  clear hwa
  refine (open_calls Hat.out (by decide) (by decide)).mono ?_
  rintro e w3 ⟨⟨u3, rfl⟩, hE3, F3, hat3, hF3⟩
  have bb3 := Hbb.out.ext hE3 (fun hf => by omega)
  have ho3 := Ho2.out.ext hE3 (fun k hk hf => by have := (Ho2.out.lt k hk).1; omega)
  have c1 : w3.cell? ⟨w2.heap.size, 1, none⟩ = some (.slice none 0 0) := bb3.cell 1
  have c2' : w3.cell? ⟨w2.heap.size, 2, none⟩ = some (.slice A2 res.length c2) := bb3.cell 2
  have f1 := bb3.frozen 1
  have l3 := bb3.lt
  have hne : ¬ w2.heap.size = w3.heap.size := by omega
  have hfin : ∀ W : World, W = (w3.setCell ⟨w2.heap.size, 1, none⟩ (.slice (some ⟨w3.heap.size, 0, none⟩) 1 1)).alloc (.cells (blkC ⟨0, LD.none, ⟨A2, res, c2⟩, false, true⟩).toArray 100) →
      ∃ F, CAt F W w2.heap.size (w.heap.size + 1) (Ctl.fresh res) ∧ Keep w W ∧ ∀ k, F k → w.heap.size ≤ k := by
    intro W hW
    have hz : (w3.setCell ⟨w2.heap.size, 1, none⟩ (.slice (some ⟨w3.heap.size, 0, none⟩) 1 1)).heap.size = w3.heap.size := by simp [World.setCell]
    have hgW : Blk W w3.heap.size 100 (([⟨0, LD.none, ⟨A2, res, c2⟩, false, true⟩] : List BD).flatMap blkC) := by
      rw [hW]
      have h1 := Blk.new (w3.setCell ⟨w2.heap.size, 1, none⟩ (.slice (some ⟨w3.heap.size, 0, none⟩) 1 1)) 100 (([⟨0, LD.none, ⟨A2, res, c2⟩, false, true⟩] : List BD).flatMap blkC)
      rw [hz] at h1
      exact h1
    have hbW : Blk W w2.heap.size 83 [.pointer (some ⟨w.heap.size + 1, 0, none⟩), .slice (some ⟨w3.heap.size, 0, none⟩) 1 1, .slice A2 res.length c2, .bool true, .int .i64 0] := by rw [hW]; exact (bb3.set_ 1 _).keep ((Keep.refl _).alloc _)
    have hEW : Ext (fun k => k = w2.heap.size) w3 W := by rw [hW]; exact ((Ext.refl (fun k => k = w2.heap.size) w3).setCell (p := ⟨w2.heap.size, 1, none⟩) (fun _ => rfl) _).alloc _
    have hn3 : ¬ F3 w2.heap.size := fun hf => (hF3 _ hf).elim (fun h1 => by omega) (fun h1 => by omega)
    have hatW : At F3 W (w.heap.size + 1) Stk.fresh.opened := hat3.of_keep (fun k hk => hEW.block k (hat3.lt k hk) (fun e => hn3 (e ▸ hk))) hEW.size
    have hoW := ho3.ext hEW (fun k hk e => ho3.blk_ne bb3 (by decide) hk e)
    have hsz3 := hE3.size
    have hszW := hEW.size
    have hsz1 := hk1.size
    have hF : ∀ k, (F3 k ∨ k = w2.heap.size ∨ k = w3.heap.size) → k < w1.heap.size ∨ w2.heap.size ≤ k := by
      rintro k (hk | hk | hk)
      · exact (hF3 k hk).elim (fun h1 => .inl h1.2) (fun h1 => .inr (by omega))
      · omega
      · omega
    have hrd : (LD.mk A2 res c2).Kt (fun k => F3 k ∨ k = w2.heap.size ∨ k = w3.heap.size) W := ⟨⟨hoW.segN.2, fun h0 ad ha hf => by
      subst ha
      have h1 := (hoW.lt ad.block rfl).1
      have h2 := (Ho2.out.lt ad.block rfl).2
      rcases hf with hf | hf | hf
      · rcases hF3 _ hf with h3 | h3
        · omega
        · omega
      · exact ho3.blk_ne bb3 (by decide) rfl hf
      · have := (ho3.lt ad.block rfl).2; omega⟩, LD.Kt.of_own.LD.Ty.of_own hoW⟩
    refine ⟨fun k => F3 k ∨ k = w2.heap.size ∨ k = w3.heap.size, ⟨F3, _, [⟨0, LD.none, ⟨A2, res, c2⟩, false, true⟩], ⟨A2, res, c2⟩, ⟨hatW, hbW, Own.of_blk hgW (fun _ => rfl) (Nat.zero_le _) (by simp [maxLen]), fun x hx => ?_, hrd, .inr (.inl rfl), hn3, fun k hk => .inl hk, fun k hk => ?_, ?_⟩, rfl, rfl⟩, ?_, fun k hk => ?_⟩
    · rw [List.mem_singleton.1 hx]; exact ⟨LD.Kt.empty rfl, hrd⟩
    · simp [Value.ownBlock] at hk
      subst hk
      exact ⟨.inr (.inr rfl), fun hf => by have := hat3.lt _ hf; omega⟩
    · rintro k (hk | hk | hk)
      · exact Nat.lt_of_lt_of_le (hat3.lt k hk) hszW
      · rw [hk]; exact hbW.lt
      · rw [hk]; exact hgW.lt
    · have h1 : Keep w wa := (hk1.trans hk2).trans hka
      have h2 : Keep w w3 := ⟨hE3.os.trans h1.os, hE3.tape.trans h1.tape, hE3.output.trans h1.output, Nat.le_trans h1.size hE3.size, fun k hk => (hE3.block k (Nat.lt_of_lt_of_le hk h1.size) (fun hf => by omega)).trans (h1.block k hk)⟩
      exact ⟨hEW.os.trans h2.os, hEW.tape.trans h2.tape, hEW.output.trans h2.output, Nat.le_trans h2.size hEW.size, fun k hk => (hEW.block k (Nat.lt_of_lt_of_le hk h2.size) (by omega)).trans (h2.block k hk)⟩
    · rcases hk with hk | hk | hk
      · rcases hF3 k hk with h1 | h1
        · exact h1.1
        · omega
      · omega
      · omega
  have Hfin := Lib.hid hfin
  clear hfin hat3 hF3 hE3 bb3 ho3 Hbb Ho2 Hat hF1
  go_wp2
  go_ret
  obtain ⟨F, h1, h2, h3⟩ := Hfin.out _ rfl
  exact ⟨_, _, F, rfl, h1, h2, h3⟩
end Go.Proofs.Ytkeefajfndmpeaa
