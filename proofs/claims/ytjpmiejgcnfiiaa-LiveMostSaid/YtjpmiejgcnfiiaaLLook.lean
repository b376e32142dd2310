/-
  The closure of the program's right.
-/
import Derived.Test.YtjpmiejgcnfiiaaLPlaces
set_option linter.unusedVariables false
set_option linter.unusedSimpArgs false
namespace Go.Proofs.Ytjpmiejgcnfiiaa
open Go Go.RowKit

/-- All numbers of the block are those of values. -/
structure BkD.In (y : BkD) (nv : Nat) : Prop where
  params : ∀ v ∈ y.params.l, 0 ≤ v ∧ v < (nv : Int)
  args : ∀ i ∈ y.ins.l, ∀ v ∈ i.args.l, 0 ≤ v ∧ v < (nv : Int)
  outs : ∀ i ∈ y.ins.l, ∀ v ∈ i.outs.l, 0 ≤ v ∧ v < (nv : Int)
  ends : ∀ v ∈ y.endsI, 0 ≤ v ∧ v < (nv : Int)
theorem nat_lt {l : List Int} {nv : Nat} (h : ∀ v ∈ l, 0 ≤ v ∧ v < (nv : Int)) : ∀ v ∈ nat l, v < nv := by
  intro v hv
  obtain ⟨u, hu, rfl⟩ := List.mem_map.1 (show v ∈ l.map Int.toNat from hv)
  have := h u hu
  omega
theorem BkD.In.p {y : BkD} {nv : Nat} (h : y.In nv) (n : Nat) : (y.p n).In nv where
  params := nat_lt h.params
  args := fun x hx => by
    obtain ⟨i, hi, rfl⟩ := List.mem_map.1 (show x ∈ y.ins.l.map InD.p from hx)
    exact nat_lt (h.args i hi)
  outs := fun x hx => by
    obtain ⟨i, hi, rfl⟩ := List.mem_map.1 (show x ∈ y.ins.l.map InD.p from hx)
    exact nat_lt (h.outs i hi)
  ends := nat_lt h.ends

set_option maxHeartbeats 2000000 in
theorem look_calls (l : List Int) (A : Option Addr) (c nv vc g ob : Nat) (va : Option Addr) (w : World) (hl : ∀ v ∈ l, 0 ≤ v ∧ v < (nv : Int)) (hs : Seg w A (l.flatMap intC)) (hn : l.length ≤ maxLen)
    (ho : Blk w ob 4 [.bool true]) (hg : w.cell? ⟨g, 2, none⟩ = some (.slice va nv vc)) (hgl : g < w.heap.size) (hne : g ≠ ob) (hao : ∀ ad, A = some ad → l ≠ [] → ad.block ≠ ob) :
    Calls Try.prog 29 #[.slice A l.length c, .pointer (some ⟨ob, 0, none⟩), .pointer (some ⟨g, 0, none⟩)] w fun e w' => (∃ v, e = .returned v) ∧ Blk w' ob 4 [.bool true] ∧ Ext (fun k => k = ob) w w' := by
  have Hl := Lib.hid hl
  have Hs := Lib.hid hs
  have Hao := Lib.hid hao
  have Hg := Lib.hid hg
  unfold maxLen at hn
  obtain ⟨m, hm⟩ : ∃ m, l.length = m := ⟨_, rfl⟩
  have Hm := Lib.hid hm
  rw [hm] at hn ⊢
  have Hgl := Lib.hid hgl
  have Ho := Lib.hid ho
  clear hl hs hao hm hg hgl ho
  go_enter Try.func29, Try.ntmps29
  go_wp2_with fail
  go_loopw [8] (fun vi wr => ∃ k : Nat, k ≤ m ∧ vi = .int .i64 k ∧ Hid (Blk wr ob 4 [.bool true]) ∧ Hid (Ext (fun k => k = ob) w wr)) (fun vi _ => m - (intOf vi).toNat)
  case atStart => exact ⟨0, Nat.zero_le _, rfl, Ho, Lib.hid (Ext.refl _ _)⟩
  case round =>
    obtain ⟨k, hk, rfl, ho, hE⟩ := hrel
    by_cases hin : k < m
    · have hlk : k < l.length := by rw [Hm.out]; exact hin
      obtain ⟨b, off, hA, hb, q0⟩ := int_at Hs.out (Keep.refl _) hlk
      subst hA
      have hne2 : b ≠ ob := Hao.out _ rfl (fun e => by rw [e] at hlk; simp at hlk)
      have q1 : wr.cell? ⟨b, off + k, none⟩ = some (.int .i64 l[k]) := (World.cell?_of_block (hE.out.block b hb hne2)).trans q0
      have g1 : wr.cell? ⟨g, 2, none⟩ = some (.slice va nv vc) := (World.cell?_of_block (hE.out.block g Hgl.out hne)).trans Hg.out
      have o1 : wr.cell? ⟨ob, 0, none⟩ = some (.bool true) := ho.out.cell 0
      have of := ho.out.frozen 0
      have hv := Hl.out l[k] (List.getElem_mem hlk)
      obtain ⟨v, hvv⟩ : ∃ v, l[k] = v := ⟨_, rfl⟩
      rw [hvv] at q1 hv
      obtain ⟨v0, v1⟩ := hv
      have kk : (k : Int) < (m : Int) := by omega
      have k0 : (0 : Int) ≤ (k : Int) := by omega
      have ll := ho.out.lt
      have Hnext := Lib.hid (show Blk (wr.setCell ⟨ob, 0, none⟩ (.bool true)) ob 4 [.bool true] ∧ Ext (fun k => k = ob) w (wr.setCell ⟨ob, 0, none⟩ (.bool true)) from
        ⟨ho.out.set_ 0 (.bool true), hE.out.setCell (p := ⟨ob, 0, none⟩) (fun _ => rfl) _⟩)
      clear hvv ho hE q0
      go_wp2
      go_roundw
      case rel => exact ⟨k + 1, hin, by go_num, Lib.hid Hnext.out.1, Lib.hid Hnext.out.2⟩
      case measure => simp [intOf]; omega
    · go_wp2
      refine bodyPost_end (results_none rfl _ _ _) rfl ⟨⟨_, rfl⟩, ho.out, hE.out⟩
end Go.Proofs.Ytjpmiejgcnfiiaa
