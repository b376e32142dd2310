import Derived.Test.YtjpmiejgcnfiiaaGreatQ1
import Derived.Test.YtjpmiejgcnfiiaaGreatQ2
import Derived.WalkLawsBesides
import Derived.Test.YtjpmiejgcnfiiaaGreatQ7
set_option linter.unusedVariables false
set_option linter.unusedSimpArgs false
namespace Go.Proofs.YtjpmiejgcnfiiaaGreat
open Go Go.RowKit

/-- A row of the table: the opcode, its name, the kind of its immediates. -/
structure OpD where
 op : Int
 name : ByteArray
 imm : Int
def opC (x : OpD) : List Value := [.int .i64 x.op, .string x.name, .int .i64 x.imm]
def strC (s : ByteArray) : List Value := [.string s]
def t_controlL : List OpD := [⟨0, ⟨#[117, 110, 114, 101, 97, 99, 104, 97, 98, 108, 101]⟩, 0⟩, ⟨1, ⟨#[110, 111, 112]⟩, 0⟩, ⟨2, ⟨#[98, 108, 111, 99, 107]⟩, 1⟩, ⟨3, ⟨#[108, 111, 111, 112]⟩, 1⟩, ⟨4, ⟨#[105, 102]⟩, 1⟩, ⟨5, ⟨#[101, 108, 115, 101]⟩, 0⟩, ⟨11, ⟨#[101, 110, 100]⟩, 0⟩, ⟨12, ⟨#[98, 114]⟩, 2⟩, ⟨13, ⟨#[98, 114, 95, 105, 102]⟩, 2⟩, ⟨14, ⟨#[98, 114, 95, 116, 97, 98, 108, 101]⟩, 3⟩, ⟨15, ⟨#[114, 101, 116, 117, 114, 110]⟩, 0⟩, ⟨16, ⟨#[99, 97, 108, 108]⟩, 4⟩, ⟨17, ⟨#[99, 97, 108, 108, 95, 105, 110, 100, 105, 114, 101, 99, 116]⟩, 5⟩, ⟨26, ⟨#[100, 114, 111, 112]⟩, 0⟩, ⟨27, ⟨#[115, 101, 108, 101, 99, 116]⟩, 0⟩, ⟨28, ⟨#[115, 101, 108, 101, 99, 116]⟩, 6⟩, ⟨32, ⟨#[108, 111, 99, 97, 108, 46, 103, 101, 116]⟩, 7⟩, ⟨33, ⟨#[108, 111, 99, 97, 108, 46, 115, 101, 116]⟩, 7⟩, ⟨34, ⟨#[108, 111, 99, 97, 108, 46, 116, 101, 101]⟩, 7⟩, ⟨35, ⟨#[103, 108, 111, 98, 97, 108, 46, 103, 101, 116]⟩, 8⟩, ⟨36, ⟨#[103, 108, 111, 98, 97, 108, 46, 115, 101, 116]⟩, 8⟩, ⟨37, ⟨#[116, 97, 98, 108, 101, 46, 103, 101, 116]⟩, 9⟩, ⟨38, ⟨#[116, 97, 98, 108, 101, 46, 115, 101, 116]⟩, 9⟩]
def t_accessL : List OpD := [⟨40, ⟨#[105, 51, 50, 46, 108, 111, 97, 100]⟩, 17⟩, ⟨41, ⟨#[105, 54, 52, 46, 108, 111, 97, 100]⟩, 17⟩, ⟨44, ⟨#[105, 51, 50, 46, 108, 111, 97, 100, 56, 95, 115]⟩, 17⟩, ⟨45, ⟨#[105, 51, 50, 46, 108, 111, 97, 100, 56, 95, 117]⟩, 17⟩, ⟨46, ⟨#[105, 51, 50, 46, 108, 111, 97, 100, 49, 54, 95, 115]⟩, 17⟩, ⟨47, ⟨#[105, 51, 50, 46, 108, 111, 97, 100, 49, 54, 95, 117]⟩, 17⟩, ⟨48, ⟨#[105, 54, 52, 46, 108, 111, 97, 100, 56, 95, 115]⟩, 17⟩, ⟨49, ⟨#[105, 54, 52, 46, 108, 111, 97, 100, 56, 95, 117]⟩, 17⟩, ⟨50, ⟨#[105, 54, 52, 46, 108, 111, 97, 100, 49, 54, 95, 115]⟩, 17⟩, ⟨51, ⟨#[105, 54, 52, 46, 108, 111, 97, 100, 49, 54, 95, 117]⟩, 17⟩, ⟨52, ⟨#[105, 54, 52, 46, 108, 111, 97, 100, 51, 50, 95, 115]⟩, 17⟩, ⟨53, ⟨#[105, 54, 52, 46, 108, 111, 97, 100, 51, 50, 95, 117]⟩, 17⟩, ⟨54, ⟨#[105, 51, 50, 46, 115, 116, 111, 114, 101]⟩, 17⟩, ⟨55, ⟨#[105, 54, 52, 46, 115, 116, 111, 114, 101]⟩, 17⟩, ⟨58, ⟨#[105, 51, 50, 46, 115, 116, 111, 114, 101, 56]⟩, 17⟩, ⟨59, ⟨#[105, 51, 50, 46, 115, 116, 111, 114, 101, 49, 54]⟩, 17⟩, ⟨60, ⟨#[105, 54, 52, 46, 115, 116, 111, 114, 101, 56]⟩, 17⟩, ⟨61, ⟨#[105, 54, 52, 46, 115, 116, 111, 114, 101, 49, 54]⟩, 17⟩, ⟨62, ⟨#[105, 54, 52, 46, 115, 116, 111, 114, 101, 51, 50]⟩, 17⟩, ⟨63, ⟨#[109, 101, 109, 111, 114, 121, 46, 115, 105, 122, 101]⟩, 13⟩, ⟨64, ⟨#[109, 101, 109, 111, 114, 121, 46, 103, 114, 111, 119]⟩, 13⟩, ⟨65, ⟨#[105, 51, 50, 46, 99, 111, 110, 115, 116]⟩, 18⟩, ⟨66, ⟨#[105, 54, 52, 46, 99, 111, 110, 115, 116]⟩, 19⟩]
def t_endL : List OpD := [⟨208, ⟨#[114, 101, 102, 46, 110, 117, 108, 108]⟩, 20⟩, ⟨209, ⟨#[114, 101, 102, 46, 105, 115, 95, 110, 117, 108, 108]⟩, 0⟩, ⟨210, ⟨#[114, 101, 102, 46, 102, 117, 110, 99]⟩, 4⟩, ⟨64520, ⟨#[109, 101, 109, 111, 114, 121, 46, 105, 110, 105, 116]⟩, 15⟩, ⟨64521, ⟨#[100, 97, 116, 97, 46, 100, 114, 111, 112]⟩, 16⟩, ⟨64522, ⟨#[109, 101, 109, 111, 114, 121, 46, 99, 111, 112, 121]⟩, 14⟩, ⟨64523, ⟨#[109, 101, 109, 111, 114, 121, 46, 102, 105, 108, 108]⟩, 13⟩, ⟨64524, ⟨#[116, 97, 98, 108, 101, 46, 105, 110, 105, 116]⟩, 11⟩, ⟨64525, ⟨#[101, 108, 101, 109, 46, 100, 114, 111, 112]⟩, 12⟩, ⟨64526, ⟨#[116, 97, 98, 108, 101, 46, 99, 111, 112, 121]⟩, 10⟩, ⟨64527, ⟨#[116, 97, 98, 108, 101, 46, 103, 114, 111, 119]⟩, 9⟩, ⟨64528, ⟨#[116, 97, 98, 108, 101, 46, 115, 105, 122, 101]⟩, 9⟩, ⟨64529, ⟨#[116, 97, 98, 108, 101, 46, 102, 105, 108, 108]⟩, 9⟩]
def t_comparesL : List ByteArray := [⟨#[101, 113, 122]⟩, ⟨#[101, 113]⟩, ⟨#[110, 101]⟩, ⟨#[108, 116, 95, 115]⟩, ⟨#[108, 116, 95, 117]⟩, ⟨#[103, 116, 95, 115]⟩, ⟨#[103, 116, 95, 117]⟩, ⟨#[108, 101, 95, 115]⟩, ⟨#[108, 101, 95, 117]⟩, ⟨#[103, 101, 95, 115]⟩, ⟨#[103, 101, 95, 117]⟩]
def t_twosL : List ByteArray := [⟨#[99, 108, 122]⟩, ⟨#[99, 116, 122]⟩, ⟨#[112, 111, 112, 99, 110, 116]⟩, ⟨#[97, 100, 100]⟩, ⟨#[115, 117, 98]⟩, ⟨#[109, 117, 108]⟩, ⟨#[100, 105, 118, 95, 115]⟩, ⟨#[100, 105, 118, 95, 117]⟩, ⟨#[114, 101, 109, 95, 115]⟩, ⟨#[114, 101, 109, 95, 117]⟩, ⟨#[97, 110, 100]⟩, ⟨#[111, 114]⟩, ⟨#[120, 111, 114]⟩, ⟨#[115, 104, 108]⟩, ⟨#[115, 104, 114, 95, 115]⟩, ⟨#[115, 104, 114, 95, 117]⟩, ⟨#[114, 111, 116, 108]⟩, ⟨#[114, 111, 116, 114]⟩]
set_option maxRecDepth 100000
set_option maxHeartbeats 4000000
theorem control_calls (w : World) : Calls Tryz.prog 145 #[] w fun e w' => ∃ g, e = .returned (.slice (some ⟨g, 0, none⟩) 23 23) ∧ Blk w' g 207 (t_controlL.flatMap opC) ∧ w.heap.size ≤ g ∧ Keep w w' := by
 go_enter Tryz.func145, Tryz.ntmps145
 go_wp2
 go_ret
 exact ⟨_, rfl, Blk.new w _ (t_controlL.flatMap opC), Nat.le_refl _, (Keep.refl _).alloc _⟩
theorem access_calls (w : World) : Calls Tryz.prog 146 #[] w fun e w' => ∃ g, e = .returned (.slice (some ⟨g, 0, none⟩) 23 23) ∧ Blk w' g 207 (t_accessL.flatMap opC) ∧ w.heap.size ≤ g ∧ Keep w w' := by
 go_enter Tryz.func146, Tryz.ntmps146
 go_wp2
 go_ret
 exact ⟨_, rfl, Blk.new w _ (t_accessL.flatMap opC), Nat.le_refl _, (Keep.refl _).alloc _⟩
theorem end_calls (w : World) : Calls Tryz.prog 150 #[] w fun e w' => ∃ g, e = .returned (.slice (some ⟨g, 0, none⟩) 13 13) ∧ Blk w' g 207 (t_endL.flatMap opC) ∧ w.heap.size ≤ g ∧ Keep w w' := by
 go_enter Tryz.func150, Tryz.ntmps150
 go_wp2
 go_ret
 exact ⟨_, rfl, Blk.new w _ (t_endL.flatMap opC), Nat.le_refl _, (Keep.refl _).alloc _⟩
theorem compares_calls (w : World) : Calls Tryz.prog 148 #[] w fun e w' => ∃ g, e = .returned (.slice (some ⟨g, 0, none⟩) 11 11) ∧ Blk w' g 9 (t_comparesL.flatMap strC) ∧ w.heap.size ≤ g ∧ Keep w w' := by
 go_enter Tryz.func148, Tryz.ntmps148
 go_wp2
 go_ret
 exact ⟨_, rfl, Blk.new w _ (t_comparesL.flatMap strC), Nat.le_refl _, (Keep.refl _).alloc _⟩
theorem twos_calls (w : World) : Calls Tryz.prog 149 #[] w fun e w' => ∃ g, e = .returned (.slice (some ⟨g, 0, none⟩) 18 18) ∧ Blk w' g 9 (t_twosL.flatMap strC) ∧ w.heap.size ≤ g ∧ Keep w w' := by
 go_enter Tryz.func149, Tryz.ntmps149
 go_wp2
 go_ret
 exact ⟨_, rfl, Blk.new w _ (t_twosL.flatMap strC), Nat.le_refl _, (Keep.refl _).alloc _⟩
def t_threeL : List OpD := [⟨167, ⟨#[105, 51, 50, 46, 119, 114, 97, 112, 95, 105, 54, 52]⟩, 0⟩, ⟨172, ⟨#[105, 54, 52, 46, 101, 120, 116, 101, 110, 100, 95, 105, 51, 50, 95, 115]⟩, 0⟩, ⟨173, ⟨#[105, 54, 52, 46, 101, 120, 116, 101, 110, 100, 95, 105, 51, 50, 95, 117]⟩, 0⟩]
def t_ext0L : List ByteArray := [⟨#[101, 120, 116, 101, 110, 100, 56, 95, 115]⟩, ⟨#[101, 120, 116, 101, 110, 100, 49, 54, 95, 115]⟩]
def t_ext1L : List ByteArray := [⟨#[101, 120, 116, 101, 110, 100, 56, 95, 115]⟩, ⟨#[101, 120, 116, 101, 110, 100, 49, 54, 95, 115]⟩, ⟨#[101, 120, 116, 101, 110, 100, 51, 50, 95, 115]⟩]
/-- The rows of consecutive opcodes. -/
def numL (first : Int) (typ : ByteArray) (l : List ByteArray) : List OpD := l.zipIdx.map fun p => ⟨first + (p.2 : Int), typ ++ ⟨#[46]⟩ ++ p.1, 0⟩
/-- All rows. -/
def rowsL : List OpD := (t_controlL) ++ (t_accessL) ++ (numL 69 ⟨#[105, 51, 50]⟩ t_comparesL) ++ (numL 80 ⟨#[105, 54, 52]⟩ t_comparesL) ++ (numL 103 ⟨#[105, 51, 50]⟩ t_twosL) ++ (numL 121 ⟨#[105, 54, 52]⟩ t_twosL) ++ (t_threeL) ++ (numL 192 ⟨#[105, 51, 50]⟩ t_ext0L) ++ (numL 194 ⟨#[105, 54, 52]⟩ t_ext1L) ++ (t_endL)
end Go.Proofs.YtjpmiejgcnfiiaaGreat
namespace Go.Proofs.YtjpmiejgcnfiiaaGreat
open Go Go.RowKit

theorem elRw : ElT Tryz.prog 230 207 3 32 opC where
 slice := Tryz.underlying230
 info := info_of (z := .agg #[.int .i64 0, .string ⟨#[]⟩, .int .i64 0]) (by kernel_rfl) rfl
 pos := by omega
 len := fun _ => rfl
 one := fun x u hu => by simp [opC] at hu; rcases hu with rfl | rfl | rfl <;> rfl
theorem str_at {w wr : World} {A : Option Addr} {l : List ByteArray} (h : Seg w A (l.flatMap strC)) (hkeep : Keep w wr) {k : Nat} (hk : k < l.length) :
  ∃ b off, A = some ⟨b, off, none⟩ ∧ b < w.heap.size ∧ wr.cell? ⟨b, off + k, none⟩ = some (.string l[k]) := by
 obtain ⟨b, off, e, hb, hc⟩ := h.elem 1 (fun _ => rfl) (by omega) hk
 exact ⟨b, off, e, hb, by have := hkeep.cell (hc 0 _ rfl); simpa using this⟩
theorem op_get {w wr : World} {A : Option Addr} {l : List OpD} {k : Nat} {r : OpD} (h : Seg w A (l.flatMap opC)) (hkeep : Keep w wr) (hr : l[k]? = some r) :
  ∃ b off, A = some ⟨b, off, none⟩ ∧ b < w.heap.size ∧ wr.cell? ⟨b, off + k * 3, none⟩ = some (.int .i64 r.op) ∧ wr.cell? ⟨b, off + k * 3 + 1, none⟩ = some (.string r.name) ∧ wr.cell? ⟨b, off + k * 3 + 2, none⟩ = some (.int .i64 r.imm) := by
 obtain ⟨hk, e⟩ := List.getElem?_eq_some_iff.1 hr
 obtain ⟨b, off, e', hb, hc⟩ := h.elem 3 (fun _ => rfl) (by omega) hk
 rw [e] at hc
 exact ⟨b, off, e', hb, by have := hkeep.cell (hc 0 _ rfl); simpa using this, by have := hkeep.cell (hc 1 _ rfl); rwa [← Nat.add_assoc] at this, by have := hkeep.cell (hc 2 _ rfl); rwa [← Nat.add_assoc] at this⟩
theorem numL_snoc (first : Int) (typ : ByteArray) {l : List ByteArray} {k : Nat} (hk : k < l.length) : numL first typ (l.take (k + 1)) = numL first typ (l.take k) ++ [⟨first + (k : Int), typ ++ ⟨#[46]⟩ ++ l[k], 0⟩] := by
 unfold numL
 rw [take_snoc l hk, List.zipIdx_append, List.map_append]
 have : (l.take k).length = k := by simp; omega
 rw [this]
 simp
theorem numL_len (first : Int) (typ : ByteArray) (l : List ByteArray) : (numL first typ l).length = l.length := by simp [numL]

set_option maxRecDepth 100000
set_option maxHeartbeats 4000000 in
theorem numbers_calls (first : Int) (typ : ByteArray) (A : Option Addr) (l : List ByteArray) (c : Nat) (w : World) (hs : Seg w A (l.flatMap strC)) (hl : l.length ≤ 100) (h0 : 0 ≤ first) (h1 : first ≤ 100000) (ht : typ.size ≤ 100) (hz : ∀ s ∈ l, s.size ≤ 100) :
  Calls Tryz.prog 147 #[.int .i64 first, .string typ, .slice A l.length c] w fun e w' => ∃ A n c, e = .returned (.slice A n c) ∧ Own opC 3 207 w' w.heap.size (.slice A n c) (numL first typ l) ∧ Keep w w' := by
 have Hs := Lib.hid hs
 have Hz := Lib.hid hz
 obtain ⟨m, hm⟩ : ∃ m, l.length = m := ⟨_, rfl⟩
 have Hm := Lib.hid hm
 rw [hm] at hl ⊢
 clear hs hz hm
 go_enter Tryz.func147, Tryz.ntmps147
 go_wp2_with fail
 go_loopw [7, 8] (fun vo vi wr => ∃ k : Nat, k ≤ m ∧ vi = .int .i64 k ∧ Hid (Own opC 3 207 wr w.heap.size vo (numL first typ (l.take k))) ∧ Hid (Keep w wr)) (fun _ i _ => m - (intOf i).toNat)
 case atStart => exact ⟨0, Nat.zero_le _, rfl, Lib.hid (Own.nil _ _ _ _ _), Lib.hid (Keep.refl _)⟩
 case round =>
  obtain ⟨k, hk, rfl, hown, hkeep⟩ := hrel
  by_cases hin : k < m
  ·have hkl : k < l.length := by rw [Hm.out]; exact hin
   obtain ⟨b, off, hA, hb, q0⟩ := str_at Hs.out hkeep.out hkl
   subst hA
   have k1 : (k : Int) < (m : Int) := by omega
   have k0 : (0 : Int) ≤ (k : Int) := by omega
   have hsn := numL_snoc first typ hkl
   have hzz := Hz.out _ (List.getElem_mem hkl)
   obtain ⟨s, hse⟩ : ∃ s, l[k] = s := ⟨_, rfl⟩
   rw [hse] at hsn q0 hzz
   have hln : (numL first typ (l.take k)).length ≤ 100 := by rw [numL_len, List.length_take]; omega
   obtain ⟨Ao, co, hform, A', c', w7, hrun, ho7, hE7, _⟩ := hown.out.push1 (P := Tryz.prog) elRw (⟨first + (k : Int), typ ++ ⟨#[46]⟩ ++ s, 0⟩ : OpD) (by omega) (by omega) hkeep.out.size 230
   subst hform
   have Hn := Lib.hid (show Own opC 3 207 w7 w.heap.size (.slice A' ((numL first typ (l.take k)).length + 1) c') (numL first typ (l.take (k + 1))) ∧ Keep w w7 from ⟨by rw [hsn]; exact ho7, Keep.of_ext hkeep.out hE7 (fun i hi e => by omega)⟩)
   obtain ⟨ln, hlne⟩ : ∃ ln, (numL first typ (l.take k)).length = ln := ⟨_, rfl⟩
   rw [hlne] at hrun Hn ⊢
   clear hown hkeep hsn hse hlne hln ho7 hE7
   go_wp2_with (at_builtin; refine wpList_append_eq rfl _ _ _ rfl _ _ rfl rfl _ _ hrun ?_; clear hrun)
   go_roundw
   case rel => exact ⟨k + 1, hin, by go_num, Lib.hid Hn.out.1, Lib.hid Hn.out.2⟩
   case measure => simp [intOf]; omega
  ·have hkm : m = k := by omega
   subst hkm
   have Hr := Lib.hid (show Own opC 3 207 wr w.heap.size u7 (numL first typ l) ∧ Keep w wr from ⟨by have := hown.out; rwa [List.take_of_length_le (by rw [Hm.out]; exact Nat.le_refl _)] at this, hkeep.out⟩)
   obtain ⟨Af, cf, hform, _, _⟩ := hown.out.form
   subst hform
   clear hown hkeep
   go_wp2
   go_ret
   exact ⟨_, _, _, rfl, Hr.out.1, Hr.out.2⟩

/-- append of rows of the table. -/
theorem opApp {w : World} {base : Nat} {Av A : Option Addr} {n cv m c : Nat} {xs ys : List OpD} (h : Own opC 3 207 w base (.slice Av n cv) xs) (hs : Seg w A (ys.flatMap opC)) (hm : ys.length = m) (hn : xs.length + ys.length ≤ 100000) (hb : base ≤ w.heap.size) :
  ∃ A' n' c' w2, (Builtin.append_ #[230, 230] 230 #[.slice Av n cv, .slice A m c]).run Tryz.prog w = .ok (.slice A' n' c') w2 ∧ Own opC 3 207 w2 base (.slice A' n' c') (xs ++ ys) ∧ Ext (fun k => base ≤ k) w w2 := by
 subst hm
 obtain ⟨v', w2, hrun, hown, hg, _⟩ := append_run elRw h hs c 230 (by unfold maxLen; omega) (by omega) hb
 obtain ⟨A', c', rfl, _⟩ := hown.form
 have hlow : ∀ k, (Value.slice Av n cv).ownBlock = some k → base ≤ k := fun k hk => (h.lt k hk).1
 exact ⟨A', _, c', w2, hrun, hown, (Ext.refl _ _).grown hg (fun k hk _ => hlow k hk)⟩

theorem numbers_69 (q : Nat) (w : World) (hb : Blk w q 9 (t_comparesL.flatMap strC)) : Calls Tryz.prog 147 #[.int .i64 69, .string ⟨#[105, 51, 50]⟩, .slice (some ⟨q, 0, none⟩) 11 11] w fun e w' => ∃ A n c, e = .returned (.slice A n c) ∧ Own opC 3 207 w' w.heap.size (.slice A n c) (numL 69 ⟨#[105, 51, 50]⟩ t_comparesL) ∧ Keep w w' :=
 numbers_calls 69 ⟨#[105, 51, 50]⟩ (some ⟨q, 0, none⟩) t_comparesL 11 w (Seg.of_blk hb) (by decide) (by omega) (by omega) (by decide) (by decide)
theorem numL_len_69 : (numL 69 ⟨#[105, 51, 50]⟩ t_comparesL).length = 11 := by rw [numL_len]; rfl
theorem numbers_80 (q : Nat) (w : World) (hb : Blk w q 9 (t_comparesL.flatMap strC)) : Calls Tryz.prog 147 #[.int .i64 80, .string ⟨#[105, 54, 52]⟩, .slice (some ⟨q, 0, none⟩) 11 11] w fun e w' => ∃ A n c, e = .returned (.slice A n c) ∧ Own opC 3 207 w' w.heap.size (.slice A n c) (numL 80 ⟨#[105, 54, 52]⟩ t_comparesL) ∧ Keep w w' :=
 numbers_calls 80 ⟨#[105, 54, 52]⟩ (some ⟨q, 0, none⟩) t_comparesL 11 w (Seg.of_blk hb) (by decide) (by omega) (by omega) (by decide) (by decide)
theorem numL_len_80 : (numL 80 ⟨#[105, 54, 52]⟩ t_comparesL).length = 11 := by rw [numL_len]; rfl
theorem numbers_103 (q : Nat) (w : World) (hb : Blk w q 9 (t_twosL.flatMap strC)) : Calls Tryz.prog 147 #[.int .i64 103, .string ⟨#[105, 51, 50]⟩, .slice (some ⟨q, 0, none⟩) 18 18] w fun e w' => ∃ A n c, e = .returned (.slice A n c) ∧ Own opC 3 207 w' w.heap.size (.slice A n c) (numL 103 ⟨#[105, 51, 50]⟩ t_twosL) ∧ Keep w w' :=
 numbers_calls 103 ⟨#[105, 51, 50]⟩ (some ⟨q, 0, none⟩) t_twosL 18 w (Seg.of_blk hb) (by decide) (by omega) (by omega) (by decide) (by decide)
theorem numL_len_103 : (numL 103 ⟨#[105, 51, 50]⟩ t_twosL).length = 18 := by rw [numL_len]; rfl
theorem numbers_121 (q : Nat) (w : World) (hb : Blk w q 9 (t_twosL.flatMap strC)) : Calls Tryz.prog 147 #[.int .i64 121, .string ⟨#[105, 54, 52]⟩, .slice (some ⟨q, 0, none⟩) 18 18] w fun e w' => ∃ A n c, e = .returned (.slice A n c) ∧ Own opC 3 207 w' w.heap.size (.slice A n c) (numL 121 ⟨#[105, 54, 52]⟩ t_twosL) ∧ Keep w w' :=
 numbers_calls 121 ⟨#[105, 54, 52]⟩ (some ⟨q, 0, none⟩) t_twosL 18 w (Seg.of_blk hb) (by decide) (by omega) (by omega) (by decide) (by decide)
theorem numL_len_121 : (numL 121 ⟨#[105, 54, 52]⟩ t_twosL).length = 18 := by rw [numL_len]; rfl
theorem numbers_192 (q : Nat) (w : World) (hb : Blk w q 9 (t_ext0L.flatMap strC)) : Calls Tryz.prog 147 #[.int .i64 192, .string ⟨#[105, 51, 50]⟩, .slice (some ⟨q, 0, none⟩) 2 2] w fun e w' => ∃ A n c, e = .returned (.slice A n c) ∧ Own opC 3 207 w' w.heap.size (.slice A n c) (numL 192 ⟨#[105, 51, 50]⟩ t_ext0L) ∧ Keep w w' :=
 numbers_calls 192 ⟨#[105, 51, 50]⟩ (some ⟨q, 0, none⟩) t_ext0L 2 w (Seg.of_blk hb) (by decide) (by omega) (by omega) (by decide) (by decide)
theorem numL_len_192 : (numL 192 ⟨#[105, 51, 50]⟩ t_ext0L).length = 2 := by rw [numL_len]; rfl
theorem numbers_194 (q : Nat) (w : World) (hb : Blk w q 9 (t_ext1L.flatMap strC)) : Calls Tryz.prog 147 #[.int .i64 194, .string ⟨#[105, 54, 52]⟩, .slice (some ⟨q, 0, none⟩) 3 3] w fun e w' => ∃ A n c, e = .returned (.slice A n c) ∧ Own opC 3 207 w' w.heap.size (.slice A n c) (numL 194 ⟨#[105, 54, 52]⟩ t_ext1L) ∧ Keep w w' :=
 numbers_calls 194 ⟨#[105, 54, 52]⟩ (some ⟨q, 0, none⟩) t_ext1L 3 w (Seg.of_blk hb) (by decide) (by omega) (by omega) (by decide) (by decide)
theorem numL_len_194 : (numL 194 ⟨#[105, 54, 52]⟩ t_ext1L).length = 3 := by rw [numL_len]; rfl

/-- What has been gathered. -/
structure RwAcc (w w' : World) (A : Option Addr) (n c : Nat) (L : List OpD) (m : Nat) : Prop where
 own : Own opC 3 207 w' w.heap.size (.slice A n c) L
 keep : Keep w w'
 len : L.length = m
theorem RwAcc.app {w w1 : World} {Av A : Option Addr} {n cv m c k : Nat} {xs ys : List OpD} (h : RwAcc w w1 Av n cv xs k) (hs : Seg w1 A (ys.flatMap opC)) (hm : ys.length = m) (hk : k + m ≤ 1000) :
  ∃ A' n' c' w2, (Builtin.append_ #[230, 230] 230 #[.slice Av n cv, .slice A m c]).run Tryz.prog w1 = .ok (.slice A' n' c') w2 ∧ RwAcc w w2 A' n' c' (xs ++ ys) (k + m) := by
 obtain ⟨A', n', c', w2, hrun, ho, hE⟩ := opApp (c := c) h.own hs hm (by have := h.len; omega) h.keep.size
 exact ⟨A', n', c', w2, hrun, ⟨ho, Keep.of_ext h.keep hE (fun i hi e => by omega), by rw [List.length_append, h.len, hm]⟩⟩
theorem RwAcc.kept {w w1 w2 : World} {A : Option Addr} {n c m : Nat} {L : List OpD} (h : RwAcc w w1 A n c L m) (hk : Keep w1 w2) : RwAcc w w2 A n c L m := ⟨h.own.keep hk, h.keep.trans hk, h.len⟩

set_option maxRecDepth 100000
set_option maxHeartbeats 8000000 in
theorem rows_calls (w : World) : Calls Tryz.prog 141 #[] w fun e w' => ∃ A n c, e = .returned (.slice A n c) ∧ Own opC 3 207 w' w.heap.size (.slice A n c) rowsL ∧ Keep w w' := by
 have hrow : rowsL = (t_controlL) ++ (t_accessL) ++ (numL 69 ⟨#[105, 51, 50]⟩ t_comparesL) ++ (numL 80 ⟨#[105, 54, 52]⟩ t_comparesL) ++ (numL 103 ⟨#[105, 51, 50]⟩ t_twosL) ++ (numL 121 ⟨#[105, 54, 52]⟩ t_twosL) ++ (t_threeL) ++ (numL 192 ⟨#[105, 51, 50]⟩ t_ext0L) ++ (numL 194 ⟨#[105, 54, 52]⟩ t_ext1L) ++ (t_endL) := rfl
 have hl0 : t_controlL.length = 23 := rfl
 have hl1 : t_accessL.length = 23 := rfl
 have hl6 : t_threeL.length = 3 := rfl
 have hl9 : t_endL.length = 13 := rfl
 have hblk3 : ∀ W : World, Blk (W.alloc (.cells (t_threeL.flatMap opC).toArray 207)) W.heap.size 207 (t_threeL.flatMap opC) := fun W => Blk.new W _ _
 have hl2 := numL_len_69
 have hl3 := numL_len_80
 have hl4 := numL_len_103
 have hl5 := numL_len_121
 have hl7 := numL_len_192
 have hl8 := numL_len_194
 have hn69 := numbers_69
 have hn80 := numbers_80
 have hn103 := numbers_103
 have hn121 := numbers_121
 have hn192 := numbers_192
 have hn194 := numbers_194
 have hc0 := control_calls
 have hc1 := access_calls
 have hc9 := end_calls
 obtain ⟨T0, e0⟩ : ∃ T, t_controlL = T := ⟨_, rfl⟩
 rw [e0] at hrow hl0 hc0
 obtain ⟨T1, e1⟩ : ∃ T, t_accessL = T := ⟨_, rfl⟩
 rw [e1] at hrow hl1 hc1
 obtain ⟨N0, e2⟩ : ∃ T, numL 69 ⟨#[105, 51, 50]⟩ t_comparesL = T := ⟨_, rfl⟩
 rw [e2] at hrow hl2
 obtain ⟨N1, e3⟩ : ∃ T, numL 80 ⟨#[105, 54, 52]⟩ t_comparesL = T := ⟨_, rfl⟩
 rw [e3] at hrow hl3
 obtain ⟨N2, e4⟩ : ∃ T, numL 103 ⟨#[105, 51, 50]⟩ t_twosL = T := ⟨_, rfl⟩
 rw [e4] at hrow hl4
 obtain ⟨N3, e5⟩ : ∃ T, numL 121 ⟨#[105, 54, 52]⟩ t_twosL = T := ⟨_, rfl⟩
 rw [e5] at hrow hl5
 obtain ⟨T2, e6⟩ : ∃ T, t_threeL = T := ⟨_, rfl⟩
 rw [e6] at hrow hl6
 obtain ⟨M0, e7⟩ : ∃ T, numL 192 ⟨#[105, 51, 50]⟩ t_ext0L = T := ⟨_, rfl⟩
 rw [e7] at hrow hl7
 obtain ⟨M1, e8⟩ : ∃ T, numL 194 ⟨#[105, 54, 52]⟩ t_ext1L = T := ⟨_, rfl⟩
 rw [e8] at hrow hl8
 obtain ⟨T3, e9⟩ : ∃ T, t_endL = T := ⟨_, rfl⟩
 rw [e9] at hrow hl9 hc9
 rw [e2] at hn69
 rw [e3] at hn80
 rw [e4] at hn103
 rw [e5] at hn121
 rw [e7] at hn192
 rw [e8] at hn194
 rw [hrow]
 have Hc0 := Lib.hid hc0
 have Hc1 := Lib.hid hc1
 have Hc9 := Lib.hid hc9
 have Hn69 := Lib.hid hn69
 have Hn80 := Lib.hid hn80
 have Hn103 := Lib.hid hn103
 have Hn121 := Lib.hid hn121
 have Hn192 := Lib.hid hn192
 have Hn194 := Lib.hid hn194
 have Hl0 := Lib.hid hl0
 have Hl1 := Lib.hid hl1
 have Hl2 := Lib.hid hl2
 have Hl3 := Lib.hid hl3
 have Hl4 := Lib.hid hl4
 have Hl5 := Lib.hid hl5
 have Hl6 := Lib.hid hl6
 have Hl7 := Lib.hid hl7
 have Hl8 := Lib.hid hl8
 have Hl9 := Lib.hid hl9
 have He6 := Lib.hid e6
 clear hrow hc0 hc1 hc9 hn69 hn80 hn103 hn121 hn192 hn194 hl0 hl1 hl2 hl3 hl4 hl5 hl6 hl7 hl8 hl9 e0 e1 e2 e3 e4 e5 e6 e7 e8 e9 hblk3
 go_enter Tryz.func141, Tryz.ntmps141
 go_wp2_with fail
 refine (Hc0.out _).mono ?_
 rintro e w1 ⟨g1, rfl, hb1, hg1, hk1⟩
 have HA := Lib.hid (show RwAcc w w1 (some ⟨g1, 0, none⟩) 23 23 T0 23 from ⟨by
  have := Own.of_row (f := opC) (s := 3) (base := w.heap.size) hb1 (fun _ => rfl) hg1 (by rw [Hl0.out]; unfold maxLen; omega)
  rwa [Hl0.out] at this, hk1, Hl0.out⟩)
 clear hb1 hg1 hk1
 go_wp2_with fail
 refine (Hc1.out _).mono ?_
 rintro e w2 ⟨g2, rfl, hb2, hg2, hk2⟩
 obtain ⟨A0, n0, c0, w3, hrun, ha⟩ := (HA.out.kept hk2).app (c := 23) (Seg.of_blk hb2) Hl1.out (by omega)
 have HA := Lib.hid ha
 clear hb2 hg2 hk2 ha
 go_wp2_with (at_builtin; refine wpList_append_eq rfl _ _ _ rfl _ _ rfl rfl _ _ hrun ?_; clear hrun)
 refine (compares_calls _).mono ?_
 rintro e w1 ⟨q, rfl, hb1, hg1, hk1⟩
 have hnn := Hn69.out q w1 hb1
 have HN := Lib.hid hnn
 have Hk1 := Lib.hid hk1
 clear hnn hb1 hg1 hk1
 go_wp2_with fail
 refine HN.out.mono ?_
 clear HN
 rintro e w2 ⟨A2, n2, c2, rfl, ho2, hk2⟩
 have hn2 : n2 = 11 := by rw [ho2.segN.1, Hl2.out]
 subst hn2
 obtain ⟨A0, n0, c0, w3, hrun, ha⟩ := (HA.out.kept (Hk1.out.trans hk2)).app (c := c2) (m := 11) ho2.segN.2 Hl2.out (by omega)
 have HA := Lib.hid ha
 clear ha ho2 hk2 Hk1
 go_wp2_with (at_builtin; refine wpList_append_eq rfl _ _ _ rfl _ _ rfl rfl _ _ hrun ?_; clear hrun)
 refine (compares_calls _).mono ?_
 rintro e w1 ⟨q, rfl, hb1, hg1, hk1⟩
 have hnn := Hn80.out q w1 hb1
 have HN := Lib.hid hnn
 have Hk1 := Lib.hid hk1
 clear hnn hb1 hg1 hk1
 go_wp2_with fail
 refine HN.out.mono ?_
 clear HN
 rintro e w2 ⟨A2, n2, c2, rfl, ho2, hk2⟩
 have hn2 : n2 = 11 := by rw [ho2.segN.1, Hl3.out]
 subst hn2
 obtain ⟨A0, n0, c0, w3, hrun, ha⟩ := (HA.out.kept (Hk1.out.trans hk2)).app (c := c2) (m := 11) ho2.segN.2 Hl3.out (by omega)
 have HA := Lib.hid ha
 clear ha ho2 hk2 Hk1
 go_wp2_with (at_builtin; refine wpList_append_eq rfl _ _ _ rfl _ _ rfl rfl _ _ hrun ?_; clear hrun)
 refine (twos_calls _).mono ?_
 rintro e w1 ⟨q, rfl, hb1, hg1, hk1⟩
 have hnn := Hn103.out q w1 hb1
 have HN := Lib.hid hnn
 have Hk1 := Lib.hid hk1
 clear hnn hb1 hg1 hk1
 go_wp2_with fail
 refine HN.out.mono ?_
 clear HN
 rintro e w2 ⟨A2, n2, c2, rfl, ho2, hk2⟩
 have hn2 : n2 = 18 := by rw [ho2.segN.1, Hl4.out]
 subst hn2
 obtain ⟨A0, n0, c0, w3, hrun, ha⟩ := (HA.out.kept (Hk1.out.trans hk2)).app (c := c2) (m := 18) ho2.segN.2 Hl4.out (by omega)
 have HA := Lib.hid ha
 clear ha ho2 hk2 Hk1
 go_wp2_with (at_builtin; refine wpList_append_eq rfl _ _ _ rfl _ _ rfl rfl _ _ hrun ?_; clear hrun)
 refine (twos_calls _).mono ?_
 rintro e w1 ⟨q, rfl, hb1, hg1, hk1⟩
 have hnn := Hn121.out q w1 hb1
 have HN := Lib.hid hnn
 have Hk1 := Lib.hid hk1
 clear hnn hb1 hg1 hk1
 go_wp2_with fail
 refine HN.out.mono ?_
 clear HN
 rintro e w2 ⟨A2, n2, c2, rfl, ho2, hk2⟩
 have hn2 : n2 = 18 := by rw [ho2.segN.1, Hl5.out]
 subst hn2
 obtain ⟨A0, n0, c0, w3, hrun, ha⟩ := (HA.out.kept (Hk1.out.trans hk2)).app (c := c2) (m := 18) ho2.segN.2 Hl5.out (by omega)
 have HA := Lib.hid ha
 clear ha ho2 hk2 Hk1
 have hb6 : Blk (w3.alloc (.cells (t_threeL.flatMap opC).toArray 207)) w3.heap.size 207 (T2.flatMap opC) := by rw [← He6.out]; exact Blk.new w3 _ _
 obtain ⟨A0', n0', c0', w4, hrunB, ha⟩ := (HA.out.kept ((Keep.refl w3).alloc (.cells (t_threeL.flatMap opC).toArray 207))).app (c := 3) (m := 3) (Seg.of_blk hb6) Hl6.out (by omega)
 have HA := Lib.hid ha
 clear ha hb6
 go_wp2_with (first | (at_builtin; refine wpList_append_eq rfl _ _ _ rfl _ _ rfl rfl _ _ hrun ?_; clear hrun) | (at_builtin; refine wpList_append_eq rfl _ _ _ rfl _ _ rfl rfl _ _ hrunB ?_; clear hrunB))
 refine (Hn192.out _ _ (Blk.new w4 _ (t_ext0L.flatMap strC))).mono ?_
 rintro e w5 ⟨A2, n2, c2, rfl, ho2, hk2⟩
 have hn2 : n2 = 2 := by rw [ho2.segN.1, Hl7.out]
 subst hn2
 obtain ⟨A0, n0, c0, w6, hrun, ha⟩ := (HA.out.kept (((Keep.refl w4).alloc _).trans hk2)).app (c := c2) (m := 2) ho2.segN.2 Hl7.out (by omega)
 have HA := Lib.hid ha
 clear ha ho2 hk2
 go_wp2_with (at_builtin; refine wpList_append_eq rfl _ _ _ rfl _ _ rfl rfl _ _ hrun ?_; clear hrun)
 refine (Hn194.out _ _ (Blk.new w6 _ (t_ext1L.flatMap strC))).mono ?_
 rintro e w7 ⟨A2, n2, c2, rfl, ho2, hk2⟩
 have hn2 : n2 = 3 := by rw [ho2.segN.1, Hl8.out]
 subst hn2
 obtain ⟨A0, n0, c0, w8, hrun, ha⟩ := (HA.out.kept (((Keep.refl w6).alloc _).trans hk2)).app (c := c2) (m := 3) ho2.segN.2 Hl8.out (by omega)
 have HA := Lib.hid ha
 clear ha ho2 hk2
 go_wp2_with (at_builtin; refine wpList_append_eq rfl _ _ _ rfl _ _ rfl rfl _ _ hrun ?_; clear hrun)
 refine (Hc9.out _).mono ?_
 rintro e w9 ⟨g9, rfl, hb9, hg9, hk9⟩
 obtain ⟨A0, n0, c0, w10, hrun, ha⟩ := (HA.out.kept hk9).app (c := 13) (m := 13) (Seg.of_blk hb9) Hl9.out (by omega)
 have HA := Lib.hid ha
 clear ha hb9 hg9 hk9
 go_wp2_with (at_builtin; refine wpList_append_eq rfl _ _ _ rfl _ _ rfl rfl _ _ hrun ?_; clear hrun)
 go_ret
 exact ⟨_, _, _, rfl, HA.out.own, HA.out.keep⟩

/-- The row of an opcode. -/
def findIn (R : List OpD) (op : Int) : OpD × Bool := match R.find? (fun r => r.op == op) with
 | some r => (r, true)
 | none => (⟨0, ⟨#[]⟩, 0⟩, false)
def findRow (op : Int) : OpD × Bool := findIn rowsL op
theorem find_step {L : List OpD} {op : Int} {k : Nat} {r : OpD} (h : (L.take k).find? (fun r => r.op == op) = none) (hr : L[k]? = some r) :
  (r.op = op → L.find? (fun r => r.op == op) = some r) ∧ (r.op ≠ op → (L.take (k + 1)).find? (fun r => r.op == op) = none) := by
 obtain ⟨hk, e⟩ := List.getElem?_eq_some_iff.1 hr
 constructor
 ·intro h1
  rw [← List.take_append_drop k L, List.find?_append, h, List.drop_eq_getElem_cons hk, e]
  simp [h1]
 ·intro h1
  rw [List.take_add_one, hr, List.find?_append, h]
  simp [h1]

set_option maxRecDepth 100000
set_option maxHeartbeats 4000000 in
theorem find_calls (op : Int) (w : World) : Calls Tryz.prog 135 #[.int .i64 op] w fun e w' => e = .returned (.tuple #[.agg #[.int .i64 (findRow op).1.op, .string (findRow op).1.name, .int .i64 (findRow op).1.imm], .bool (findRow op).2]) ∧ Keep w w' := by
 have hrows := rows_calls
 have hlen : rowsL.length ≤ 1000 := by decide
 obtain ⟨Fd, hF⟩ : ∃ Fd, findRow op = Fd := ⟨_, rfl⟩
 have hF2 : findIn rowsL op = Fd := hF
 rw [hF]
 obtain ⟨R, hR⟩ : ∃ R, rowsL = R := ⟨_, rfl⟩
 rw [hR] at hrows hlen hF2
 have Hrows := Lib.hid hrows
 have HF := Lib.hid hF2
 clear hrows hR hF hF2
 obtain ⟨wa, hwa⟩ : ∃ wa, w.alloc (.cells #[.int .i64 0, .string ⟨#[]⟩, .int .i64 0] 207) = wa := ⟨_, rfl⟩
 have hka : Keep w wa := by rw [← hwa]; exact (Keep.refl _).alloc _
 have ba : Blk wa w.heap.size 207 [.int .i64 0, .string ⟨#[]⟩, .int .i64 0] := by rw [← hwa]; exact Blk.new w _ _
 have Hka := Lib.hid hka
 have Hba := Lib.hid ba
 have Hwa := Lib.hid hwa
 clear hka ba hwa
 go_enter Tryz.func135, Tryz.ntmps135
 go_wp2_with fail
 rw [Hwa.out]
 refine (Hrows.out _).mono ?_
 rintro e w1 ⟨A, n, c, rfl, hown, hk1⟩
 have Hown := Lib.hid hown
 have hn : n = R.length := hown.segN.1
 subst hn
 have Hk1 := Lib.hid (Hka.out.trans hk1)
 have Hb1 := Lib.hid (Hba.out.keep hk1)
 obtain ⟨m, hm⟩ : ∃ m, R.length = m := ⟨_, rfl⟩
 have Hm := Lib.hid hm
 rw [hm] at hlen ⊢
 clear hown hk1 Hka Hba hm
 go_wp2_with fail
 go_loopw [5] (fun vi wr => ∃ k : Nat, k ≤ m ∧ vi = .int .i64 k ∧ Hid ((R.take k).find? (fun r => r.op == op) = none) ∧ wr = w1) (fun i _ => m - (intOf i).toNat)
 case atStart => exact ⟨0, Nat.zero_le _, rfl, Lib.hid rfl, rfl⟩
 case round =>
  obtain ⟨k, hk, rfl, hnone, rfl⟩ := hrel
  have y0 : wr.cell? ⟨w.heap.size, 0, none⟩ = some (.int .i64 0) := Hb1.out.cell 0
  have y1 : wr.cell? ⟨w.heap.size, 1, none⟩ = some (.string ⟨#[]⟩) := Hb1.out.cell 1
  have y2 : wr.cell? ⟨w.heap.size, 2, none⟩ = some (.int .i64 0) := Hb1.out.cell 2
  have yf := Hb1.out.frozen
  have yl := Hb1.out.lt
  by_cases hin : k < m
  ·obtain ⟨r, hr⟩ := get_some (l := R) (k := k) (by rw [Hm.out]; exact hin)
   obtain ⟨b, off, hA, hb, q0, q1, q2⟩ := op_get Hown.out.segN.2 (Keep.refl _) hr
   subst hA
   have k1 : (k : Int) < (m : Int) := by omega
   have k0 : (0 : Int) ≤ (k : Int) := by omega
   obtain ⟨f1, f2⟩ := find_step hnone.out hr
   obtain ⟨ro, rn, ri⟩ := r
   replace q0 : wr.cell? ⟨b, off + k * 3, none⟩ = some (.int .i64 ro) := q0
   replace q1 : wr.cell? ⟨b, off + k * 3 + 1, none⟩ = some (.string rn) := q1
   replace q2 : wr.cell? ⟨b, off + k * 3 + 2, none⟩ = some (.int .i64 ri) := q2
   by_cases he : ro = op
   ·subst he
    have hee : (ro == ro) = true := by simp
    have Hf := Lib.hid (f1 rfl)
    clear f1 f2 hnone hr
    go_wp2
    refine bodyPost_ret (v := .tuple #[.agg #[.int .i64 ro, .string rn, .int .i64 ri], .bool true]) (by simp [results, Tryz.results135, go_sem, y0, y1, y2, yl]) rfl ?_
    have hFe : Fd = (⟨ro, rn, ri⟩, true) := by rw [← HF.out]; unfold findIn; rw [Hf.out]
    refine ⟨by rw [hFe], ?_⟩
    exact ((Hk1.out.setCell (p := ⟨w.heap.size, 0, none⟩) (Nat.le_refl _) _).setCell (p := ⟨w.heap.size, 1, none⟩) (Nat.le_refl _) _).setCell (p := ⟨w.heap.size, 2, none⟩) (Nat.le_refl _) _
   ·have hee : (ro == op) = false := by simpa using he
    have Hf := Lib.hid (f2 he)
    clear f1 f2 hnone hr
    go_wp2
    go_roundw
    case rel => exact ⟨k + 1, hin, by go_num, Hf, trivial⟩
    case measure => simp [intOf]; omega
  ·have hkm : m = k := by omega
   subst hkm
   have hFe : Fd = (⟨0, ⟨#[]⟩, 0⟩, false) := by
    have h1 := hnone.out
    rw [List.take_of_length_le (by rw [Hm.out]; exact Nat.le_refl _)] at h1
    rw [← HF.out]; unfold findIn; rw [h1]
   have HFe := Lib.hid hFe
   clear hFe hnone
   go_wp2
   refine bodyPost_ret (v := .tuple #[.agg #[.int .i64 0, .string ⟨#[]⟩, .int .i64 0], .bool false]) (by simp [results, Tryz.results135, go_sem, y0, y1, y2, yl]) rfl ?_
   refine ⟨by rw [HFe.out], ?_⟩
   exact ((Hk1.out.setCell (p := ⟨w.heap.size, 0, none⟩) (Nat.le_refl _) _).setCell (p := ⟨w.heap.size, 1, none⟩) (Nat.le_refl _) _).setCell (p := ⟨w.heap.size, 2, none⟩) (Nat.le_refl _) _
end Go.Proofs.YtjpmiejgcnfiiaaGreat
namespace Go.Proofs.YtjpmiejgcnfiiaaGreat
open Go Go.RowKit

theorem fn05_calls (A B : Option Addr) (n c k d : Nat) (w : World) : Calls Tryz.prog 134 #[.slice A n c, .slice B k d] w fun e w' => e = .returned (.agg #[.slice A n c, .slice B k d]) ∧ w' = w.alloc (.cells #[.slice A n c, .slice B k d] 36) := by
 go_enter Tryz.func134, Tryz.ntmps134
 go_wp2
 refine bodyPost_ret (v := .agg #[.slice A n c, .slice B k d]) (by simp [results, Tryz.results134, go_sem]) rfl ?_
 exact ⟨rfl, rfl⟩
theorem fn39_calls (A B : Option Addr) (n c k d : Nat) (w : World) : Calls Tryz.prog 97 #[.slice A n c, .slice B k d] w fun e w' => e = .returned (.tuple #[.agg #[.slice A n c, .slice B k d], .bool true]) ∧ w' = w.alloc (.cells #[.slice A n c, .slice B k d] 36) := by
 go_enter Tryz.func97, Tryz.ntmps97
 go_wp2
 refine bodyPost_ret (v := .tuple #[.agg #[.slice A n c, .slice B k d], .bool true]) (by simp [results, Tryz.results97, go_sem]) rfl ?_
 exact ⟨rfl, rfl⟩
theorem none39_calls (w : World) : Calls Tryz.prog 98 #[] w fun e w' => e = .returned (.tuple #[.agg #[.slice none 0 0, .slice none 0 0], .bool false]) ∧ w' = w.alloc (.cells #[.slice none 0 0, .slice none 0 0] 36) := by
 go_enter Tryz.func98, Tryz.ntmps98
 go_wp2
 refine bodyPost_ret (v := .tuple #[.agg #[.slice none 0 0, .slice none 0 0], .bool false]) (by simp [results, Tryz.results98, go_sem]) rfl ?_
 exact ⟨rfl, rfl⟩
theorem of05_calls (op : Int) (w : World) : Calls Tryz.prog 119 #[.int .i64 op] w fun e w' => e = .returned (.int .i64 (findRow op).1.imm) ∧ Keep w w' := by
 have Hf := Lib.hid (find_calls op w)
 go_enter Tryz.func119, Tryz.ntmps119
 go_wp2_with fail
 refine Hf.out.mono ?_
 rintro e w1 ⟨rfl, hk⟩
 go_wp2
 go_ret
 exact ⟨rfl, hk.alloc _⟩
theorem name05_calls (op : Int) (w : World) : Calls Tryz.prog 131 #[.int .i64 op] w fun e w' => e = .returned (.string (findRow op).1.name) ∧ Keep w w' := by
 have Hf := Lib.hid (find_calls op w)
 go_enter Tryz.func131, Tryz.ntmps131
 go_wp2_with fail
 refine Hf.out.mono ?_
 rintro e w1 ⟨rfl, hk⟩
 go_wp2
 go_ret
 exact ⟨rfl, hk.alloc _⟩
theorem known05_calls (op : Int) (w : World) : Calls Tryz.prog 151 #[.int .i64 op] w fun e w' => e = .returned (.bool (findRow op).2) ∧ Keep w w' := by
 have Hf := Lib.hid (find_calls op w)
 go_enter Tryz.func151, Tryz.ntmps151
 go_wp2_with fail
 refine Hf.out.mono ?_
 rintro e w1 ⟨rfl, hk⟩
 go_wp2
 go_ret
 exact ⟨rfl, hk.alloc _⟩
theorem typ05_calls (s : ByteArray) (w : World) : Calls Tryz.prog 132 #[.string s] w (RI w fun _ => True) := by
 go_enter Tryz.func132, Tryz.ntmps132
 go_wp2
 all_goals go_ret
 all_goals first | exact RB.mk rfl trivial (Keep.refl _) | exact RI.mk rfl trivial (Keep.refl _)
theorem index05_calls (n : Int) (w : World) : Calls Tryz.prog 153 #[.int .i64 n] w (RB w fun r => r = true → 0 ≤ n) := by
 go_enter Tryz.func153, Tryz.ntmps153
 go_wp2
 all_goals go_ret
 ·exact RB.mk rfl (fun _ => by omega) (Keep.refl _)
 ·exact RB.mk rfl (fun h => by cases h) (Keep.refl _)
theorem ref06_calls (n : Int) (w : World) : Calls Tryz.prog 116 #[.int .i64 n] w (RB w fun _ => True) := by
 go_enter Tryz.func116, Tryz.ntmps116
 go_wp2
 all_goals go_ret
 all_goals first | exact RB.mk rfl trivial (Keep.refl _) | exact RI.mk rfl trivial (Keep.refl _)
theorem val06_calls (n : Int) (w : World) : Calls Tryz.prog 56 #[.int .i64 n] w (RB w fun _ => True) := by
 go_enter Tryz.func56, Tryz.ntmps56
 go_wp2
 all_goals go_ret
 all_goals first | exact RB.mk rfl trivial (Keep.refl _) | exact RI.mk rfl trivial (Keep.refl _)
set_option maxHeartbeats 1000000 in
theorem within_calls (s p : ByteArray) (hs : s.size ≤ 1000) (hp : p.size ≤ 1000) (w : World) : Calls Tryz.prog 133 #[.string s, .string p] w (RB w fun _ => True) := by
 go_enter Tryz.func133, Tryz.ntmps133
 go_wp2_with fail
 go_loopw [5] (fun vi wr => ∃ k : Nat, k ≤ s.size + 1 ∧ vi = .int .i64 k ∧ wr = w) (fun i _ => s.size + 1 - (intOf i).toNat)
 case atStart => exact ⟨0, Nat.zero_le _, rfl, rfl⟩
 case round =>
  obtain ⟨k, hk, rfl, rfl⟩ := hrel
  by_cases hin : k + p.size ≤ s.size
  ·have h1 : (k : Int) + (p.size : Int) ≤ (s.size : Int) := by omega
   have h0 : (0 : Int) ≤ (k : Int) := by omega
   have h2 : (k : Int) ≤ (k : Int) + (p.size : Int) := by omega
   go_wp2
   ·go_ret
    first | exact RB.mk rfl trivial (Keep.refl _) | exact RI.mk rfl trivial (Keep.refl _)
   ·go_roundw
    case rel => exact ⟨k + 1, by omega, by go_num, trivial⟩
    case measure => simp [intOf]; omega
  ·have h1 : ¬ (k : Int) + (p.size : Int) ≤ (s.size : Int) := by omega
   go_wp2
   go_ret
   first | exact RB.mk rfl trivial (Keep.refl _) | exact RI.mk rfl trivial (Keep.refl _)
end Go.Proofs.YtjpmiejgcnfiiaaGreat
