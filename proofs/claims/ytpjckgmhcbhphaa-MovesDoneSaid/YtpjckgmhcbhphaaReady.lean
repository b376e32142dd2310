/-
  moves.ready and moves.first.
-/
import Derived.Test.YtpjckgmhcbhphaaLeft
namespace Go.Proofs.Ytpjckgmhcbhphaa
open Go Go.RowKit

/-- Among the first k: does another pending move read this place? -/
def needTo (L : List (Option Mv)) (i : Nat) (p : Plc) (k : Nat) : Bool :=
  (List.range k).any fun k => k != i && (match L.getD k none with | some x => x.1 == p | none => false)

theorem needTo_all (L : List (Option Mv)) (i : Nat) (p : Plc) : needTo L i p L.length = neededB L i p := rfl
theorem needTo_zero (L : List (Option Mv)) (i : Nat) (p : Plc) : needTo L i p 0 = false := rfl
theorem needTo_none {L : List (Option Mv)} {i : Nat} {p : Plc} {k : Nat} (h : L.getD k none = none) : needTo L i p (k + 1) = needTo L i p k := by
  unfold needTo; rw [List.range_succ, List.any_append]; simp [-List.getD_eq_getElem?_getD, h]
theorem needTo_self {L : List (Option Mv)} {p : Plc} {k : Nat} : needTo L k p (k + 1) = needTo L k p k := by
  unfold needTo; rw [List.range_succ, List.any_append]; simp
theorem needTo_some {L : List (Option Mv)} {i : Nat} {p : Plc} {k : Nat} {x : Mv} (h : L.getD k none = some x) (hk : ¬ k = i) : needTo L i p (k + 1) = (needTo L i p k || plcEq x.1 p) := by
  unfold needTo; rw [List.range_succ, List.any_append]; simp only [List.any_cons, List.any_nil, Bool.or_false, h]
  have h1 : (k != i) = true := by simpa using hk
  rw [h1, Bool.true_and]
  congr 1
  rw [Bool.eq_iff_iff]; simp [plcEq]

/-- What 'ready' returns. -/
def ReadyIs (L : List (Option Mv)) (r : Int) : Prop :=
  (r = -1 ∧ ∀ (j : Nat) (x : Mv), L[j]? = some (some x) → neededB L j x.2 = true) ∨
  ∃ (i : Nat) (m : Mv), r = i ∧ L[i]? = some (some m) ∧ neededB L i m.2 = false ∧ ∀ (j : Nat) (x : Mv), j < i → L[j]? = some (some x) → neededB L j x.2 = true

def NeedUpto (L : List (Option Mv)) (i : Nat) : Prop := ∀ (j : Nat) (x : Mv), j < i → L[j]? = some (some x) → neededB L j x.2 = true

theorem getD_none {L : List (Option Mv)} {i : Nat} (h : L.getD i none = none) (x : Mv) : ¬ L[i]? = some (some x) := by
  intro e; simp [List.getD, e] at h
theorem getD_some {L : List (Option Mv)} {i : Nat} {m : Mv} (h : L.getD i none = some m) : L[i]? = some (some m) := by
  cases hx : L[i]? with
  | none => simp [List.getD, hx] at h
  | some o => simp [List.getD, hx] at h; rw [h]

theorem ready_calls (L : List (Option Mv)) (A : Option Addr) (c b : Nat) (w : World) (hL : LeftIs w b L) (hn : L.length ≤ 1000000) :
    Calls Try.prog 22 #[.slice A L.length c, .map (some b)] w fun e w' => ∃ r : Int, e = .returned (.int .i64 r) ∧ ReadyIs L r ∧ Keep w w' := by
  have heq := plc_eql
  go_enter Try.func22, Try.ntmps22
  go_wp2
  go_loopw [14] (fun i wr => ∃ k : Nat, k ≤ L.length ∧ i = .int .i64 k ∧ NeedUpto L k ∧ Keep w wr) (fun i _ => L.length - (intOf i).toNat)
  case atStart => exact ⟨0, Nat.zero_le _, rfl, fun j x h => absurd h (Nat.not_lt_zero _), Keep.refl _⟩
  case round =>
    obtain ⟨i, hi, rfl, hup, hkeep⟩ := hrel
    by_cases hlt : i < L.length
    · have hlk := left_look (hL.keep hkeep) i (by omega) wr rfl true
      cases hg : L.getD i none with
      | none =>
        rw [hg] at hlk
        simp only [if_true, mvV, Option.getD_none, Option.isSome_none] at hlk
        have hup' : NeedUpto L (i + 1) := fun j x hj hx => by
          rcases Nat.lt_succ_iff_lt_or_eq.1 hj with h | rfl
          · exact hup j x h hx
          · exact absurd hx (getD_none hg x)
        clear hg
        go_wp2
        go_roundw
        case rel => exact ⟨i + 1, hlt, by go_num, hup', hkeep.alloc _⟩
        case measure => simp [intOf]; omega
      | some m =>
        rw [hg] at hlk
        simp only [if_true, mvV, Option.getD_some, Option.isSome_some] at hlk
        have Hg := Lib.hid hg
        clear hg
        go_wp2
        obtain ⟨wo, rfl⟩ : ∃ wo : World, wo = wr := ⟨_, rfl⟩
        have hbo : b < wo.heap.size := (hL.keep hkeep).lt
        have d2 : (wo.alloc (.cells #[.bool m.1.1, .int .i64 m.1.2, .bool m.2.1, .int .i64 m.2.2] 32)).cell? ⟨wo.heap.size, 2, none⟩ = some (.bool m.2.1) := by simp [go_sem]
        have d3 : (wo.alloc (.cells #[.bool m.1.1, .int .i64 m.1.2, .bool m.2.1, .int .i64 m.2.2] 32)).cell? ⟨wo.heap.size, 3, none⟩ = some (.int .i64 m.2.2) := by simp [go_sem]
        have D2 := Lib.hid d2
        have D3 := Lib.hid d3
        clear d2 d3
        go_loopw [8, 27] (fun nd kk wi => ∃ k : Nat, k ≤ L.length ∧ kk = .int .i64 k ∧ nd = .bool (needTo L i m.2 k) ∧ Keep (wo.alloc (.cells #[.bool m.1.1, .int .i64 m.1.2, .bool m.2.1, .int .i64 m.2.2] 32)) wi) (fun _ kk _ => L.length - (intOf kk).toNat)
        case atStart => exact ⟨0, Nat.zero_le _, rfl, rfl, Keep.refl _⟩
        case round =>
          obtain ⟨k, hk, rfl, rfl, hki⟩ := hrel
          by_cases hlk2 : k < L.length
          · have c2 := hki.cell D2.out
            have c3 := hki.cell D3.out
            have hs2 : wo.heap.size < wr.heap.size := by have := hki.size; simp at this; omega
            have hlook := left_look (((hL.keep hkeep).keep ((Keep.refl _).alloc _)).keep hki) k (by omega) wr rfl true
            cases hgk : L.getD k none with
            | none =>
              rw [hgk] at hlook
              simp only [if_true, mvV, Option.getD_none, Option.isSome_none] at hlook
              have Hs := Lib.hid (needTo_none (i := i) (p := m.2) hgk)
              clear hgk hlk
              cases hnd : needTo L i m.2 k
              all_goals
                rw [hnd] at Hs
                go_wp2
                go_roundw
                case rel => exact ⟨k + 1, hlk2, by go_num, by rw [Hs.out], hki.alloc _⟩
                case measure => simp [intOf]; omega
            | some x =>
              rw [hgk] at hlook
              simp only [if_true, mvV, Option.getD_some, Option.isSome_some] at hlook
              by_cases hik : k = i
              · subst hik
                have Hs := Lib.hid (needTo_self (L := L) (p := m.2) (k := k))
                clear hgk hlk
                cases hnd : needTo L k m.2 k
                all_goals
                  rw [hnd] at Hs
                  go_wp2
                  go_roundw
                  case rel => exact ⟨k + 1, hlk2, by go_num, by rw [Hs.out], hki.alloc _⟩
                  case measure => simp [intOf]; omega
              · have Hs := Lib.hid (needTo_some (p := m.2) hgk hik)
                have hne : ((k : Int) != (i : Int)) = true := bne_iff_ne.2 (by omega)
                clear hgk hlk
                cases hnd : needTo L i m.2 k <;> cases hpe : plcEq x.1 m.2
                all_goals
                  rw [hnd, hpe] at Hs
                  go_wp2
                  go_roundw
                  case rel => exact ⟨k + 1, hlk2, by go_num, by rw [Hs.out]; rfl, hki.alloc _⟩
                  case measure => simp [intOf]; omega
          · have hkl : k = L.length := by omega
            have hall : needTo L i m.2 k = neededB L i m.2 := by rw [hkl]; rfl
            have hgi := getD_some Hg.out
            clear hlk
            cases hnb : neededB L i m.2
            · rw [hnb] at hall
              have Hf := Lib.hid (show ReadyIs L (i : Int) from .inr ⟨i, m, rfl, hgi, hnb, hup⟩)
              clear hkl hgi hnb
              go_wp2
              go_ret
              exact ⟨i, rfl, Hf.out, (hkeep.alloc _).trans hki⟩
            · rw [hnb] at hall
              have Hf := Lib.hid (show NeedUpto L (i + 1) from fun j y hj hy => by
                rcases Nat.lt_succ_iff_lt_or_eq.1 hj with h | rfl
                · exact hup j y h hy
                · rw [hgi] at hy; cases hy; exact hnb)
              clear hkl hgi hnb
              go_wp2
              go_roundw
              case rel => exact ⟨i + 1, hlt, by go_num, Hf.out, (hkeep.alloc _).trans hki⟩
              case measure => simp [intOf]; omega
    · have Hn := Lib.hid (show ReadyIs L (-1) from .inl ⟨rfl, fun j x hx => hup j x (by have := (List.getElem?_eq_some_iff.1 hx).1; omega) hx⟩)
      go_wp2
      go_ret
      exact ⟨-1, rfl, Hn.out, hkeep⟩
end Go.Proofs.Ytpjckgmhcbhphaa
