/-
  MovesDone, proved.
-/
import Derived.Test.YtpjckgmhcbhphaaLaw3
import Derived.Test.YtpjckgmhcbhphaaFrame
namespace Go.Proofs.Ytpjckgmhcbhphaa.PMovesDone
open Go Go.ChangeShapes Go.WideShapes Go.ChangeAt Go.RowKit

set_option maxRecDepth 100000 in
theorem lifted (os : Os) (started : os.Started) (H : Type) (enc : TypeId × Value → H) :
    ReturnsInHanded {} Try.checked os 5 .any (Rows.movesDoneSpec.pre6 enc Try.prog Try.f5 Rows.movesDoneRow.domain false) (Rows.movesDoneSpec.post enc Try.prog Try.f5 false true false false) := by
  refine returnsInHanded_of_change (C := Try.checked) own started (by kernel_rfl) Try.func5
    (ChangeSpec.witness6 (enc := enc) (C := Try.checked) false ⟨#[], #[.slice none 0 0, .slice none 0 0, .slice none 0 0], []⟩ 8 (by kernel_rfl) (by kernel_rfl) (by kernel_rfl) (by kernel_rfl)) ?_
  intro W base args ds gs before hval0 hW hcnd _
  have hval : ∀ (j : Nat) t v, Try.f5.params[j]? = some t → args[j]? = some v → Value.okWide Try.prog W .any base t v := hval0
  have hW' := hW
  obtain ⟨p, q, hA0, hV, rfl, hfz, hnd⟩ := hW
  have hA : DataW.TrodAll enc Try.prog W 0 (fun _ => true) true Try.f5.params.toList args.toList ds p := hA0
  have hA1 := hA
  rw [Try.params5] at hA hval
  obtain ⟨v0, vs0, d0, ds0, p0, q0, hargs, rfl, rfl, h0, r0⟩ := trodAll_cons hA
  obtain ⟨v1, vs1, d1, ds1, p1, q1, rfl, rfl, rfl, h1, r1⟩ := trodAll_cons r0
  obtain ⟨v2, vs2, d2, ds2, p2, q2, rfl, rfl, rfl, h2, r2⟩ := trodAll_cons r1
  obtain ⟨rfl, rfl, rfl⟩ := trodAll_nil r2
  obtain rfl : args = #[v0, v1, v2] := by cases args; simp_all
  obtain ⟨rfl, rfl⟩ := trodVars_none hV
  obtain ⟨A0, l0, c0, rfl, s0, k0, lc0, cm0⟩ := open_list (s := 4) (f := mvC) Try.underlying22 (by kernel_rfl) (fun _ => rfl) (opens_mv W) (hval 0 _ v0 rfl rfl) h0
  obtain ⟨A1, l1, c1, rfl, s1, k1, lc1, cm1⟩ := open_list (s := 2) (f := plcC) Try.underlying33 (by kernel_rfl) (fun _ => rfl) (opens_pl W) (hval 1 _ v1 rfl rfl) h1
  obtain ⟨A2, l2, c2, rfl, s2, k2, lc2, cm2⟩ := open_list (s := 1) (f := u64C) Try.underlying34 (by kernel_rfl) (fun _ => rfl) (opens_u64 W) (hval 2 _ v2 rfl rfl) h2
  clear hA0 hval0
  refine (movesDone_walk l0 l1 l2 A0 A1 A2 c0 c1 c2 W s0 s1 s2 k0 k1 (by omega) (by omega) (by omega) lc0 cm0).mono fun e W' ⟨he, bel⟩ => ?_
  subst he
  exact ⟨_, rfl, _, _, _, [], _, [], hW', trodAll_mk1 (shut_bool Try.underlying4 _), Keep.trodAll laidOut bel (by kernel_rfl) hA1, rfl, bel.frame _, fun h => by cases h⟩

theorem over : Rows.movesDoneRow.holds Try.pinned (OpenSpec.ofChange Rows.movesDoneSpec) :=
  OpenClaim.holds_of_wide 5 Try.f5 rfl rfl rfl rfl rfl rfl rfl ⟨rfl, rfl, rfl, rfl, rfl⟩ rfl rfl rfl rfl rfl (by kernel_rfl) Try.func5 (by kernel_rfl)
    (of_decide_eq_true (by kernel_rfl)) (by unfold Func.isWrapper; first | (rw [if_pos (by decide +kernel)]; kernel_rfl) | (rw [if_neg (by decide +kernel)]; exact ⟨rfl, rfl⟩))
    (fun os started H enc _ => lifted os started H enc)

theorem proved : Rows.MovesDoneSaid := over
end Go.Proofs.Ytpjckgmhcbhphaa.PMovesDone
