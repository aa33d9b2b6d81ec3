/-
  ProgramLimits: a program of as many variables and rows as there may be has a form; with one more it has none.
-/
import Derived.Test.YtpgagepleffjlaaKD
set_option maxRecDepth 100000
namespace Go.Proofs.Ytpgagepleffjlaa
open Go Go.Tw Go.ChangeShapes Go.WideShapes Go.ChangeAt Go.RowKit

theorem plim_lifted (os : Os) (started : os.Started) (H : Type) (enc : TypeId × Value → H) :
    ReturnsInHanded {} Try.checked os 3 .any (Rows.programLimitsSpec.pre6 enc Try.prog Try.f3 Rows.programLimitsRow.domain false) (Rows.programLimitsSpec.post enc Try.prog Try.f3 false true false false) := by
  refine returnsInHanded_of_change (C := Try.checked) own0 started (by kernel_rfl) Try.func3
    (ChangeSpec.witness6 (enc := enc) (C := Try.checked) false ⟨#[], #[.bool false, .bool false], []⟩ 8 (by kernel_rfl) (by kernel_rfl) (by kernel_rfl) (by kernel_rfl)) ?_
  intro W base args ds gs before hval0 hW hcnd _
  have hval : ∀ (j : Nat) t v, Try.f3.params[j]? = some t → args[j]? = some v → Value.okWide Try.prog W .any base t v := hval0
  have hW' := hW
  obtain ⟨p, q, hA0, hV, rfl, hfz, hnd⟩ := hW
  have hA : DataW.TrodAll enc Try.prog W 0 (fun _ => true) true Try.f3.params.toList args.toList ds p := hA0
  obtain ⟨rfl, rfl⟩ := trodVars_none hV
  simp only [List.append_nil] at hW'
  have hAk := hA
  rw [Try.params3] at hA hval
  obtain ⟨v0, s0, d0, ds0, p0, q0, ea, rfl, rfl, h0, hA⟩ := trodAll_cons hA
  obtain ⟨v1, s1, d1, ds1, p1, q1, rfl, rfl, rfl, h1, hA⟩ := trodAll_cons hA
  obtain ⟨rfl, rfl, rfl⟩ := trodAll_nil hA
  have ea : args = #[v0, v1] := by cases args; simp_all
  subst ea
  obtain ⟨z0, e0, _⟩ := open_bool Try.underlying4 (hval 0 4 v0 rfl rfl) h0
  obtain ⟨z1, e1, _⟩ := open_bool Try.underlying4 (hval 1 4 v1 rfl rfl) h1
  subst e0 e1
  refine (ProgramLimits_ok z0 z1 W).mono fun e W' he => ?_
  obtain ⟨v, rfl, hx, rfl⟩ := he
  exact ⟨_, rfl, post_ext rfl hW' hx (by decide) hAk (fun _ _ _ => trodAll_mk1 (shut_bool Try.underlying4 _)) rfl rfl (ok_one (by kernel_rfl) rfl (okWide_bool_mk Try.underlying4 _))⟩
theorem programLimits_holds : Rows.ProgramLimitsSaid :=
  OpenClaim.holds_of_wide 3 Try.f3 rfl rfl rfl rfl rfl rfl rfl ⟨rfl, rfl, rfl, rfl, rfl⟩ rfl rfl rfl rfl rfl (by kernel_rfl) Try.func3 (by kernel_rfl)
    (of_decide_eq_true (by kernel_rfl)) (by unfold Func.isWrapper; first | (rw [if_pos (by decide +kernel)]; kernel_rfl) | (rw [if_neg (by decide +kernel)]; exact ⟨rfl, rfl⟩))
    (fun os started H enc _ => plim_lifted os started H enc)
end Go.Proofs.Ytpgagepleffjlaa
