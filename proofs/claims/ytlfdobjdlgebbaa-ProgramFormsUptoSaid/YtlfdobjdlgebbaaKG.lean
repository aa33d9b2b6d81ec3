/-
  ProgramForms: a point within a program's bounds and rows, with what its rows leave, is a point of the form at the same cost, and of a point that breaks a bound or a row the form's bounds are broken; where what is read is of bulk at most 1048576.
-/
import Derived.Test.YtlfdobjdlgebbaaKF
set_option maxRecDepth 100000
namespace Go.Proofs.Ytlfdobjdlgebbaa
open Go Go.Tw Go.ChangeShapes Go.WideShapes Go.ChangeAt Go.RowKit

theorem pform_lifted (os : Os) (started : os.Started) (H : Type) (enc : TypeId × Value → H) (F0 : Stop.Interp) :
    ReturnsInHanded {} Try.checked os 10 .any ((Rows.OpenSpec.upto Rows.programFormsSpec).pre6 enc Try.prog Try.f10 Rows.programFormsUptoRow.domain false) (((Rows.OpenSpec.upto Rows.programFormsSpec).at F0).post enc Try.prog Try.f10 false true false false) := by
  refine returnsInHanded_of_cond (C := Try.checked) (s := Rows.OpenSpec.upto Rows.programFormsSpec) (k := Rows.uptoSmall) rfl own0 started (by kernel_rfl) Try.func10
    (OpenSpec.witness (enc := enc) (C := Try.checked) (s := Rows.OpenSpec.upto Rows.programFormsSpec) (k := Rows.uptoSmall) rfl false ⟨#[], #[.agg #[.slice none 0 0, .slice none 0 0, .slice none 0 0], .slice none 0 0], []⟩ 8 (by kernel_rfl) (by kernel_rfl) (by kernel_rfl)
      (x := ([.agg [.nil, .nil, .nil], .nil], [], [])) (by kernel_rfl) (by kernel_rfl) (by kernel_rfl)) ?_
  intro W base args ds gs before hval0 hW _ hk _
  have hval : ∀ (j : Nat) t v, Try.f10.params[j]? = some t → args[j]? = some v → Value.okWide Try.prog W .any base t v := hval0
  have hW' := hW
  obtain ⟨p, q, hA0, hV, rfl, hfz, hnd⟩ := hW
  have hA : DataW.TrodAll enc Try.prog W 0 (fun _ => true) true Try.f10.params.toList args.toList ds p := hA0
  obtain ⟨rfl, rfl⟩ := trodVars_none hV
  simp only [List.append_nil] at hW' hk
  have hAk := hA
  rw [Try.params10] at hA hval
  obtain ⟨v0, s0, d0, ds0, p0, q0, ea, rfl, rfl, h0, hA⟩ := trodAll_cons hA
  obtain ⟨v1, s1, d1, ds1, p1, q1, rfl, rfl, rfl, h1, hA⟩ := trodAll_cons hA
  obtain ⟨rfl, rfl, rfl⟩ := trodAll_nil hA
  have ea : args = #[v0, v1] := by cases args; simp_all
  subst ea
  have hbulk := small_all hk
  simp only [Rows.uptoBulkAll] at hbulk
  obtain ⟨P, vr, rr, e0, o0⟩ := openPB (B := 1048576) (hval 0 _ v0 rfl rfl) h0 (by omega)
  obtain ⟨xr, rx, qs, e1, o1, n1⟩ := openRB (B := 1048576) (by decide) rfl (hval 1 _ v1 rfl rfl) h1 (by omega)
  subst e0 e1
  refine (ProgramForms_ok o0 o1 n1).mono fun e W' he => ?_
  obtain ⟨v, rfl, hx, rfl⟩ := he
  exact ⟨_, rfl, post_ext rfl hW' hx (by decide) hAk (fun _ _ _ => trodAll_mk1 (shut_bool Try.underlying4 _)) rfl rfl (ok_one (by kernel_rfl) rfl (okWide_bool_mk Try.underlying4 _))⟩
theorem programForms_holds : Rows.ProgramFormsUptoSaid :=
  OpenClaim.holds_of_cond 10 Try.f10 rfl rfl rfl rfl rfl rfl rfl ⟨rfl, rfl, rfl, rfl, rfl⟩ rfl rfl rfl rfl rfl (by kernel_rfl) Try.func10 (by kernel_rfl)
    (of_decide_eq_true (by kernel_rfl)) (by unfold Func.isWrapper; first | (rw [if_pos (by decide +kernel)]; kernel_rfl) | (rw [if_neg (by decide +kernel)]; exact ⟨rfl, rfl⟩))
    (fun os started H enc _ F0 => pform_lifted os started H enc F0)
end Go.Proofs.Ytlfdobjdlgebbaa
