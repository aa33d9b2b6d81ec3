/-
  MatrixOrdersSaid is proved: for every input, whatever its numbers and vectors, MatrixOrders returns true and each argument reads afterwards as it read before. No condition is laid beyond the given row.
-/
import Derived.Test.YtpgagepleffjlaaKB
set_option maxRecDepth 100000
namespace Go.Proofs.Ytpgagepleffjlaa
open Go Go.Tw Go.ChangeShapes Go.WideShapes Go.ChangeAt Go.RowKit

theorem mord_wide {W : World} {v0 v1 v2 : Value} {a : Option Addr} {n c : Nat} {P : List Int} {rx ry : SlR} {tx ty : List TmR} (e0 : v0 = .slice a n c) (e1 : v1 = rx.v) (e2 : v2 = ry.v)
    (oP : OpL W a n c P) (ox : OpV W rx tx) (oy : OpV W ry ty) :
    Calls Try.prog 5 #[v0, v1, v2] W fun e W' => ∃ v, e = .returned v ∧ (Ext W W' ∧ v = .bool true) := by
  subst e0 e1 e2
  exact MatrixOrders_ok oP ox oy
theorem mord_lifted (os : Os) (started : os.Started) (H : Type) (enc : TypeId × Value → H) :
    ReturnsInHanded {} Try.checked os 5 .any (Rows.matrixOrdersSpec.pre6 enc Try.prog Try.f5 Rows.matrixOrdersRow.domain false) (Rows.matrixOrdersSpec.post enc Try.prog Try.f5 false true false false) := by
  refine returnsInHanded_of_change (C := Try.checked) own0 started (by kernel_rfl) Try.func5
    (ChangeSpec.witness6 (enc := enc) (C := Try.checked) false ⟨#[], #[.slice none 0 0, .slice none 0 0, .slice none 0 0], []⟩ 8 (by kernel_rfl) (by kernel_rfl) (by kernel_rfl) (by kernel_rfl)) ?_
  intro W base args ds gs before hval0 hW hcnd _
  have hval : ∀ (j : Nat) t v, Try.f5.params[j]? = some t → args[j]? = some v → Value.okWide Try.prog W .any base t v := hval0
  have hW' := hW
  obtain ⟨p, q, hA0, hV, rfl, hfz, hnd⟩ := hW
  have hA : DataW.TrodAll enc Try.prog W 0 (fun _ => true) true Try.f5.params.toList args.toList ds p := hA0
  obtain ⟨rfl, rfl⟩ := trodVars_none hV
  simp only [List.append_nil] at hW'
  have hAk := hA
  rw [Try.params5] at hA hval
  obtain ⟨v0, s0, d0, ds0, p0, q0, ea, rfl, rfl, h0, hA⟩ := trodAll_cons hA
  obtain ⟨v1, s1, d1, ds1, p1, q1, rfl, rfl, rfl, h1, hA⟩ := trodAll_cons hA
  obtain ⟨v2, s2, d2, ds2, p2, q2, rfl, rfl, rfl, h2, hA⟩ := trodAll_cons hA
  obtain ⟨rfl, rfl, rfl⟩ := trodAll_nil hA
  have ea : args = #[v0, v1, v2] := by cases args; simp_all
  subst ea
  obtain ⟨a, n, c, P, e0, oP⟩ := openL rfl (hval 0 _ v0 rfl rfl) h0
  obtain ⟨rx, tx, e1, ox⟩ := openV' rfl (hval 1 _ v1 rfl rfl) h1
  obtain ⟨ry, ty, e2, oy⟩ := openV' rfl (hval 2 _ v2 rfl rfl) h2
  refine (mord_wide e0 e1 e2 oP ox oy).mono fun e W' he => ?_
  obtain ⟨v, rfl, hx, rfl⟩ := he
  exact ⟨_, rfl, post_ext rfl hW' hx (by decide) hAk (fun _ _ _ => trodAll_mk1 (shut_bool Try.underlying4 _)) rfl rfl (ok_one (by kernel_rfl) rfl (okWide_bool_mk Try.underlying4 _))⟩
theorem matrixOrders_holds : Rows.MatrixOrdersSaid :=
  OpenClaim.holds_of_wide 5 Try.f5 rfl rfl rfl rfl rfl rfl rfl ⟨rfl, rfl, rfl, rfl, rfl⟩ rfl rfl rfl rfl rfl (by kernel_rfl) Try.func5 (by kernel_rfl)
    (of_decide_eq_true (by kernel_rfl)) (by unfold Func.isWrapper; first | (rw [if_pos (by decide +kernel)]; kernel_rfl) | (rw [if_neg (by decide +kernel)]; exact ⟨rfl, rfl⟩))
    (fun os started H enc _ => mord_lifted os started H enc)
end Go.Proofs.Ytpgagepleffjlaa
