/-
  MatrixBothSaid is proved: for every input, whatever its columns, vectors, fraction and size, MatrixBoth returns true and each argument reads afterwards as it read before. No condition is laid beyond the given row.
-/
import Derived.Test.YtpgagepleffjlaaKB
set_option maxRecDepth 100000
namespace Go.Proofs.Ytpgagepleffjlaa
open Go Go.Tw Go.ChangeShapes Go.WideShapes Go.ChangeAt Go.RowKit

theorem mboth_wide {W : World} {v0 v1 v2 v3 v4 v5 : Value} {a : Option Addr} {m c : Nat} {rs : List SlR} {tss : List (List TmR)} {rx ry rz : SlR} {tx ty tz : List TmR} {rq : RatR} {N : Int} (e0 : v0 = .slice a m c) (e1 : v1 = rx.v) (e2 : v2 = ry.v) (e3 : v3 = rz.v) (e4 : v4 = rq.v) (e5 : v5 = .int .i64 N)
    (ol : OpVs W a m c rs tss) (ox : OpV W rx tx) (oy : OpV W ry ty) (oz : OpV W rz tz) (oq : OpQ W rq) (hN : -9223372036854775808 ≤ N ∧ N ≤ 9223372036854775807) :
    Calls Try.prog 7 #[v0, v1, v2, v3, v4, v5] W fun e W' => ∃ v, e = .returned v ∧ (Ext W W' ∧ v = .bool true) := by
  subst e0 e1 e2 e3 e4 e5
  exact MatrixBoth_ok ol ox oy oz oq hN
theorem mboth_lifted (os : Os) (started : os.Started) (H : Type) (enc : TypeId × Value → H) :
    ReturnsInHanded {} Try.checked os 7 .any (Rows.matrixBothSpec.pre6 enc Try.prog Try.f7 Rows.matrixBothRow.domain false) (Rows.matrixBothSpec.post enc Try.prog Try.f7 false true false false) := by
  refine returnsInHanded_of_change (C := Try.checked) own0 started (by kernel_rfl) Try.func7
    (ChangeSpec.witness6 (enc := enc) (C := Try.checked) false ⟨#[], #[.slice none 0 0, .slice none 0 0, .slice none 0 0, .slice none 0 0, RatR.zero.v, .int .i64 0], []⟩ 8 (by kernel_rfl) (by kernel_rfl) (by kernel_rfl) (by kernel_rfl)) ?_
  intro W base args ds gs before hval0 hW hcnd _
  have hval : ∀ (j : Nat) t v, Try.f7.params[j]? = some t → args[j]? = some v → Value.okWide Try.prog W .any base t v := hval0
  have hW' := hW
  obtain ⟨p, q, hA0, hV, rfl, hfz, hnd⟩ := hW
  have hA : DataW.TrodAll enc Try.prog W 0 (fun _ => true) true Try.f7.params.toList args.toList ds p := hA0
  obtain ⟨rfl, rfl⟩ := trodVars_none hV
  simp only [List.append_nil] at hW'
  have hAk := hA
  rw [Try.params7] at hA hval
  obtain ⟨v0, s0, d0, ds0, p0, q0, ea, rfl, rfl, h0, hA⟩ := trodAll_cons hA
  obtain ⟨v1, s1, d1, ds1, p1, q1, rfl, rfl, rfl, h1, hA⟩ := trodAll_cons hA
  obtain ⟨v2, s2, d2, ds2, p2, q2, rfl, rfl, rfl, h2, hA⟩ := trodAll_cons hA
  obtain ⟨v3, s3, d3, ds3, p3, q3, rfl, rfl, rfl, h3, hA⟩ := trodAll_cons hA
  obtain ⟨v4, s4, d4, ds4, p4, q4, rfl, rfl, rfl, h4, hA⟩ := trodAll_cons hA
  obtain ⟨v5, s5, d5, ds5, p5, q5, rfl, rfl, rfl, h5, hA⟩ := trodAll_cons hA
  obtain ⟨rfl, rfl, rfl⟩ := trodAll_nil hA
  have ea : args = #[v0, v1, v2, v3, v4, v5] := by cases args; simp_all
  subst ea
  obtain ⟨a, m, c, rs, tss, e0, ol⟩ := openVs rfl (hval 0 _ v0 rfl rfl) h0
  obtain ⟨rx, tx, e1, ox⟩ := openV' rfl (hval 1 _ v1 rfl rfl) h1
  obtain ⟨ry, ty, e2, oy⟩ := openV' rfl (hval 2 _ v2 rfl rfl) h2
  obtain ⟨rz, tz, e3, oz⟩ := openV' rfl (hval 3 _ v3 rfl rfl) h3
  obtain ⟨rq, e4, oq⟩ := openQ' (hval 4 _ v4 rfl rfl) h4
  obtain ⟨z, e5, _, _, hw⟩ := open_int Try.underlying3 (hval 5 3 v5 rfl rfl) h5
  have hz : -9223372036854775808 ≤ z ∧ z ≤ 9223372036854775807 := by
    simp [Lit.wf, IntKind.min, IntKind.max, IntKind.signed, IntKind.bits] at hw
    omega
  refine (mboth_wide e0 e1 e2 e3 e4 e5 ol ox oy oz oq hz).mono fun e W' he => ?_
  obtain ⟨v, rfl, hx, rfl⟩ := he
  exact ⟨_, rfl, post_ext rfl hW' hx (by decide) hAk (fun _ _ _ => trodAll_mk1 (shut_bool Try.underlying4 _)) rfl rfl (ok_one (by kernel_rfl) rfl (okWide_bool_mk Try.underlying4 _))⟩
theorem matrixBoth_holds : Rows.MatrixBothSaid :=
  OpenClaim.holds_of_wide 7 Try.f7 rfl rfl rfl rfl rfl rfl rfl ⟨rfl, rfl, rfl, rfl, rfl⟩ rfl rfl rfl rfl rfl (by kernel_rfl) Try.func7 (by kernel_rfl)
    (of_decide_eq_true (by kernel_rfl)) (by unfold Func.isWrapper; first | (rw [if_pos (by decide +kernel)]; kernel_rfl) | (rw [if_neg (by decide +kernel)]; exact ⟨rfl, rfl⟩))
    (fun os started H enc _ => mboth_lifted os started H enc)
end Go.Proofs.Ytpgagepleffjlaa
