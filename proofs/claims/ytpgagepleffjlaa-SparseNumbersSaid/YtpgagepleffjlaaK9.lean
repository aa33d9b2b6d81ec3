/-
  The watch of the layer sparse: its own example. Helpers; no statement of the program is proved here.
-/
import Derived.Test.YtpgagepleffjlaaK8
import Derived.ProofKit
import Derived.Deep.Slices
import Derived.Deep.Fields
import Derived.ReadAgain
import Derived.Test.YtpgagepleffjlaaRows
import Derived.Test.YtpgagepleffjlaaChecked
import Derived.Laws.BytesString
set_option maxRecDepth 100000
set_option linter.unusedSimpArgs false
set_option linter.unusedVariables false
namespace Go.Proofs.Ytpgagepleffjlaa
open Go Go.Tw Go.RowKit
attribute [local irreducible] LoadAt StoreOk Stored rawVC

def cnB (x : VL) : Bool :=
  match x with
  | [] => true
  | t :: x => !decide (t.2 = 0) && x.all (fun s => decide (t.1 < s.1)) && cnB x
theorem cnL {x : VL} (h : cnB x = true) : Cn x := by
  induction x with
  | nil => exact Cn.nil
  | cons t x ih =>
    simp only [cnB, Bool.and_eq_true, List.all_eq_true, decide_eq_true_eq, Bool.not_eq_true', decide_eq_false_iff_not] at h
    refine ⟨List.pairwise_cons.2 ⟨h.1.2, (ih h.2).1⟩, ?_⟩
    intro s hs
    rcases List.mem_cons.1 hs with rfl | hs
    · exact h.1.1
    · exact (ih h.2).2 s hs
theorem sratT_at {k1 k2 : Nat} {w : World} {x y : RatR} {p q : Rat} (hx : QC k1 w x p) (hy : QC k2 w y q) (h : k1 ≤ 1099511627776) (e : p = q) :
    CallS Try.prog 62 #[x.v, y.v] w fun v w' => Ext w w' ∧ v = .bool true := by
  have := srat_at hx hy h
  rw [decide_eq_true e] at this; exact this
theorem awake5_at (w0 : World) : CallS Try.prog 16 #[] w0 fun v w' => Ext w0 w' ∧ v = .bool true := by
  refine enter ttOk mixed (args := []) Try.func16 rfl (by kernel_rfl) (by kernel_rfl) rfl ?_
  refine CallS.mono (term_at (2) (1) (1) (by decide) (by decide) (fit1 (by kernel_rfl))) ?_
  rintro _ w1 ⟨x1, ta0, rfl, qta0⟩
  refine CallS.mono (term_at (0) (1) (2) (by decide) (by decide) (fit1 (by kernel_rfl))) ?_
  rintro _ w2 ⟨x2, ta1, rfl, qta1⟩
  refine CallS.mono (term_at (2) (-1) (1) (by decide) (by decide) (fit1 (by kernel_rfl))) ?_
  rintro _ w3 ⟨x3, ta2, rfl, qta2⟩
  intro a w4 ha
  have ha : New w3 w4 a tT (tcs [ta0, ta1, ta2]) := ha
  have x4 := ha.ext
  have va := TCs.vi 3 (.cons (qta0.ext (Ext.trans' (Ext.trans' x2 x3) x4)) (.cons (qta1.ext (Ext.trans' x3 x4)) (.cons (qta2.ext x4) (.nil)))) ha.toBlk rfl (by decide)
  refine CallS.mono (norm_at va (by decide)) ?_
  rintro _ w5 ⟨x5, s1, rfl, h1⟩
  refine CallS.mono (term_at (0) (1) (1) (by decide) (by decide) (fit1 (by kernel_rfl))) ?_
  rintro _ w6 ⟨x6, tb0, rfl, qtb0⟩
  refine CallS.mono (term_at (3) (2) (1) (by decide) (by decide) (fit1 (by kernel_rfl))) ?_
  rintro _ w7 ⟨x7, tb1, rfl, qtb1⟩
  intro b w8 hb
  have hb : New w7 w8 b tT (tcs [tb0, tb1]) := hb
  have x8 := hb.ext
  have vb := TCs.vi 2 (.cons (qtb0.ext (Ext.trans' x7 x8)) (.cons (qtb1.ext x8) (.nil))) hb.toBlk rfl (by decide)
  refine CallS.mono (term_at (3) (-2) (1) (by decide) (by decide) (fit1 (by kernel_rfl))) ?_
  rintro _ w9 ⟨x9, tc0, rfl, qtc0⟩
  refine CallS.mono (term_at (4) (1) (1) (by decide) (by decide) (fit1 (by kernel_rfl))) ?_
  rintro _ w10 ⟨x10, tc1, rfl, qtc1⟩
  intro c w11 hc
  have hc : New w10 w11 c tT (tcs [tc0, tc1]) := hc
  have x11 := hc.ext
  have vc := TCs.vi 2 (.cons (qtc0.ext (Ext.trans' x10 x11)) (.cons (qtc1.ext x11) (.nil))) hc.toBlk rfl (by decide)
  refine CallS.mono (add_at 1 (vb.ext (Ext.trans' (Ext.trans' x9 x10) x11)) vc (by decide)) ?_
  rintro _ w12 ⟨x12, s2, rfl, h2⟩
  refine CallS.mono (term_at (0) (1) (1) (by decide) (by decide) (fit1 (by kernel_rfl))) ?_
  rintro _ w13 ⟨x13, td0, rfl, qtd0⟩
  intro d w14 hd
  have hd : New w13 w14 d tT (tcs [td0]) := hd
  have x14 := hd.ext
  have vd := TCs.vi 1 (.cons (qtd0.ext x14) (.nil)) hd.toBlk rfl (by decide)
  refine CallS.mono (of_at (-2) 1 (by decide) (by decide) (fit1 (by kernel_rfl))) ?_
  rintro _ w15 ⟨x15, r3, rfl, hr3⟩
  refine CallS.mono (term_at (0) (1) (2) (by decide) (by decide) (fit1 (by kernel_rfl))) ?_
  rintro _ w16 ⟨x16, te0, rfl, qte0⟩
  refine CallS.mono (term_at (1) (1) (1) (by decide) (by decide) (fit1 (by kernel_rfl))) ?_
  rintro _ w17 ⟨x17, te1, rfl, qte1⟩
  intro e w18 he
  have he : New w17 w18 e tT (tcs [te0, te1]) := he
  have x18 := he.ext
  have ve := TCs.vi 2 (.cons (qte0.ext (Ext.trans' x17 x18)) (.cons (qte1.ext x18) (.nil))) he.toBlk rfl (by decide)
  refine CallS.mono (axpy_at 1 (vd.ext (Ext.trans' (Ext.trans' (Ext.trans' x15 x16) x17) x18)) ((hr3.ext (Ext.trans' (Ext.trans' x16 x17) x18)).qi (by decide)) ve (by decide)) ?_
  rintro _ w19 ⟨x19, s3, rfl, h3⟩
  refine CallS.mono (term_at (0) (1) (1) (by decide) (by decide) (fit1 (by kernel_rfl))) ?_
  rintro _ w20 ⟨x20, tf0, rfl, qtf0⟩
  refine CallS.mono (term_at (2) (3) (1) (by decide) (by decide) (fit1 (by kernel_rfl))) ?_
  rintro _ w21 ⟨x21, tf1, rfl, qtf1⟩
  intro f w22 hf
  have hf : New w21 w22 f tT (tcs [tf0, tf1]) := hf
  have x22 := hf.ext
  have vf := TCs.vi 2 (.cons (qtf0.ext (Ext.trans' x21 x22)) (.cons (qtf1.ext x22) (.nil))) hf.toBlk rfl (by decide)
  refine CallS.mono (term_at (2) (1) (3) (by decide) (by decide) (fit1 (by kernel_rfl))) ?_
  rintro _ w23 ⟨x23, tg0, rfl, qtg0⟩
  refine CallS.mono (term_at (5) (9) (1) (by decide) (by decide) (fit1 (by kernel_rfl))) ?_
  rintro _ w24 ⟨x24, tg1, rfl, qtg1⟩
  intro g w25 hg
  have hg : New w24 w25 g tT (tcs [tg0, tg1]) := hg
  have x25 := hg.ext
  have vg := TCs.vi 2 (.cons (qtg0.ext (Ext.trans' x24 x25)) (.cons (qtg1.ext x25) (.nil))) hg.toBlk rfl (by decide)
  refine CallS.mono (dot_at 1 (vf.ext (Ext.trans' (Ext.trans' x23 x24) x25)) vg (by decide)) ?_
  rintro _ w26 ⟨x26, r4, rfl, h4⟩
  intro b4 u4 hb4
  have st4 := storeQ (r := r4) hb4.toBlk hb4.ext (hb4.ge (Ext.rfl _)) rfl
  refine ⟨st4.1, fun w27 hs4 => ?_⟩
  have hB4 := (st4.2 w27 hs4).1
  have x27 := (st4.2 w27 hs4).2.2
  have h1 := (h1.ext (Ext.trans' (Ext.trans' (Ext.trans' (Ext.trans' (Ext.trans' (Ext.trans' (Ext.trans' (Ext.trans' (Ext.trans' (Ext.trans' (Ext.trans' (Ext.trans' (Ext.trans' (Ext.trans' (Ext.trans' (Ext.trans' (Ext.trans' (Ext.trans' (Ext.trans' (Ext.trans' (Ext.trans' x6 x7) x8) x9) x10) x11) x12) x13) x14) x15) x16) x17) x18) x19) x20) x21) x22) x23) x24) x25) x26) x27))
  have h2 := (h2.ext (Ext.trans' (Ext.trans' (Ext.trans' (Ext.trans' (Ext.trans' (Ext.trans' (Ext.trans' (Ext.trans' (Ext.trans' (Ext.trans' (Ext.trans' (Ext.trans' (Ext.trans' (Ext.trans' x13 x14) x15) x16) x17) x18) x19) x20) x21) x22) x23) x24) x25) x26) x27))
  have h3 := (h3.ext (Ext.trans' (Ext.trans' (Ext.trans' (Ext.trans' (Ext.trans' (Ext.trans' (Ext.trans' x20 x21) x22) x23) x24) x25) x26) x27))
  have h4 := (h4.ext x27)
  refine ⟨sq 26, by kernel_rfl, ?_⟩
  refine dcallR (mk := TmR.v) (Q := fun r w' => TC (0) (Rat.divInt (1) (2)) w' r) TmR.inj (fun _ => TC.stable _) (fun w' hw hF => term_at (0) (1) (2) (by decide) (by decide) (fit1 (by kernel_rfl))) ?_
  intro ti0
  intro i _
  refine dcallV (.bool true) (fun w' hw hF => svecT_at ((h1).ext hw) (TCs.vc 1 (ts := [ti0]) (.cons (hF.2.1) (.nil)) (show Blk w' i tT (tcs [ti0]) from (hF.1).1) rfl (by decide) (cnL (by kernel_rfl))) (by decide) (by kernel_rfl)) ?_
  refine dcallR (mk := TmR.v) (Q := fun r w' => TC (0) (Rat.divInt (1) (1)) w' r) TmR.inj (fun _ => TC.stable _) (fun w' hw hF => term_at (0) (1) (1) (by decide) (by decide) (fit1 (by kernel_rfl))) ?_
  intro tj0
  refine dcallR (mk := TmR.v) (Q := fun r w' => TC (4) (Rat.divInt (1) (1)) w' r) TmR.inj (fun _ => TC.stable _) (fun w' hw hF => term_at (4) (1) (1) (by decide) (by decide) (fit1 (by kernel_rfl))) ?_
  intro tj1
  intro j _
  refine dcallV (.bool true) (fun w' hw hF => svecT_at ((h2).ext hw) (TCs.vc 2 (ts := [tj0, tj1]) (.cons (hF.2.2.1) (.cons (hF.2.1) (.nil))) (show Blk w' j tT (tcs [tj0, tj1]) from (hF.1).1) rfl (by decide) (cnL (by kernel_rfl))) (by decide) (by kernel_rfl)) ?_
  refine dcallR (mk := TmR.v) (Q := fun r w' => TC (1) (Rat.divInt (-2) (1)) w' r) TmR.inj (fun _ => TC.stable _) (fun w' hw hF => term_at (1) (-2) (1) (by decide) (by decide) (fit1 (by kernel_rfl))) ?_
  intro tk0
  intro k _
  refine dcallV (.bool true) (fun w' hw hF => svecT_at ((h3).ext hw) (TCs.vc 1 (ts := [tk0]) (.cons (hF.2.1) (.nil)) (show Blk w' k tT (tcs [tk0]) from (hF.1).1) rfl (by decide) (cnL (by kernel_rfl))) (by decide) (by kernel_rfl)) ?_
  refine ⟨r4.v, loadQ hB4, ?_⟩
  refine dcallR (mk := RatR.v) (Q := fun r w' => QC 1 w' r (Rat.divInt 1 1)) RatR.inj (fun _ => QC.stable) (fun w' hw hF => of_at 1 1 (by decide) (by decide) (fit1 (by kernel_rfl))) ?_
  intro r5
  refine dcallV (.bool true) (fun w' hw hF => sratT_at ((h4).ext hw) (hF.1) (by decide) (by kernel_rfl)) ?_
  intro w28 x28 hF
  exact ⟨(Ext.trans' (Ext.trans' (Ext.trans' (Ext.trans' (Ext.trans' (Ext.trans' (Ext.trans' (Ext.trans' (Ext.trans' (Ext.trans' (Ext.trans' (Ext.trans' (Ext.trans' (Ext.trans' (Ext.trans' (Ext.trans' (Ext.trans' (Ext.trans' (Ext.trans' (Ext.trans' (Ext.trans' (Ext.trans' (Ext.trans' (Ext.trans' (Ext.trans' (Ext.trans' (Ext.trans' x1 x2) x3) x4) x5) x6) x7) x8) x9) x10) x11) x12) x13) x14) x15) x16) x17) x18) x19) x20) x21) x22) x23) x24) x25) x26) x27) x28), rfl⟩
end Go.Proofs.Ytpgagepleffjlaa
/-
  The laws of the layer sparse, plain. Helpers; no statement of the program is proved here.
-/
set_option maxRecDepth 100000
set_option linter.unusedSimpArgs false
set_option linter.unusedVariables false
namespace Go.Proofs.Ytpgagepleffjlaa
open Go Go.Tw Go.RowKit

theorem getL_nil (p : Int) : getL [] p = 0 := rfl
theorem nrm_ext {u v : VL} (h : ∀ p, getL u p = getL v p) : nrm u = nrm v := nrm_congr h
theorem axp_ext {y y' x x' : VL} {a a' : Rat} (h : ∀ p, getL y p + a * getL x p = getL y' p + a' * getL x' p) : axp y a x = axp y' a' x' :=
  Cn.ext (nrm_cn _) (nrm_cn _) fun p => by
    have h1 := axp_get y a x p
    have h2 := axp_get y' a' x' p
    rw [h1, h2, h p]
theorem m1 : Rat.divInt (-1) 1 = -1 := by rw [divInt_one]; rfl
theorem L_comm (x y : VL) : axp x 1 y = axp y 1 x := axp_ext fun p => by grind
theorem L_assoc (x y z : VL) : axp (axp x 1 y) 1 z = axp x 1 (axp y 1 z) := axp_ext fun p => by rw [axp_get, axp_get]; grind
theorem L_self (x : VL) : axp x (Rat.divInt (-1) 1) x = [] := by
  rw [m1]
  refine (axp_eq Cn.nil fun p => ?_).symm
  rw [getL_nil]; grind
theorem L_back (x y : VL) : axp (axp x 1 y) (Rat.divInt (-1) 1) y = nrm x := by
  rw [m1]
  refine (axp_eq (nrm_cn x) fun p => ?_).symm
  rw [nrm_get, axp_get]; grind
theorem L_dist (x y : VL) (c : Rat) : axp [] c (axp x 1 y) = axp (axp [] c x) 1 (axp [] c y) := axp_ext fun p => by rw [axp_get, axp_get, axp_get, getL_nil]; grind
theorem L_dist2 (x : VL) (c d : Rat) : axp [] (c + d) x = axp (axp [] c x) 1 (axp [] d x) := axp_ext fun p => by rw [axp_get, axp_get, getL_nil]; grind
theorem L_mul (x : VL) (c d : Rat) : axp [] (c * d) x = axp [] c (axp [] d x) := axp_ext fun p => by rw [axp_get, getL_nil]; grind
theorem L_axpy (x y : VL) (c : Rat) : axp y c x = axp y 1 (axp [] c x) := axp_ext fun p => by rw [axp_get, getL_nil]; grind
theorem L_dot (x y z : VL) (c : Rat) : dotL (axp y c x) z = dotL y z + c * dotL x z := dotL_lin fun p => axp_get y c x p
theorem getL_keep (xs : VL) (i p : Int) : getL (xs.filter fun t => !decide (t.1 = i)) p = if p = i then 0 else getL xs p := by
  induction xs with
  | nil => simp [getL]
  | cons t xs ih =>
    by_cases h : t.1 = i
    · simp only [List.filter_cons, h, decide_true, Bool.not_true, Bool.false_eq_true, if_false, ih, getL]
      by_cases hp : p = i
      · rw [if_pos hp, if_pos hp]
      · rw [if_neg hp, if_neg hp, if_neg (fun e => hp e.symm), Rat.zero_add]
    · simp only [List.filter_cons, h, decide_false, Bool.not_false, if_true, getL, ih]
      by_cases hp : p = i
      · rw [if_pos hp, if_pos hp, if_neg (fun e => h (e.trans hp)), Rat.zero_add]
      · rw [if_neg hp, if_neg hp]
theorem getL_put (xs : VL) (i p : Int) (q : Rat) : getL (putV xs i q) p = if p = i then q else getL xs p := by
  unfold putV
  rw [getL_append, getL_keep]
  simp only [getL]
  by_cases hp : p = i
  · rw [if_pos hp, if_pos hp, if_pos hp.symm]; grind
  · rw [if_neg hp, if_neg hp, if_neg (fun e => hp e.symm)]; grind
theorem L_put (xs : VL) (i : Int) (q : Rat) : getL (nrm (putV xs i q)) i = q := by rw [nrm_get, getL_put, if_pos rfl]
theorem L_put2 (xs : VL) (i : Int) (q : Rat) : nrm (putV (nrm (putV xs i q)) i (getL xs i)) = nrm xs := nrm_ext fun p => by
  rw [getL_put, nrm_get, getL_put]
  by_cases hp : p = i
  · rw [if_pos hp, hp]
  · rw [if_neg hp, if_neg hp]
theorem put_len {xs : VL} {i : Int} {q : Rat} (h : xs.length ≤ 20) : (putV xs i q).length ≤ 21 := by
  unfold putV
  have := List.length_filter_le (fun t : Int × Rat => !decide (t.1 = i)) xs
  simp only [List.length_append, List.length_singleton]
  omega
theorem put_len2 {xs : VL} {i : Int} {q r : Rat} (h : xs.length ≤ 20) : (putV (nrm (putV xs i q)) i r).length ≤ 21 := by
  have h1 := nrm_off (putV xs i q) i
  have h2 : ((putV xs i q).filter (fun s => !decide (s.1 = i))).length ≤ 20 := by
    unfold putV
    rw [List.filter_append, List.length_append]
    have h3 := List.length_filter_le (fun t : Int × Rat => !decide (t.1 = i)) xs
    have h4 := List.length_filter_le (fun t : Int × Rat => !decide (t.1 = i)) (xs.filter fun t => !decide (t.1 = i))
    have h5 : ([(i, q)] : VL).filter (fun s => !decide (s.1 = i)) = [] := by simp
    rw [h5]
    simp only [List.length_nil]
    omega
  have h6 : (putV (nrm (putV xs i q)) i r).length = ((nrm (putV xs i q)).filter (fun s => !decide (s.1 = i))).length + 1 := by
    show (List.filter _ _ ++ [_]).length = _
    rw [List.length_append]; rfl
  omega
theorem L_same (x y : VL) : decide (axp x (-1) y = []) = decide (nrm x = nrm y) := by
  apply decide_eq_decide.2
  constructor
  · intro h
    refine nrm_ext fun p => ?_
    have := axp_get x (-1) y p
    rw [h, getL_nil] at this
    grind
  · intro h
    refine (axp_eq Cn.nil fun p => ?_).symm
    have h1 := nrm_get x p
    have h2 := nrm_get y p
    rw [h] at h1
    rw [getL_nil]; grind
end Go.Proofs.Ytpgagepleffjlaa
/-
  SparseSpace, walked. Helpers; no statement of the program is proved here.
-/
set_option maxRecDepth 100000
set_option linter.unusedSimpArgs false
set_option linter.unusedVariables false
namespace Go.Proofs.Ytpgagepleffjlaa
open Go Go.Tw Go.RowKit
attribute [local irreducible] LoadAt StoreOk Stored rawVC

theorem SparseSpace_ok {w0 : World} {rx ry rz : SlR} {rc rd : RatR} {tx ty tz : List TmR} (ox : OpV w0 rx tx) (oy : OpV w0 ry ty) (oz : OpV w0 rz tz) (oc : OpQ w0 rc) (od : OpQ w0 rd) (i : Int) :
    Calls Try.prog 4 #[rx.v, ry.v, rz.v, rc.v, rd.v, .int .i64 i] w0 fun e w' => ∃ v, e = .returned v ∧ (Ext w0 w' ∧ v = .bool true) := by
    refine enterC (fun _ => none) ttOk mixed (args := [rx.v, ry.v, rz.v, rc.v, rd.v, .int .i64 i]) Try.func4 rfl (by kernel_rfl) (by kernel_rfl) ?_
    intro b9 w1 n9 b10 w2 n10
    have x1 := n9.ext
    have x2 := n10.ext
    have B9 : Blk w1 b9 33 (rcs rc) := n9.toBlk
    have B10 : Blk w2 b10 33 (rcs rd) := n10.toBlk
    refine CallS.mono (ShortVec_ok (ox.tms.ext (Ext.trans' x1 x2)) 20 4 (by omega)) ?_
    rintro _ w3 ⟨x3, rfl⟩
    by_cases k0 : shV rx.n tx 20 4
    case neg =>
      rw [decide_eq_false k0]
      refine CallS.mono (awake5_at _) ?_
      rintro _ w4 ⟨x4, rfl⟩
      exact ⟨(Ext.trans' (Ext.trans' (Ext.trans' x1 x2) x3) x4), rfl⟩
    rw [decide_eq_true k0]
    refine CallS.mono (ShortVec_ok (oy.tms.ext (Ext.trans' (Ext.trans' x1 x2) x3)) 20 4 (by omega)) ?_
    rintro _ w4 ⟨x4, rfl⟩
    by_cases k1 : shV ry.n ty 20 4
    case neg =>
      rw [decide_eq_false k1]
      refine CallS.mono (awake5_at _) ?_
      rintro _ w5 ⟨x5, rfl⟩
      exact ⟨(Ext.trans' (Ext.trans' (Ext.trans' (Ext.trans' x1 x2) x3) x4) x5), rfl⟩
    rw [decide_eq_true k1]
    refine CallS.mono (ShortVec_ok (oz.tms.ext (Ext.trans' (Ext.trans' (Ext.trans' x1 x2) x3) x4)) 20 4 (by omega)) ?_
    rintro _ w5 ⟨x5, rfl⟩
    by_cases k2 : shV rz.n tz 20 4
    case neg =>
      rw [decide_eq_false k2]
      refine CallS.mono (awake5_at _) ?_
      rintro _ w6 ⟨x6, rfl⟩
      exact ⟨(Ext.trans' (Ext.trans' (Ext.trans' (Ext.trans' (Ext.trans' x1 x2) x3) x4) x5) x6), rfl⟩
    rw [decide_eq_true k2]
    refine ⟨rc.v, loadQ (B9.ext (Ext.trans' (Ext.trans' (Ext.trans' x2 x3) x4) x5)), ?_⟩
    refine CallS.mono (ShortRat_ok rc 4) ?_
    rintro _ w6 ⟨x6, rfl⟩
    by_cases k3 : shQ rc 4
    case neg =>
      rw [decide_eq_false k3]
      refine CallS.mono (awake5_at _) ?_
      rintro _ w7 ⟨x7, rfl⟩
      exact ⟨(Ext.trans' (Ext.trans' (Ext.trans' (Ext.trans' (Ext.trans' (Ext.trans' x1 x2) x3) x4) x5) x6) x7), rfl⟩
    rw [decide_eq_true k3]
    refine ⟨rd.v, loadQ (B10.ext (Ext.trans' (Ext.trans' (Ext.trans' x3 x4) x5) x6)), ?_⟩
    refine CallS.mono (ShortRat_ok rd 4) ?_
    rintro _ w7 ⟨x7, rfl⟩
    by_cases k4 : shQ rd 4
    case neg =>
      rw [decide_eq_false k4]
      refine CallS.mono (awake5_at _) ?_
      rintro _ w8 ⟨x8, rfl⟩
      exact ⟨(Ext.trans' (Ext.trans' (Ext.trans' (Ext.trans' (Ext.trans' (Ext.trans' (Ext.trans' x1 x2) x3) x4) x5) x6) x7) x8), rfl⟩
    rw [decide_eq_true k4]
    refine (ox.inv (by decide) k0).elim fun xs ix => ?_
    have vx : VI 4 20 w0 rx xs := ⟨ix.1, ix.2, .inl (Nat.le_trans ix.2 (by decide))⟩
    refine (oy.inv (by decide) k1).elim fun ys iy => ?_
    have vy : VI 4 20 w0 ry ys := ⟨iy.1, iy.2, .inl (Nat.le_trans iy.2 (by decide))⟩
    refine (oz.inv (by decide) k2).elim fun zs iz => ?_
    have vz : VI 4 20 w0 rz zs := ⟨iz.1, iz.2, .inl (Nat.le_trans iz.2 (by decide))⟩
    refine (oc.inq (by decide) k3).elim fun c ic => ?_
    have qc : QI 4 w0 rc c := ⟨ic⟩
    refine (od.inq (by decide) k4).elim fun d id => ?_
    have qd : QI 4 w0 rd d := ⟨id⟩
    refine CallS.mono (add_at 4 (vx.ext (Ext.trans' (Ext.trans' (Ext.trans' (Ext.trans' (Ext.trans' (Ext.trans' x1 x2) x3) x4) x5) x6) x7)) (vy.ext (Ext.trans' (Ext.trans' (Ext.trans' (Ext.trans' (Ext.trans' (Ext.trans' x1 x2) x3) x4) x5) x6) x7)) (by decide)) ?_
    rintro _ w8 ⟨x8, s1, rfl, h1⟩
    refine CallS.mono (add_at 4 (vy.ext (Ext.trans' (Ext.trans' (Ext.trans' (Ext.trans' (Ext.trans' (Ext.trans' (Ext.trans' x1 x2) x3) x4) x5) x6) x7) x8)) (vx.ext (Ext.trans' (Ext.trans' (Ext.trans' (Ext.trans' (Ext.trans' (Ext.trans' (Ext.trans' x1 x2) x3) x4) x5) x6) x7) x8)) (by decide)) ?_
    rintro _ w9 ⟨x9, s2, rfl, h2⟩
    refine CallS.mono (svecT_at (h1.ext x9) h2 (by decide) (L_comm _ _)) ?_
    rintro _ w10 ⟨x10, rfl⟩
    refine CallS.mono (add_at 4 (vx.ext (Ext.trans' (Ext.trans' (Ext.trans' (Ext.trans' (Ext.trans' (Ext.trans' (Ext.trans' (Ext.trans' (Ext.trans' x1 x2) x3) x4) x5) x6) x7) x8) x9) x10)) (vy.ext (Ext.trans' (Ext.trans' (Ext.trans' (Ext.trans' (Ext.trans' (Ext.trans' (Ext.trans' (Ext.trans' (Ext.trans' x1 x2) x3) x4) x5) x6) x7) x8) x9) x10)) (by decide)) ?_
    rintro _ w11 ⟨x11, s3, rfl, h3⟩
    refine CallS.mono (add_at (aK 4) (h3.vi (by decide)) (vz.ext (Ext.trans' (Ext.trans' (Ext.trans' (Ext.trans' (Ext.trans' (Ext.trans' (Ext.trans' (Ext.trans' (Ext.trans' (Ext.trans' x1 x2) x3) x4) x5) x6) x7) x8) x9) x10) x11)) (by decide)) ?_
    rintro _ w12 ⟨x12, s4, rfl, h4⟩
    refine CallS.mono (add_at 4 (vy.ext (Ext.trans' (Ext.trans' (Ext.trans' (Ext.trans' (Ext.trans' (Ext.trans' (Ext.trans' (Ext.trans' (Ext.trans' (Ext.trans' (Ext.trans' x1 x2) x3) x4) x5) x6) x7) x8) x9) x10) x11) x12)) (vz.ext (Ext.trans' (Ext.trans' (Ext.trans' (Ext.trans' (Ext.trans' (Ext.trans' (Ext.trans' (Ext.trans' (Ext.trans' (Ext.trans' (Ext.trans' x1 x2) x3) x4) x5) x6) x7) x8) x9) x10) x11) x12)) (by decide)) ?_
    rintro _ w13 ⟨x13, s5, rfl, h5⟩
    refine CallS.mono (add_at (aK 4) (vx.ext (Ext.trans' (Ext.trans' (Ext.trans' (Ext.trans' (Ext.trans' (Ext.trans' (Ext.trans' (Ext.trans' (Ext.trans' (Ext.trans' (Ext.trans' (Ext.trans' x1 x2) x3) x4) x5) x6) x7) x8) x9) x10) x11) x12) x13)) (h5.vi (by decide)) (by decide)) ?_
    rintro _ w14 ⟨x14, s6, rfl, h6⟩
    refine CallS.mono (svecT_at (h4.ext (Ext.trans' x13 x14)) h6 (by decide) (L_assoc _ _ _)) ?_
    rintro _ w15 ⟨x15, rfl⟩
    refine CallS.mono (of_at (-1) 1 (by decide) (by decide) (fit1 (by kernel_rfl))) ?_
    rintro _ w16 ⟨x16, r7, rfl, u7⟩
    refine CallS.mono (axpy_at 4 (vx.ext (Ext.trans' (Ext.trans' (Ext.trans' (Ext.trans' (Ext.trans' (Ext.trans' (Ext.trans' (Ext.trans' (Ext.trans' (Ext.trans' (Ext.trans' (Ext.trans' (Ext.trans' (Ext.trans' (Ext.trans' x1 x2) x3) x4) x5) x6) x7) x8) x9) x10) x11) x12) x13) x14) x15) x16)) (u7.qi (by decide)) (vx.ext (Ext.trans' (Ext.trans' (Ext.trans' (Ext.trans' (Ext.trans' (Ext.trans' (Ext.trans' (Ext.trans' (Ext.trans' (Ext.trans' (Ext.trans' (Ext.trans' (Ext.trans' (Ext.trans' (Ext.trans' x1 x2) x3) x4) x5) x6) x7) x8) x9) x10) x11) x12) x13) x14) x15) x16)) (by decide)) ?_
    rintro _ w17 ⟨x17, s8, rfl, h8⟩
    have z0 : s8.n = 0 := by rw [h8.can.len, L_self]; rfl
    refine And.intro (fun hz => ?_) (fun hz => absurd (by rw [z0]; rfl) hz)
    refine CallS.mono (add_at 4 (vx.ext (Ext.trans' (Ext.trans' (Ext.trans' (Ext.trans' (Ext.trans' (Ext.trans' (Ext.trans' (Ext.trans' (Ext.trans' (Ext.trans' (Ext.trans' (Ext.trans' (Ext.trans' (Ext.trans' (Ext.trans' (Ext.trans' x1 x2) x3) x4) x5) x6) x7) x8) x9) x10) x11) x12) x13) x14) x15) x16) x17)) (vy.ext (Ext.trans' (Ext.trans' (Ext.trans' (Ext.trans' (Ext.trans' (Ext.trans' (Ext.trans' (Ext.trans' (Ext.trans' (Ext.trans' (Ext.trans' (Ext.trans' (Ext.trans' (Ext.trans' (Ext.trans' (Ext.trans' x1 x2) x3) x4) x5) x6) x7) x8) x9) x10) x11) x12) x13) x14) x15) x16) x17)) (by decide)) ?_
    rintro _ w18 ⟨x18, s9, rfl, h9⟩
    refine CallS.mono (of_at (-1) 1 (by decide) (by decide) (fit1 (by kernel_rfl))) ?_
    rintro _ w19 ⟨x19, r10, rfl, u10⟩
    refine CallS.mono (axpy_at (aK 4) ((h9.ext x19).vi (by decide)) (u10.qi (by decide)) (vy.ext (Ext.trans' (Ext.trans' (Ext.trans' (Ext.trans' (Ext.trans' (Ext.trans' (Ext.trans' (Ext.trans' (Ext.trans' (Ext.trans' (Ext.trans' (Ext.trans' (Ext.trans' (Ext.trans' (Ext.trans' (Ext.trans' (Ext.trans' (Ext.trans' x1 x2) x3) x4) x5) x6) x7) x8) x9) x10) x11) x12) x13) x14) x15) x16) x17) x18) x19)) (by decide)) ?_
    rintro _ w20 ⟨x20, s11, rfl, h11⟩
    refine CallS.mono (norm_at (vx.ext (Ext.trans' (Ext.trans' (Ext.trans' (Ext.trans' (Ext.trans' (Ext.trans' (Ext.trans' (Ext.trans' (Ext.trans' (Ext.trans' (Ext.trans' (Ext.trans' (Ext.trans' (Ext.trans' (Ext.trans' (Ext.trans' (Ext.trans' (Ext.trans' (Ext.trans' x1 x2) x3) x4) x5) x6) x7) x8) x9) x10) x11) x12) x13) x14) x15) x16) x17) x18) x19) x20)) (by decide)) ?_
    rintro _ w21 ⟨x21, s12, rfl, h12⟩
    refine CallS.mono (svecT_at (h11.ext x21) h12 (by decide) (L_back _ _)) ?_
    rintro _ w22 ⟨x22, rfl⟩
    have xb := (Ext.trans' (Ext.trans' (Ext.trans' (Ext.trans' (Ext.trans' (Ext.trans' (Ext.trans' (Ext.trans' (Ext.trans' (Ext.trans' (Ext.trans' (Ext.trans' (Ext.trans' (Ext.trans' (Ext.trans' (Ext.trans' (Ext.trans' (Ext.trans' (Ext.trans' (Ext.trans' (Ext.trans' x1 x2) x3) x4) x5) x6) x7) x8) x9) x10) x11) x12) x13) x14) x15) x16) x17) x18) x19) x20) x21) x22)
    have vx := vx.ext xb
    have vy := vy.ext xb
    have vz := vz.ext xb
    have qc := qc.ext xb
    have qd := qd.ext xb
    have B9 := (B9.ext (Ext.trans' (Ext.trans' (Ext.trans' (Ext.trans' (Ext.trans' (Ext.trans' (Ext.trans' (Ext.trans' (Ext.trans' (Ext.trans' (Ext.trans' (Ext.trans' (Ext.trans' (Ext.trans' (Ext.trans' (Ext.trans' (Ext.trans' (Ext.trans' (Ext.trans' (Ext.trans' x2 x3) x4) x5) x6) x7) x8) x9) x10) x11) x12) x13) x14) x15) x16) x17) x18) x19) x20) x21) x22))
    have B10 := (B10.ext (Ext.trans' (Ext.trans' (Ext.trans' (Ext.trans' (Ext.trans' (Ext.trans' (Ext.trans' (Ext.trans' (Ext.trans' (Ext.trans' (Ext.trans' (Ext.trans' (Ext.trans' (Ext.trans' (Ext.trans' (Ext.trans' (Ext.trans' (Ext.trans' (Ext.trans' x3 x4) x5) x6) x7) x8) x9) x10) x11) x12) x13) x14) x15) x16) x17) x18) x19) x20) x21) x22))
    refine ⟨sq 58, by kernel_rfl, ?_⟩
    refine ⟨rc.v, loadQ B9, ?_⟩
    refine dcallR (mk := SlR.v) (Q := fun r w' => VC (aK 4) (20 + 20) w' r (axp xs 1 ys)) SlR.inj (fun _ => VC.stable) (fun w' hw hF => add_at 4 ((vx).ext hw) ((vy).ext hw) (by decide)) ?_
    intro s13
    refine dcallR (mk := SlR.v) (Q := fun r w' => VC (aK (aK 4)) 40 w' r (axp [] c (axp xs 1 ys))) SlR.inj (fun _ => VC.stable) (fun w' hw hF => scale_at (aK 4) ((qc).ext hw) ((hF.1).vi (by decide)) (by decide)) ?_
    intro s14
    refine ⟨rc.v, loadQ B9, ?_⟩
    refine dcallR (mk := SlR.v) (Q := fun r w' => VC (aK (aK 4)) 20 w' r (axp [] c xs)) SlR.inj (fun _ => VC.stable) (fun w' hw hF => scale_at (aK 4) ((qc).ext hw) ((vx).ext hw) (by decide)) ?_
    intro s15
    refine ⟨rc.v, loadQ B9, ?_⟩
    refine dcallR (mk := SlR.v) (Q := fun r w' => VC (aK (aK 4)) 20 w' r (axp [] c ys)) SlR.inj (fun _ => VC.stable) (fun w' hw hF => scale_at (aK 4) ((qc).ext hw) ((vy).ext hw) (by decide)) ?_
    intro s16
    refine dcallR (mk := SlR.v) (Q := fun r w' => VC (aK (aK (aK 4))) (20 + 20) w' r (axp (axp [] c xs) 1 (axp [] c ys))) SlR.inj (fun _ => VC.stable) (fun w' hw hF => add_at (aK (aK 4)) ((hF.2.1).vi (by decide)) ((hF.1).vi (by decide)) (by decide)) ?_
    intro s17
    refine dcallV (.bool true) (fun w' hw hF => svecT_at (hF.2.2.2.1) (hF.1) (by decide) (L_dist _ _ _)) ?_
    refine ⟨rc.v, loadQ B9, ?_⟩
    refine ⟨rd.v, loadQ B10, ?_⟩
    refine dcallR (mk := RatR.v) (Q := fun r w' => QC (4 + 1 + (4 + 1) + 1) w' r (c + d)) RatR.inj (fun _ => QC.stable) (fun w' hw hF => radd_at (k1 := 4) (k2 := 4) ((qc).ext hw) ((qd).ext hw) (by decide)) ?_
    intro r18
    refine dcallR (mk := SlR.v) (Q := fun r w' => VC (aK (aK 4)) 20 w' r (axp [] (c + d) xs)) SlR.inj (fun _ => VC.stable) (fun w' hw hF => scale_at (aK 4) ((hF.1).qi (by decide)) ((vx).ext hw) (by decide)) ?_
    intro s19
    refine ⟨rc.v, loadQ B9, ?_⟩
    refine dcallR (mk := SlR.v) (Q := fun r w' => VC (aK (aK 4)) 20 w' r (axp [] c xs)) SlR.inj (fun _ => VC.stable) (fun w' hw hF => scale_at (aK 4) ((qc).ext hw) ((vx).ext hw) (by decide)) ?_
    intro s20
    refine ⟨rd.v, loadQ B10, ?_⟩
    refine dcallR (mk := SlR.v) (Q := fun r w' => VC (aK (aK 4)) 20 w' r (axp [] d xs)) SlR.inj (fun _ => VC.stable) (fun w' hw hF => scale_at (aK 4) ((qd).ext hw) ((vx).ext hw) (by decide)) ?_
    intro s21
    refine dcallR (mk := SlR.v) (Q := fun r w' => VC (aK (aK (aK 4))) (20 + 20) w' r (axp (axp [] c xs) 1 (axp [] d xs))) SlR.inj (fun _ => VC.stable) (fun w' hw hF => add_at (aK (aK 4)) ((hF.2.1).vi (by decide)) ((hF.1).vi (by decide)) (by decide)) ?_
    intro s22
    refine dcallV (.bool true) (fun w' hw hF => svecT_at (hF.2.2.2.1) (hF.1) (by decide) (L_dist2 _ _ _)) ?_
    refine ⟨rc.v, loadQ B9, ?_⟩
    refine ⟨rd.v, loadQ B10, ?_⟩
    refine dcallR (mk := RatR.v) (Q := fun r w' => QC (4 + 1 + (4 + 1)) w' r (c * d)) RatR.inj (fun _ => QC.stable) (fun w' hw hF => rmul_at (k1 := 4) (k2 := 4) ((qc).ext hw) ((qd).ext hw) (by decide)) ?_
    intro r23
    refine dcallR (mk := SlR.v) (Q := fun r w' => VC (aK (aK 4)) 20 w' r (axp [] (c * d) xs)) SlR.inj (fun _ => VC.stable) (fun w' hw hF => scale_at (aK 4) ((hF.1).qi (by decide)) ((vx).ext hw) (by decide)) ?_
    intro s24
    refine ⟨rc.v, loadQ B9, ?_⟩
    refine ⟨rd.v, loadQ B10, ?_⟩
    refine dcallR (mk := SlR.v) (Q := fun r w' => VC (aK (aK 4)) 20 w' r (axp [] d xs)) SlR.inj (fun _ => VC.stable) (fun w' hw hF => scale_at (aK 4) ((qd).ext hw) ((vx).ext hw) (by decide)) ?_
    intro s25
    refine dcallR (mk := SlR.v) (Q := fun r w' => VC (aK (aK (aK 4))) 20 w' r (axp [] c (axp [] d xs))) SlR.inj (fun _ => VC.stable) (fun w' hw hF => scale_at (aK (aK 4)) ((qc).ext hw) ((hF.1).vi (by decide)) (by decide)) ?_
    intro s26
    refine dcallV (.bool true) (fun w' hw hF => svecT_at (hF.2.2.1) (hF.1) (by decide) (L_mul _ _ _)) ?_
    refine ⟨rc.v, loadQ B9, ?_⟩
    refine dcallR (mk := SlR.v) (Q := fun r w' => VC (aK 4) (20 + 20) w' r (axp ys c xs)) SlR.inj (fun _ => VC.stable) (fun w' hw hF => axpy_at 4 ((vy).ext hw) ((qc).ext hw) ((vx).ext hw) (by decide)) ?_
    intro s27
    refine ⟨rc.v, loadQ B9, ?_⟩
    refine dcallR (mk := SlR.v) (Q := fun r w' => VC (aK (aK 4)) 20 w' r (axp [] c xs)) SlR.inj (fun _ => VC.stable) (fun w' hw hF => scale_at (aK 4) ((qc).ext hw) ((vx).ext hw) (by decide)) ?_
    intro s28
    refine dcallR (mk := SlR.v) (Q := fun r w' => VC (aK (aK (aK 4))) (20 + 20) w' r (axp ys 1 (axp [] c xs))) SlR.inj (fun _ => VC.stable) (fun w' hw hF => add_at (aK (aK 4)) ((vy).ext hw) ((hF.1).vi (by decide)) (by decide)) ?_
    intro s29
    refine dcallV (.bool true) (fun w' hw hF => svecT_at (hF.2.2.1) (hF.1) (by decide) (L_axpy _ _ _)) ?_
    intro w23 x23 hF
    refine ⟨sq 26, by kernel_rfl, ?_⟩
    refine dcallR (mk := RatR.v) (Q := fun r w' => QC (dK 4 20) w' r (dotL xs ys)) RatR.inj (fun _ => QC.stable) (fun w' hw hF => dot_at 4 ((vx.ext x23).ext hw) ((vy.ext x23).ext hw) (by decide)) ?_
    intro r30
    refine dcallR (mk := RatR.v) (Q := fun r w' => QC (dK 4 20) w' r (dotL ys xs)) RatR.inj (fun _ => QC.stable) (fun w' hw hF => dot_at 4 ((vy.ext x23).ext hw) ((vx.ext x23).ext hw) (by decide)) ?_
    intro r31
    refine dcallV (.bool true) (fun w' hw hF => rsameT_at ((hF.2.1).qi (by decide)) ((hF.1).qi (by decide)) (by decide) (dotL_comm _ _)) ?_
    refine ⟨rc.v, loadQ (B9.ext x23), ?_⟩
    refine dcallR (mk := SlR.v) (Q := fun r w' => VC (aK 4) (20 + 20) w' r (axp ys c xs)) SlR.inj (fun _ => VC.stable) (fun w' hw hF => axpy_at 4 ((vy.ext x23).ext hw) ((qc.ext x23).ext hw) ((vx.ext x23).ext hw) (by decide)) ?_
    intro s32
    refine dcallR (mk := RatR.v) (Q := fun r w' => QC (dK (aK 4) (20 + 20)) w' r (dotL (axp ys c xs) zs)) RatR.inj (fun _ => QC.stable) (fun w' hw hF => dot_at (aK 4) ((hF.1).vi (by decide)) ((vz.ext x23).ext hw) (by decide)) ?_
    intro r33
    refine dcallR (mk := RatR.v) (Q := fun r w' => QC (dK 4 20) w' r (dotL ys zs)) RatR.inj (fun _ => QC.stable) (fun w' hw hF => dot_at 4 ((vy.ext x23).ext hw) ((vz.ext x23).ext hw) (by decide)) ?_
    intro r34
    refine ⟨rc.v, loadQ (B9.ext x23), ?_⟩
    refine dcallR (mk := RatR.v) (Q := fun r w' => QC (dK 4 20) w' r (dotL xs zs)) RatR.inj (fun _ => QC.stable) (fun w' hw hF => dot_at 4 ((vx.ext x23).ext hw) ((vz.ext x23).ext hw) (by decide)) ?_
    intro r35
    refine dcallR (mk := RatR.v) (Q := fun r w' => QC (4 + 1 + ((dK 4 20) + 1)) w' r (c * dotL xs zs)) RatR.inj (fun _ => QC.stable) (fun w' hw hF => rmul_at (k1 := 4) (k2 := (dK 4 20)) ((qc.ext x23).ext hw) ((hF.1).qi (by decide)) (by decide)) ?_
    intro r36
    refine dcallR (mk := RatR.v) (Q := fun r w' => QC ((dK 4 20) + 1 + ((4 + 1 + ((dK 4 20) + 1)) + 1) + 1) w' r (dotL ys zs + c * dotL xs zs)) RatR.inj (fun _ => QC.stable) (fun w' hw hF => radd_at (k1 := (dK 4 20)) (k2 := (4 + 1 + ((dK 4 20) + 1))) ((hF.2.2.1).qi (by decide)) ((hF.1).qi (by decide)) (by decide)) ?_
    intro r37
    refine dcallV (.bool true) (fun w' hw hF => rsameT_at ((hF.2.2.2.2.1).qi (by decide)) ((hF.1).qi (by decide)) (by decide) (L_dot _ _ _ _)) ?_
    intro w24 x24 hF
    refine ⟨sq 42, by kernel_rfl, ?_⟩
    refine ⟨rc.v, loadQ (B9.ext (Ext.trans' x23 x24)), ?_⟩
    refine dcallR (mk := SlR.v) (Q := fun r w' => VC (aK 4) (20 + 20) w' r (axp ys c xs)) SlR.inj (fun _ => VC.stable) (fun w' hw hF => axpy_at 4 ((vy.ext (Ext.trans' x23 x24)).ext hw) ((qc.ext (Ext.trans' x23 x24)).ext hw) ((vx.ext (Ext.trans' x23 x24)).ext hw) (by decide)) ?_
    intro s38
    refine dcallR (mk := RatR.v) (Q := fun r w' => QC (1 + (20 + 20) * ((aK 4) + 2)) w' r (getL (axp ys c xs) i)) RatR.inj (fun _ => QC.stable) (fun w' hw hF => get_at ((hF.1).vi (by decide)) i (by decide)) ?_
    intro r39
    refine dcallR (mk := RatR.v) (Q := fun r w' => QC (1 + 20 * (4 + 2)) w' r (getL ys i)) RatR.inj (fun _ => QC.stable) (fun w' hw hF => get_at ((vy.ext (Ext.trans' x23 x24)).ext hw) i (by decide)) ?_
    intro r40
    refine ⟨rc.v, loadQ (B9.ext (Ext.trans' x23 x24)), ?_⟩
    refine dcallR (mk := RatR.v) (Q := fun r w' => QC (1 + 20 * (4 + 2)) w' r (getL xs i)) RatR.inj (fun _ => QC.stable) (fun w' hw hF => get_at ((vx.ext (Ext.trans' x23 x24)).ext hw) i (by decide)) ?_
    intro r41
    refine dcallR (mk := RatR.v) (Q := fun r w' => QC (4 + 1 + ((1 + 20 * (4 + 2)) + 1)) w' r (c * getL xs i)) RatR.inj (fun _ => QC.stable) (fun w' hw hF => rmul_at (k1 := 4) (k2 := (1 + 20 * (4 + 2))) ((qc.ext (Ext.trans' x23 x24)).ext hw) ((hF.1).qi (by decide)) (by decide)) ?_
    intro r42
    refine dcallR (mk := RatR.v) (Q := fun r w' => QC ((1 + 20 * (4 + 2)) + 1 + ((4 + 1 + ((1 + 20 * (4 + 2)) + 1)) + 1) + 1) w' r (getL ys i + c * getL xs i)) RatR.inj (fun _ => QC.stable) (fun w' hw hF => radd_at (k1 := (1 + 20 * (4 + 2))) (k2 := (4 + 1 + ((1 + 20 * (4 + 2)) + 1))) ((hF.2.2.1).qi (by decide)) ((hF.1).qi (by decide)) (by decide)) ?_
    intro r43
    refine dcallV (.bool true) (fun w' hw hF => rsameT_at ((hF.2.2.2.2.1).qi (by decide)) ((hF.1).qi (by decide)) (by decide) (axp_get _ _ _ _)) ?_
    refine ⟨rd.v, loadQ (B10.ext (Ext.trans' x23 x24)), ?_⟩
    refine dcallR (mk := SlR.v) (Q := fun r w' => VC (nK 4) 21 w' r (nrm (putV xs i d))) SlR.inj (fun _ => VC.stable) (fun w' hw hF => put_at 4 ((vx.ext (Ext.trans' x23 x24)).ext hw) i ((qd.ext (Ext.trans' x23 x24)).ext hw) (put_len ix.2) (by decide)) ?_
    intro s44
    refine dcallR (mk := RatR.v) (Q := fun r w' => QC (1 + 21 * ((nK 4) + 2)) w' r (getL (nrm (putV xs i d)) i)) RatR.inj (fun _ => QC.stable) (fun w' hw hF => get_at ((hF.1).vi (by decide)) i (by decide)) ?_
    intro r45
    refine ⟨rd.v, loadQ (B10.ext (Ext.trans' x23 x24)), ?_⟩
    refine dcallV (.bool true) (fun w' hw hF => rsameT_at ((hF.1).qi (by decide)) ((qd.ext (Ext.trans' x23 x24)).ext hw) (by decide) (L_put _ _ _)) ?_
    refine ⟨rd.v, loadQ (B10.ext (Ext.trans' x23 x24)), ?_⟩
    refine dcallR (mk := SlR.v) (Q := fun r w' => VC (nK 4) 21 w' r (nrm (putV xs i d))) SlR.inj (fun _ => VC.stable) (fun w' hw hF => put_at 4 ((vx.ext (Ext.trans' x23 x24)).ext hw) i ((qd.ext (Ext.trans' x23 x24)).ext hw) (put_len ix.2) (by decide)) ?_
    intro s46
    refine dcallR (mk := RatR.v) (Q := fun r w' => QC (1 + 20 * (4 + 2)) w' r (getL xs i)) RatR.inj (fun _ => QC.stable) (fun w' hw hF => get_at ((vx.ext (Ext.trans' x23 x24)).ext hw) i (by decide)) ?_
    intro r47
    refine dcallR (mk := SlR.v) (Q := fun r w' => VC (nK (aK 4)) 21 w' r (nrm (putV (nrm (putV xs i d)) i (getL xs i)))) SlR.inj (fun _ => VC.stable) (fun w' hw hF => put_at (aK 4) ((hF.2.1).vi (by decide)) i ((hF.1).qi (by decide)) (put_len2 ix.2) (by decide)) ?_
    intro s48
    refine dcallR (mk := SlR.v) (Q := fun r w' => VC (nK 4) 20 w' r (nrm xs)) SlR.inj (fun _ => VC.stable) (fun w' hw hF => norm_at ((vx.ext (Ext.trans' x23 x24)).ext hw) (by decide)) ?_
    intro s49
    refine dcallV (.bool true) (fun w' hw hF => svecT_at (hF.2.1) (hF.1) (by decide) (L_put2 _ _ _)) ?_
    intro w25 x25 hF
    refine CallS.mono (vsame_at 4 (vx.ext (Ext.trans' (Ext.trans' x23 x24) x25)) (vy.ext (Ext.trans' (Ext.trans' x23 x24) x25)) (by decide)) ?_
    rintro _ w26 ⟨x26, rfl⟩
    refine CallS.mono (norm_at (vx.ext (Ext.trans' (Ext.trans' (Ext.trans' x23 x24) x25) x26)) (by decide)) ?_
    rintro _ w27 ⟨x27, s50, rfl, h50⟩
    refine CallS.mono (norm_at (vy.ext (Ext.trans' (Ext.trans' (Ext.trans' (Ext.trans' x23 x24) x25) x26) x27)) (by decide)) ?_
    rintro _ w28 ⟨x28, s51, rfl, h51⟩
    refine CallS.mono ((L_same xs ys ▸ svec_at (h50.ext x28) h51 (by decide))) ?_
    rintro _ w29 ⟨x29, rfl⟩
    refine And.intro (fun hz => ?_) (fun hz => absurd rfl hz)
    refine CallS.mono (awake5_at _) ?_
    rintro _ w30 ⟨x30, rfl⟩
    exact ⟨Ext.trans' xb (Ext.trans' (Ext.trans' (Ext.trans' (Ext.trans' (Ext.trans' (Ext.trans' (Ext.trans' x23 x24) x25) x26) x27) x28) x29) x30), rfl⟩
end Go.Proofs.Ytpgagepleffjlaa
/-
  What comes in, opened: whole numbers, fractions, vectors. Helpers; no statement of the program is proved here.
-/
set_option maxRecDepth 100000
set_option linter.unusedSimpArgs false
set_option linter.unusedVariables false
namespace Go.Proofs.Ytpgagepleffjlaa
open Go Go.Tw Go.RowKit Go.ChangeShapes Go.WideShapes Go.Deep
theorem listOf {α : Type} [Inhabited α] (n : Nat) {P : Nat → α → Prop} (h : ∀ i, i < n → ∃ z, P i z) : ∃ L : List α, L.length = n ∧ ∀ i z, L[i]? = some z → P i z := by
  induction n with
  | zero => exact ⟨[], rfl, fun i z h => by simp at h⟩
  | succ n ih =>
    obtain ⟨L, h1, h2⟩ := ih fun i hi => h i (Nat.lt_succ_of_lt hi)
    obtain ⟨z, hz⟩ := h n (Nat.lt_succ_self n)
    refine ⟨L ++ [z], by simp [h1], fun i y hy => ?_⟩
    rcases Nat.lt_or_ge i n with hi | hi
    · rw [List.getElem?_append_left (by omega)] at hy
      exact h2 i y hy
    · rw [List.getElem?_append_right (by omega)] at hy
      have : i - L.length = 0 := by
        rcases Nat.eq_zero_or_pos (i - L.length) with h0 | h0
        · exact h0
        · rw [List.getElem?_eq_none (by simp; omega)] at hy; cases hy
      rw [this] at hy
      simp only [List.getElem?_cons_zero, Option.some.injEq] at hy
      subst hy
      have : i = n := by omega
      rw [this]; exact hz
theorem cells1 {w : World} {base : Nat} {a : Addr} {n : Nat} {cs : List Value} (h : w.cells? base a n = some cs) : cs.length = n ∧ ∀ j, j < n → w.cell? (a.add j) = cs[j]? := (World.cells?_some h).2
theorem add_add' (a : Addr) (i j : Nat) : (a.add i).add j = a.add (i + j) :=
  Go.Deep.add_add a i j
section
variable {H : Type} {enc : TypeId × Value → H} {w : World} {base : Nat} {sp : Nat → Bool} {held : Bool} {fuel : Nat} {cs : List Value} {x : DataW H × List MemPlace}
theorem opWords (h : DataW.trod enc Try.prog w base sp held fuel 29 cs = some x) : ∃ a n c L, cs = [.slice a n c] ∧ Words w a n L ∧ n ≤ c ∧ c ≤ 9223372036854775807 := by
  rcases open_slice (t := 29) (e := 88) rfl h with ⟨rfl, _⟩ | ⟨a, len, cap, m, n, D, Pl, rfl, hb, hl, hm, hmm, hx, hi⟩
  · exact ⟨none, 0, 0, [], rfl, Words.nil w, Nat.le_refl _, by omega⟩
  · have hlm : len ≤ m := by rw [hmm]; split <;> omega
    have hone : ∀ i, i < len → ∃ z : Nat, z < 18446744073709551616 ∧ w.cell? (a.add i) = some (.int .u64 (z : Int)) := by
      intro i hil
      obtain ⟨cs', hc, ht⟩ := hi i (by omega)
      obtain ⟨z, rfl, _, hw⟩ := DataW.trod_int (k := .u64) rfl ht
      have hb : 0 ≤ z ∧ z ≤ 18446744073709551615 := by
        simp [Lit.wf, IntKind.min, IntKind.max, IntKind.signed, IntKind.bits] at hw
        omega
      have hcc := (cells1 hc).2 0 (by decide)
      refine ⟨z.toNat, by omega, ?_⟩
      rw [Int.toNat_of_nonneg hb.1]
      have e : (a.add (i * Try.prog.cellsOf 88)).add 0 = a.add i := by
        have : Try.prog.cellsOf 88 = 1 := by kernel_rfl
        rw [this, Nat.mul_one, add_add', Nat.add_zero]
      rw [e] at hcc
      exact hcc
    obtain ⟨L, hL, hP⟩ := listOf len hone
    have hsp : 0 < len → a.spot = none := by
      intro h0
      obtain ⟨z, _, hz⟩ := hone 0 h0
      have := World.cell?_spot hz
      cases a; simpa [Addr.add] using this
    refine ⟨some a, len, cap, L, rfl, ⟨hL, fun h0 => ⟨a, rfl, hsp h0⟩, fun j z hz => ?_, fun z hz => ?_⟩, hl, by unfold maxLen at hm; exact hm⟩
    · have hj : j < len := by
        rcases Nat.lt_or_ge j len with h' | h'
        · exact h'
        · rw [List.getElem?_eq_none (by omega)] at hz; cases hz
      rw [← add_eq_addrAt (hsp (by omega)) j]
      exact (hP j z hz).2
    · obtain ⟨j, hj, rfl⟩ := List.getElem_of_mem hz
      exact (hP j _ (List.getElem?_eq_getElem hj)).1
theorem opInt (h : DataW.trod enc Try.prog w base sp held fuel 31 cs = some x) : ∃ r : IntR, cs = [.bool r.neg, .slice r.a r.n r.c] ∧ (∃ L, Words w r.a r.n L) ∧ r.n ≤ r.c ∧ r.c ≤ 9223372036854775807 := by
  obtain ⟨y0, y1, n, rfl, hl, h0, h1⟩ := trod_struct2 (t := 31) rfl h
  obtain ⟨b, hb, _⟩ := DataW.trod_bool rfl h0
  obtain ⟨a, m, c, L, hs, hw, h2, h3⟩ := opWords h1
  have hl : cs.length = 2 := hl.trans (by kernel_rfl)
  match cs, hl with
  | [c0, c1], _ =>
    have k0 : c0 = Value.bool b := (List.cons.inj (show [c0] = [Value.bool b] from hb)).1
    have k1 : c1 = Value.slice a m c := (List.cons.inj (show [c1] = [Value.slice a m c] from hs)).1
    rw [k0, k1]
    exact ⟨⟨b, a, m, c⟩, rfl, ⟨L, hw⟩, h2, h3⟩
theorem opRat (h : DataW.trod enc Try.prog w base sp held fuel 33 cs = some x) : ∃ r : RatR, cs = rcs r ∧ OpQ w r := by
  obtain ⟨y0, y1, n, rfl, hl, h0, h1⟩ := trod_struct2 (t := 33) rfl h
  obtain ⟨r0, e0, w0, a0, b0⟩ := opInt h0
  obtain ⟨r1, e1, w1, a1, b1⟩ := opInt h1
  have hl : cs.length = 4 := hl.trans (by kernel_rfl)
  match cs, hl with
  | [c0, c1, c2, c3], _ =>
    have k0 : [c0, c1] = [Value.bool r0.neg, Value.slice r0.a r0.n r0.c] := e0
    have k1 : [c2, c3] = [Value.bool r1.neg, Value.slice r1.a r1.n r1.c] := e1
    have k2 : [c0, c1, c2, c3] = [c0, c1] ++ [c2, c3] := rfl
    rw [k2, k0, k1]
    exact ⟨⟨r0, r1⟩, rfl, w0, w1, a0, b0, a1, b1⟩
theorem opTm (h : DataW.trod enc Try.prog w base sp held fuel 77 cs = some x) : ∃ t : TmR, cs = t.cs ∧ OpQ w t.x := by
  obtain ⟨y0, y1, n, rfl, hl, h0, h1⟩ := trod_struct2 (t := 77) rfl h
  obtain ⟨z, e0, _, _⟩ := DataW.trod_int (k := .i64) rfl h0
  obtain ⟨r1, e1, w1⟩ := opRat h1
  have hl : cs.length = 5 := hl.trans (by kernel_rfl)
  match cs, hl with
  | [c0, c1, c2, c3, c4], _ =>
    have k0 : c0 = Value.int .i64 z := (List.cons.inj (show [c0] = [Value.int .i64 z] from e0)).1
    have k1 : [c1, c2, c3, c4] = rcs r1 := e1
    rw [k0, k1]
    exact ⟨⟨z, r1⟩, rfl, w1⟩
theorem opVec {t : Nat} (ht : Try.prog.underlying t = some (.slice 77)) (h : DataW.trod enc Try.prog w base sp held fuel t cs = some x) : ∃ (r : SlR) (ts : List TmR), cs = [r.v] ∧ OpV w r ts := by
  rcases open_slice ht h with ⟨rfl, _⟩ | ⟨a, len, cap, m, n, D, Pl, rfl, hb, hl, hm, hmm, hx, hi⟩
  · exact ⟨⟨none, 0, 0⟩, [], rfl, Tms.nil w none, fun t h => by simp at h, Nat.le_refl _, by show 0 ≤ _; omega⟩
  · have hlm : len ≤ m := by rw [hmm]; split <;> omega
    have h5 : Try.prog.cellsOf 77 = 5 := by kernel_rfl
    have hone : ∀ i, i < len → ∃ t : TmR, OpQ w t.x ∧ ∀ j v, t.cs[j]? = some v → w.cell? (a.add (i * 5 + j)) = some v := by
      intro i hil
      obtain ⟨cs', hc, ht⟩ := hi i (by omega)
      obtain ⟨t, rfl, hq⟩ := opTm ht
      refine ⟨t, hq, fun j v hj => ?_⟩
      have hj5 : j < 5 := by
        rcases Nat.lt_or_ge j 5 with h' | h'
        · exact h'
        · rw [List.getElem?_eq_none (by exact h')] at hj; cases hj
      have := (cells1 hc).2 j (by rw [h5]; exact hj5)
      rw [h5, add_add', hj] at this
      exact this
    obtain ⟨ts, hL, hP⟩ := listOf len hone
    have hsp : 0 < len → a.spot = none := by
      intro h0
      obtain ⟨t, _, hz⟩ := hone 0 h0
      have := World.cell?_spot (hz 0 _ rfl)
      cases a; simpa [Addr.add] using this
    refine ⟨⟨some a, len, cap⟩, ts, rfl, ⟨hL, fun h0 => ⟨a, rfl, hsp h0⟩, fun i v hv => ?_⟩, fun t ht => ?_, hl, by unfold maxLen at hm; exact hm⟩
    · obtain ⟨t, h1, h2⟩ := tcs_at hv
      have hj : i / 5 < len := by
        rcases Nat.lt_or_ge (i / 5) len with h' | h'
        · exact h'
        · rw [List.getElem?_eq_none (by omega)] at h1; cases h1
      have := (hP _ t h1).2 _ v h2
      rw [Nat.div_add_mod'] at this
      show w.cell? (addrAt (some a) i) = _
      rw [← add_eq_addrAt (hsp (by omega)) i]
      exact this
    · obtain ⟨j, hj, rfl⟩ := List.getElem_of_mem ht
      exact (hP j _ (List.getElem?_eq_getElem hj)).1
end
end Go.Proofs.Ytpgagepleffjlaa
/-
  SparseSpace: the statement.
-/
set_option maxRecDepth 100000
namespace Go.Proofs.Ytpgagepleffjlaa
open Go Go.Tw Go.ChangeShapes Go.WideShapes Go.ChangeAt Go.RowKit

theorem own0 : ownKnob Try.prog.godebug = none := by kernel_rfl
theorem kids0 : Kids Try.prog (fun t => t < Try.prog.types.size) := kids_rows (by kernel_rfl) (by kernel_rfl)
theorem full0 : ∀ t e, t < Try.prog.types.size → Try.prog.underlying t = some (.slice e) → 0 < Try.prog.cellsOf e := slices_full_of _ (by kernel_rfl)
theorem trodAll_ext {H : Type} {enc : TypeId × Value → H} {W W' : World} {sp : Nat → Bool} (hx : Ext W W') : ∀ {ts : List TypeId} {vs : List Value} {ds : List (DataW H)} {ps : List MemPlace}, (∀ p ∈ ps, p.block < W.heap.size) →
    DataW.TrodAll enc Try.prog W 0 sp true ts vs ds ps → DataW.TrodAll enc Try.prog W' 0 sp true ts vs ds ps
  | [], [], [], _, _, h => h
  | _ :: _, _ :: _, _ :: _, _, hl, ⟨p, q, ⟨n, h1⟩, h2, e⟩ =>
    ⟨p, q, ⟨n, DataW.trod_carry n _ _ _ h1 fun x hx' => Below.same hx (hl x (by rw [e]; exact List.mem_append_left _ hx'))⟩, trodAll_ext hx (fun x hx' => hl x (by rw [e]; exact List.mem_append_right _ hx')) h2, e⟩
/-- What the row asks behind a call that made new memory alone. -/
theorem post_ext {H : Type} {enc : TypeId × Value → H} {f : Func} {s : ChangeSpec} {apart fresh handsOn again : Bool} {W W' : World} {args : Array Value} {v : Value} {ds : List (DataW H)} {before : List MemPlace}
    (hvn : s.vars = []) (hW : DataW.Whole enc Try.prog f.params.toList s.vars apart W args.toList ds [] before) (hx : Ext W W') (hlt : ∀ t ∈ f.params.toList, t < Try.prog.types.size)
    (hA : DataW.TrodAll enc Try.prog W 0 (fun _ => true) true f.params.toList args.toList ds before)
    (hres : ∀ (b : Nat) (sp : Nat → Bool) (hd : Bool), DataW.TrodAll enc Try.prog W' b sp hd f.resultTypes.toList (v.resultList f.resultTypes.size) (s.fn H (ds ++ [])).results [])
    (hargs : (s.fn H (ds ++ [])).args = ds) (hvars : (s.fn H (ds ++ [])).vars = [])
    (hok : ∀ (j : Nat) (t : TypeId) (r : Value), f.resultTypes[j]? = some t → (v.resultList f.resultTypes.size)[j]? = some r → Value.okWide Try.prog W' .any 0 t r) :
    s.post enc Try.prog f apart fresh handsOn again W args v W' := by
  have hl : ∀ p ∈ before, p.block < W.heap.size := fun p hp => hW.lt p hp
  have hold : ∀ p ∈ before, (fun b => decide (b < W.heap.size)) p.block = true := fun p hp => by simpa using hl p hp
  have ha : ∀ sp : Nat → Bool, (∀ p ∈ before, sp p.block = true) → DataW.TrodAll enc Try.prog W' 0 sp true f.params.toList args.toList (s.fn H (ds ++ [])).args before := fun sp hsp => by
    rw [hargs]
    exact trodAll_ext hx hl (DataW.TrodAll.respare (T := fun t => t < Try.prog.types.size) kids0 full0 hlt hA hsp)
  have hv : ∀ sp : Nat → Bool, DataW.TrodVars enc Try.prog W' sp s.vars (s.fn H (ds ++ [])).vars [] := fun sp => by
    rw [hvars, hvn]; rfl
  refine ⟨ds, [], before, [], before, [], hW, hres _ _ _, ha _ hold, hv _, Below.frame hx _, fun _ => ?_⟩
  obtain ⟨_, _, _, _, _, hz, hn⟩ := hW
  refine ⟨hok, _, _, ([] ++ before) ++ [], ⟨[] ++ before, [], trodAll_append (ha _ (fun _ _ => rfl)) (hres _ _ _), hv _, rfl, ?_, ?_⟩, ?_⟩
  · intro b off hp
    have hp : MemPlace.cell b off ∈ before := by simpa using hp
    rw [Below.frozen hx (p := ⟨b, off, none⟩) (hl _ hp)]
    exact hz b off hp
  · intro hap
    have := hn hap
    simpa using this
  · intro p hp _
    simpa using hp
theorem space_wide {W : World} {v0 v1 v2 v3 v4 v5 : Value} {rx ry rz : SlR} {rc rd : RatR} {tx ty tz : List TmR} {z : Int} (e0 : v0 = rx.v) (e1 : v1 = ry.v) (e2 : v2 = rz.v) (e3 : v3 = rc.v) (e4 : v4 = rd.v) (e5 : v5 = .int .i64 z)
    (ox : OpV W rx tx) (oy : OpV W ry ty) (oz : OpV W rz tz) (oc : OpQ W rc) (od : OpQ W rd) :
    Calls Try.prog 4 #[v0, v1, v2, v3, v4, v5] W fun e W' => ∃ v, e = .returned v ∧ (Ext W W' ∧ v = .bool true) := by
  subst e0 e1 e2 e3 e4 e5
  exact SparseSpace_ok ox oy oz oc od z
end Go.Proofs.Ytpgagepleffjlaa
/-
  Contracts: whether words are the same, whether a fraction is in its one form and not 0. Helpers; no statement of the program is proved here.
-/
set_option maxRecDepth 100000
set_option linter.unusedSimpArgs false
set_option linter.unusedVariables false
namespace Go.Proofs.Ytpgagepleffjlaa
open Go Go.Tw Go.RowKit
attribute [local irreducible] LoadAt StoreOk Stored rawVC

theorem Equal_ok {w : World} {a b : Option Addr} {n c m d : Nat} {L M : List Nat} (hL : Words w a n L) (hM : Words w b m M) (hn : n ≤ 1099511627776) :
    CallS Try.prog 104 #[.slice a n c, .slice b m d] w fun v w' => Ext w w' ∧ v = .bool (decide (L = M)) := by
  have hl := hL.len
  have hm := hM.len
  refine enter ttOk mixed (args := [.slice a n c, .slice b m d]) Try.func104 rfl (by kernel_rfl) (by kernel_rfl) rfl ?_
  refine And.intro (fun h1 => ?_) (fun h1 => ?_)
  · have : ¬ L = M := fun h => h1 (by rw [← hl, ← hm, h])
    exact ⟨Ext.rfl w, by rw [decide_eq_false this]; rfl⟩
  · have hnm : n = m := by omega
    refine ⟨Nat, fun x => [(0, .slice a n c), (1, .slice b m d), (12, .int .i64 (n : Int)), (13, .int .i64 (x : Int))], fun x w' => Ext w w' ∧ x ≤ n ∧ L.take x = M.take x, fun x _ => n - x, ⟨0, ⟨rfl, rfl, rfl, rfl, trivial⟩, Ext.rfl w, Nat.zero_le _, rfl⟩, ?_⟩
    rintro i w1 ⟨hx1, hi, he⟩
    dsimp only at *
    refine And.intro (fun h2 => ?_) (fun h2 => ?_)
    · have hin := ltTo h2
      have gL := hL.getD hin
      have gM := hM.getD (j := i) (by omega)
      refine ⟨sq 9, by kernel_rfl, i, ⟨rfl, hin, hL.base (by omega)⟩, _, (hL.ext hx1).load rfl rfl gL, i, ⟨rfl, by omega, hM.base (by omega)⟩, _, (hM.ext hx1).load rfl rfl gM, fun h3 => ?_, fun h3 => ?_⟩
      · intro w2 hx2 _
        have : ¬ L = M := fun h => h3 (by rw [h])
        exact ⟨Ext.trans' hx1 hx2, by rw [decide_eq_false this]; rfl⟩
      · intro w2 hx2 _
        have e : L.getD i 0 = M.getD i 0 := by omega
        exact ⟨((i + 1 : Nat) : Int), sucI i (by omega), i + 1, ⟨rfl, rfl, rfl, rfl, trivial⟩, ⟨Ext.trans' hx1 hx2, hin, take_same he (by rw [gL, gM, e])⟩, Nat.sub_lt_sub_left hin (Nat.lt_succ_self i)⟩
    · have e : i = n := Nat.le_antisymm hi (geTo h2)
      have : L = M := by
        rw [List.take_of_length_le (by omega), List.take_of_length_le (by omega)] at he
        exact he
      exact ⟨hx1, by rw [decide_eq_true this]; rfl⟩
theorem formed1_ok {w : World} {rx ry : IntR} {L M : List Nat} (hL : Words w rx.a rx.n L) (hM : Words w ry.a ry.n M) (hn : rx.n ≤ 1099511627776) :
    CallS Try.prog 103 #[rx.v, ry.v] w fun v w' => Ext w w' ∧ v = .bool (decide (rx.neg = ry.neg ∧ L = M)) := by
  refine enter ttOk mixed (args := [rx.v, ry.v]) Try.func103 rfl (by kernel_rfl) (by kernel_rfl) rfl ?_
  intro b1 w1 hb1 b2 w2 hb2
  have hx2 : Ext w w2 := hb2.extFrom hb1.ext
  have hB1 : Blk w2 b1 31 [.bool rx.neg, .slice rx.a rx.n rx.c] := hb1.toBlk.ext hb2.ext
  have hB2 : Blk w2 b2 31 [.bool ry.neg, .slice ry.a ry.n ry.c] := hb2.toBlk
  refine ⟨_, hB1.one (off := 0) rfl rfl, _, hB2.one (off := 0) rfl rfl, ?_⟩
  refine And.intro (fun h1 => ?_) (fun h1 => ?_)
  · refine ⟨_, hB1.one (off := 1) rfl rfl, _, hB2.one (off := 1) rfl rfl, ?_⟩
    refine CallS.mono (Equal_ok (hL.ext hx2) (hM.ext hx2) hn) ?_
    rintro _ w3 ⟨hx3, rfl⟩
    refine ⟨Ext.trans' hx2 hx3, ?_⟩
    have : (L = M) ↔ (rx.neg = ry.neg ∧ L = M) := ⟨fun h => ⟨h1, h⟩, fun h => h.2⟩
    rw [decide_eq_decide.2 this]; rfl
  · have : ¬ (rx.neg = ry.neg ∧ L = M) := fun h => h1 h.1
    exact ⟨hx2, by rw [decide_eq_false this]; rfl⟩
end Go.Proofs.Ytpgagepleffjlaa
/-
  Contracts: whether a fraction is in its one form, whether a vector is. Helpers; no statement of the program is proved here.
-/
set_option maxRecDepth 100000
set_option linter.unusedSimpArgs false
set_option linter.unusedVariables false
namespace Go.Proofs.Ytpgagepleffjlaa
open Go Go.Tw Go.RowKit
attribute [local irreducible] LoadAt StoreOk Stored rawVC

def frmN (q : Rat) (rx : RatR) (L : List Nat) : Prop := decide (q.num < 0) = rx.num.neg ∧ dig q.num.natAbs = L
def frmD (q : Rat) (rx : RatR) (M : List Nat) : Prop := decide (denC q < 0) = rx.den.neg ∧ dig (denC q).natAbs = M
instance (q : Rat) (rx : RatR) (L : List Nat) : Decidable (frmN q rx L) := inferInstanceAs (Decidable (_ ∧ _))
instance (q : Rat) (rx : RatR) (L : List Nat) : Decidable (frmD q rx L) := inferInstanceAs (Decidable (_ ∧ _))
theorem formed_ok {w : World} {rx : RatR} {q : Rat} {L M : List Nat} (hL : Words w rx.num.a rx.num.n L) (hM : Words w rx.den.a rx.den.n M) (hq : IsQ H0 w rx q) (hf : FitQ 1099511627776 q) :
    CallS Try.prog 80 #[rx.v] w fun v w' => Ext w w' ∧ v = .bool (decide (q ≠ 0 ∧ frmN q rx L ∧ frmD q rx M)) := by
  refine enter ttOk mixed (args := [rx.v]) Try.func80 rfl (by kernel_rfl) (by kernel_rfl) rfl ?_
  intro b1 w1 hb1
  have hB1 : Blk w1 b1 33 (rcs rx) := hb1.toBlk
  refine ⟨rx.v, loadQ hB1, ?_⟩
  refine CallS.mono (Norm_ok (H0.hb w1) (hq.ext hb1.ext)) ?_
  rintro _ w2 ⟨hx2, r, rfl, hr⟩
  intro b3 w3 hb3
  have st := storeQ (r := r) hb3.toBlk hb3.ext (hb3.ge (Ext.rfl _)) rfl
  refine ⟨st.1, fun w4 hs4 => ?_⟩
  have hB3 := (st.2 w4 hs4).1
  have hx24 := (st.2 w4 hs4).2.2
  have hx14 := Ext.trans' hx2 hx24
  have hx04 := Ext.trans' hb1.ext hx14
  have hB4 := hB1.ext hx14
  have hr4 := hr.ext hx24
  refine ⟨rx.v, loadQ hB4, ?_⟩
  refine CallS.mono (RSign_ok (H0.hb w4) (hq.ext hx04)) ?_
  rintro _ w5 ⟨hx5, rfl⟩
  refine And.intro (fun h1 => ?_) (fun h1 => ?_)
  · have hq0 : q ≠ 0 := fun h => h1 (sgQ_zero.2 h)
    refine ⟨r.num.v, loadQn (hB3.ext hx5), rx.num.v, loadQn (hB4.ext hx5), ?_⟩
    refine CallS.mono (formed1_ok (hr4.num.words.ext hx5) ((hL.ext hx04).ext hx5) (canI_n40 hr4.num hf.num)) ?_
    rintro _ w6 ⟨hx6, rfl⟩
    have hx46 := Ext.trans' hx5 hx6
    by_cases h2 : frmN q rx L
    · have e : (r.num.neg = rx.num.neg ∧ dig q.num.natAbs = L) := ⟨hr.num.neg.trans h2.1, h2.2⟩
      rw [decide_eq_true e]
      refine ⟨r.den.v, (hB3.ext hx46).agg (sub := [.bool r.den.neg, .slice r.den.a r.den.n r.den.c]) rfl rfl, rx.den.v, (hB4.ext hx46).agg (sub := [.bool rx.den.neg, .slice rx.den.a rx.den.n rx.den.c]) rfl rfl, ?_⟩
      have hfd : Fit 1099511627776 (denC q) := by
        unfold denC
        split
        · exact Fit.zero _
        · exact hf.den
      refine CallS.mono (formed1_ok (hr4.den.words.ext hx46) ((hM.ext hx04).ext hx46) (canI_n40 hr4.den hfd)) ?_
      rintro _ w7 ⟨hx7, rfl⟩
      refine ⟨Ext.trans' (Ext.trans' hx04 hx46) hx7, ?_⟩
      have : (r.den.neg = rx.den.neg ∧ dig (denC q).natAbs = M) ↔ (q ≠ 0 ∧ frmN q rx L ∧ frmD q rx M) := by
        unfold frmD
        rw [hr.den.neg]
        exact ⟨fun h => ⟨hq0, h2, h⟩, fun h => h.2.2⟩
      rw [decide_eq_decide.2 this]; rfl
    · have e : ¬ (r.num.neg = rx.num.neg ∧ dig q.num.natAbs = L) := fun h => h2 ⟨hr.num.neg.symm.trans h.1, h.2⟩
      rw [decide_eq_false e]
      exact ⟨Ext.trans' hx04 hx46, by rw [decide_eq_false (fun h => h2 h.2.1)]; rfl⟩
  · have hq0 : q = 0 := sgQ_zero.1 (Classical.not_not.1 h1)
    exact ⟨Ext.trans' hx04 hx5, by rw [decide_eq_false (fun h => h.1 hq0)]; rfl⟩
/-- Rising places below N behind one, each fraction in its one form. -/
def rightL (N : Int) : Int → List (Int × Bool) → Bool
  | _, [] => true
  | last, p :: ps => !decide (p.1 ≤ last) && !decide (N ≤ p.1) && p.2 && rightL N p.1 ps
theorem drop_cons' {α : Type} {l : List α} {i : Nat} {t : α} (h : l[i]? = some t) : l.drop i = t :: l.drop (i + 1) := by
  have hi : i < l.length := by
    rcases Nat.lt_or_ge i l.length with h' | h'
    · exact h'
    · rw [List.getElem?_eq_none h'] at h; cases h
  rw [List.drop_eq_getElem_cons hi]
  rw [List.getElem?_eq_getElem hi] at h
  rw [Option.some.inj h]
theorem Right_ok {w : World} {a : Option Addr} {n c : Nat} {ts : List TmR} {N : Int} (ps : List (Int × Bool)) (hT : Tms w a n ts) (hn : n ≤ 1099511627776) (hps : ps.length = ts.length)
    (hF : ∀ (j : Nat) t p, ts[j]? = some t → ps[j]? = some p → t.at' = p.1 ∧ ∀ w', Ext w w' → CallS Try.prog 80 #[t.x.v] w' fun v w'' => Ext w' w'' ∧ v = .bool p.2) :
    CallS Try.prog 47 #[.slice a n c, .int .i64 N] w fun v w' => Ext w w' ∧ v = .bool (rightL N (-1) ps) := by
  have hlen := hT.len
  refine enter ttOk mixed (args := [.slice a n c, .int .i64 N]) Try.func47 rfl (by kernel_rfl) (by kernel_rfl) rfl ?_
  refine ⟨Nat × Int, fun x => [(1, .int .i64 N), (5, .int .i64 x.2), (8, .slice a n c), (9, .int .i64 (n : Int)), (10, .int .i64 (x.1 : Int))], fun x w' => Ext w w' ∧ x.1 ≤ n ∧ rightL N (-1) ps = rightL N x.2 (ps.drop x.1), fun x _ => n - x.1, ⟨(0, -1), ⟨rfl, rfl, rfl, rfl, rfl, trivial⟩, Ext.rfl w, Nat.zero_le _, rfl⟩, ?_⟩
  rintro ⟨i, last⟩ w1 ⟨hx1, hi, he⟩
  dsimp only at *
  refine And.intro (fun h1 => ?_) (fun h1 => ?_)
  · have hin := ltTo h1
    have hg := getD_some (ts := ts) (j := i) (by omega)
    generalize ht : ts.getD i default = t at hg
    have hgp : ps[i]? = some (ps[i]'(by omega)) := List.getElem?_eq_getElem (by omega)
    generalize ps[i]'(by omega) = pp at hgp
    obtain ⟨hat, hcl⟩ := hF i t pp hg hgp
    rw [drop_cons' hgp] at he
    refine ⟨i, ⟨rfl, hin, hT.base (by omega)⟩, t.v, (hT.ext hx1).load (ty := tT) hg rfl rfl, ?_⟩
    intro b w2 hb
    have hs := storeTmB (w' := w2) (t := t) hb.toBlk rfl
    refine ⟨hs.1, fun w3 hs3 => ?_⟩
    have h3 := (storeTmB (t := t) hb.toBlk rfl).2 hs3
    have hx3 : Ext w w3 := Ext.grownB (Ext.trans' hx1 hb.ext) h3.2 (hb.ge hx1)
    have hB := h3.1
    refine ⟨_, hB.one (off := 0) rfl rfl, ?_⟩
    refine And.intro (fun h2 => ?_) (fun h2 => ?_)
    · exact ⟨hx3, by rw [he]; simp only [rightL, decide_eq_true (hat ▸ h2 : pp.1 ≤ last), Bool.not_true, Bool.false_and]; rfl⟩
    · refine ⟨_, hB.one (off := 0) rfl rfl, ?_⟩
      refine And.intro (fun h4 => ?_) (fun h4 => ?_)
      · exact ⟨hx3, by rw [he]; simp only [rightL, decide_eq_true (show N ≤ pp.1 by omega), Bool.not_true, Bool.false_and, Bool.and_false]; rfl⟩
      · refine ⟨t.x.v, hB.agg (sub := rcs t.x) rfl rfl, ?_⟩
        refine CallS.mono (hcl w3 hx3) ?_
        rintro _ w4 ⟨hx4, rfl⟩
        cases hFt : pp.2 with
        | false => exact ⟨Ext.trans' hx3 hx4, by rw [he]; simp only [rightL, hFt, Bool.and_false, Bool.false_and]; rfl⟩
        | true =>
          refine ⟨_, (hB.ext hx4).one (off := 0) rfl rfl, ((i + 1 : Nat) : Int), sucI i (by omega), (i + 1, t.at'), ⟨rfl, rfl, rfl, rfl, rfl, trivial⟩, ⟨Ext.trans' hx3 hx4, hin, ?_⟩, Nat.sub_lt_sub_left hin (Nat.lt_succ_self i)⟩
          rw [he]
          simp only [rightL, hFt, decide_eq_false (show ¬ pp.1 ≤ last by omega), decide_eq_false (show ¬ N ≤ pp.1 by omega), Bool.not_false, Bool.true_and, hat]
  · have e : i = n := Nat.le_antisymm hi (geTo h1)
    rw [List.drop_eq_nil_of_le (by omega)] at he
    exact ⟨hx1, by rw [he]; rfl⟩
end Go.Proofs.Ytpgagepleffjlaa
/-
  Contracts: a row of fractions. Helpers; no statement of the program is proved here.
-/
set_option maxRecDepth 100000
set_option linter.unusedSimpArgs false
set_option linter.unusedVariables false
namespace Go.Tw
open Go Go.RowKit
def RatR.cs (r : RatR) : List Value := [.bool r.num.neg, .slice r.num.a r.num.n r.num.c, .bool r.den.neg, .slice r.den.a r.den.n r.den.c]
instance : Inhabited RatR := ⟨RatR.zero⟩
def qcs (ts : List RatR) : List Value :=
  match ts with
  | [] => []
  | t :: ts => t.cs ++ qcs ts
theorem qcs_append (a b : List RatR) : qcs (a ++ b) = qcs a ++ qcs b := by
  induction a with
  | nil => rfl
  | cons t a ih => simp only [List.cons_append, qcs, ih, List.append_assoc]
theorem qcs_one (t : RatR) : qcs [t] = t.cs := by simp [qcs]
theorem qcs_length (ts : List RatR) : (qcs ts).length = ts.length * 4 := by
  induction ts with
  | nil => rfl
  | cons t ts ih => simp only [qcs, List.length_append, ih, List.length_cons]; simp [RatR.cs]; omega
theorem qcs_get {ts : List RatR} {j k : Nat} {t : RatR} {v : Value} (hj : ts[j]? = some t) (hk : t.cs[k]? = some v) : (qcs ts)[j * 4 + k]? = some v := by
  have hk4 : k < 4 := by
    rcases Nat.lt_or_ge k 4 with h | h
    · exact h
    · rw [List.getElem?_eq_none (by simpa [RatR.cs] using h)] at hk; cases hk
  induction ts generalizing j with
  | nil => simp at hj
  | cons s ts ih =>
    cases j with
    | zero =>
      simp at hj; subst hj
      simp only [qcs]
      rw [List.getElem?_append_left (by simpa [RatR.cs] using hk4)]
      simpa using hk
    | succ j =>
      simp only [qcs]
      rw [List.getElem?_append_right (by simp [RatR.cs]; omega)]
      have e : (j + 1) * 4 + k - s.cs.length = j * 4 + k := by simp [RatR.cs]; omega
      rw [e]
      exact ih (by simpa using hj)
theorem qcs_mem_one (ts : List RatR) : ∀ v ∈ qcs ts, v.oneCell' = true := by
  induction ts with
  | nil => intro v hv; simp [qcs] at hv
  | cons t ts ih =>
    intro v hv
    simp only [qcs, List.mem_append] at hv
    rcases hv with hv | hv
    · simp only [RatR.cs, List.mem_cons, List.not_mem_nil, or_false] at hv
      rcases hv with rfl | rfl | rfl | rfl <;> rfl
    · exact ih v hv
theorem qcs_at {ts : List RatR} {i : Nat} {v : Value} (h : (qcs ts)[i]? = some v) : ∃ t, ts[i / 4]? = some t ∧ t.cs[i % 4]? = some v := by
  induction ts generalizing i with
  | nil => simp [qcs] at h
  | cons s ts ih =>
    simp only [qcs] at h
    by_cases hi : i < 4
    · rw [List.getElem?_append_left (by simpa [RatR.cs] using hi)] at h
      exact ⟨s, by rw [Nat.div_eq_of_lt hi]; rfl, by rw [Nat.mod_eq_of_lt hi]; exact h⟩
    · rw [List.getElem?_append_right (by simp [RatR.cs]; omega)] at h
      have e : i - s.cs.length = i - 4 := rfl
      rw [e] at h
      obtain ⟨t, h1, h2⟩ := ih h
      refine ⟨t, ?_, ?_⟩
      · rw [show i / 4 = (i - 4) / 4 + 1 by omega]; exact h1
      · rw [show i % 4 = (i - 4) % 4 by omega]; exact h2
theorem qcs_set {ts : List RatR} {R : List Value} {j : Nat} {t : RatR} (h : j < ts.length) : splice (qcs ts ++ R) (j * 4) t.cs = qcs (ts.set j t) ++ R := by
  induction ts generalizing j with
  | nil => simp at h
  | cons s ts ih =>
    cases j with
    | zero =>
      rw [Nat.zero_mul]
      simp [qcs, RatR.cs, splice, over]
    | succ j =>
      have := ih (j := j) (by simpa using h)
      simp only [qcs, List.set_cons_succ, List.append_assoc]
      rw [← this, show (j + 1) * 4 = s.cs.length + j * 4 by simp [RatR.cs]; omega]
      exact splice_append s.cs (qcs ts ++ R) t.cs (j * 4)
theorem storeQs {T : TT} {w : World} {g e j sz ty : Nat} {ts : List RatR} {R : List Value} {t : RatR} (hk : (known (tyAt T ty) && Nat.beq 4 (tyAt T ty).size) = true) (hs : sz = 4) (hb : Blk w g e (qcs ts ++ R)) (hj : j < ts.length) :
    StoreOk T w ty (addrAt (some ⟨g, 0, none⟩) (j * sz)) t.v := by
  subst hs
  simp only [Bool.and_eq_true] at hk
  have h1 := (beq_iff _ _).1 hk.2
  refine storeOk (i := j * 4) (by show (⟨g, 0 + j * 4, none⟩ : Addr) = _; rw [Nat.zero_add]) ?_ hb (by rw [List.length_append, qcs_length]; omega)
  rw [hk.1, ← h1]; rfl
theorem storedQs {w w' : World} {g e j sz : Nat} {ts : List RatR} {R : List Value} {t : RatR} (h : Stored w w' (addrAt (some ⟨g, 0, none⟩) (j * sz)) t.v.cells.toList) (hs : sz = 4) (hb : Blk w g e (qcs ts ++ R)) (hj : j < ts.length) :
    Blk w' g e (qcs (ts.set j t) ++ R) ∧ w.grownBy w' (some g) := by
  subst hs
  have e1 : addrAt (some ⟨g, 0, none⟩) (j * 4) = ⟨g, j * 4, none⟩ := by show (⟨g, 0 + j * 4, none⟩ : Addr) = _; rw [Nat.zero_add]
  rw [e1] at h
  have h1 := Stored.blk h hb
  have h2 : splice (qcs ts ++ R) (j * 4) t.v.cells.toList = qcs (ts.set j t) ++ R := qcs_set hj
  rw [h2] at h1
  exact ⟨h1, (Stored.grown h).1⟩
theorem qcs_rep (n : Nat) : qcs (List.replicate n RatR.zero) = rep n RatR.zero.cs := by
  induction n with
  | zero => rfl
  | succ n ih => simp only [List.replicate_succ, qcs, rep, ih]
end Go.Tw
/-
  Contracts: a vector written out in full. Helpers; no statement of the program is proved here.
-/
set_option maxRecDepth 100000
set_option linter.unusedSimpArgs false
set_option linter.unusedVariables false
namespace Go.Proofs.Ytpgagepleffjlaa
open Go Go.Tw Go.RowKit
attribute [local irreducible] LoadAt StoreOk Stored rawVC

theorem getL_take_self {zs : VL} (h : Ris zs) {i : Nat} (hi : i < zs.length) : getL (zs.take i) (pl zs i) = 0 := by
  refine getL_none fun t ht => ?_
  obtain ⟨j, hj, rfl⟩ := List.getElem_of_mem ht
  rw [List.length_take] at hj
  rw [List.getElem_take]
  have h1 := List.pairwise_iff_getElem.1 h j i (by omega) hi (by omega)
  have h2 : pl zs i = zs[i].1 := by
    unfold pl
    rw [List.getD_eq_getElem?_getD, List.getElem?_eq_getElem hi]; rfl
  rw [h2]; omega
structure DenI (k : Nat) (H : Hd) (w : World) (b : Nat) (n : Nat) (s : SlR) (zs : VL) (i : Nat) (rs : List RatR) (w' : World) : Prop where
  ext : Ext w w'
  blk : Blk w' b 33 (qcs rs)
  len : rs.length = n
  il : i ≤ s.n
  row : ∀ j, j < n → CanQ H w' (rs.getD j default) (getL (zs.take i) (j : Int))
  vec : CanV k H w' s zs
theorem Dense_ok {k l : Nat} {w : World} {r : SlR} {xs : VL} (hx : VI k l w r xs) (hk : k ≤ 1073741824 ∧ l ≤ 21) {N n : Nat} (hN : 1 ≤ N ∧ N ≤ 4611686018427387904) (hn : n = min N 65536) :
    CallS Try.prog 45 #[r.v, .int .i64 (N : Int)] w fun v w' => Ext w w' ∧ ∃ b rs, v = .slice (some ⟨b, 0, none⟩) n n ∧ Blk w' b 33 (qcs rs) ∧ rs.length = n ∧ ∀ j, j < n → CanQ H0 w' (rs.getD j default) (getL xs (j : Int)) := by
  have hxl := hx.len
  refine enter ttOk mixed (args := [r.v, .int .i64 (N : Int)]) Try.func45 rfl (by kernel_rfl) (by kernel_rfl) rfl ?_
  refine And.intro (fun h1 => ?_) (fun h1 => ?_)
  · exfalso; omega
  · refine ⟨(n : Int), by split <;> omega, n, n, ⟨rfl, rfl, Nat.le_refl _, by show n * 64 ≤ _; omega, by omega⟩, fun b w1 hb => ?_⟩
    have hB1 : Blk w1 b 33 (qcs (List.replicate n RatR.zero)) := by rw [qcs_rep]; exact hb.toBlk
    have hH1 := (H0.hb w).up hb.ext
    have hbH : upH H0 w w1 b := hb.inUp (Ext.rfl w) (Ext.rfl w1)
    have hge := hb.ge (Ext.rfl w)
    refine CallS.mono (VNorm_ok hH1 (hx.inv.up hb.ext) hk.1 (by omega)) ?_
    rintro _ w2 ⟨hx2, s, rfl, hs⟩
    have hsl := hs.len
    have hcn := nrm_cn xs
    have hnl := nrm_len xs
    refine ⟨Nat × List RatR, fun x => [(5, .slice (some ⟨b, 0, none⟩) n n), (14, s.v), (15, .int .i64 (s.n : Int)), (16, .int .i64 (x.1 : Int))], fun x w' => DenI (nK k) (upH H0 w w1) w b n s (nrm xs) x.1 x.2 w', fun x _ => s.n - x.1,
      ⟨(0, List.replicate n RatR.zero), ⟨rfl, rfl, rfl, rfl, trivial⟩, ⟨Ext.trans' hb.ext hx2, hB1.ext hx2, List.length_replicate, Nat.zero_le _, fun j hj => ?_, hs⟩⟩, ?_⟩
    · rw [List.getD_eq_getElem?_getD, List.getElem?_replicate, if_pos hj]
      exact CanQ.zero _ _
    rintro ⟨i, rs⟩ w3 hI
    dsimp only at *
    refine And.intro (fun h2 => ?_) (fun h2 => ?_)
    · have hin := ltTo h2
      have hiz : i < (nrm xs).length := by omega
      have g1 := vget (ys := nrm xs) (j := i) hiz
      obtain ⟨⟨ts, hT, hC⟩, hnc, hcm, hav⟩ := hI.vec
      refine (tsCan_get hC g1).elim fun t dt => ?_
      refine ⟨i, ⟨rfl, hin, hT.base (by omega)⟩, t.v, hT.load (ty := tT) dt.1 rfl rfl, ?_⟩
      intro b7 w4 hb7
      refine ⟨(storeTmB (w' := w4) (t := t) hb7.toBlk rfl).1, fun w5 hs5 => ?_⟩
      have h5 := (storeTmB (t := t) hb7.toBlk rfl).2 hs5
      have hx5 : Ext w3 w5 := Ext.grownB hb7.ext h5.2 (hb7.ge (Ext.rfl w3))
      have hB := h5.1
      have hI5 : DenI (nK k) (upH H0 w w1) w b n s (nrm xs) i rs w5 := ⟨Ext.trans' hI.ext hx5, hI.blk.ext hx5, hI.len, hI.il, fun j hj => (hI.row j hj).ext hx5, hI.vec.ext hx5⟩
      have hq5 := dt.2.2.1.ext hx5
      have hat := dt.2.1
      have skip : (∀ j : Nat, j < n → (j : Int) ≠ pl (nrm xs) i) → DenI (nK k) (upH H0 w w1) w b n s (nrm xs) (i + 1) rs w5 := fun hne => ⟨hI5.ext, hI5.blk, hI5.len, hin, fun j hj => by
        rw [getL_take_succ hiz, if_neg (fun e => hne j hj e.symm), Rat.add_zero]
        exact hI5.row j hj, hI5.vec⟩
      refine ⟨_, hB.one (off := 0) rfl rfl, ?_⟩
      refine And.intro (fun h6 => ?_) (fun h6 => ?_)
      · refine ⟨_, hB.one (off := 0) rfl rfl, ?_⟩
        refine And.intro (fun h7 => ?_) (fun h7 => ?_)
        · obtain ⟨m, hm⟩ : ∃ m : Nat, t.at' = (m : Int) := ⟨t.at'.toNat, by omega⟩
          have hmn : m < n := by omega
          have hbk : Blk w5 b 33 (qcs rs ++ []) := by rw [List.append_nil]; exact hI5.blk
          have hml : m < rs.length := by rw [hI5.len]; exact hmn
          refine ⟨_, hB.one (off := 0) rfl rfl, t.x.v, hB.agg (sub := rcs t.x) rfl rfl, m, ⟨hm, hmn, ⟨_, rfl, rfl⟩⟩, storeQs rfl rfl hbk hml, fun w6 hs6 => ?_⟩
          have hS := storedQs hs6 rfl hbk hml
          have hgr : ∀ c, some b = some c → upH H0 w w1 c := fun c e => by cases e; exact hbH
          refine ⟨((i + 1 : Nat) : Int), sucI i (by omega), (i + 1, rs.set m t.x), ⟨rfl, rfl, rfl, rfl, trivial⟩, ⟨Ext.grownB hI5.ext hS.2 hge, by have := hS.1; rw [List.append_nil] at this; exact this, by rw [List.length_set]; exact hI5.len, hin, fun j hj => ?_, hI5.vec.grow hS.2 hgr⟩, Nat.sub_lt_sub_left hin (Nat.lt_succ_self i)⟩
          rw [getL_take_succ hiz]
          by_cases hjm : j = m
          · have e1 : pl (nrm xs) i = (j : Int) := by rw [hjm, ← hm]; exact hat.symm
            rw [if_pos e1, ← e1, getL_take_self hcn.ris hiz, Rat.zero_add, hjm, List.getD_eq_getElem?_getD, List.getElem?_set_self hml]
            exact hq5.grow hS.2 hgr
          · have e1 : ¬ pl (nrm xs) i = (j : Int) := fun e => hjm (by have := hat; have : t.at' = (j : Int) := hat.trans e; omega)
            rw [if_neg e1, Rat.add_zero, List.getD_eq_getElem?_getD, List.getElem?_set_ne (fun e => hjm e.symm), ← List.getD_eq_getElem?_getD]
            exact (hI5.row j hj).grow hS.2 hgr
        · exact ⟨((i + 1 : Nat) : Int), sucI i (by omega), (i + 1, rs), ⟨rfl, rfl, rfl, rfl, trivial⟩, skip (fun j hj => by omega), Nat.sub_lt_sub_left hin (Nat.lt_succ_self i)⟩
      · exact ⟨((i + 1 : Nat) : Int), sucI i (by omega), (i + 1, rs), ⟨rfl, rfl, rfl, rfl, trivial⟩, skip (fun j hj => by omega), Nat.sub_lt_sub_left hin (Nat.lt_succ_self i)⟩
    · have hi : i = s.n := Nat.le_antisymm hI.il (geTo h2)
      refine ⟨hI.ext, b, rs, rfl, hI.blk, hI.len, fun j hj => ?_⟩
      have := hI.row j hj
      rw [List.take_of_length_le (by omega), nrm_get] at this
      exact this.less
theorem DenseNil_ok {w : World} {r : SlR} {N : Int} (hN : N < 1) :
    CallS Try.prog 45 #[r.v, .int .i64 N] w fun v w' => Ext w w' ∧ v = .slice none 0 0 := by
  refine enter ttOk mixed (args := [r.v, .int .i64 N]) Try.func45 rfl (by kernel_rfl) (by kernel_rfl) rfl ?_
  refine And.intro (fun h1 => ?_) (fun h1 => ?_)
  · exact ⟨Ext.rfl w, rfl⟩
  · exact absurd hN h1
end Go.Proofs.Ytpgagepleffjlaa
/-
  A row of bytes made a text. Helpers; no statement of the program is proved here.
-/
set_option maxRecDepth 100000
set_option linter.unusedSimpArgs false
set_option linter.unusedVariables false
namespace Go.Tw
open Go Go.RowKit
def txt (ns : List Int) : ByteArray := ns.foldl (fun r n => r.push (UInt8.ofNat n.toNat)) ByteArray.empty
theorem raw_bytes {P : Program} {T : TT} (hT : TOk P T) {o : Oper} {e : Env} {w : World} {K : Value → World → Prop} {s d el : Nat} {x : Operand} (ho : o.op = .convert s d x) (hs : (tyAt T s).d = .slice el) (he : (tyAt T el).d = .int .u8) (hd : (tyAt T d).d = .str)
    {a : Addr} {m n : Nat} (hx : ev e x = some (.slice (some a) m n)) {ns : List Int} (hl : ns.length = m) (hc : ∀ j v, (ns.map (Value.int .u8))[j]? = some v → w.cell? (a.add j) = some v) (hK : K (.string (txt ns)) w) : rawVC P o e w K := by
  intro r hr
  obtain ⟨dst, op, type, pos, after, guard⟩ := o
  simp only at ho
  subst ho
  have h1 : (loadCells a m).run P w = .ok (ns.map (Value.int .u8)).toArray w := by
    have := run_loadCells_list (P := P) w a (ns.map (Value.int .u8)) hc
    simpa [hl] using this
  have h2 := run_bytesToString (P := P) w a m n ns h1
  have h3 := run_convert_bytes_string (P := P) w s d el (some a) m n (hT.slice hs) (hT.int he) (hT.str hd)
  simp only [execOp, hr x _ hx, Sem.run_bind, h3, h2, Result.andThen, Sem.run_pure]
  exact hK
end Go.Tw
/-
  Contracts: the text of a small number. Helpers; no statement of the program is proved here.
-/
set_option maxRecDepth 100000
set_option linter.unusedSimpArgs false
set_option linter.unusedVariables false
namespace Go.Proofs.Ytpgagepleffjlaa
open Go Go.Tw Go.RowKit
attribute [local irreducible] LoadAt StoreOk Stored rawVC

abbrev tB : Nat := 5
theorem Rev1_ok {w : World} {a : Option Addr} {c : Nat} : CallS Try.prog 102 #[.slice a 1 c] w fun v w' => Ext w w' ∧ v = .tuple #[] := by
  refine enter ttOk mixed (args := [.slice a 1 c]) Try.func102 rfl (by kernel_rfl) (by kernel_rfl) rfl ?_
  refine ⟨0, by omega, ?_⟩
  refine ⟨Unit, fun _ => [(0, .slice a 1 c), (2, .int .i64 0), (3, .int .i64 0)], fun _ w' => Ext w w', fun _ _ => 0, ⟨(), ⟨rfl, rfl, rfl, trivial⟩, Ext.rfl w⟩, ?_⟩
  rintro u w1 hx1
  refine And.intro (fun h1 => ?_) (fun h1 => ?_)
  · exfalso; omega
  · exact ⟨hx1, rfl⟩
theorem Text1_ok {w : World} {rx : IntR} {z : Nat} (hx : CanI H0 w rx (z : Int)) (h1 : 1 ≤ z) (h9 : z ≤ 9) :
    CallS Try.prog 79 #[rx.v] w fun v w' => Ext w w' ∧ v = .string (txt [48 + (z : Int)]) := by
  have hw := hx.words
  rw [Int.natAbs_natCast] at hw
  have hdz : dig z = [z] := by
    rw [dig_pos (by omega), Nat.mod_eq_of_lt (by omega), Nat.div_eq_of_lt (by omega), dig_zero]
  rw [hdz] at hw
  have hn1 : rx.n = 1 := hw.len.symm
  have hneg : rx.neg = false := by rw [hx.neg]; exact decide_eq_false (by omega)
  refine enter ttOk mixed (args := [rx.v]) Try.func79 rfl (by kernel_rfl) (by kernel_rfl) rfl ?_
  intro b1 w1 hb1
  have hB : Blk w1 b1 31 [.bool rx.neg, .slice rx.a rx.n rx.c] := hb1.toBlk
  rw [hneg] at hB
  refine ⟨_, hB.one (off := 1) rfl rfl, ?_⟩
  refine CallS.mono (Trim_ok (hw.ext hb1.ext) hx.nc hx.cm (by omega)) ?_
  rintro v w2 ⟨hx2, a4, n4, c4, rfl, hW4, hc4, hm4⟩
  have hv : val [z] = z := by simp [val]
  rw [hv, hdz] at hW4
  have hx02 := Ext.trans' hb1.ext hx2
  refine ⟨SlR × SlR × Bool, fun x => [(1, .pointer (some ⟨b1, 0, none⟩)), (3, x.1.v), (4, x.2.1.v)], fun x w' => Ext w2 w' ∧ (if x.2.2 = true then (Words w' x.2.1.a x.2.1.n [] ∧ w'.ownsRow w2.heap.size tB 1 x.1.v 1 [.int .u8 (48 + (z : Int))]) else (x.2.1 = ⟨a4, n4, c4⟩ ∧ x.1 = ⟨none, 0, 0⟩)), fun x _ => if x.2.2 = true then 0 else 1,
    ⟨(⟨none, 0, 0⟩, ⟨a4, n4, c4⟩, false), ⟨rfl, rfl, rfl, trivial⟩, Ext.rfl w2, ⟨rfl, rfl⟩⟩, ?_⟩
  rintro ⟨s3, s4, d⟩ w3 ⟨hx3, hI⟩
  dsimp only at *
  cases d with
  | true =>
    have hI : Words w3 s4.a s4.n [] ∧ w3.ownsRow w2.heap.size tB 1 s3.v 1 [.int .u8 (48 + (z : Int))] := hI
    have h40 : s4.n = 0 := hI.1.len.symm
    refine And.intro (fun h2 => ?_) (fun h2 => ?_)
    · exfalso; omega
    · have hs3 : ∃ g cap, s3 = ⟨some ⟨g, 0, none⟩, 1, cap⟩ ∧ w3.cell? ⟨g, 0, none⟩ = some (.int .u8 (48 + (z : Int))) := by
        rcases hI.2.2 with ⟨_, h0⟩ | ⟨g, cap, cur, he, hg, hb, hnc, hcm, hcs, htk⟩
        · omega
        · refine ⟨g, cap, SlR.inj he, ?_⟩
          have h5 : cur.toList.take 1 = [Value.int .u8 (48 + (z : Int))] := htk
          have h6 : cur[0]? = some (.int .u8 (48 + (z : Int))) := by
            have := congrArg (fun l => l[0]?) h5
            simpa using this
          simp only [World.cell?, hb]
          simpa using h6
      obtain ⟨g, cap, rfl, hcell⟩ := hs3
      have hB3 := (hB.ext hx2).ext hx3
      refine And.intro (fun h3 => ?_) (fun h3 => ?_)
      · exfalso
        have h3 : ((1 : Nat) : Int) = 0 := h3
        omega
      · refine ⟨_, hB3.one (off := 0) rfl rfl, ?_⟩
        refine CallS.mono Rev1_ok ?_
        rintro _ w4 ⟨hx4, rfl⟩
        refine raw_bytes (ns := [48 + (z : Int)]) ttOk rfl rfl rfl rfl rfl rfl (fun j v hj => ?_) ⟨Ext.trans' (Ext.trans' hx02 hx3) hx4, rfl⟩
        cases j with
        | zero =>
          have hj : some (Value.int .u8 (48 + (z : Int))) = some v := hj
          cases hj
          exact hx4.cellEq hcell
        | succ j => simp at hj
  | false =>
    have hI : s4 = ⟨a4, n4, c4⟩ ∧ s3 = ⟨none, 0, 0⟩ := hI
    obtain ⟨rfl, rfl⟩ := hI
    have h41 : n4 = 1 := hW4.len.symm
    refine And.intro (fun h2 => ?_) (fun h2 => ?_)
    · intro b5 w4 hb5
      have hb5 : New w3 w4 b5 88 (wv [1000000000000000000]) := hb5
      have hW5 : Words w4 (some ⟨b5, 0, none⟩) 1 [1000000000000000000] := Words.blkAll (A := [1000000000000000000]) hb5.toBlk (fun x hx => by simp at hx; omega)
      refine CallS.mono (DivMod_ok ((hW4.ext hx3).ext hb5.ext) hc4 hm4 (show n4 ≤ 1099511627776 by omega) hW5 (Nat.le_refl _) (by omega) (by omega)) ?_
      rintro _ w5 ⟨hx5, q, r, rfl, hq, hr⟩
      have hv2 : val [1000000000000000000] = 1000000000000000000 := by simp [val]
      rw [hv, hv2, Nat.div_eq_of_lt (by omega), dig_zero] at hq
      have hmod : modN z 1000000000000000000 = z := by unfold modN; rw [if_neg (by omega)]; exact Nat.mod_eq_of_lt (by omega)
      rw [hv, hv2, hmod, hdz] at hr
      obtain ⟨aq, nq, cq, rfl, hWq, hcq, hmq⟩ := hq
      obtain ⟨ar, nr, cr, rfl, hWr, hcr, hmr⟩ := hr
      have hnq : nq = 0 := hWq.len.symm
      have hnr : nr = 1 := hWr.len.symm
      have hx45 := Ext.trans' hb5.ext hx5
      refine And.intro (fun h3 => ?_) (fun h3 => ?_)
      · refine ⟨0, ⟨rfl, by omega, hWr.base (by omega)⟩, _, hWr.load rfl rfl rfl, ?_⟩
        refine ⟨SlR × Bool, fun x => [(1, .pointer (some ⟨b1, 0, none⟩)), (3, x.1.v), (4, .slice aq nq cq), (6, .int .u64 (if x.2 = true then 0 else (z : Int))), (7, .int .i64 (if x.2 = true then 1 else 0))], fun x w' => Ext w5 w' ∧ (if x.2 = true then w'.ownsRow w2.heap.size tB 1 x.1.v 1 [.int .u8 (48 + (z : Int))] else x.1 = ⟨none, 0, 0⟩), fun x _ => if x.2 = true then 0 else 1,
          ⟨(⟨none, 0, 0⟩, false), ⟨rfl, rfl, rfl, rfl, rfl, trivial⟩, Ext.rfl w5, rfl⟩, ?_⟩
        rintro ⟨s3, d⟩ w6 ⟨hx6, hJ⟩
        cases d with
        | true =>
          have hJ : w6.ownsRow w2.heap.size tB 1 s3.v 1 [.int .u8 (48 + (z : Int))] := hJ
          refine And.intro (fun h4 => ?_) (fun h4 => ?_)
          · refine And.intro (fun h5 => ?_) (fun h5 => ?_)
            · exfalso; exact absurd (show (0 : Int) > 0 from h5) (by decide)
            · refine And.intro (fun h6 => ?_) (fun h6 => ?_)
              · exfalso
                have h6 : (0 : Int) < (nq : Int) := h6
                omega
              · exact ⟨(s3, ⟨aq, nq, cq⟩, true), ⟨rfl, rfl, rfl, trivial⟩, ⟨Ext.trans' hx3 (Ext.trans' hx45 hx6), hWq.ext hx6, hJ⟩, Nat.zero_lt_one⟩
          · exfalso; apply h4; show (1 : Int) < 18; decide
        | false =>
          have hJ : s3 = ⟨none, 0, 0⟩ := hJ
          subst hJ
          refine And.intro (fun h4 => ?_) (fun h4 => ?_)
          · refine And.intro (fun h5 => ?_) (fun h5 => ?_)
            · refine ⟨((z % 10 : Nat) : Int), ⟨remZ z 10, fun h => by omega⟩, 48 + (z : Int), by omega, 48 + (z : Int), by omega, ?_⟩
              intro b8 w7 hb8
              have hb8 : New w6 w7 b8 tB [.int .u8 (48 + (z : Int))] := hb8
              have h27 : Ext w2 w7 := Ext.trans' (Ext.trans' (Ext.trans' hx3 hx45) hx6) hb8.ext
              refine ⟨rfl, w2.heap.size, 0, [], [.int .u8 (48 + (z : Int))], ⟨World.ownsRow_nil _ _ _ _, rfl, ?_, ?_, fun _ => ⟨_, rfl, rfl⟩, by omega, by show 1 * 1 ≤ _; omega, h27.size⟩, ?_⟩
              · intro j v hj
                exact hb8.toBlk.cell (i := 0 + j) (v := v) (by rw [Nat.zero_add]; exact hj)
              · intro v hv
                rw [List.mem_singleton] at hv
                subst hv; rfl
              intro v' w8 ho hg hn
              have ho : w8.ownsRow w2.heap.size tB 1 v' 1 [.int .u8 (48 + (z : Int))] := ho
              have hx8 : Ext w2 w8 := Ext.grown h27 hg (fun b hb => by cases hb)
              have hx68 : Ext w6 w8 := Ext.grown hb8.ext hg (fun b hb => by cases hb)
              have hv : ∃ s : SlR, v' = s.v := by
                rcases ho.2 with ⟨rfl, h0⟩ | ⟨g, cap, cur, rfl, _⟩
                · omega
                · exact ⟨⟨_, _, _⟩, rfl⟩
              obtain ⟨s, rfl⟩ := hv
              have hq0 := quoZ z 10 (by omega)
              rw [Nat.div_eq_of_lt (by omega)] at hq0
              refine ⟨0, ⟨hq0, fun h => by omega⟩, 1, ⟨rfl, by decide⟩, ?_⟩
              exact ⟨(s, true), ⟨rfl, rfl, rfl, rfl, rfl, trivial⟩, ⟨Ext.trans' hx6 hx68, ho⟩, Nat.zero_lt_one⟩
            · exfalso; apply h5; show (0 : Int) < (z : Int); omega
          · exfalso; apply h4; show (0 : Int) < 18; decide
      · exfalso; apply h3; show (0 : Int) < (nr : Int); omega
    · exfalso; apply h2; show (0 : Int) < (n4 : Int); omega
theorem txt_size1 (n : Int) : (txt [n]).size = 1 := rfl
/-- The text of a fraction of one digit above and below. -/
theorem RText_ok {w : World} {rx : RatR} {q : Rat} {z : Nat} (hx : QI 1 w rx q) (hq : q.num = (z : Int)) (h1 : 1 ≤ z) (h9 : z ≤ 9) (hd : q.den ≤ 9) :
    CallS Try.prog 46 #[rx.v] w fun v w' => Ext w w' ∧ v = .string (if q.den = 1 then txt [48 + (z : Int)] else txt [48 + (z : Int)] ++ ⟨#[47]⟩ ++ txt [48 + (q.den : Int)]) := by
  refine enter ttOk mixed (args := [rx.v]) Try.func46 rfl (by kernel_rfl) (by kernel_rfl) rfl ?_
  intro b1 w1 hb1
  have hB1 : Blk w1 b1 33 (rcs rx) := hb1.toBlk
  refine ⟨rx.v, loadQ hB1, ?_⟩
  refine CallS.mono (Norm_ok ((H0.hb w).up hb1.ext) (hx.inq.is.up hb1.ext)) ?_
  rintro _ w2 ⟨hx2, r, rfl, hr⟩
  have st := storeQ (r := r) (hB1.ext hx2) (Ext.trans' hb1.ext hx2) (hb1.ge (Ext.rfl _)) rfl
  refine ⟨st.1, fun w3 hs3 => ?_⟩
  have hB3 := (st.2 w3 hs3).1
  have hx3 := (st.2 w3 hs3).2.2
  have hr3 := (hr.far (st.2 w3 hs3).2.1 (hb1.inUp (Ext.rfl w) (Ext.rfl w1))).less
  have hnum : CanI H0 w3 r.num (z : Int) := hq ▸ hr3.num
  refine ⟨_, hB3.one (off := 3) rfl rfl, ?_⟩
  by_cases h0 : q.den = 1
  · have hn0 : r.den.n = 0 := by
      rw [hr3.den.n0]; unfold denC; rw [if_pos h0]
    rw [if_pos h0]
    refine And.intro (fun h2 => ?_) (fun h2 => ?_)
    · refine ⟨r.num.v, loadQn hB3, ?_⟩
      refine CallS.mono (Text1_ok hnum h1 h9) ?_
      rintro _ w4 ⟨hx4, rfl⟩
      exact ⟨Ext.trans' hx3 hx4, rfl⟩
    · exfalso; apply h2; show (r.den.n : Int) = 0; omega
  · have hdn : CanI H0 w3 r.den ((q.den : Nat) : Int) := by
      have := hr3.den
      unfold denC at this
      rw [if_neg h0] at this
      exact this
    have hd0 := q.den_pos
    have hn0 : r.den.n ≠ 0 := by
      intro h
      have := hr3.den.n0.1 h
      unfold denC at this
      rw [if_neg h0] at this
      omega
    rw [if_neg h0]
    refine And.intro (fun h2 => ?_) (fun h2 => ?_)
    · exfalso
      have h2 : (r.den.n : Int) = 0 := h2
      omega
    · refine ⟨sq 9, by kernel_rfl, r.num.v, loadQn hB3, ?_⟩
      refine dcallV (.string (txt [48 + (z : Int)])) (fun w' hw hF => Text1_ok (hnum.ext hw) h1 h9) ?_
      refine ⟨show (txt [48 + (z : Int)]).size + 1 ≤ _ by rw [txt_size1]; omega, ?_⟩
      refine ⟨r.den.v, hB3.agg (sub := [.bool r.den.neg, .slice r.den.a r.den.n r.den.c]) rfl rfl, ?_⟩
      refine dcallV (.string (txt [48 + (q.den : Int)])) (fun w' hw hF => Text1_ok (hdn.ext hw) (by omega) hd) ?_
      refine ⟨show (txt [48 + (z : Int)] ++ ⟨#[47]⟩ : ByteArray).size + (txt [48 + (q.den : Int)]).size ≤ _ by rw [ByteArray.size_append, txt_size1, txt_size1]; show 1 + 1 + 1 ≤ _; omega, ?_⟩
      intro w4 hx4 _
      exact ⟨Ext.trans' hx3 hx4, rfl⟩
end Go.Proofs.Ytpgagepleffjlaa
/-
  What the fixed examples of the layer sparse ask: rows of terms told whether right, rows of fractions read. Helpers; no statement of the program is proved here.
-/
set_option maxRecDepth 100000
set_option linter.unusedSimpArgs false
set_option linter.unusedVariables false
namespace Go.Proofs.Ytpgagepleffjlaa
open Go Go.Tw Go.RowKit
attribute [local irreducible] LoadAt StoreOk Stored rawVC

theorem formedC_at {k : Nat} {w : World} {rx : RatR} {q : Rat} (h : QC k w rx q) (hk : k ≤ 1099511627776) :
    CallS Try.prog 80 #[rx.v] w fun v w' => Ext w w' ∧ v = .bool (decide (q ≠ 0)) := by
  have := formed_ok h.can.num.words h.can.den.words (h.qi hk).inq.is (h.fit.mono hk)
  refine CallS.mono this ?_
  rintro _ w2 ⟨hx2, rfl⟩
  refine ⟨hx2, ?_⟩
  have e : (q ≠ 0 ∧ frmN q rx (dig q.num.natAbs) ∧ frmD q rx (dig (denC q).natAbs)) ↔ q ≠ 0 := ⟨fun h => h.1, fun h1 => ⟨h1, ⟨h.can.num.neg.symm, rfl⟩, ⟨h.can.den.neg.symm, rfl⟩⟩⟩
  rw [decide_eq_decide.2 e]
/-- Terms in a block of their own. -/
structure TR (w : World) (b n : Nat) (ts : List TmR) (xs : VL) : Prop where
  tcs : TCs w ts xs
  blk : Blk w b tT (Tw.tcs ts)
  len : ts.length = n
  n21 : n ≤ 21
section
variable {w w' : World} {b n : Nat} {ts : List TmR} {xs : VL}
theorem TR.ext (h : TR w b n ts xs) (e : Ext w w') : TR w' b n ts xs := ⟨h.tcs.ext e, h.blk.ext e, h.len, h.n21⟩
theorem TR.vi (h : TR w b n ts xs) : VI 1 n w ⟨some ⟨b, 0, none⟩, n, n⟩ xs := TCs.vi n h.tcs h.blk h.len h.n21
theorem TCs.at {w : World} {ts : List TmR} {xs : VL} (h : TCs w ts xs) {j : Nat} {t : TmR} (hj : ts[j]? = some t) : ∃ p, xs[j]? = some p ∧ t.at' = p.1 ∧ QC 1 w t.x p.2 := by
  induction h generalizing j with
  | nil => simp at hj
  | cons h1 _ ih =>
    cases j with
    | zero => simp at hj; subst hj; exact ⟨_, rfl, h1.at', h1.qc⟩
    | succ j => simpa using ih (by simpa using hj)
theorem TCs.length {w : World} {ts : List TmR} {xs : VL} (h : TCs w ts xs) : ts.length = xs.length := h.can.length
def prB (xs : VL) : List (Int × Bool) := xs.map fun p => (p.1, !decide (p.2 = 0))
theorem right_at (h : TR w b n ts xs) (N : Int) (r : Bool) (hr : rightL N (-1) (prB xs) = r) :
    CallS Try.prog 47 #[.slice (some ⟨b, 0, none⟩) n n, .int .i64 N] w fun v w' => Ext w w' ∧ v = .bool r := by
  subst hr
  have hB : Blk w b tT (tcs ts ++ []) := by rw [List.append_nil]; exact h.blk
  have hT := Tms.blk hB
  rw [h.len] at hT
  have h21 := h.n21
  refine Right_ok (prB xs) hT (by omega) (by unfold prB; rw [List.length_map, h.tcs.length]) ?_
  intro j t p hj hp
  obtain ⟨p', hp', hat, hq⟩ := h.tcs.at hj
  have e : p = (p'.1, !decide (p'.2 = 0)) := by
    unfold prB at hp
    rw [List.getElem?_map, hp'] at hp
    exact (Option.some.inj hp).symm
  subst e
  refine ⟨hat, fun w' hx => ?_⟩
  refine CallS.mono (formedC_at (hq.ext hx) (by omega)) ?_
  rintro _ w2 ⟨hx2, rfl⟩
  refine ⟨hx2, ?_⟩
  by_cases h0 : p'.2 = 0 <;> simp [h0]
theorem rightNil_at (w : World) (N : Int) : CallS Try.prog 47 #[.slice none 0 0, .int .i64 N] w fun v w' => Ext w w' ∧ v = .bool true :=
  Right_ok [] (Tms.nil w none) (by omega) rfl (fun j t p h => by simp at h)
theorem qc_to {k : Nat} {w : World} {rx : RatR} {q : Rat} (h : CanQ H0 w rx q) (hf : FitQ k q) : QC k w rx q := ⟨h, hf⟩
theorem loadQs {T : TT} {w : World} {b e j sz ty : Nat} {rs : List RatR} {r : RatR} (hb : Blk w b e (qcs rs)) (hj : rs[j]? = some r) (hk : (known (tyAt T ty) && (tyAt T ty).agg && Nat.beq 4 (tyAt T ty).size) = true) (hs : sz = 4) : LoadAt T w ty (addrAt (some ⟨b, 0, none⟩) (j * sz)) r.v := by
  subst hs
  refine loadAgg (cs := r.cs) hk fun k u hu => ?_
  show w.cell? ((⟨b, 0 + j * 4, none⟩ : Addr).add k) = _
  rw [Addr.add_lit]
  exact hb.cell (i := 0 + j * 4 + k) (by rw [Nat.zero_add]; exact qcs_get hj hu)
/-- Fractions in a block of their own. -/
structure QR (k : Nat) (w : World) (b n : Nat) (rs : List RatR) (f : Nat → Rat) : Prop where
  blk : Blk w b 33 (qcs rs)
  len : rs.length = n
  row : ∀ j, j < n → QC k w (rs.getD j default) (f j)
theorem QR.ext {k : Nat} {rs : List RatR} {f : Nat → Rat} (h : QR k w b n rs f) (e : Ext w w') : QR k w' b n rs f := ⟨h.blk.ext e, h.len, fun j hj => (h.row j hj).ext e⟩
theorem QR.at {k : Nat} {rs : List RatR} {f : Nat → Rat} (h : QR k w b n rs f) {j : Nat} (hj : j < n) : LoadAt tt w 33 (addrAt (some ⟨b, 0, none⟩) (j * (tyAt tt 33).size)) (rs.getD j default).v := by
  refine loadQs h.blk ?_ rfl rfl
  rw [List.getD_eq_getElem?_getD, List.getElem?_eq_getElem (by rw [h.len]; exact hj)]; rfl
theorem dense_at {k l m : Nat} {r : SlR} (hx : VI k l w r xs) (hk : k ≤ 1073741824 ∧ l ≤ 21) (N n : Nat) (hN : 1 ≤ N ∧ N ≤ 4611686018427387904) (hn : n = min N 65536) (hf : ∀ j : Nat, FitQ m (getL xs (j : Int))) :
    CallS Try.prog 45 #[r.v, .int .i64 (N : Int)] w fun v w' => Ext w w' ∧ ∃ b rs, v = .slice (some ⟨b, 0, none⟩) n n ∧ QR m w' b n rs (fun j => getL xs (j : Int)) := by
  refine CallS.mono (Dense_ok hx hk hN hn) ?_
  rintro _ w2 ⟨hx2, b, rs, rfl, hB, hl, hr⟩
  exact ⟨hx2, b, rs, rfl, hB, hl, fun j hj => ⟨hr j hj, hf j⟩⟩
theorem VI.nil (k l : Nat) (w : World) : VI k l w ⟨none, 0, 0⟩ [] := ⟨InV.nil k H0 w, Nat.zero_le _, .inl (Nat.zero_le _)⟩
theorem rsign_at {k : Nat} {rx : RatR} {q : Rat} (h : QI k w rx q) : CallS Try.prog 11 #[rx.v] w fun v w' => Ext w w' ∧ v = .int .i64 (sgQ q) := RSign_ok (H0.hb w) h.inq.is
end
/-- The fraction 2/4, as it is written. -/
structure Raw24 (w : World) (r : RatR) : Prop where
  num : Words w r.num.a r.num.n [2]
  den : Words w r.den.a r.den.n [4]
  neg : r.num.neg = false ∧ r.den.neg = false
  cap : r.num.c = 1 ∧ r.den.c = 1
theorem Raw24.ext {w w' : World} {r : RatR} (h : Raw24 w r) (e : Ext w w') : Raw24 w' r := ⟨h.num.ext e, h.den.ext e, h.neg, h.cap⟩
theorem Raw24.qi {w : World} {r : RatR} (h : Raw24 w r) : QI 1 w r (Rat.divInt 1 2) := by
  have n1 := h.num.len
  have n2 := h.den.len
  have c1 := h.cap.1
  have c2 := h.cap.2
  simp only [List.length_cons, List.length_nil, Nat.zero_add] at n1 n2
  refine ⟨⟨⟨2, 4, ⟨⟨_, h.num, ?_⟩, by omega, by omega, by omega, H0.av _ _⟩, ⟨⟨_, h.den, ?_⟩, by omega, by omega, by omega, H0.av _ _⟩, ?_⟩, by omega, by omega⟩⟩
  · rw [h.neg.1]; rfl
  · rw [h.neg.2]; rfl
  · unfold denZ
    rw [if_neg (by omega)]
    kernel_rfl
theorem Raw24.formed_at {w : World} {r : RatR} (h : Raw24 w r) : CallS Try.prog 80 #[r.v] w fun v w' => Ext w w' ∧ v = .bool false := by
  refine CallS.mono (formed_ok h.num h.den h.qi.inq.is (fit1 (by kernel_rfl) |>.mono (by omega))) ?_
  rintro _ w2 ⟨hx2, rfl⟩
  refine ⟨hx2, ?_⟩
  congr 1
  refine decide_eq_false fun e => ?_
  have h1 := e.2.1.2
  have h2 : dig (Rat.divInt 1 2).num.natAbs = [1] := by kernel_rfl
  rw [h2] at h1
  cases h1
end Go.Proofs.Ytpgagepleffjlaa
