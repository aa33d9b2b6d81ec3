/-
  The watch of the layer matrix: its own example. Helpers; no statement of the program is proved here.
-/
import Derived.Test.YtlfdobjdlgebbaaKC
set_option maxRecDepth 100000
set_option linter.unusedSimpArgs false
set_option linter.unusedVariables false
namespace Go.Proofs.Ytlfdobjdlgebbaa
open Go Go.Tw Go.RowKit
attribute [local irreducible] LoadAt StoreOk Stored rawVC


theorem VC.map {k l k' l' : Nat} {w : World} {r : SlR} {xs : VL} (h : VC k l w r xs) (hk : k ≤ k') (hl : l ≤ l') : VC k' l' w r xs := ⟨h.can.mono hk, h.cn, Nat.le_trans h.len hl⟩
theorem Vs.vi {k l : Nat} {w : World} {a : Option Addr} {n : Nat} {rs : List SlR} {xss : List VL} (h : Vs (VC k l) w a n rs xss) (hk : k ≤ 1099511627776) : Vs (VI k l) w a n rs xss := Vs.map (fun h => h.vi hk) h
theorem rightVC_at {k l : Nat} {w : World} {r : SlR} {xs : VL} (h : VC k l w r xs) (N : Int) (hk : k ≤ 1099511627776 ∧ l ≤ 1099511627776) :
    CallS Try.prog 50 #[r.v, .int .i64 N] w fun v w' => Ext w w' ∧ v = .bool (rightL N (-1) (prB xs)) := by
  have hlen := h.can.len
  have hl := h.len
  obtain ⟨⟨⟨ts, hT, hC⟩, _⟩, _⟩ := h
  refine Right_ok (prB xs) hT (by omega) (by unfold prB; rw [List.length_map, hC.length]) ?_
  intro j t p hj hp
  have hjl : j < xs.length := by
    rcases Nat.lt_or_ge j xs.length with h' | h'
    · exact h'
    · rw [List.getElem?_eq_none (by rw [hC.length]; exact h')] at hj; cases hj
  obtain ⟨t', ht', hat, hq, hf⟩ := tsCan_get hC (vget hjl)
  rw [hj] at ht'; cases ht'
  have e : p = (pl xs j, !decide (xl xs j = 0)) := by
    unfold prB at hp
    rw [List.getElem?_map, vget hjl] at hp
    exact (Option.some.inj hp).symm
  subst e
  refine ⟨hat, fun w' hx => ?_⟩
  refine CallS.mono (formedC_at ((QC.mk hq hf).ext hx) hk.1) ?_
  rintro _ w2 ⟨hx2, rfl⟩
  refine ⟨hx2, ?_⟩
  by_cases h0 : xl xs j = 0 <;> simp [h0]
def colsL : List VL := [[((0), Rat.divInt (1) 1), ((1), Rat.divInt (2) 1)], [((1), Rat.divInt (3) 1)]]
theorem vs2 {k l : Nat} {w w' : World} {r s : SlR} {xs ys : VL} {b : Nat} (hb : New w w' b tV (svs [r, s])) (hr : VC k l w r xs) (hs : VC k l w s ys) : Vs (VC k l) w' (some ⟨b, 0, none⟩) 2 [r, s] [xs, ys] := by
  have hB : Blk w' b tV (svs [r, s] ++ []) := by rw [List.append_nil]; exact hb.toBlk
  refine ⟨Ones.blk hB, rfl, fun j r' xs' h1 h2 => ?_⟩
  match j, h1, h2 with
  | 0, h1, h2 => cases h1; cases h2; exact hr.ext hb.ext
  | 1, h1, h2 => cases h1; cases h2; exact hs.ext hb.ext
  | j + 2, h1, h2 => simp at h1
theorem cols_at (w0 : World) : CallS Try.prog 40 #[] w0 fun v w' => Ext w0 w' ∧ ∃ b rs, v = .slice (some ⟨b, 0, none⟩) 2 2 ∧ Vs (VC 1 2) w' (some ⟨b, 0, none⟩) 2 rs colsL := by
  refine enter ttOk mixed (args := []) Try.func40 rfl (by kernel_rfl) (by kernel_rfl) rfl ?_
  refine CallS.mono (term6_at (0) (1) (by decide) (fit1 (by kernel_rfl))) ?_
  rintro _ w1 ⟨x1, ta0, rfl, qta0⟩
  refine CallS.mono (term6_at (1) (2) (by decide) (fit1 (by kernel_rfl))) ?_
  rintro _ w2 ⟨x2, ta1, rfl, qta1⟩
  intro a w3 ha
  have ha : New w2 w3 a tT (tcs [ta0, ta1]) := ha
  have x3 := ha.ext
  have va : VC 1 2 w3 ⟨some ⟨a, 0, none⟩, 2, 2⟩ [((0), Rat.divInt (1) 1), ((1), Rat.divInt (2) 1)] := TCs.vc 2 (.cons (qta0.ext (Ext.trans' x2 x3)) (.cons (qta1.ext x3) (.nil))) ha.toBlk rfl (by decide) (cnL (by kernel_rfl))
  refine CallS.mono (term6_at (1) (3) (by decide) (fit1 (by kernel_rfl))) ?_
  rintro _ w4 ⟨x4, tb0, rfl, qtb0⟩
  intro b w5 hb
  have hb : New w4 w5 b tT (tcs [tb0]) := hb
  have x5 := hb.ext
  have vb : VC 1 1 w5 ⟨some ⟨b, 0, none⟩, 1, 1⟩ [((1), Rat.divInt (3) 1)] := TCs.vc 1 (.cons (qtb0.ext x5) (.nil)) hb.toBlk rfl (by decide) (cnL (by kernel_rfl))
  intro c w6 hc
  have hc : New w5 w6 c tV (svs [⟨some ⟨a, 0, none⟩, 2, 2⟩, ⟨some ⟨b, 0, none⟩, 1, 1⟩]) := hc
  have x6 := hc.ext
  exact ⟨(Ext.trans' (Ext.trans' (Ext.trans' (Ext.trans' (Ext.trans' x1 x2) x3) x4) x5) x6), c, _, rfl, vs2 hc (va.ext (Ext.trans' x4 x5)) (VC.map vb (by decide) (by decide))⟩

theorem perm3 : PermL [(2), (0), (1)] := ⟨by decide, by decide⟩
theorem inv3 {M : List Int} (h : InvL [(2), (0), (1)] M) : M = [1, 2, 0] := by
  have h0 := h.inv 0 2 rfl
  have h1 := h.inv 1 0 rfl
  have h2 := h.inv 2 1 rfl
  have hl : M.length = 3 := h.len
  match M, hl with
  | [x, y, z], _ =>
    simp at h0 h1 h2
    rw [h0, h1, h2]
theorem awake6_at (w0 : World) : CallS Try.prog 33 #[] w0 fun v w' => Ext w0 w' ∧ v = .bool true := by
  refine enter ttOk mixed (args := []) Try.func33 rfl (by kernel_rfl) (by kernel_rfl) rfl ?_
  refine CallS.mono (cols_at _) ?_
  rintro _ w1 ⟨x1, b1, rs1, rfl, c1⟩
  refine CallS.mono (term6_at (0) (1) (by decide) (fit1 (by kernel_rfl))) ?_
  rintro _ w2 ⟨x2, ta0, rfl, qta0⟩
  refine CallS.mono (term6_at (1) (1) (by decide) (fit1 (by kernel_rfl))) ?_
  rintro _ w3 ⟨x3, ta1, rfl, qta1⟩
  intro a w4 ha
  have ha : New w3 w4 a tT (tcs [ta0, ta1]) := ha
  have x4 := ha.ext
  have va : VC 1 2 w4 ⟨some ⟨a, 0, none⟩, 2, 2⟩ [((0), Rat.divInt (1) 1), ((1), Rat.divInt (1) 1)] := TCs.vc 2 (.cons (qta0.ext (Ext.trans' x3 x4)) (.cons (qta1.ext x4) (.nil))) ha.toBlk rfl (by decide) (cnL (by kernel_rfl))
  refine CallS.mono (Times_ok (k := 1) (l := 2) ((c1.ext (Ext.trans' (Ext.trans' x2 x3) x4)).vi (by decide)) (by decide) (va.vi (by decide)) (by decide)) ?_
  rintro _ w5 ⟨x5, s1, rfl, h1⟩
  refine CallS.mono (term6_at (1) (1) (by decide) (fit1 (by kernel_rfl))) ?_
  rintro _ w6 ⟨x6, tb0, rfl, qtb0⟩
  intro b w7 hb
  have hb : New w6 w7 b tT (tcs [tb0]) := hb
  have x7 := hb.ext
  have vb : VC 1 1 w7 ⟨some ⟨b, 0, none⟩, 1, 1⟩ [((1), Rat.divInt (1) 1)] := TCs.vc 1 (.cons (qtb0.ext x7) (.nil)) hb.toBlk rfl (by decide) (cnL (by kernel_rfl))
  refine CallS.mono (cols_at _) ?_
  rintro _ w8 ⟨x8, b2, rs2, rfl, c2⟩
  refine CallS.mono (Left_ok (k := 1) (l := 1) (c2.vi (by decide)) (by decide) ((vb.ext x8).vi (by decide)) 1 (by decide)) ?_
  rintro _ w9 ⟨x9, s2, rfl, h2⟩
  refine CallS.mono (cols_at _) ?_
  rintro _ w10 ⟨x10, b3, rs3, rfl, c3⟩
  refine CallS.mono (Turn_ok (c3.vi (by decide)) (by decide) 2 (by decide) (by decide)) ?_
  rintro _ w11 ⟨x11, b3, rs3, rfl, h3⟩
  intro p w12 hp
  have hp : New w11 w12 p 3 (ivs [(2), (0), (1)] ++ []) := hp
  have x12 := hp.ext
  have op : Ones w12 (some ⟨p, 0, none⟩) 3 (ivs [(2), (0), (1)]) := Ones.blk hp.toBlk
  refine CallS.mono (Inverse_ok op (by decide) perm3) ?_
  rintro _ w13 ⟨x13, b4, m4, rfl, h4, i4⟩
  intro q w14 hq
  have hq : New w13 w14 q 3 (ivs [(2), (0), (1)] ++ []) := hq
  have x14 := hq.ext
  have oq : Ones w14 (some ⟨q, 0, none⟩) 3 (ivs [(2), (0), (1)]) := Ones.blk hq.toBlk
  refine CallS.mono (term6_at (0) (5) (by decide) (fit1 (by kernel_rfl))) ?_
  rintro _ w15 ⟨x15, td0, rfl, qtd0⟩
  intro d w16 hd
  have hd : New w15 w16 d tT (tcs [td0]) := hd
  have x16 := hd.ext
  have vd : VC 1 1 w16 ⟨some ⟨d, 0, none⟩, 1, 1⟩ [((0), Rat.divInt (5) 1)] := TCs.vc 1 (.cons (qtd0.ext x16) (.nil)) hd.toBlk rfl (by decide) (cnL (by kernel_rfl))
  refine CallS.mono (Move_ok (k := 1) (l := 1) (oq.ext (Ext.trans' x15 x16)) (by decide) (vd.vi (by decide)) (by decide) (by decide) perm3 (by decide +kernel)) ?_
  rintro _ w17 ⟨x17, s5, rfl, h5⟩
  refine CallS.mono (term6_at (0) (1) (by decide) (fit1 (by kernel_rfl))) ?_
  rintro _ w18 ⟨x18, te0, rfl, qte0⟩
  refine CallS.mono (term6_at (1) (5) (by decide) (fit1 (by kernel_rfl))) ?_
  rintro _ w19 ⟨x19, te1, rfl, qte1⟩
  intro e w20 he
  have he : New w19 w20 e tT (tcs [te0, te1]) := he
  have x20 := he.ext
  have ve : VC 1 2 w20 ⟨some ⟨e, 0, none⟩, 2, 2⟩ [((0), Rat.divInt (1) 1), ((1), Rat.divInt (5) 1)] := TCs.vc 2 (.cons (qte0.ext (Ext.trans' x19 x20)) (.cons (qte1.ext x20) (.nil))) he.toBlk rfl (by decide) (cnL (by kernel_rfl))
  refine CallS.mono (svecT_at (h1.ext (Ext.trans' (Ext.trans' (Ext.trans' (Ext.trans' (Ext.trans' (Ext.trans' (Ext.trans' (Ext.trans' (Ext.trans' (Ext.trans' (Ext.trans' (Ext.trans' (Ext.trans' (Ext.trans' x6 x7) x8) x9) x10) x11) x12) x13) x14) x15) x16) x17) x18) x19) x20)) ve (by decide) (by kernel_rfl)) ?_
  rintro _ w21 ⟨x21, rfl⟩
  refine CallS.mono (term6_at (0) (2) (by decide) (fit1 (by kernel_rfl))) ?_
  rintro _ w22 ⟨x22, tf0, rfl, qtf0⟩
  refine CallS.mono (term6_at (1) (3) (by decide) (fit1 (by kernel_rfl))) ?_
  rintro _ w23 ⟨x23, tf1, rfl, qtf1⟩
  intro f w24 hf
  have hf : New w23 w24 f tT (tcs [tf0, tf1]) := hf
  have x24 := hf.ext
  have vf : VC 1 2 w24 ⟨some ⟨f, 0, none⟩, 2, 2⟩ [((0), Rat.divInt (2) 1), ((1), Rat.divInt (3) 1)] := TCs.vc 2 (.cons (qtf0.ext (Ext.trans' x23 x24)) (.cons (qtf1.ext x24) (.nil))) hf.toBlk rfl (by decide) (cnL (by kernel_rfl))
  refine CallS.mono (svecT_at (h2.ext (Ext.trans' (Ext.trans' (Ext.trans' (Ext.trans' (Ext.trans' (Ext.trans' (Ext.trans' (Ext.trans' (Ext.trans' (Ext.trans' (Ext.trans' (Ext.trans' (Ext.trans' (Ext.trans' x10 x11) x12) x13) x14) x15) x16) x17) x18) x19) x20) x21) x22) x23) x24)) vf (by decide) (by kernel_rfl)) ?_
  rintro _ w25 ⟨x25, rfl⟩
  refine ⟨0, ⟨rfl, by decide⟩, 0, ⟨rfl, by decide⟩, ?_⟩
  refine And.intro (fun _ => ?_) (fun h => absurd (rfl) h)
  refine CallS.mono (term6_at (0) (1) (by decide) (fit1 (by kernel_rfl))) ?_
  rintro _ w26 ⟨x26, tg0, rfl, qtg0⟩
  intro g w27 hg
  have hg : New w26 w27 g tT (tcs [tg0]) := hg
  have x27 := hg.ext
  have vg : VC 1 1 w27 ⟨some ⟨g, 0, none⟩, 1, 1⟩ [((0), Rat.divInt (1) 1)] := TCs.vc 1 (.cons (qtg0.ext x27) (.nil)) hg.toBlk rfl (by decide) (cnL (by kernel_rfl))
  refine CallS.mono (term6_at (0) (2) (by decide) (fit1 (by kernel_rfl))) ?_
  rintro _ w28 ⟨x28, ti0, rfl, qti0⟩
  refine CallS.mono (term6_at (1) (3) (by decide) (fit1 (by kernel_rfl))) ?_
  rintro _ w29 ⟨x29, ti1, rfl, qti1⟩
  intro i w30 hi
  have hi : New w29 w30 i tT (tcs [ti0, ti1]) := hi
  have x30 := hi.ext
  have vi : VC 1 2 w30 ⟨some ⟨i, 0, none⟩, 2, 2⟩ [((0), Rat.divInt (2) 1), ((1), Rat.divInt (3) 1)] := TCs.vc 2 (.cons (qti0.ext (Ext.trans' x29 x30)) (.cons (qti1.ext x30) (.nil))) hi.toBlk rfl (by decide) (cnL (by kernel_rfl))
  intro j w31 hj
  have hj : New w30 w31 j tV (svs [⟨some ⟨g, 0, none⟩, 1, 1⟩, ⟨some ⟨i, 0, none⟩, 2, 2⟩]) := hj
  have x31 := hj.ext
  have vj := vs2 (k := 1) (l := 2) hj (VC.map (vg.ext (Ext.trans' (Ext.trans' x28 x29) x30)) (by decide) (by decide)) vi
  refine CallS.mono (SameVecs_ok (h3.ext (Ext.trans' (Ext.trans' (Ext.trans' (Ext.trans' (Ext.trans' (Ext.trans' (Ext.trans' (Ext.trans' (Ext.trans' (Ext.trans' (Ext.trans' (Ext.trans' (Ext.trans' (Ext.trans' (Ext.trans' (Ext.trans' (Ext.trans' (Ext.trans' (Ext.trans' x12 x13) x14) x15) x16) x17) x18) x19) x20) x21) x22) x23) x24) x25) x26) x27) x28) x29) x30) x31)) vj (by decide) (by decide)) ?_
  rintro _ w32 ⟨x32, rfl⟩
  rw [decide_eq_true (show turnL colsL 2 2 = [[((0), Rat.divInt (1) 1)], [((0), Rat.divInt (2) 1), ((1), Rat.divInt (3) 1)]] by kernel_rfl)]
  intro k w33 hk
  have hk : New w32 w33 k 3 (ivs [(1), (2), (0)] ++ []) := hk
  have x33 := hk.ext
  have ok : Ones w33 (some ⟨k, 0, none⟩) 3 (ivs [(1), (2), (0)]) := Ones.blk hk.toBlk
  refine CallS.mono (SameInts_ok (h4.ext (Ext.trans' (Ext.trans' (Ext.trans' (Ext.trans' (Ext.trans' (Ext.trans' (Ext.trans' (Ext.trans' (Ext.trans' (Ext.trans' (Ext.trans' (Ext.trans' (Ext.trans' (Ext.trans' (Ext.trans' (Ext.trans' (Ext.trans' (Ext.trans' (Ext.trans' x14 x15) x16) x17) x18) x19) x20) x21) x22) x23) x24) x25) x26) x27) x28) x29) x30) x31) x32) x33)) ok (by decide)) ?_
  rintro _ w34 ⟨x34, rfl⟩
  rw [decide_eq_true (inv3 i4)]
  refine CallS.mono (term6_at (2) (5) (by decide) (fit1 (by kernel_rfl))) ?_
  rintro _ w35 ⟨x35, tl0, rfl, qtl0⟩
  intro l w36 hl
  have hl : New w35 w36 l tT (tcs [tl0]) := hl
  have x36 := hl.ext
  have vl : VC 1 1 w36 ⟨some ⟨l, 0, none⟩, 1, 1⟩ [((2), Rat.divInt (5) 1)] := TCs.vc 1 (.cons (qtl0.ext x36) (.nil)) hl.toBlk rfl (by decide) (cnL (by kernel_rfl))
  refine CallS.mono (svecT_at (h5.ext (Ext.trans' (Ext.trans' (Ext.trans' (Ext.trans' (Ext.trans' (Ext.trans' (Ext.trans' (Ext.trans' (Ext.trans' (Ext.trans' (Ext.trans' (Ext.trans' (Ext.trans' (Ext.trans' (Ext.trans' (Ext.trans' (Ext.trans' (Ext.trans' x18 x19) x20) x21) x22) x23) x24) x25) x26) x27) x28) x29) x30) x31) x32) x33) x34) x35) x36)) vl (by decide) (by kernel_rfl)) ?_
  rintro _ w37 ⟨x37, rfl⟩
  exact ⟨(Ext.trans' (Ext.trans' (Ext.trans' (Ext.trans' (Ext.trans' (Ext.trans' (Ext.trans' (Ext.trans' (Ext.trans' (Ext.trans' (Ext.trans' (Ext.trans' (Ext.trans' (Ext.trans' (Ext.trans' (Ext.trans' (Ext.trans' (Ext.trans' (Ext.trans' (Ext.trans' (Ext.trans' (Ext.trans' (Ext.trans' (Ext.trans' (Ext.trans' (Ext.trans' (Ext.trans' (Ext.trans' (Ext.trans' (Ext.trans' (Ext.trans' (Ext.trans' (Ext.trans' (Ext.trans' (Ext.trans' (Ext.trans' x1 x2) x3) x4) x5) x6) x7) x8) x9) x10) x11) x12) x13) x14) x15) x16) x17) x18) x19) x20) x21) x22) x23) x24) x25) x26) x27) x28) x29) x30) x31) x32) x33) x34) x35) x36) x37), rfl⟩
end Go.Proofs.Ytlfdobjdlgebbaa
/-
  The laws of the layer sparse, plain. Helpers; no statement of the program is proved here.
-/
set_option maxRecDepth 100000
set_option linter.unusedSimpArgs false
set_option linter.unusedVariables false
namespace Go.Proofs.Ytlfdobjdlgebbaa
open Go Go.Tw Go.RowKit

theorem getL_nil (p : Int) : getL [] p = 0 := rfl
theorem nrm_ext {u v : VL} (h : ∀ p, getL u p = getL v p) : nrm u = nrm v := nrm_congr h
theorem axp_ext {y y' x x' : VL} {a a' : Rat} (h : ∀ p, getL y p + a * getL x p = getL y' p + a' * getL x' p) : axp y a x = axp y' a' x' :=
  Cn.ext (nrm_cn _) (nrm_cn _) fun p => by
    have h1 := axp_get y a x p
    have h2 := axp_get y' a' x' p
    rw [h1, h2, h p]
theorem m1 : Rat.divInt (-1) 1 = -1 := by rw [divInt_one]; rfl
theorem L_comm (x y : VL) : axp x 1 y = axp y 1 x := axp_ext fun p => by grind
theorem L_assoc (x y z : VL) : axp (axp x 1 y) 1 z = axp x 1 (axp y 1 z) := axp_ext fun p => by rw [axp_get, axp_get]; grind
theorem L_self (x : VL) : axp x (Rat.divInt (-1) 1) x = [] := by
  rw [m1]
  refine (axp_eq Cn.nil fun p => ?_).symm
  rw [getL_nil]; grind
theorem L_back (x y : VL) : axp (axp x 1 y) (Rat.divInt (-1) 1) y = nrm x := by
  rw [m1]
  refine (axp_eq (nrm_cn x) fun p => ?_).symm
  rw [nrm_get, axp_get]; grind
theorem L_dist (x y : VL) (c : Rat) : axp [] c (axp x 1 y) = axp (axp [] c x) 1 (axp [] c y) := axp_ext fun p => by rw [axp_get, axp_get, axp_get, getL_nil]; grind
theorem L_dist2 (x : VL) (c d : Rat) : axp [] (c + d) x = axp (axp [] c x) 1 (axp [] d x) := axp_ext fun p => by rw [axp_get, axp_get, getL_nil]; grind
theorem L_mul (x : VL) (c d : Rat) : axp [] (c * d) x = axp [] c (axp [] d x) := axp_ext fun p => by rw [axp_get, getL_nil]; grind
theorem L_axpy (x y : VL) (c : Rat) : axp y c x = axp y 1 (axp [] c x) := axp_ext fun p => by rw [axp_get, getL_nil]; grind
theorem L_dot (x y z : VL) (c : Rat) : dotL (axp y c x) z = dotL y z + c * dotL x z := dotL_lin fun p => axp_get y c x p
theorem getL_keep (xs : VL) (i p : Int) : getL (xs.filter fun t => !decide (t.1 = i)) p = if p = i then 0 else getL xs p := by
  induction xs with
  | nil => simp [getL]
  | cons t xs ih =>
    by_cases h : t.1 = i
    · simp only [List.filter_cons, h, decide_true, Bool.not_true, Bool.false_eq_true, if_false, ih, getL]
      by_cases hp : p = i
      · rw [if_pos hp, if_pos hp]
      · rw [if_neg hp, if_neg hp, if_neg (fun e => hp e.symm), Rat.zero_add]
    · simp only [List.filter_cons, h, decide_false, Bool.not_false, if_true, getL, ih]
      by_cases hp : p = i
      · rw [if_pos hp, if_pos hp, if_neg (fun e => h (e.trans hp)), Rat.zero_add]
      · rw [if_neg hp, if_neg hp]
theorem getL_put (xs : VL) (i p : Int) (q : Rat) : getL (putV xs i q) p = if p = i then q else getL xs p := by
  unfold putV
  rw [getL_append, getL_keep]
  simp only [getL]
  by_cases hp : p = i
  · rw [if_pos hp, if_pos hp, if_pos hp.symm]; grind
  · rw [if_neg hp, if_neg hp, if_neg (fun e => hp e.symm)]; grind
theorem L_put (xs : VL) (i : Int) (q : Rat) : getL (nrm (putV xs i q)) i = q := by rw [nrm_get, getL_put, if_pos rfl]
theorem L_put2 (xs : VL) (i : Int) (q : Rat) : nrm (putV (nrm (putV xs i q)) i (getL xs i)) = nrm xs := nrm_ext fun p => by
  rw [getL_put, nrm_get, getL_put]
  by_cases hp : p = i
  · rw [if_pos hp, hp]
  · rw [if_neg hp, if_neg hp]
theorem put_len {xs : VL} {i : Int} {q : Rat} (h : xs.length ≤ 20) : (putV xs i q).length ≤ 21 := by
  unfold putV
  have := List.length_filter_le (fun t : Int × Rat => !decide (t.1 = i)) xs
  simp only [List.length_append, List.length_singleton]
  omega
theorem put_len2 {xs : VL} {i : Int} {q r : Rat} (h : xs.length ≤ 20) : (putV (nrm (putV xs i q)) i r).length ≤ 21 := by
  have h1 := nrm_off (putV xs i q) i
  have h2 : ((putV xs i q).filter (fun s => !decide (s.1 = i))).length ≤ 20 := by
    unfold putV
    rw [List.filter_append, List.length_append]
    have h3 := List.length_filter_le (fun t : Int × Rat => !decide (t.1 = i)) xs
    have h4 := List.length_filter_le (fun t : Int × Rat => !decide (t.1 = i)) (xs.filter fun t => !decide (t.1 = i))
    have h5 : ([(i, q)] : VL).filter (fun s => !decide (s.1 = i)) = [] := by simp
    rw [h5]
    simp only [List.length_nil]
    omega
  have h6 : (putV (nrm (putV xs i q)) i r).length = ((nrm (putV xs i q)).filter (fun s => !decide (s.1 = i))).length + 1 := by
    show (List.filter _ _ ++ [_]).length = _
    rw [List.length_append]; rfl
  omega
theorem L_same (x y : VL) : decide (axp x (-1) y = []) = decide (nrm x = nrm y) := by
  apply decide_eq_decide.2
  constructor
  · intro h
    refine nrm_ext fun p => ?_
    have := axp_get x (-1) y p
    rw [h, getL_nil] at this
    grind
  · intro h
    refine (axp_eq Cn.nil fun p => ?_).symm
    have h1 := nrm_get x p
    have h2 := nrm_get y p
    rw [h] at h1
    rw [getL_nil]; grind
end Go.Proofs.Ytlfdobjdlgebbaa
/-
  Orders, in plain lists: what is put among them, what undoes them, what is moved by them. Helpers; no statement of the program is proved here.
-/
set_option maxRecDepth 100000
set_option linter.unusedSimpArgs false
set_option linter.unusedVariables false
namespace Go.Proofs.Ytlfdobjdlgebbaa
open Go Go.Tw Go.RowKit

/-- z put at a place. -/
def shL (L : List Int) (k : Nat) (z : Int) : List Int := L.take k ++ z :: L.drop k
theorem shL_length (L : List Int) (k : Nat) (z : Int) : (shL L k z).length = L.length + 1 := by
  unfold shL
  simp; omega
theorem shL_last (L : List Int) (z : Int) : L ++ [z] = shL L L.length z := by simp [shL]
theorem shL_get {L : List Int} {k : Nat} {z x : Int} (h : L[k]? = some x) : (shL L (k + 1) z)[k]? = some x := by
  have hk : k < L.length := by
    rcases Nat.lt_or_ge k L.length with h' | h'
    · exact h'
    · rw [List.getElem?_eq_none h'] at h; cases h
  unfold shL
  rw [List.getElem?_append_left (by rw [List.length_take]; omega), List.getElem?_take_of_lt (by omega)]
  exact h
theorem shL_down {L : List Int} {k : Nat} {z x : Int} (h : L[k]? = some x) : (shL L (k + 1) z).set (k + 1) x = shL L k x := by
  have hk : k < L.length := by
    rcases Nat.lt_or_ge k L.length with h' | h'
    · exact h'
    · rw [List.getElem?_eq_none h'] at h; cases h
  unfold shL
  have hl : (L.take (k + 1)).length = k + 1 := by rw [List.length_take]; omega
  rw [List.set_append_right _ _ (by omega), hl, Nat.sub_self, List.set_cons_zero, List.take_add_one, h]
  rw [List.getElem?_eq_getElem hk] at h
  rw [List.drop_eq_getElem_cons hk, Option.some.inj h]
  simp
theorem shL_get' {L : List Int} {k : Nat} {z x : Int} (hk : 0 < k) (h : L[k - 1]? = some x) : (shL L k z)[k - 1]? = some x := by
  obtain ⟨q, rfl⟩ : ∃ q, k = q + 1 := ⟨k - 1, by omega⟩
  exact shL_get h
theorem shL_down' {L : List Int} {k : Nat} {z x : Int} (hk : 0 < k) (h : L[k - 1]? = some x) : (shL L k z).set k x = shL L (k - 1) x := by
  obtain ⟨q, rfl⟩ : ∃ q, k = q + 1 := ⟨k - 1, by omega⟩
  exact shL_down h
theorem shL_set {L : List Int} {k : Nat} {z x : Int} (hk : k ≤ L.length) : (shL L k z).set k x = shL L k x := by
  unfold shL
  have hl : (L.take k).length = k := by rw [List.length_take]; omega
  rw [List.set_append_right _ _ (by omega), hl, Nat.sub_self, List.set_cons_zero]
theorem shL_perm {L : List Int} {k : Nat} (h : PermL L) (hk : k ≤ L.length) : PermL (shL L k (L.length : Int)) := by
  have hm : ∀ x, x ∈ shL L k (L.length : Int) ↔ x = (L.length : Int) ∨ x ∈ L := by
    intro x
    unfold shL
    rw [List.mem_append, List.mem_cons]
    constructor
    · rintro (h | rfl | h)
      · exact .inr (List.mem_of_mem_take h)
      · exact .inl rfl
      · exact .inr (List.mem_of_mem_drop h)
    · rintro (rfl | h)
      · exact .inr (.inl rfl)
      · rw [← List.take_append_drop k L, List.mem_append] at h
        rcases h with h | h
        · exact .inl h
        · exact .inr (.inr h)
  refine ⟨fun x hx => ?_, ?_⟩
  · rw [shL_length]
    rcases (hm x).1 hx with rfl | hx
    · omega
    · have := h.rng x hx; omega
  · have hp : (shL L k (L.length : Int)).Perm ((L.length : Int) :: L) := by
      unfold shL
      have := List.perm_middle (a := (L.length : Int)) (l₁ := L.take k) (l₂ := L.drop k)
      rwa [List.take_append_drop] at this
    rw [hp.nodup_iff, List.nodup_cons]
    refine ⟨fun hx => ?_, h.nodup⟩
    have := (h.rng _ hx).2; omega
/-! ### an order has every place -/
theorem nodup_len : ∀ (n : Nat) (L : List Int), L.Nodup → (∀ x ∈ L, 0 ≤ x ∧ x < (n : Int)) → L.length ≤ n
  | 0, L, _, h => by
    cases L with
    | nil => exact Nat.le_refl _
    | cons x L => have := h x (by simp); omega
  | n + 1, L, hd, h => by
    by_cases hn : (n : Int) ∈ L
    · have h1 := nodup_len n (L.erase (n : Int)) (hd.erase _) (fun x hx => by
        have hx' := List.mem_of_mem_erase hx
        have := h x hx'
        have hne : x ≠ (n : Int) := fun e => by rw [e] at hx; exact absurd hx (hd.not_mem_erase)
        omega)
      rw [List.length_erase_of_mem hn] at h1
      omega
    · have := nodup_len n L hd (fun x hx => by
        have := h x hx
        have hne : x ≠ (n : Int) := fun e => hn (e ▸ hx)
        omega)
      omega
theorem PermL.all {L : List Int} (h : PermL L) {k : Nat} (hk : k < L.length) : (k : Int) ∈ L := by
  by_cases hm : (k : Int) ∈ L
  · exact hm
  · have := nodup_len L.length ((k : Int) :: L) (List.nodup_cons.2 ⟨hm, h.nodup⟩) (fun x hx => by
      rcases List.mem_cons.1 hx with rfl | hx
      · omega
      · exact h.rng x hx)
    rw [List.length_cons] at this
    omega
theorem InvL.nat {L : List Int} (h : PermL L) {k : Nat} (hk : k < L.length) : ∃ m : Nat, L[k]? = some (m : Int) ∧ m < L.length := by
  have h1 := h.rng _ (List.getElem_mem hk)
  exact ⟨L[k].toNat, by rw [List.getElem?_eq_getElem hk, Int.toNat_of_nonneg h1.1], by omega⟩
theorem InvL.back {L M : List Int} (hp : PermL L) (h : InvL L M) : InvL M L := by
  refine ⟨h.len.symm, fun j k hj => ?_⟩
  have hjl : j < L.length := by
    rw [← h.len]
    rcases Nat.lt_or_ge j M.length with h' | h'
    · exact h'
    · rw [List.getElem?_eq_none h'] at hj; cases hj
  obtain ⟨q, hq, hqj⟩ := List.getElem_of_mem (hp.all hjl)
  have := h.inv q j (by rw [List.getElem?_eq_getElem hq, hqj])
  rw [hj] at this
  have : k = q := by have := Option.some.inj this; omega
  subst this
  rw [List.getElem?_eq_getElem hq, hqj]
theorem InvL.perm {L M : List Int} (hp : PermL L) (h : InvL L M) : PermL M := by
  have hb := h.back hp
  refine ⟨fun x hx => ?_, ?_⟩
  · obtain ⟨j, hj, rfl⟩ := List.getElem_of_mem hx
    obtain ⟨q, hq, hqj⟩ := List.getElem_of_mem (hp.all (k := j) (by rw [← h.len]; exact hj))
    have := h.inv q j (by rw [List.getElem?_eq_getElem hq, hqj])
    rw [List.getElem?_eq_getElem hj] at this
    rw [Option.some.inj this, h.len]
    omega
  · unfold List.Nodup
    rw [List.pairwise_iff_getElem]
    intro i j hi hj hij he
    have key : ∀ i, i < M.length → ∃ q : Nat, M[i]? = some (q : Int) ∧ L[q]? = some (i : Int) := by
      intro i hi
      obtain ⟨q, hq, hqj⟩ := List.getElem_of_mem (hp.all (k := i) (by rw [← h.len]; exact hi))
      exact ⟨q, h.inv q i (by rw [List.getElem?_eq_getElem hq, hqj]), by rw [List.getElem?_eq_getElem hq, hqj]⟩
    obtain ⟨q, a1, a2⟩ := key i hi
    obtain ⟨r, b1, b2⟩ := key j hj
    rw [List.getElem?_eq_getElem hi] at a1
    rw [List.getElem?_eq_getElem hj] at b1
    have a1 := Option.some.inj a1
    have b1 := Option.some.inj b1
    have : q = r := by omega
    subst this
    rw [a2] at b2
    have := Option.some.inj b2
    omega
theorem InvL.uniq {L M N : List Int} (hp : PermL L) (h : InvL L M) (h' : InvL M N) : N = L := by
  have hpm := h.perm hp
  have hb := h'.back hpm
  have hl : N.length = L.length := by rw [h'.len, h.len]
  apply List.ext_getElem?
  intro i
  rcases Nat.lt_or_ge i L.length with hi | hi
  · obtain ⟨m, hm, hml⟩ := InvL.nat hp hi
    have h1 := h.inv i m hm
    have h2 := h'.inv m i h1
    rw [hm, h2]
  · rw [List.getElem?_eq_none hi, List.getElem?_eq_none (by omega)]
/-! ### moved -/
theorem mv_get {L : List Int} (hp : PermL L) : ∀ {zs : VL}, InR L.length zs → ∀ {k : Nat}, k < L.length → getL (mvL L zs) (L.getD k 0) = getL zs (k : Int)
  | [], _, k, _ => rfl
  | t :: zs, hr, k, hk => by
    have ih := mv_get hp (zs := zs) (fun s hs => hr s (by simp [hs])) hk
    have ht := hr t (by simp)
    obtain ⟨m, hm⟩ : ∃ m : Nat, t.1 = (m : Int) := ⟨t.1.toNat, by omega⟩
    have hml : m < L.length := by omega
    have e : (L.getD m 0 = L.getD k 0) ↔ (m = k) := by
      constructor
      · intro h
        have h1 : L[m]? = L[k]? := by
          rw [List.getD_eq_getElem?_getD, List.getD_eq_getElem?_getD, List.getElem?_eq_getElem hml, List.getElem?_eq_getElem hk] at h
          rw [List.getElem?_eq_getElem hml, List.getElem?_eq_getElem hk]
          exact congrArg some h
        exact (List.getElem?_inj hml hp.nodup).1 h1
      · rintro rfl; rfl
    show (if L.getD t.1.toNat 0 = L.getD k 0 then t.2 else 0) + getL (mvL L zs) (L.getD k 0) = (if t.1 = (k : Int) then t.2 else 0) + getL zs (k : Int)
    rw [ih, hm, Int.toNat_natCast]
    congr 1
    by_cases h : m = k
    · rw [if_pos (e.2 h), if_pos (by omega)]
    · rw [if_neg (fun h' => h (e.1 h')), if_neg (by omega)]
theorem getL_out {n : Nat} {zs : VL} (h : InR n zs) {p : Int} (hp : ¬ (0 ≤ p ∧ p < (n : Int))) : getL zs p = 0 :=
  getL_none fun t ht e => hp (by have := h t ht; omega)
theorem mv_inR {L : List Int} (hp : PermL L) {zs : VL} (hr : InR L.length zs) : InR L.length (mvL L zs) := by
  intro t ht
  unfold mvL at ht
  obtain ⟨s, hs, rfl⟩ := List.mem_map.1 ht
  have h1 := hr s hs
  have hk : s.1.toNat < L.length := by omega
  have := hp.rng L[s.1.toNat] (List.getElem_mem hk)
  show 0 ≤ L.getD s.1.toNat 0 ∧ L.getD s.1.toNat 0 < (L.length : Int)
  rw [List.getD_eq_getElem?_getD, List.getElem?_eq_getElem hk]
  exact this
/-- What has a place where it is not 0. -/
theorem mem_of_get {zs : VL} {p : Int} (h : getL zs p ≠ 0) : ∃ t ∈ zs, t.1 = p := by
  apply Classical.byContradiction
  intro hn
  exact h (getL_none fun t ht e => hn ⟨t, ht, e⟩)
theorem nrm_inR {n : Nat} {zs : VL} (h : InR n zs) : InR n (nrm zs) := by
  intro t ht
  have hc := nrm_cn zs
  have h1 : getL (nrm zs) t.1 ≠ 0 := by
    obtain ⟨i, hi, rfl⟩ := List.getElem_of_mem ht
    have h0 : getL (nrm zs) (nrm zs)[i].1 = (nrm zs)[i].2 := by
      have e1 := getL_take_succ hi (pl (nrm zs) i)
      have e2 : pl (nrm zs) i = (nrm zs)[i].1 := by
        unfold pl; rw [List.getD_eq_getElem?_getD, List.getElem?_eq_getElem hi]; rfl
      have e3 : xl (nrm zs) i = (nrm zs)[i].2 := by
        unfold xl; rw [List.getD_eq_getElem?_getD, List.getElem?_eq_getElem hi]; rfl
      rw [if_pos rfl, getL_take_self hc.ris hi, Rat.zero_add] at e1
      have e4 : nrm zs = (nrm zs).take (i + 1) ++ (nrm zs).drop (i + 1) := (List.take_append_drop _ _).symm
      have e5 : getL ((nrm zs).drop (i + 1)) (pl (nrm zs) i) = 0 := getL_none fun s hs => by
        obtain ⟨j, hj, rfl⟩ := List.getElem_of_mem hs
        rw [List.getElem_drop, e2]
        rw [List.length_drop] at hj
        have := List.pairwise_iff_getElem.1 hc.1 i (i + 1 + j) hi (by omega) (by omega)
        omega
      have e6 : getL (nrm zs) (pl (nrm zs) i) = xl (nrm zs) i := by
        rw [e4, getL_append, ← e4, e1, e5, Rat.add_zero]
      rw [← e2, ← e3]; exact e6
    rw [h0]
    exact hc.2 _ ht
  rw [nrm_get] at h1
  obtain ⟨s, hs, e⟩ := mem_of_get h1
  rw [← e]; exact h s hs
theorem mv_back {L M : List Int} (hp : PermL L) (hi : InvL L M) {zs : VL} (hc : Cn zs) (hr : InR L.length zs) : nrm (mvL M (nrm (nrm (mvL L zs)))) = zs := by
  have hpm := hi.perm hp
  have hu : InR M.length (nrm (nrm (mvL L zs))) := by rw [hi.len]; exact nrm_inR (nrm_inR (mv_inR hp hr))
  refine Cn.ext (nrm_cn _) hc fun p => ?_
  rw [nrm_get]
  by_cases h : 0 ≤ p ∧ p < (L.length : Int)
  · obtain ⟨k, rfl⟩ : ∃ k : Nat, p = (k : Int) := ⟨p.toNat, by omega⟩
    have hk : k < L.length := by omega
    obtain ⟨m, hm, hml⟩ := InvL.nat hp hk
    have h1 := hi.inv k m hm
    have h2 := mv_get hpm hu (k := m) (by rw [hi.len]; exact hml)
    rw [List.getD_eq_getElem?_getD, h1] at h2
    have h3 := mv_get hp hr hk
    rw [List.getD_eq_getElem?_getD, hm] at h3
    simp only [Option.getD_some] at h2 h3
    rw [h2, nrm_get, nrm_get, h3]
  · rw [getL_out hr h]
    have := mv_inR hpm hu
    rw [hi.len] at this
    exact getL_out this h
theorem mv_dot {L : List Int} (hp : PermL L) {ws : VL} (hw : InR L.length ws) : ∀ {zs : VL}, InR L.length zs → dotL (mvL L zs) (mvL L ws) = dotL zs ws
  | [], _ => rfl
  | t :: zs, hr => by
    have ih := mv_dot hp hw (zs := zs) (fun s hs => hr s (by simp [hs]))
    have ht := hr t (by simp)
    obtain ⟨m, hm⟩ : ∃ m : Nat, t.1 = (m : Int) := ⟨t.1.toNat, by omega⟩
    have hml : m < L.length := by omega
    show t.2 * getL (mvL L ws) (L.getD t.1.toNat 0) + dotL (mvL L zs) (mvL L ws) = t.2 * getL ws t.1 + dotL zs ws
    rw [ih, hm, Int.toNat_natCast, mv_get hp hw hml]
theorem mv_dots {L : List Int} (hp : PermL L) {xs ys : VL} (hx : InR L.length (nrm xs)) (hy : InR L.length (nrm ys)) : dotL (nrm (mvL L (nrm xs))) (nrm (mvL L (nrm ys))) = dotL xs ys := by
  rw [dotL_congr (x' := mvL L (nrm xs)) (y' := mvL L (nrm ys)) (nrm_get _) (nrm_get _), mv_dot hp hy hx]
  exact dotL_congr (nrm_get _) (nrm_get _)
end Go.Proofs.Ytlfdobjdlgebbaa
/-
  The laws of the layer matrix, plain. Helpers; no statement of the program is proved here.
-/
set_option maxRecDepth 100000
set_option linter.unusedSimpArgs false
set_option linter.unusedVariables false
namespace Go.Proofs.Ytlfdobjdlgebbaa
open Go Go.Tw Go.RowKit

theorem getL_putL (zs : VL) (k : Int) (v : Rat) (p : Int) : getL (putL zs k v) p = getL zs p + (if k = p then v else 0) := by
  unfold putL
  split
  · rename_i h; subst h; split <;> rw [Rat.add_zero]
  · rw [getL_append]; congr 1
    simp only [getL]
    split <;> rw [Rat.add_zero]
/-- A row of a matrix, at whatever place. -/
def rowI (xss : List VL) (p : Int) (k : Nat) : VL :=
  match k with
  | 0 => []
  | k + 1 => putL (rowI xss p k) (k : Int) (getL (xss.getD k []) p)
theorem rowI_nat (xss : List VL) (i k : Nat) : turnN xss i k = rowI xss (i : Int) k := by
  induction k with
  | zero => rfl
  | succ k ih => simp only [turnN, rowI, ih]
theorem rowI_get (xss : List VL) (p : Int) (k : Nat) (q : Int) : getL (rowI xss p k) q = if 0 ≤ q ∧ q < (k : Int) then getL (xss.getD q.toNat []) p else 0 := by
  induction k with
  | zero => rw [if_neg (by omega)]; rfl
  | succ k ih =>
    simp only [rowI]
    rw [getL_putL, ih]
    by_cases h1 : (k : Int) = q
    · subst h1
      rw [if_neg (by omega), if_pos rfl, if_pos (by omega), Rat.zero_add, Int.toNat_natCast]
    · rw [if_neg h1, Rat.add_zero]
      by_cases h2 : 0 ≤ q ∧ q < (k : Int)
      · rw [if_pos h2, if_pos (by omega)]
      · rw [if_neg h2, if_neg (by omega)]
theorem left_get (ys : VL) (xss : List VL) (n : Nat) (q : Int) : getL (leftN ys xss n) q = if 0 ≤ q ∧ q < (n : Int) then dotL ys (xss.getD q.toNat []) else 0 := by
  induction n with
  | zero => rw [if_neg (by omega)]; rfl
  | succ k ih =>
    simp only [leftN]
    rw [getL_putL, ih]
    by_cases h1 : (k : Int) = q
    · subst h1
      rw [if_neg (by omega), if_pos rfl, if_pos (by omega), Rat.zero_add, Int.toNat_natCast]
    · rw [if_neg h1, Rat.add_zero]
      by_cases h2 : 0 ≤ q ∧ q < (k : Int)
      · rw [if_pos h2, if_pos (by omega)]
      · rw [if_neg h2, if_neg (by omega)]
theorem dotL_snoc (x y : VL) (t : Int × Rat) : dotL (x ++ [t]) y = dotL x y + t.2 * getL y t.1 := by
  induction x with
  | nil => show t.2 * getL y t.1 + 0 = 0 + t.2 * getL y t.1; rw [Rat.add_zero, Rat.zero_add]
  | cons s x ih =>
    show s.2 * getL y s.1 + dotL (x ++ [t]) y = (s.2 * getL y s.1 + dotL x y) + t.2 * getL y t.1
    rw [ih, Rat.add_assoc]
theorem dotL_take {zs y : VL} {i : Nat} (h : i < zs.length) : dotL (zs.take (i + 1)) y = dotL (zs.take i) y + xl zs i * getL y (pl zs i) := by
  rw [List.take_succ_eq_append_getElem h, dotL_snoc]
  have := vget h
  rw [List.getElem?_eq_getElem h] at this
  rw [Option.some.inj this]
/-- A matrix times a vector, place by place. -/
theorem times_get (xss : List VL) (zs : VL) (p : Int) : ∀ i, i ≤ zs.length → getL (timesN xss zs i) p = dotL (zs.take i) (rowI xss p xss.length)
  | 0, _ => rfl
  | i + 1, h => by
    have ih := times_get xss zs p i (by omega)
    rw [dotL_take (by omega), rowI_get, ← ih]
    simp only [timesN]
    by_cases hc : 0 ≤ pl zs i ∧ pl zs i < (xss.length : Int)
    · rw [if_pos hc, if_pos hc, axp_get]
    · rw [if_neg hc, if_neg hc, Rat.mul_zero, Rat.add_zero]
theorem times_all (xss : List VL) (xs : VL) (p : Int) : getL (timesN xss (nrm xs) (nrm xs).length) p = dotL xs (rowI xss p xss.length) := by
  rw [times_get xss (nrm xs) p _ (Nat.le_refl _), List.take_length]
  exact dotL_congr (nrm_get _) (fun _ => rfl)
theorem dotL_add_right (y a b : VL) (c : Rat) {u : VL} (h : ∀ p, getL u p = getL a p + c * getL b p) : dotL y u = dotL y a + c * dotL y b := by
  rw [dotL_comm y u, dotL_comm y a, dotL_comm y b]
  exact dotL_lin h
theorem L_both (ys xs : VL) (xss : List VL) : dotL ys (timesN xss (nrm xs) (nrm xs).length) = dotL (leftN ys xss xss.length) xs := by
  have key : ∀ i, i ≤ (nrm xs).length → dotL ys (timesN xss (nrm xs) i) = dotL ((nrm xs).take i) (leftN ys xss xss.length) := by
    intro i
    induction i with
    | zero => intro _; rw [dotL_comm]; rfl
    | succ i ih =>
      intro h
      rw [dotL_take (by omega), ← ih (by omega), left_get]
      simp only [timesN]
      by_cases hc : 0 ≤ pl (nrm xs) i ∧ pl (nrm xs) i < (xss.length : Int)
      · rw [if_pos hc, if_pos hc]
        exact dotL_add_right ys _ _ _ (fun p => axp_get _ _ _ p)
      · rw [if_neg hc, if_neg hc, Rat.mul_zero, Rat.add_zero]
  rw [key _ (Nat.le_refl _), List.take_length, dotL_comm]
  exact dotL_congr (fun _ => rfl) (nrm_get _)
theorem L_lin (xs zs : VL) (a : Rat) (xss : List VL) : timesN xss (nrm (axp xs a zs)) (nrm (axp xs a zs)).length = axp (timesN xss (nrm xs) (nrm xs).length) a (timesN xss (nrm zs) (nrm zs).length) := by
  refine Cn.ext (timesN_cn _ _ _) (nrm_cn _) fun p => ?_
  have h1 := axp_get (timesN xss (nrm xs) (nrm xs).length) a (timesN xss (nrm zs) (nrm zs).length) p
  rw [h1, times_all, times_all, times_all]
  exact dotL_lin fun p => axp_get _ _ _ p
theorem turnL_len (xss : List VL) (n k : Nat) : (turnL xss n k).length = n := by simp [turnL]
theorem turnL_at (xss : List VL) (n k : Nat) {i : Nat} (h : i < n) : (turnL xss n k).getD i [] = turnN xss i k := by
  rw [List.getD_eq_getElem?_getD]
  simp [turnL, h]
theorem L_side (xs : VL) (xss : List VL) (n : Nat) (hr : ∀ c ∈ xss, InR n c) : timesN xss (nrm xs) (nrm xs).length = leftN xs (turnL xss n xss.length) n := by
  refine Cn.ext (timesN_cn _ _ _) (leftN_cn _ _ _).1 fun p => ?_
  rw [times_all, left_get]
  by_cases h : 0 ≤ p ∧ p < (n : Int)
  · rw [if_pos h, turnL_at _ _ _ (show p.toNat < n by omega), rowI_nat, Int.toNat_of_nonneg h.1]
  · rw [if_neg h]
    have h0 : ∀ q, getL (rowI xss p xss.length) q = getL [] q := by
      intro q
      rw [rowI_get]
      split
      · rename_i hq
        refine getL_out (n := n) (hr _ ?_) h
        rw [List.getD_eq_getElem?_getD, List.getElem?_eq_getElem (by omega)]
        exact List.getElem_mem _
      · rfl
    rw [dotL_congr (fun _ => rfl) h0, dotL_comm]
    rfl
theorem L_twice (xss : List VL) (n : Nat) (hc : ∀ c ∈ xss, Cn c) (hr : ∀ c ∈ xss, InR n c) : turnL (turnL xss n xss.length) xss.length n = xss := by
  apply List.ext_getElem?
  intro k
  rcases Nat.lt_or_ge k xss.length with hk | hk
  · have e1 : (turnL (turnL xss n xss.length) xss.length n)[k]? = some (turnN (turnL xss n xss.length) k n) := by simp [turnL, hk]
    rw [e1, List.getElem?_eq_getElem hk]
    congr 1
    refine Cn.ext (turnN_cn _ _ _).1 (hc _ (List.getElem_mem _)) fun p => ?_
    rw [rowI_nat, rowI_get]
    by_cases h : 0 ≤ p ∧ p < (n : Int)
    · rw [if_pos h, turnL_at _ _ _ (show p.toNat < n by omega), rowI_nat, rowI_get, if_pos (by omega), Int.toNat_natCast, Int.toNat_of_nonneg h.1, List.getD_eq_getElem?_getD, List.getElem?_eq_getElem hk]
      rfl
    · rw [if_neg h, getL_out (hr _ (List.getElem_mem _)) h]
  · rw [List.getElem?_eq_none hk, List.getElem?_eq_none (by rw [turnL_len]; exact hk)]
theorem rightL_cn {xs : VL} {N last : Int} (hc : Cn xs) (hl : ∀ s ∈ xs, last < s.1) (hN : ∀ s ∈ xs, s.1 < N) : rightL N last (prB xs) = true := by
  induction xs generalizing last with
  | nil => rfl
  | cons t xs ih =>
    have h1 := hl t (by simp)
    have h2 := hN t (by simp)
    have h3 := hc.2 t (by simp)
    show (!decide (t.1 ≤ last) && !decide (N ≤ t.1) && !decide (t.2 = 0) && rightL N t.1 (prB xs)) = true
    rw [ih hc.tail (fun s hs => (List.pairwise_cons.1 hc.1).1 s hs) (fun s hs => hN s (by simp [hs]))]
    simp [h3]
    omega
theorem turn_right {xss : List VL} {n k : Nat} {i : Nat} (h : i < n) : rightL (k : Int) (-1) (prB ((turnL xss n k).getD i [])) = true := by
  rw [turnL_at _ _ _ h]
  have hc := turnN_cn xss i k
  refine rightL_cn hc.1 (fun s hs => ?_) hc.2.1
  have hnn : ∀ k, ∀ s ∈ turnN xss i k, 0 ≤ s.1 := by
    intro k
    induction k with
    | zero => intro s hs; simp [turnN] at hs
    | succ k ih =>
      intro s hs
      simp only [turnN, putL] at hs
      split at hs
      · exact ih s hs
      · rw [List.mem_append, List.mem_singleton] at hs
        rcases hs with hs | rfl
        · exact ih s hs
        · show (0 : Int) ≤ (k : Int); omega
  have := hnn k s hs
  omega
end Go.Proofs.Ytlfdobjdlgebbaa
/-
  MatrixNumbers, walked. Helpers; no statement of the program is proved here.
-/
set_option maxRecDepth 100000
set_option linter.unusedSimpArgs false
set_option linter.unusedVariables false
namespace Go.Proofs.Ytlfdobjdlgebbaa
open Go Go.Tw Go.RowKit
attribute [local irreducible] LoadAt StoreOk Stored rawVC


theorem mright_at {k l : Nat} {w : World} {a : Option Addr} {m c : Nat} {rs : List SlR} {xss : List VL} (h : Vs (VC k l) w a m rs xss) (N : Int) (r : Bool) (hm : m ≤ 1099511627776) (hk : k ≤ 1099511627776 ∧ l ≤ 1099511627776)
    (hr : r = true ↔ 0 ≤ N ∧ ∀ j, j < m → rightL N (-1) (prB (xss.getD j [])) = true) :
    CallS Try.prog 42 #[.slice a m c, .int .i64 N] w fun v w' => Ext w w' ∧ v = .bool r := by
  refine CallS.mono (MRight_ok (fun j => rightL N (-1) (prB (xss.getD j []))) h.ones hm (fun j r' hj w' hx => ?_)) ?_
  · obtain ⟨r2, e1, e2, e3⟩ := h.get (rows_lt h.ones hj)
    rw [hj] at e1; cases e1
    exact rightVC_at (e3.ext hx) N hk
  · rintro _ w2 ⟨hx2, b, rfl, hb⟩
    refine ⟨hx2, ?_⟩
    have hbr : (b = true) ↔ (r = true) := hb.trans hr.symm
    have : b = r := by
      cases b <;> cases r <;> simp at hbr ⊢
    rw [this]
theorem vsNil {P : World → SlR → VL → Prop} (w : World) : Vs P w none 0 [] [] := ⟨Ones.nil w none, rfl, fun j r xs h => by simp at h⟩
theorem VC.at0 {k l : Nat} {w : World} {s : SlR} {xs : VL} (h : VC k l w s xs) {j : Nat} {p : Int × Rat} (hj : xs[j]? = some p) : okB s.a ∧ j < s.n ∧ LoadAt tt w 3 ⟨Tw.blk s.a, ofs s.a + j * 5 + 0, none⟩ (.int .i64 p.1) := by
  have hl := h.can.len
  have hjl : j < xs.length := by
    rcases Nat.lt_or_ge j xs.length with h' | h'
    · exact h'
    · rw [List.getElem?_eq_none h'] at hj; cases hj
  obtain ⟨⟨⟨ts, hT, hC⟩, _⟩, _⟩ := h
  obtain ⟨t, h1, h2, h3, h4⟩ := tsCan_get hC hj
  rw [← h2]
  exact ⟨hT.base (by omega), by omega, hT.loadAt h1 rfl rfl⟩
theorem cols2 : ∀ j, j < 2 → rightL 2 (-1) (prB (colsL.getD j [])) = true
  | 0, _ => by kernel_rfl
  | 1, _ => by kernel_rfl
  | j + 2, h => by omega
theorem perm10 : PermL [(1), (0)] := ⟨by decide, by decide⟩
theorem MatrixNumbers_ok (w0 : World) : Calls Try.prog 6 #[] w0 fun e w' => ∃ v, e = .returned v ∧ (Ext w0 w' ∧ v = .bool true) := by
  refine enterC (fun _ => none) ttOk mixed (args := []) Try.func6 rfl (by kernel_rfl) (by kernel_rfl) ?_
  refine CallS.mono (cols_at _) ?_
  rintro _ w1 ⟨x1, b1, rs1, rfl, c1⟩
  refine CallS.mono (TurnNo_ok (N := -1) (.inl (by decide))) ?_
  rintro _ w2 ⟨x2, rfl⟩
  refine CallS.mono (cols_at _) ?_
  rintro _ w3 ⟨x3, b2, rs2, rfl, c2⟩
  refine CallS.mono (TurnNo_ok (N := 65537) (.inr (by decide))) ?_
  rintro _ w4 ⟨x4, rfl⟩
  refine CallS.mono (cols_at _) ?_
  rintro _ w5 ⟨x5, b3, rs3, rfl, c3⟩
  refine CallS.mono (Turn_ok (c3.vi (by decide)) (by decide) 1 (by decide) (by decide)) ?_
  rintro _ w6 ⟨x6, b3, rs3, rfl, h3⟩
  intro p w7 hp
  have hp : New w6 w7 p 3 (ivs [(0), (0)] ++ []) := hp
  have x7 := hp.ext
  have op : Ones w7 (some ⟨p, 0, none⟩) 2 (ivs [(0), (0)]) := Ones.blk hp.toBlk
  refine CallS.mono (InverseNo_ok op (by decide) (fun h => absurd h.nodup (by decide))) ?_
  rintro _ w8 ⟨x8, rfl⟩
  intro q w9 hq
  have hq : New w8 w9 q 3 (ivs [(0), (1)] ++ []) := hq
  have x9 := hq.ext
  have oq : Ones w9 (some ⟨q, 0, none⟩) 2 (ivs [(0), (1)]) := Ones.blk hq.toBlk
  refine CallS.mono (term6_at (2) (1) (by decide) (fit1 (by kernel_rfl))) ?_
  rintro _ w10 ⟨x10, ta0, rfl, qta0⟩
  intro a w11 ha
  have ha : New w10 w11 a tT (tcs [ta0]) := ha
  have x11 := ha.ext
  have va : VC 1 1 w11 ⟨some ⟨a, 0, none⟩, 1, 1⟩ [((2), Rat.divInt (1) 1)] := TCs.vc 1 (.cons (qta0.ext x11) (.nil)) ha.toBlk rfl (by decide) (cnL (by kernel_rfl))
  refine CallS.mono (MoveNo_ok (k := 1) (l := 1) (oq.ext (Ext.trans' x10 x11)) (by decide) (va.vi (by decide)) (by decide) (by decide) (fun h => absurd h.2 (by decide +kernel))) ?_
  rintro _ w12 ⟨x12, rfl⟩
  intro r w13 hr
  have hr : New w12 w13 r 3 (ivs [(0), (1)] ++ []) := hr
  have x13 := hr.ext
  have or : Ones w13 (some ⟨r, 0, none⟩) 2 (ivs [(0), (1)]) := Ones.blk hr.toBlk
  refine CallS.mono (term6_at (-1) (1) (by decide) (fit1 (by kernel_rfl))) ?_
  rintro _ w14 ⟨x14, tb0, rfl, qtb0⟩
  intro b w15 hb
  have hb : New w14 w15 b tT (tcs [tb0]) := hb
  have x15 := hb.ext
  have vb : VC 1 1 w15 ⟨some ⟨b, 0, none⟩, 1, 1⟩ [((-1), Rat.divInt (1) 1)] := TCs.vc 1 (.cons (qtb0.ext x15) (.nil)) hb.toBlk rfl (by decide) (cnL (by kernel_rfl))
  refine CallS.mono (MoveNo_ok (k := 1) (l := 1) (or.ext (Ext.trans' x14 x15)) (by decide) (vb.vi (by decide)) (by decide) (by decide) (fun h => absurd h.2 (by decide +kernel))) ?_
  rintro _ w16 ⟨x16, rfl⟩
  intro s w17 hs
  have hs : New w16 w17 s 3 (ivs [(1), (0)] ++ []) := hs
  have x17 := hs.ext
  have os : Ones w17 (some ⟨s, 0, none⟩) 2 (ivs [(1), (0)]) := Ones.blk hs.toBlk
  refine CallS.mono (term6_at (9) (1) (by decide) (fit1 (by kernel_rfl))) ?_
  rintro _ w18 ⟨x18, tc0, rfl, qtc0⟩
  refine CallS.mono (term6_at (9) (-1) (by decide) (fit1 (by kernel_rfl))) ?_
  rintro _ w19 ⟨x19, tc1, rfl, qtc1⟩
  refine CallS.mono (term6_at (0) (4) (by decide) (fit1 (by kernel_rfl))) ?_
  rintro _ w20 ⟨x20, tc2, rfl, qtc2⟩
  intro c w21 hc
  have hc : New w20 w21 c tT (tcs [tc0, tc1, tc2]) := hc
  have x21 := hc.ext
  have vc : VI 1 3 w21 ⟨some ⟨c, 0, none⟩, 3, 3⟩ [((9), Rat.divInt (1) 1), ((9), Rat.divInt (-1) 1), ((0), Rat.divInt (4) 1)] := TCs.vi 3 (.cons (qtc0.ext (Ext.trans' (Ext.trans' x19 x20) x21)) (.cons (qtc1.ext (Ext.trans' x20 x21)) (.cons (qtc2.ext x21) (.nil)))) hc.toBlk rfl (by decide)
  refine CallS.mono (Move_ok (k := 1) (l := 3) (os.ext (Ext.trans' (Ext.trans' (Ext.trans' x18 x19) x20) x21)) (by decide) vc (by decide) (by decide) perm10 (by decide +kernel)) ?_
  rintro _ w22 ⟨x22, s4, rfl, h4⟩
  refine And.intro (fun _ => ?_) (fun h => absurd (rfl) h)
  refine And.intro (fun _ => ?_) (fun h => absurd (rfl) h)
  refine And.intro (fun _ => ?_) (fun h => absurd (rfl) h)
  refine And.intro (fun _ => ?_) (fun h => absurd (rfl) h)
  obtain ⟨r3, e3, f3, v3⟩ := h3.get (j := 0) (by decide)
  have l3 : r3.n = 1 := by rw [v3.can.len]; kernel_rfl
  refine ⟨0, ⟨rfl, by decide, ⟨_, rfl, rfl⟩⟩, r3.v, ((h3.ext (Ext.trans' (Ext.trans' (Ext.trans' (Ext.trans' (Ext.trans' (Ext.trans' (Ext.trans' (Ext.trans' (Ext.trans' (Ext.trans' (Ext.trans' (Ext.trans' (Ext.trans' (Ext.trans' (Ext.trans' x7 x8) x9) x10) x11) x12) x13) x14) x15) x16) x17) x18) x19) x20) x21) x22)).ones).load (T := tt) (ty := tV) (sz := 1) (svs_get e3) rfl rfl, ?_⟩
  refine And.intro (fun _ => ?_) (fun h => absurd (by show (r3.n : Int) = 1; rw [l3]; rfl) h)
  refine And.intro (fun _ => ?_) (fun h => absurd (rfl) h)
  refine And.intro (fun _ => ?_) (fun h => absurd (rfl) h)
  refine And.intro (fun _ => ?_) (fun h => absurd (rfl) h)
  refine And.intro (fun _ => ?_) (fun h => absurd (rfl) h)
  have e4 : nrm (mvL [(1), (0)] (nrm [((9), Rat.divInt (1) 1), ((9), Rat.divInt (-1) 1), ((0), Rat.divInt (4) 1)])) = [(1, 4)] := by kernel_rfl
  rw [e4] at h4
  have l4 : s4.n = 1 := by rw [h4.can.len]; rfl
  refine And.intro (fun _ => ?_) (fun h => absurd (by show (s4.n : Int) = 1; rw [l4]; rfl) h)
  have k4 := VC.at0 (j := 0) h4 rfl
  refine ⟨0, ⟨rfl, by omega, k4.1⟩, _, k4.2.2, ?_⟩
  refine And.intro (fun _ => ?_) (fun h => absurd (rfl) h)
  refine CallS.mono (Perm_ok (L := []) (Ones.nil _ none) (by decide)) ?_
  rintro _ w23 ⟨x23, rfl⟩
  rw [decide_eq_true (show PermL [] from ⟨by decide, by decide⟩)]
  intro z0 w24 hz0
  have hz0 : New w23 w24 z0 3 (ivs [(0)] ++ []) := hz0
  have x24 := hz0.ext
  have oz0 : Ones w24 (some ⟨z0, 0, none⟩) 1 (ivs [(0)]) := Ones.blk hz0.toBlk
  refine CallS.mono (Perm_ok oz0 (by decide)) ?_
  rintro _ w25 ⟨x25, rfl⟩
  rw [decide_eq_true (show PermL [(0)] from ⟨by decide, by decide⟩)]
  intro z1 w26 hz1
  have hz1 : New w25 w26 z1 3 (ivs [(1)] ++ []) := hz1
  have x26 := hz1.ext
  have oz1 : Ones w26 (some ⟨z1, 0, none⟩) 1 (ivs [(1)]) := Ones.blk hz1.toBlk
  refine CallS.mono (Perm_ok oz1 (by decide)) ?_
  rintro _ w27 ⟨x27, rfl⟩
  rw [decide_eq_false (show ¬ PermL [(1)] from fun h => absurd h.rng (by decide))]
  intro z2 w28 hz2
  have hz2 : New w27 w28 z2 3 (ivs [(-1), (0)] ++ []) := hz2
  have x28 := hz2.ext
  have oz2 : Ones w28 (some ⟨z2, 0, none⟩) 2 (ivs [(-1), (0)]) := Ones.blk hz2.toBlk
  refine CallS.mono (Perm_ok oz2 (by decide)) ?_
  rintro _ w29 ⟨x29, rfl⟩
  rw [decide_eq_false (show ¬ PermL [(-1), (0)] from fun h => absurd h.rng (by decide))]
  intro z3 w30 hz3
  have hz3 : New w29 w30 z3 3 (ivs [(0), (0)] ++ []) := hz3
  have x30 := hz3.ext
  have oz3 : Ones w30 (some ⟨z3, 0, none⟩) 2 (ivs [(0), (0)]) := Ones.blk hz3.toBlk
  refine CallS.mono (Perm_ok oz3 (by decide)) ?_
  rintro _ w31 ⟨x31, rfl⟩
  rw [decide_eq_false (show ¬ PermL [(0), (0)] from fun h => absurd h.nodup (by decide))]
  refine CallS.mono (cols_at _) ?_
  rintro _ w32 ⟨x32, b4, rs4, rfl, c4⟩
  refine CallS.mono (mright_at c4 2 true (by decide) (by decide) ⟨fun _ => ⟨by decide, fun j hj => cols2 j hj⟩, fun _ => rfl⟩) ?_
  rintro _ w33 ⟨x33, rfl⟩
  refine CallS.mono (cols_at _) ?_
  rintro _ w34 ⟨x34, b5, rs5, rfl, c5⟩
  refine CallS.mono (mright_at c5 1 false (by decide) (by decide) ⟨fun h => (by cases h), fun h => (by have := h.2 0 (by decide); revert this; decide +kernel)⟩) ?_
  rintro _ w35 ⟨x35, rfl⟩
  refine CallS.mono (mright_at (k := 1) (l := 1) (vsNil _) (-1) false (by decide) (by decide) ⟨fun h => (by cases h), fun h => absurd h.1 (by decide)⟩) ?_
  rintro _ w36 ⟨x36, rfl⟩
  refine CallS.mono (mright_at (k := 1) (l := 1) (vsNil _) 0 true (by decide) (by decide) ⟨fun _ => ⟨by decide, fun j hj => absurd hj (Nat.not_lt_zero _)⟩, fun _ => rfl⟩) ?_
  rintro _ w37 ⟨x37, rfl⟩
  refine CallS.mono (cols_at _) ?_
  rintro _ w38 ⟨x38, b6, rs6, rfl, c6⟩
  refine CallS.mono (term6_at (2) (1) (by decide) (fit1 (by kernel_rfl))) ?_
  rintro _ w39 ⟨x39, td0, rfl, qtd0⟩
  refine CallS.mono (term6_at (-1) (1) (by decide) (fit1 (by kernel_rfl))) ?_
  rintro _ w40 ⟨x40, td1, rfl, qtd1⟩
  intro d w41 hd
  have hd : New w40 w41 d tT (tcs [td0, td1]) := hd
  have x41 := hd.ext
  have vd : VI 1 2 w41 ⟨some ⟨d, 0, none⟩, 2, 2⟩ [((2), Rat.divInt (1) 1), ((-1), Rat.divInt (1) 1)] := TCs.vi 2 (.cons (qtd0.ext (Ext.trans' x40 x41)) (.cons (qtd1.ext x41) (.nil))) hd.toBlk rfl (by decide)
  refine CallS.mono (Times_ok (k := 1) (l := 2) ((c6.ext (Ext.trans' (Ext.trans' x39 x40) x41)).vi (by decide)) (by decide) vd (by decide)) ?_
  rintro _ w42 ⟨x42, s6, rfl, h6⟩
  have l6 : s6.n = 0 := by rw [h6.can.len]; kernel_rfl
  refine And.intro (fun _ => ?_) (fun h => absurd (by show (s6.n : Int) = 0; rw [l6]; rfl) h)
  refine CallS.mono (awake6_at _) ?_
  rintro _ w43 ⟨x43, rfl⟩
  exact ⟨(Ext.trans' (Ext.trans' (Ext.trans' (Ext.trans' (Ext.trans' (Ext.trans' (Ext.trans' (Ext.trans' (Ext.trans' (Ext.trans' (Ext.trans' (Ext.trans' (Ext.trans' (Ext.trans' (Ext.trans' (Ext.trans' (Ext.trans' (Ext.trans' (Ext.trans' (Ext.trans' (Ext.trans' (Ext.trans' (Ext.trans' (Ext.trans' (Ext.trans' (Ext.trans' (Ext.trans' (Ext.trans' (Ext.trans' (Ext.trans' (Ext.trans' (Ext.trans' (Ext.trans' (Ext.trans' (Ext.trans' (Ext.trans' (Ext.trans' (Ext.trans' (Ext.trans' (Ext.trans' (Ext.trans' (Ext.trans' x1 x2) x3) x4) x5) x6) x7) x8) x9) x10) x11) x12) x13) x14) x15) x16) x17) x18) x19) x20) x21) x22) x23) x24) x25) x26) x27) x28) x29) x30) x31) x32) x33) x34) x35) x36) x37) x38) x39) x40) x41) x42) x43), rfl⟩
end Go.Proofs.Ytlfdobjdlgebbaa
/-
  Whether vectors that come in are right: told, and if so they are in their one form. Helpers; no statement of the program is proved here.
-/
set_option maxRecDepth 100000
set_option linter.unusedSimpArgs false
set_option linter.unusedVariables false
namespace Go.Proofs.Ytlfdobjdlgebbaa
open Go Go.Tw Go.RowKit
attribute [local irreducible] LoadAt StoreOk Stored rawVC

theorem tsCan_of {k : Nat} {w : World} : ∀ {ts : List TmR} {xs : VL}, ts.length = xs.length → (∀ (j : Nat) t p, ts[j]? = some t → xs[j]? = some p → t.at' = p.1 ∧ CanQ H0 w t.x p.2 ∧ FitQ k p.2) → TsCan k H0 w ts xs
  | [], [], _, _ => .nil
  | t :: ts, p :: xs, hl, h => by
    obtain ⟨h1, h2, h3⟩ := h 0 t p rfl rfl
    exact .cons h1 h2 h3 (tsCan_of (by simpa using hl) fun j t p a b => h (j + 1) t p (by simpa using a) (by simpa using b))
theorem canI_of {w : World} {r : IntR} {z : Int} {L : List Nat} (hL : Words w r.a r.n L) (h1 : r.n ≤ r.c) (h2 : r.c ≤ 9223372036854775807) (hn : decide (z < 0) = r.neg) (hd : dig z.natAbs = L) : CanI H0 w r z := ⟨hn.symm, hd ▸ hL, h1, h2, H0.av _ _⟩
/-- One fraction that comes in. -/
theorem formed_raw {k : Nat} {w : World} {rx : RatR} {q : Rat} (h : InQ k H0 w rx q) (hk : 1 ≤ k ∧ k ≤ 1073741824) : ∃ B : Bool, (∀ w', Ext w w' → CallS Try.prog 91 #[rx.v] w' fun v w'' => Ext w' w'' ∧ v = .bool B) ∧ (B = true → CanQ H0 w rx q ∧ FitQ k q ∧ q ≠ 0) := by
  have hfit := h.fit
  obtain ⟨⟨n, d, hn, hd, hq⟩, hnk, hdk⟩ := h
  obtain ⟨⟨L, hL, hLn⟩, a1, a2, a3, a4⟩ := hn
  obtain ⟨⟨M, hM, hMn⟩, b1, b2, b3, b4⟩ := hd
  have hI : IsQ H0 w rx q := ⟨n, d, ⟨⟨L, hL, hLn⟩, a1, a2, a3, a4⟩, ⟨⟨M, hM, hMn⟩, b1, b2, b3, b4⟩, hq⟩
  refine ⟨decide (q ≠ 0 ∧ frmN q rx L ∧ frmD q rx M), fun w' hx => formed_ok (hL.ext hx) (hM.ext hx) (hI.ext hx) (hfit.mono (by omega)), fun hB => ?_⟩
  obtain ⟨h0, hN, hD⟩ := of_decide_eq_true hB
  have c1 : CanI H0 w rx.num q.num := canI_of hL a1 a2 hN.1 hN.2
  have c2 : CanI H0 w rx.den (denC q) := canI_of hM b1 b2 hD.1 hD.2
  refine ⟨⟨c1, c2⟩, ⟨?_, ?_⟩, h0⟩
  · show (dig q.num.natAbs).length ≤ k
    rw [c1.words.len]; exact hnk
  · show (dig (q.den : Int).natAbs).length ≤ k
    have hl := c2.words.len
    unfold denC at hl
    by_cases h1 : q.den = 1
    · rw [h1]
      exact Nat.le_trans (show (dig ((1 : Nat) : Int).natAbs).length ≤ 1 from Fit.one.len) hk.1
    · rw [if_neg h1] at hl
      rw [hl]; exact hdk
theorem rightL_true {N : Int} : ∀ {ps : List (Int × Bool)} {last : Int}, rightL N last ps = true → (ps.map (·.1)).Pairwise (· < ·) ∧ (∀ p ∈ ps, last < p.1 ∧ p.1 < N ∧ p.2 = true)
  | [], _, _ => ⟨List.Pairwise.nil, fun p h => by simp at h⟩
  | p :: ps, last, h => by
    simp only [rightL, Bool.and_eq_true, Bool.not_eq_true', decide_eq_false_iff_not] at h
    obtain ⟨⟨⟨h1, h2⟩, h3⟩, h4⟩ := h
    obtain ⟨i1, i2⟩ := rightL_true h4
    refine ⟨?_, fun q hq => ?_⟩
    · rw [List.map_cons, List.pairwise_cons]
      refine ⟨fun x hx => ?_, i1⟩
      obtain ⟨q, hq, rfl⟩ := List.mem_map.1 hx
      exact (i2 q hq).1
    · rcases List.mem_cons.1 hq with rfl | hq
      · exact ⟨by omega, by omega, h3⟩
      · have := i2 q hq
        exact ⟨by omega, this.2.1, this.2.2⟩
theorem right_rawJ {k l : Nat} {w : World} {r : SlR} {xs : VL} (h : InV k H0 w r xs) (hxl : xs.length ≤ l) (N : Int) (hk : 1 ≤ k ∧ k ≤ 1073741824) (hl : l ≤ 1048576) : ∃ B : Bool, (∀ w', Ext w w' → CallS Try.prog 50 #[r.v, .int .i64 N] w' fun v w'' => Ext w' w'' ∧ v = .bool B) ∧ (B = true → VC k l w r xs ∧ InR N.toNat xs) := by
  have hlen := h.len
  obtain ⟨⟨ts, hT, hI⟩, c1, c2, c3⟩ := h
  have htl := hT.len
  have hil := hI.length
  have hone : ∀ i, i < ts.length → ∃ p : Int × Bool, p.1 = pl xs i ∧ ∃ t, ts[i]? = some t ∧ t.at' = pl xs i ∧ (∀ w', Ext w w' → CallS Try.prog 91 #[t.x.v] w' fun v w'' => Ext w' w'' ∧ v = .bool p.2) ∧ (p.2 = true → CanQ H0 w t.x (xl xs i) ∧ FitQ k (xl xs i) ∧ xl xs i ≠ 0) := by
    intro i hi
    obtain ⟨t, h1, h2, h3⟩ := hI.get (vget (ys := xs) (j := i) (by omega))
    obtain ⟨B, b1, b2⟩ := formed_raw h3 hk
    exact ⟨(pl xs i, B), rfl, t, h1, h2, b1, b2⟩
  haveI : Inhabited (Int × Bool) := ⟨(0, false)⟩
  obtain ⟨ps, hpl, hps⟩ := listOf ts.length hone
  refine ⟨rightL N (-1) ps, fun w' hx => Right_ok ps (hT.ext hx) (by omega) hpl (fun j t p hj hp => ?_), fun hB => ?_⟩
  · obtain ⟨a1, t', a2, a3, a4, _⟩ := hps j p hp
    rw [hj] at a2; cases a2
    exact ⟨by rw [a3, a1], fun w'' hx' => a4 w'' (Ext.trans' hx hx')⟩
  · obtain ⟨b1, b2⟩ := rightL_true hB
    have hat : ∀ i, i < xs.length → ∃ p, ps[i]? = some p ∧ p.1 = pl xs i ∧ p.2 = true ∧ -1 < p.1 ∧ p.1 < N := by
      intro i hi
      have hp : ps[i]? = some (ps[i]'(by omega)) := List.getElem?_eq_getElem (by omega)
      have hm := b2 _ (List.mem_of_getElem? hp)
      exact ⟨_, hp, (hps i _ hp).1, hm.2.2, hm.1, hm.2.1⟩
    have hfact : ∀ i, i < xs.length → ∃ t, ts[i]? = some t ∧ t.at' = pl xs i ∧ CanQ H0 w t.x (xl xs i) ∧ FitQ k (xl xs i) ∧ xl xs i ≠ 0 := by
      intro i hi
      obtain ⟨p, e1, e2, e3, _⟩ := hat i hi
      obtain ⟨_, t, a2, a3, _, a5⟩ := hps i p e1
      exact ⟨t, a2, a3, a5 e3⟩
    have hC : TsCan k H0 w ts xs := tsCan_of hil fun j t p hj hp => by
      have hjl : j < xs.length := by
        rcases Nat.lt_or_ge j xs.length with h' | h'
        · exact h'
        · rw [List.getElem?_eq_none h'] at hp; cases hp
      rw [vget hjl] at hp; cases hp
      obtain ⟨t', f1, f2, f3, f4, _⟩ := hfact j hjl
      rw [hj] at f1; cases f1
      exact ⟨f2, f3, f4⟩
    have hmem : ∀ t ∈ xs, ∃ i, i < xs.length ∧ t = (pl xs i, xl xs i) := by
      intro t ht
      obtain ⟨i, hi, rfl⟩ := List.getElem_of_mem ht
      have := vget hi
      rw [List.getElem?_eq_getElem hi] at this
      exact ⟨i, hi, Option.some.inj this⟩
    have hcn : Cn xs := by
      refine ⟨?_, fun t ht => ?_⟩
      · rw [List.pairwise_iff_getElem]
        intro i j hi hj hij
        have e : ∀ i (hi : i < xs.length), xs[i].1 = (ps.map (·.1))[i]'(by rw [List.length_map]; omega) := by
          intro i hi
          obtain ⟨p, e1, e2, _⟩ := hat i hi
          have h1 := vget hi
          rw [List.getElem?_eq_getElem hi] at h1
          rw [Option.some.inj h1, List.getElem_map]
          rw [List.getElem?_eq_getElem (by omega)] at e1
          rw [Option.some.inj e1, e2]
        rw [e i hi, e j hj]
        exact List.pairwise_iff_getElem.1 b1 i j (by rw [List.length_map]; omega) (by rw [List.length_map]; omega) hij
      · obtain ⟨i, hi, rfl⟩ := hmem t ht
        obtain ⟨_, _, _, _, _, h5⟩ := hfact i hi
        exact h5
    refine ⟨⟨⟨⟨ts, hT, hC⟩, c1, c2, c3⟩, hcn, hxl⟩, fun t ht => ?_⟩
    obtain ⟨i, hi, rfl⟩ := hmem t ht
    obtain ⟨p, e1, e2, e3, e4, e5⟩ := hat i hi
    show 0 ≤ pl xs i ∧ pl xs i < (N.toNat : Int)
    omega
/-- A row of vectors that comes in, short: read; and told whether right. -/
theorem right_raw {k l : Nat} {w : World} {r : SlR} {xs : VL} (h : VI k l w r xs) (N : Int) (hk : 1 ≤ k ∧ k ≤ 1073741824) (hl : l ≤ 65536) : ∃ B : Bool, (∀ w', Ext w w' → CallS Try.prog 50 #[r.v, .int .i64 N] w' fun v w'' => Ext w' w'' ∧ v = .bool B) ∧ (B = true → VC k l w r xs ∧ InR N.toNat xs) :=
  right_rawJ h.inv h.len N hk (by omega)
theorem OpVs.vi {w : World} {a : Option Addr} {m c : Nat} {rs : List SlR} {tss : List (List TmR)} (h : OpVs w a m c rs tss) {cnt l d : Nat} (hs : shVs m tss cnt l d) (hd : d ≤ 1099511627776) (hl : l ≤ 21) : ∃ xss, Vs (VI d l) w a m rs xss := by
  have hone : ∀ i, i < m → ∃ xs : VL, ∃ r, rs[i]? = some r ∧ VI d l w r xs := by
    intro i hi
    obtain ⟨r, h1, h2, h3⟩ := h.get hi
    have hsh := hs.2 _ (List.mem_of_getElem? h2)
    rw [h3.tms.len] at hsh
    obtain ⟨xs, e1, e2⟩ := h3.inv hd hsh
    exact ⟨xs, r, h1, e1, e2, .inl (by omega)⟩
  obtain ⟨xss, e1, e2⟩ := listOf m hone
  refine ⟨xss, h.ones, e1, fun j r xs h1 h2 => ?_⟩
  obtain ⟨r', h3, h4⟩ := e2 j xs h2
  rw [h1] at h3; cases h3
  exact h4
theorem rights_raw {k l : Nat} {w : World} {a : Option Addr} {m : Nat} {rs : List SlR} {xss : List VL} (h : Vs (VI k l) w a m rs xss) (N : Int) (hk : 1 ≤ k ∧ k ≤ 1073741824) (hl : l ≤ 65536) : ∃ R : Nat → Bool, (∀ (j : Nat) r, rs[j]? = some r → ∀ w', Ext w w' → CallS Try.prog 50 #[r.v, .int .i64 N] w' fun v w'' => Ext w' w'' ∧ v = .bool (R j)) ∧
    ((∀ j, j < m → R j = true) → Vs (VC k l) w a m rs xss ∧ ∀ c ∈ xss, InR N.toNat c) := by
  have hone : ∀ i, i < m → ∃ B : Bool, ∃ r, rs[i]? = some r ∧ (∀ w', Ext w w' → CallS Try.prog 50 #[r.v, .int .i64 N] w' fun v w'' => Ext w' w'' ∧ v = .bool B) ∧ (B = true → VC k l w r (xss.getD i []) ∧ InR N.toNat (xss.getD i [])) := by
    intro i hi
    obtain ⟨r, h1, h2, h3⟩ := h.get hi
    obtain ⟨B, b1, b2⟩ := right_raw h3 N hk hl
    exact ⟨B, r, h1, b1, b2⟩
  obtain ⟨Bs, e1, e2⟩ := listOf m hone
  have hB : ∀ j, j < m → Bs[j]? = some (Bs.getD j false) := fun j hj => by rw [List.getD_eq_getElem?_getD, List.getElem?_eq_getElem (by omega)]; rfl
  refine ⟨fun j => Bs.getD j false, fun j r hj w' hx => ?_, fun hR => ⟨⟨h.ones, h.len, fun j r xs h1 h2 => ?_⟩, fun c hc => ?_⟩⟩
  · obtain ⟨r', f1, f2, _⟩ := e2 j _ (hB j (rows_lt h.ones hj))
    rw [hj] at f1; cases f1
    exact f2 w' hx
  · have hjm := rows_lt h.ones h1
    obtain ⟨r', f1, _, f3⟩ := e2 j _ (hB j hjm)
    rw [h1] at f1; cases f1
    have := (f3 (hR j hjm)).1
    rw [List.getD_eq_getElem?_getD, h2] at this
    exact this
  · obtain ⟨j, hj, rfl⟩ := List.getElem_of_mem hc
    have hjm : j < m := by rw [← h.len]; exact hj
    obtain ⟨r', f1, _, f3⟩ := e2 j _ (hB j hjm)
    have := (f3 (hR j hjm)).2
    rw [List.getD_eq_getElem?_getD, List.getElem?_eq_getElem hj] at this
    exact this
end Go.Proofs.Ytlfdobjdlgebbaa
/-
  A program that comes in, read: its numbers, and what is right of it. Helpers; no statement of the program is proved here.
-/
set_option maxRecDepth 100000
set_option linter.unusedSimpArgs false
set_option linter.unusedVariables false
namespace Go.Proofs.Ytlfdobjdlgebbaa
open Go Go.Tw Go.RowKit
attribute [local irreducible] LoadAt StoreOk Stored rawVC

theorem _root_.Go.Tw.Tms.uniq {w : World} {a : Option Addr} {n : Nat} {ts us : List TmR} (h : Tms w a n ts) (h' : Tms w a n us) : ts = us := by
  have l1 := h.len
  have l2 := h'.len
  refine List.ext_getElem (by omega) fun i h1 h2 => ?_
  have g1 := List.getElem?_eq_getElem h1
  have g2 := List.getElem?_eq_getElem h2
  have key : ∀ (k : Nat) (v : Value), ts[i].cs[k]? = some v → us[i].cs[k]? = some v := by
    intro k v hv
    have hk : k < 5 := by
      rcases Nat.lt_or_ge k 5 with h' | h'
      · exact h'
      · rw [List.getElem?_eq_none (by exact h')] at hv; cases hv
    have e1 := h.get _ _ (tcs_get g1 hv)
    have hk2 : k < us[i].cs.length := by show k < 5; exact hk
    have e2 := h'.get _ _ (tcs_get g2 (List.getElem?_eq_getElem hk2))
    rw [e1] at e2
    rw [List.getElem?_eq_getElem hk2]
    exact e2.symm
  have e : ts[i].cs = us[i].cs := by
    refine List.ext_getElem? fun k => ?_
    rcases Nat.lt_or_ge k 5 with hk | hk
    · have hk1 : k < ts[i].cs.length := by show k < 5; exact hk
      rw [List.getElem?_eq_getElem hk1]
      exact (key k _ (List.getElem?_eq_getElem hk1)).symm
    · rw [List.getElem?_eq_none (by exact hk), List.getElem?_eq_none (by exact hk)]
  refine TmR.inj ?_
  show Value.agg _ = Value.agg _
  exact congrArg (fun l : List Value => Value.agg l.toArray) e
theorem _root_.Go.Tw.InQ.short {k m : Nat} {H : Hd} {w : World} {r : RatR} {q : Rat} (h : InQ k H w r q) (hs : shQ r m) : InQ m H w r q := ⟨h.is, hs.1, hs.2⟩
theorem _root_.Go.Tw.InV.short {k m : Nat} {H : Hd} {w : World} {r : SlR} {xs : VL} {ts : List TmR} (h : InV k H w r xs) (hT : Tms w r.a r.n ts) (hs : shs ts m) : InV m H w r xs := by
  obtain ⟨⟨us, h1, h2⟩, h3, h4, h5⟩ := h
  have e := hT.uniq h1
  subst e
  refine ⟨⟨ts, h1, ?_⟩, h3, h4, h5⟩
  clear hT h1
  induction h2 with
  | nil => exact .nil
  | cons a b c ih => exact .cons a (InQ.short b (hs _ (by simp))) (ih fun t ht => hs t (by simp [ht]))
/-- The terms of the rows. -/
structure RowTs (B : Nat) (w : World) (rr : List RowR) (rts : List (List TmR)) : Prop where
  len : rts.length = rr.length
  at' : ∀ (j : Nat) r ts, rr[j]? = some r → rts[j]? = some ts → OpVB B w r.a ts
theorem OpPrg.rts {B : Nat} {w : World} {p : PrgR} {vr : List VarR} {rr : List RowR} (h : OpPrg B w p vr rr) : ∃ rts, RowTs B w rr rts := by
  have hone : ∀ i, i < rr.length → ∃ ts : List TmR, ∃ r, rr[i]? = some r ∧ OpVB B w r.a ts := by
    intro i hi
    obtain ⟨ts, hts⟩ := (h.ra _ (List.getElem_mem hi)).a
    exact ⟨ts, _, List.getElem?_eq_getElem hi, hts⟩
  obtain ⟨L, h1, h2⟩ := listOf rr.length hone
  refine ⟨L, h1, fun j r ts hr ht => ?_⟩
  obtain ⟨r', e, ho⟩ := h2 j ts ht
  rw [hr] at e; cases e; exact ho
theorem OpVB.inv {B : Nat} {w : World} {r : SlR} {ts : List TmR} (h : OpVB B w r ts) (hB : B ≤ 1099511627776) : ∃ xs, VJ B B w r xs := by
  obtain ⟨xs, h1, h2⟩ := h.op.inv hB (l := B) ⟨h.len, h.sh⟩
  exact ⟨xs, h1, h2⟩
/-- What it says. -/
theorem OpPrg.prg {B : Nat} {w : World} {p : PrgR} {vr : List VarR} {rr : List RowR} (h : OpPrg B w p vr rr) (hB : B ≤ 1099511627776) : ∃ vs rws cost, PrgI B B w p vr rr vs rws cost := by
  have hv : ∀ i, i < vr.length → ∃ x : Rat × Rat × Bool, ∃ v, vr[i]? = some v ∧ InQ B H0 w v.lo x.1 ∧ InQ B H0 w v.hi x.2.1 ∧ v.int = x.2.2 := by
    intro i hi
    have ho := h.va _ (List.getElem_mem hi)
    obtain ⟨q1, h1⟩ := ho.lo.inq hB ho.slo
    obtain ⟨q2, h2⟩ := ho.hi.inq hB ho.shi
    exact ⟨(q1, q2, _), _, List.getElem?_eq_getElem hi, h1, h2, rfl⟩
  have hr : ∀ i, i < rr.length → ∃ x : VL × Int × Rat, ∃ r, rr[i]? = some r ∧ VJ B B w r.a x.1 ∧ r.kind = x.2.1 ∧ InQ B H0 w r.b x.2.2 := by
    intro i hi
    have ho := h.ra _ (List.getElem_mem hi)
    obtain ⟨ts, hts⟩ := ho.a
    obtain ⟨xs, hxs⟩ := hts.inv hB
    obtain ⟨q, hq⟩ := ho.b.inq hB ho.sb
    exact ⟨(xs, _, q), _, List.getElem?_eq_getElem hi, hxs, rfl, hq⟩
  obtain ⟨vs, v1, v2⟩ := listOf vr.length hv
  obtain ⟨rws, r1, r2⟩ := listOf rr.length hr
  obtain ⟨ct, hct⟩ := h.cost
  obtain ⟨cost, hc⟩ := hct.inv hB
  refine ⟨vs, rws, cost, h.vars, v1.symm, fun j v x h1 h2 => ?_, h.rows, r1.symm, fun j r x h1 h2 => ?_, hc⟩
  · obtain ⟨v', e, ho⟩ := v2 j x h2
    rw [h1] at e; cases e; exact ho
  · obtain ⟨r', e, ho⟩ := r2 j x h2
    rw [h1] at e; cases e; exact ho
/-- .. with short numbers. -/
theorem PrgI.short {k l m B : Nat} {w : World} {p : PrgR} {vr : List VarR} {rr : List RowR} {vs : VS} {rws : RWS} {cost : VL} {ct : List TmR} {rts : List (List TmR)} (h : PrgI k l w p vr rr vs rws cost) (hct : Tms w p.cost.a p.cost.n ct) (hrt : RowTs B w rr rts)
    (sc : shs ct m) (sv : ∀ (j : Nat) v, vr[j]? = some v → shQ v.lo m ∧ shQ v.hi m) (sr : ∀ (j : Nat) r ts, rr[j]? = some r → rts[j]? = some ts → shs ts m ∧ shQ r.b m) : PrgI m l w p vr rr vs rws cost := by
  refine ⟨h.vars, h.vlen, fun j v x h1 h2 => ?_, h.rows, h.rlen, fun j r x h1 h2 => ?_, h.cost.inv.short hct sc, h.cost.len⟩
  · obtain ⟨a, b, c⟩ := h.var j v x h1 h2
    obtain ⟨s1, s2⟩ := sv j v h1
    exact ⟨a.short s1, b.short s2, c⟩
  · obtain ⟨a, b, c⟩ := h.row j r x h1 h2
    have hj : j < rts.length := by rw [hrt.len]; exact (List.getElem?_eq_some_iff.1 h1).1
    obtain ⟨s1, s2⟩ := sr j r _ h1 (List.getElem?_eq_getElem hj)
    exact ⟨⟨a.inv.short (hrt.at' j r _ h1 (List.getElem?_eq_getElem hj)).op.tms s1, a.len⟩, b, c.short s2⟩
/-- A vector in the one form with places below n has n terms at most. -/
theorem cn_len {n : Nat} {xs : VL} (hc : Cn xs) (hr : InR n xs) : xs.length ≤ n := by
  have key : ∀ i, i < xs.length → (i : Int) ≤ pl xs i := by
    intro i
    induction i with
    | zero =>
      intro hi
      have := hr _ (List.getElem_mem hi)
      have e : xs[0] = (pl xs 0, xl xs 0) := Option.some.inj ((List.getElem?_eq_getElem hi).symm.trans (vget hi))
      rw [e] at this; exact this.1
    | succ i ih =>
      intro hi
      have h1 := ih (by omega)
      have h2 := List.pairwise_iff_getElem.1 hc.1 i (i + 1) (by omega) hi (Nat.lt_succ_self i)
      have e1 : xs[i] = (pl xs i, xl xs i) := Option.some.inj ((List.getElem?_eq_getElem (by omega)).symm.trans (vget (by omega)))
      have e2 : xs[i + 1] = (pl xs (i + 1), xl xs (i + 1)) := Option.some.inj ((List.getElem?_eq_getElem hi).symm.trans (vget hi))
      rw [e1, e2] at h2
      have h2 : pl xs i < pl xs (i + 1) := h2
      omega
  rcases Nat.lt_or_ge n xs.length with h | h
  · have h1 := key n h
    have h2 := hr _ (List.getElem_mem h)
    have e : xs[n] = (pl xs n, xl xs n) := Option.some.inj ((List.getElem?_eq_getElem h).symm.trans (vget h))
    rw [e] at h2
    have h2 : pl xs n < (n : Int) := h2.2
    omega
  · exact h
theorem inr_within {n : Nat} {xs : VL} (hr : InR n xs) : Within xs n := by
  intro i hi
  have := hr _ (List.getElem_mem hi)
  have e : xs[i] = (pl xs i, xl xs i) := Option.some.inj ((List.getElem?_eq_getElem hi).symm.trans (vget hi))
  rw [e] at this; exact this
/-- What stands at a term's place is the term's number. -/
theorem cn_get {xs : VL} (hc : Cn xs) {i : Nat} (hi : i < xs.length) : getL xs (pl xs i) = xl xs i := by
  have h := hc.1
  clear hc
  induction xs generalizing i with
  | nil => exact absurd hi (Nat.not_lt_zero i)
  | cons t xs ih =>
    obtain ⟨h1, h2⟩ := List.pairwise_cons.1 h
    have none : ∀ q : Int, (∀ s ∈ xs, q ≠ s.1) → getL xs q = 0 := by
      intro q hq
      clear ih h h1 h2 hi
      induction xs with
      | nil => rfl
      | cons s xs ih2 =>
        simp only [getL]
        rw [if_neg (fun e => hq s (by simp) e.symm), ih2 fun s hs => hq s (by simp [hs])]
        grind
    cases i with
    | zero =>
      show (if t.1 = t.1 then t.2 else 0) + getL xs t.1 = t.2
      rw [if_pos rfl, none t.1 (fun s hs => by have := h1 s hs; omega)]
      grind
    | succ i =>
      have hi' : i < xs.length := by simpa using hi
      have e : xs[i] = (pl xs i, xl xs i) := Option.some.inj ((List.getElem?_eq_getElem hi').symm.trans (vget hi'))
      have h3 := h1 _ (List.getElem_mem hi')
      rw [e] at h3
      have h3 : t.1 < pl xs i := h3
      show (if t.1 = pl xs i then t.2 else 0) + getL xs (pl xs i) = xl xs i
      rw [if_neg (by omega), ih hi' h2]
      grind
/-- Which vectors of a program are right. -/
theorem PrgI.right {k l : Nat} {w : World} {p : PrgR} {vr : List VarR} {rr : List RowR} {vs : VS} {rws : RWS} {cost : VL} (h : PrgI k l w p vr rr vs rws cost) (hk : 1 ≤ k ∧ k ≤ 1073741824) (hl : l ≤ 1048576) (N : Int) : ∃ (RC : Bool) (RR : Nat → Bool),
    (∀ w', Ext w w' → CallS Try.prog 50 #[p.cost.v, .int .i64 N] w' fun v w'' => Ext w' w'' ∧ v = .bool RC) ∧
    (∀ (j : Nat) r, rr[j]? = some r → ∀ w', Ext w w' → CallS Try.prog 50 #[r.a.v, .int .i64 N] w' fun v w'' => Ext w' w'' ∧ v = .bool (RR j)) ∧
    (RC = true → VC k l w p.cost cost ∧ InR N.toNat cost) ∧ ∀ (j : Nat) r x, rr[j]? = some r → rws[j]? = some x → RR j = true → VC k l w r.a x.1 ∧ InR N.toNat x.1 := by
  obtain ⟨RC, c1, c2⟩ := right_rawJ h.cost.inv h.cost.len N hk hl
  have hrl := h.rlen
  have hone : ∀ i, i < rr.length → ∃ B : Bool, ∃ r x, rr[i]? = some r ∧ rws[i]? = some x ∧ (∀ w', Ext w w' → CallS Try.prog 50 #[r.a.v, .int .i64 N] w' fun v w'' => Ext w' w'' ∧ v = .bool B) ∧ (B = true → VC k l w r.a x.1 ∧ InR N.toNat x.1) := by
    intro i hi
    have e1 := List.getElem?_eq_getElem hi
    have e2 := List.getElem?_eq_getElem (l := rws) (i := i) (by omega)
    obtain ⟨a, _, _⟩ := h.row i _ _ e1 e2
    obtain ⟨B, b1, b2⟩ := right_rawJ a.inv a.len N hk hl
    exact ⟨B, _, _, e1, e2, b1, b2⟩
  obtain ⟨Bs, e1, e2⟩ := listOf rr.length hone
  have hB : ∀ j, j < rr.length → Bs[j]? = some (Bs.getD j false) := fun j hj => by rw [List.getD_eq_getElem?_getD, List.getElem?_eq_getElem (by omega)]; rfl
  refine ⟨RC, fun j => Bs.getD j false, c1, fun j r hj w' hx => ?_, c2, fun j r x hj hx hR => ?_⟩
  · obtain ⟨r', x', a1, a2, a3, _⟩ := e2 j _ (hB j (List.getElem?_eq_some_iff.1 hj).1)
    rw [hj] at a1; cases a1
    exact a3 w' hx
  · obtain ⟨r', x', a1, a2, _, a4⟩ := e2 j _ (hB j (List.getElem?_eq_some_iff.1 hj).1)
    rw [hj] at a1; cases a1
    rw [hx] at a2; cases a2
    exact a4 hR
end Go.Proofs.Ytlfdobjdlgebbaa
/-
  Contracts of the layer program: the first thing that a point breaks. Helpers; no statement of the program is proved here.
-/
set_option maxRecDepth 100000
set_option linter.unusedSimpArgs false
set_option linter.unusedVariables false
namespace Go.Proofs.Ytlfdobjdlgebbaa
open Go Go.Tw Go.RowKit
attribute [local irreducible] LoadAt StoreOk Stored rawVC

def badV (vs : VS) (qs : List Rat) (j : Nat) : Bool := decide (qs.getD j 0 < (vs.getD j default).1) || decide ((vs.getD j default).2.1 < qs.getD j 0)
def rowQ (rws : RWS) (qs : List Rat) (j : Nat) : Rat := timesQ (rws.getD j default).1 qs (rws.getD j default).1.length
def badR (rws : RWS) (qs : List Rat) (j : Nat) : Bool := (decide ((rws.getD j default).2.2 < rowQ rws qs j) && (decide ((rws.getD j default).2.1 = 1) || decide ((rws.getD j default).2.1 = 2))) || (decide (rowQ rws qs j < (rws.getD j default).2.2) && (decide ((rws.getD j default).2.1 = 3) || decide ((rws.getD j default).2.1 = 2)))
def badI (vs : VS) (qs : List Rat) (j : Nat) : Bool := (vs.getD j default).2.2 && !decide ((qs.getD j 0).den = 1)
def firstAt (p : Nat → Bool) (n : Nat) : Option Nat := (List.range n).find? p
theorem firstAt_some {p : Nat → Bool} {n i : Nat} (h : ∀ j, j < i → p j = false) (hp : p i = true) (hi : i < n) : firstAt p n = some i := by
  unfold firstAt
  rw [List.find?_range_eq_some]
  exact ⟨hp, List.mem_range.2 hi, fun j hj => by rw [h j hj]; rfl⟩
theorem firstAt_none {p : Nat → Bool} {n : Nat} (h : ∀ j, j < n → p j = false) : firstAt p n = none := by
  unfold firstAt
  rw [List.find?_range_eq_none]
  exact fun j hj => by rw [h j hj]; rfl
/-- The first thing that a point breaks. -/
def brokenQ (vs : VS) (rws : RWS) (qs : List Rat) : Int × Int :=
  if qs.length ≠ vs.length then (4, 0) else
  match firstAt (badV vs qs) vs.length with
  | some i => (1, (i : Int))
  | none => match firstAt (badR rws qs) rws.length with
    | some i => (2, (i : Int))
    | none => match firstAt (badI vs qs) vs.length with
      | some i => (3, (i : Int))
      | none => (0, 0)
section
variable {k l : Nat} {w : World} {p : PrgR} {vr : List VarR} {rr : List RowR} {vs : VS} {rws : RWS} {cost : VL}
theorem Broken_ok {rp : SlR} {rs : List RatR} {qs : List Rat} (hP : PrgI k l w p vr rr vs rws cost) (hp : PtI k H0 w rp rs qs) (hk : k ≤ 16777216 ∧ l ≤ 65536 ∧ pK k l ≤ 34359738368 ∧ rp.n ≤ 1099511627776)
    (hn : p.vars.n ≤ 1099511627776 ∧ p.rows.n ≤ 1099511627776) :
    CallS Try.prog 56 #[p.v, rp.v] w fun v w' => Ext w w' ∧ v = .tuple #[.int .i64 (brokenQ vs rws qs).1, .int .i64 (brokenQ vs rws qs).2] := by
  obtain ⟨hk1, hl1, hK, hn40⟩ := hk
  obtain ⟨hn1, hn2⟩ := hn
  have hvn := hP.vars.len
  have hvl := hP.vlen
  have hrn := hP.rows.len
  have hrl := hP.rlen
  have hpl := hp.row.len
  have hql := hp.len
  refine enter ttOk mixed (args := [p.v, rp.v]) Try.func56 rfl (by kernel_rfl) (by kernel_rfl) rfl ?_
  intro b2 w1 hb2
  have x1 := hb2.ext
  have hB1 : Blk w1 b2 tPrg p.cs := hb2.toBlk
  refine ⟨_, hB1.one (off := 0) rfl rfl, ?_⟩
  refine And.intro (fun h1 => ?_) (fun h1 => ?_)
  · have e : brokenQ vs rws qs = (4, 0) := by unfold brokenQ; rw [if_pos (by omega)]
    exact ⟨x1, by rw [e]; rfl⟩
  have hlen : qs.length = vs.length := by omega
  refine ⟨_, hB1.one (off := 0) rfl rfl, ?_⟩
  refine ⟨Nat, fun x => [(1, rp.v), (2, .pointer (some ⟨b2, 0, none⟩)), (20, p.vars.v), (21, .int .i64 (p.vars.n : Int)), (22, .int .i64 (x : Int))],
    fun x w' => Ext w1 w' ∧ x ≤ p.vars.n ∧ ∀ j, j < x → badV vs qs j = false, fun x _ => p.vars.n - x, ⟨0, ⟨rfl, rfl, rfl, rfl, rfl, trivial⟩, Ext.rfl w1, Nat.zero_le _, fun j h => absurd h (Nat.not_lt_zero _)⟩, ?_⟩
  rintro i w3 ⟨hx3, hi, hbv⟩
  have hx03 := Ext.trans' x1 hx3
  refine And.intro (fun h3 => ?_) (fun h3 => ?_)
  · have hin := ltTo h3
    have hg := gr_getD hP.vars hin
    have hgx : vs[i]? = some (vs.getD i default) := by rw [List.getD_eq_getElem?_getD, List.getElem?_eq_getElem (by omega)]; rfl
    have hgp := gr_getD hp.row (j := i) (by omega)
    have hgq : qs[i]? = some (qs.getD i 0) := by rw [List.getD_eq_getElem?_getD, List.getElem?_eq_getElem (by omega)]; rfl
    have hxq := hp.at' i _ _ hgp hgq
    obtain ⟨hlo, hhi, _⟩ := hP.var i _ _ hg hgx
    refine ⟨i, ⟨rfl, hin, hP.vars.base (by omega)⟩, _, (hP.vars.ext hx03).load hg rfl rfl, ?_⟩
    intro b5 w4 hb5
    have st := storeE (T := tt) (ty := tVar) (vr.getD i default) hb5.toBlk rfl
    refine ⟨st.1, fun w5 hs5 => ?_⟩
    obtain ⟨hB5, hg5⟩ := st.2 w5 hs5
    have hx35 : Ext w3 w5 := Ext.grownB hb5.ext hg5 (hb5.ge (Ext.rfl w3))
    have hx05 := Ext.trans' hx03 hx35
    have hpx := hp.row.ext hx05
    refine ⟨sq 18, by kernel_rfl, i, ⟨rfl, by omega, hpx.base (by omega)⟩, _, hpx.load hgp rfl rfl, (vr.getD i default).lo.v, hB5.agg (sub := rcs (vr.getD i default).lo) rfl rfl, ?_⟩
    refine dcallV (.int .i64 (cmpQ (qs.getD i 0) (vs.getD i default).1)) (fun w' hw hF => RCmp_ok (H0.hb w') ((hxq.ext (Ext.trans' hx05 hw)).mono (by omega)) ((hlo.ext (Ext.trans' hx05 hw)).mono (by omega))) ?_
    have bad : badV vs qs i = true → ∀ w', Ext w5 w' → (Ext w w' ∧ oneOrTuple ([] ++ [Value.int IntKind.i64 1] ++ [Value.int IntKind.i64 (i : Int)]) = .tuple #[.int .i64 (brokenQ vs rws qs).1, .int .i64 (brokenQ vs rws qs).2]) := by
      intro hb w' hx'
      have e : brokenQ vs rws qs = (1, (i : Int)) := by
        unfold brokenQ
        rw [if_neg (by omega), firstAt_some hbv hb (by omega)]
      exact ⟨Ext.trans' hx05 hx', by rw [e]; rfl⟩
    refine And.intro (fun h4 => ?_) (fun h4 => ?_)
    · intro w6 hx6 _
      exact bad (by have h5 := cmpQ_neg.1 h4; simp only [badV, h5, decide_true, Bool.true_or]) w6 hx6
    · refine ⟨i, ⟨rfl, by omega, hpx.base (by omega)⟩, _, hpx.load hgp rfl rfl, (vr.getD i default).hi.v, hB5.agg (sub := rcs (vr.getD i default).hi) rfl rfl, ?_⟩
      refine dcallV (.int .i64 (cmpQ (qs.getD i 0) (vs.getD i default).2.1)) (fun w' hw hF => RCmp_ok (H0.hb w') ((hxq.ext (Ext.trans' hx05 hw)).mono (by omega)) ((hhi.ext (Ext.trans' hx05 hw)).mono (by omega))) ?_
      refine And.intro (fun h5 => ?_) (fun h5 => ?_)
      · intro w6 hx6 _
        exact bad (by have h6 := cmpQ_pos.1 h5; simp only [badV, h6, decide_true, Bool.or_true]) w6 hx6
      · intro w6 hx6 _
        refine ⟨((i + 1 : Nat) : Int), sucI i (by omega), i + 1, ⟨rfl, rfl, rfl, rfl, rfl, trivial⟩, ⟨Ext.trans' (Ext.trans' hx3 hx35) hx6, hin, fun j hj => ?_⟩, Nat.sub_lt_sub_left hin (Nat.lt_succ_self i)⟩
        rcases Nat.lt_or_eq_of_le (Nat.le_of_lt_succ hj) with h | h
        · exact hbv j h
        · subst h
          have h6 : ¬ qs.getD j 0 < (vs.getD j default).1 := fun h => h4 (cmpQ_neg.2 h)
          have h7 : ¬ (vs.getD j default).2.1 < qs.getD j 0 := fun h => h5 (cmpQ_pos.2 h)
          simp only [badV, h6, h7, decide_false, Bool.or_self]
  · have hi' : i = p.vars.n := Nat.le_antisymm hi (geTo h3)
    have nV : firstAt (badV vs qs) vs.length = none := firstAt_none (fun j hj => hbv j (by omega))
    have hB3 := hB1.ext hx3
    refine ⟨_, hB3.one (off := 1) rfl rfl, ?_⟩
    refine ⟨Nat, fun x => [(1, rp.v), (2, .pointer (some ⟨b2, 0, none⟩)), (48, p.rows.v), (49, .int .i64 (p.rows.n : Int)), (50, .int .i64 (x : Int))],
      fun x w' => Ext w1 w' ∧ x ≤ p.rows.n ∧ ∀ j, j < x → badR rws qs j = false, fun x _ => p.rows.n - x, ⟨0, ⟨rfl, rfl, rfl, rfl, rfl, trivial⟩, hx3, Nat.zero_le _, fun j h => absurd h (Nat.not_lt_zero _)⟩, ?_⟩
    rintro q w4 ⟨hx4, hq, hbr⟩
    have hx04 := Ext.trans' x1 hx4
    refine And.intro (fun h4 => ?_) (fun h4 => ?_)
    · have hqn := ltTo h4
      have hg := gr_getD hP.rows hqn
      have hgx : rws[q]? = some (rws.getD q default) := by rw [List.getD_eq_getElem?_getD, List.getElem?_eq_getElem (by omega)]; rfl
      obtain ⟨hra, hrk, hrb⟩ := hP.row q _ _ hg hgx
      refine ⟨q, ⟨rfl, hqn, hP.rows.base (by omega)⟩, _, (hP.rows.ext hx04).load hg rfl rfl, ?_⟩
      intro b7 w5 hb7
      have st := storeE (T := tt) (ty := tRow) (rr.getD q default) hb7.toBlk rfl
      refine ⟨st.1, fun w6 hs6 => ?_⟩
      obtain ⟨hB6, hg6⟩ := st.2 w6 hs6
      have hx46 : Ext w4 w6 := Ext.grownB hb7.ext hg6 (hb7.ge (Ext.rfl w4))
      have hx06 := Ext.trans' hx04 hx46
      refine ⟨sq 8, by kernel_rfl, (rr.getD q default).a.v, hB6.one (off := 0) rfl rfl, ?_⟩
      refine dcallR (mk := RatR.v) (Q := fun r' w' => CanQ H0 w' r' (rowQ rws qs q) ∧ FitQ (pK k l) (rowQ rws qs q)) RatR.inj (fun _ => fun _ _ h e => ⟨h.1.ext e, h.2⟩) (fun w' hw hF => CallS.mono (ptimes_ok (H0.hb w') (hra.inv.ext (Ext.trans' hx06 hw)) (hp.ext (Ext.trans' hx06 hw)) hra.len ⟨hk1, hl1, hK, hn40⟩) (fun v' w'' h => ⟨h.1, h.2.elim fun r hr => ⟨r, hr.1, hr.2⟩⟩)) ?_
      intro rt
      refine ⟨(rr.getD q default).b.v, hB6.agg (sub := rcs (rr.getD q default).b) rfl rfl, ?_⟩
      refine dcallV (.int .i64 (cmpQ (rowQ rws qs q) (rws.getD q default).2.2)) (fun w' hw hF => RCmp_ok (H0.hb w') (hF.1.1.inq (hF.1.2.mono (by omega)) (by omega)) ((hrb.ext (Ext.trans' hx06 hw)).mono (by omega))) ?_
      intro w7 hx7 _
      have hB7 := hB6.ext hx7
      have x7 := Ext.trans' hx06 hx7
      have hgo : badR rws qs q = false → ∀ w', Ext w7 w' → (Ext w1 w' ∧ q + 1 ≤ p.rows.n ∧ ∀ j, j < q + 1 → badR rws qs j = false) := by
        intro hb w' hx'
        refine ⟨Ext.trans' (Ext.trans' (Ext.trans' hx4 hx46) hx7) hx', hqn, fun j hj => ?_⟩
        rcases Nat.lt_or_eq_of_le (Nat.le_of_lt_succ hj) with h | h
        · exact hbr j h
        · subst h; exact hb
      have bad : badR rws qs q = true → ∀ w', Ext w7 w' → (Ext w w' ∧ oneOrTuple ([] ++ [Value.int IntKind.i64 2] ++ [Value.int IntKind.i64 (q : Int)]) = .tuple #[.int .i64 (brokenQ vs rws qs).1, .int .i64 (brokenQ vs rws qs).2]) := by
        intro hb w' hx'
        have e : brokenQ vs rws qs = (2, (q : Int)) := by
          unfold brokenQ
          rw [if_neg (by omega), nV, firstAt_some hbr hb (by omega)]
        exact ⟨Ext.trans' x7 hx', by rw [e]; rfl⟩
      have dgt : decide ((rws.getD q default).2.2 < rowQ rws qs q) = decide (cmpQ (rowQ rws qs q) (rws.getD q default).2.2 > 0) := decide_eq_decide.2 cmpQ_pos.symm
      have dlt : decide (rowQ rws qs q < (rws.getD q default).2.2) = decide (cmpQ (rowQ rws qs q) (rws.getD q default).2.2 < 0) := decide_eq_decide.2 cmpQ_neg.symm
      have eb : badR rws qs q = ((decide (cmpQ (rowQ rws qs q) (rws.getD q default).2.2 > 0) && (decide ((rr.getD q default).kind = 1) || decide ((rr.getD q default).kind = 2))) || (decide (cmpQ (rowQ rws qs q) (rws.getD q default).2.2 < 0) && (decide ((rr.getD q default).kind = 3) || decide ((rr.getD q default).kind = 2)))) := by
        unfold badR; rw [dgt, dlt, hrk]
      refine And.intro (fun h5 => ?_) (fun h5 => ?_)
      · have d5 := decide_eq_true h5
        refine ⟨_, hB7.one (off := 1) rfl rfl, ?_⟩
        refine And.intro (fun h6 => ?_) (fun h6 => ?_)
        · exact bad (by rw [eb, d5, decide_eq_true h6]; rfl) w7 (Ext.rfl w7)
        · refine ⟨_, hB7.one (off := 1) rfl rfl, ?_⟩
          refine And.intro (fun h7 => ?_) (fun h7 => ?_)
          · exact bad (by rw [eb, d5, decide_eq_true h7, Bool.or_true]; rfl) w7 (Ext.rfl w7)
          · refine And.intro (fun h8 => absurd h5 (by omega)) (fun h8 => ?_)
            refine ⟨((q + 1 : Nat) : Int), sucI q (by omega), q + 1, ⟨rfl, rfl, rfl, rfl, rfl, trivial⟩, hgo (by rw [eb, decide_eq_false h6, decide_eq_false h7, decide_eq_false h8, Bool.or_self, Bool.and_false, Bool.false_and, Bool.or_self]) w7 (Ext.rfl w7), Nat.sub_lt_sub_left hqn (Nat.lt_succ_self q)⟩
      · have d5 := decide_eq_false h5
        refine And.intro (fun h8 => ?_) (fun h8 => ?_)
        · have d8 := decide_eq_true h8
          refine ⟨_, hB7.one (off := 1) rfl rfl, ?_⟩
          refine And.intro (fun h6 => ?_) (fun h6 => ?_)
          · exact bad (by rw [eb, d5, d8, decide_eq_true h6, Bool.false_and]; rfl) w7 (Ext.rfl w7)
          · refine ⟨_, hB7.one (off := 1) rfl rfl, ?_⟩
            refine And.intro (fun h7 => ?_) (fun h7 => ?_)
            · exact bad (by rw [eb, d5, d8, decide_eq_true h7, Bool.false_and, Bool.or_true]; rfl) w7 (Ext.rfl w7)
            · refine ⟨((q + 1 : Nat) : Int), sucI q (by omega), q + 1, ⟨rfl, rfl, rfl, rfl, rfl, trivial⟩, hgo (by rw [eb, d5, decide_eq_false h6, decide_eq_false h7, Bool.or_self, Bool.and_false, Bool.false_and, Bool.or_self]) w7 (Ext.rfl w7), Nat.sub_lt_sub_left hqn (Nat.lt_succ_self q)⟩
        · refine ⟨((q + 1 : Nat) : Int), sucI q (by omega), q + 1, ⟨rfl, rfl, rfl, rfl, rfl, trivial⟩, hgo (by rw [eb, d5, decide_eq_false h8, Bool.false_and, Bool.false_and, Bool.or_self]) w7 (Ext.rfl w7), Nat.sub_lt_sub_left hqn (Nat.lt_succ_self q)⟩
    · have hq' : q = p.rows.n := Nat.le_antisymm hq (geTo h4)
      have nR : firstAt (badR rws qs) rws.length = none := firstAt_none (fun j hj => hbr j (by omega))
      have hB4 := hB1.ext hx4
      refine ⟨_, hB4.one (off := 0) rfl rfl, ?_⟩
      refine ⟨Nat, fun x => [(1, rp.v), (2, .pointer (some ⟨b2, 0, none⟩)), (91, p.vars.v), (92, .int .i64 (p.vars.n : Int)), (93, .int .i64 (x : Int))],
        fun x w' => Ext w1 w' ∧ x ≤ p.vars.n ∧ ∀ j, j < x → badI vs qs j = false, fun x _ => p.vars.n - x, ⟨0, ⟨rfl, rfl, rfl, rfl, rfl, trivial⟩, hx4, Nat.zero_le _, fun j h => absurd h (Nat.not_lt_zero _)⟩, ?_⟩
      rintro t w5 ⟨hx5, ht, hbi⟩
      have hx05 := Ext.trans' x1 hx5
      refine And.intro (fun h5 => ?_) (fun h5 => ?_)
      · have htn := ltTo h5
        have hg := gr_getD hP.vars htn
        have hgx : vs[t]? = some (vs.getD t default) := by rw [List.getD_eq_getElem?_getD, List.getElem?_eq_getElem (by omega)]; rfl
        have hgp := gr_getD hp.row (j := t) (by omega)
        have hgq : qs[t]? = some (qs.getD t 0) := by rw [List.getD_eq_getElem?_getD, List.getElem?_eq_getElem (by omega)]; rfl
        have hxq := hp.at' t _ _ hgp hgq
        obtain ⟨_, _, hint⟩ := hP.var t _ _ hg hgx
        refine ⟨t, ⟨rfl, htn, hP.vars.base (by omega)⟩, _, (hP.vars.ext hx05).load hg rfl rfl, ?_⟩
        intro b7 w6 hb7
        have st := storeE (T := tt) (ty := tVar) (vr.getD t default) hb7.toBlk rfl
        refine ⟨st.1, fun w7 hs7 => ?_⟩
        obtain ⟨hB7, hg7⟩ := st.2 w7 hs7
        have hx57 : Ext w5 w7 := Ext.grownB hb7.ext hg7 (hb7.ge (Ext.rfl w5))
        have hx07 := Ext.trans' hx05 hx57
        have hpx := hp.row.ext hx07
        have hgo : badI vs qs t = false → ∀ w', Ext w7 w' → (Ext w1 w' ∧ t + 1 ≤ p.vars.n ∧ ∀ j, j < t + 1 → badI vs qs j = false) := by
          intro hb w' hx'
          refine ⟨Ext.trans' (Ext.trans' hx5 hx57) hx', htn, fun j hj => ?_⟩
          rcases Nat.lt_or_eq_of_le (Nat.le_of_lt_succ hj) with h | h
          · exact hbi j h
          · subst h; exact hb
        refine ⟨_, hB7.one (off := 8) rfl rfl, ?_⟩
        cases hib : (vr.getD t default).int with
        | false =>
          have eb : badI vs qs t = false := by unfold badI; rw [← hint, hib, Bool.false_and]
          exact ⟨((t + 1 : Nat) : Int), sucI t (by omega), t + 1, ⟨rfl, rfl, rfl, rfl, rfl, trivial⟩, hgo eb w7 (Ext.rfl w7), Nat.sub_lt_sub_left htn (Nat.lt_succ_self t)⟩
        | true =>
          refine ⟨t, ⟨rfl, by omega, hpx.base (by omega)⟩, _, hpx.load hgp rfl rfl, ?_⟩
          refine CallS.mono (RIsWhole_ok (H0.hb w7) (hxq.ext hx07).is) ?_
          rintro _ w8 ⟨hx8, rfl⟩
          cases hd : decide ((qs.getD t 0).den = 1) with
          | true =>
            have eb : badI vs qs t = false := by unfold badI; rw [hd, Bool.not_true, Bool.and_false]
            exact ⟨((t + 1 : Nat) : Int), sucI t (by omega), t + 1, ⟨rfl, rfl, rfl, rfl, rfl, trivial⟩, hgo eb w8 hx8, Nat.sub_lt_sub_left htn (Nat.lt_succ_self t)⟩
          | false =>
            have eb : badI vs qs t = true := by unfold badI; rw [← hint, hib, hd]; rfl
            have e : brokenQ vs rws qs = (3, (t : Int)) := by
              unfold brokenQ
              rw [if_neg (by omega), nV, nR, firstAt_some hbi eb (by omega)]
            exact ⟨Ext.trans' hx07 hx8, by rw [e]; rfl⟩
      · have e : brokenQ vs rws qs = (0, 0) := by
          have ht' : t = p.vars.n := Nat.le_antisymm ht (geTo h5)
          unfold brokenQ
          rw [if_neg (by omega), nV, nR, firstAt_none (fun j hj => hbi j (by omega))]
        exact ⟨hx05, by rw [e]; rfl⟩
end
end Go.Proofs.Ytlfdobjdlgebbaa
/-
  Contracts of the layer program: one more variable of a form. Helpers; no statement of the program is proved here.
-/
set_option maxRecDepth 100000
set_option linter.unusedSimpArgs false
set_option linter.unusedVariables false
namespace Go.Proofs.Ytlfdobjdlgebbaa
open Go Go.Tw Go.RowKit
attribute [local irreducible] LoadAt StoreOk Stored rawVC

section
variable {k K base fb : Nat} {H : Hd} {w : World} {s : FS} {L U C B : List Rat} {X : List VL}
theorem Side_ok {m : Int} {rl rh rc : RatR} {ql qh qc : Rat} (hF : FI k H base w s L U C B X) (hB : Blk w fb tFrm (s.form m).cs) (hf : H fb) (hbase : base ≤ w.heap.size)
    (hl : InQ K (gH H s.ss) w rl ql) (hh : InQ K (gH H s.ss) w rh qh) (hc : CanQ (gH H s.ss) w rc qc) (hn : s.los.length < 1048576 ∧ s.his.length < 1048576 ∧ s.costs.length < 1048576) :
    CallS Try.prog 63 #[rl.v, rh.v, rc.v, .pointer (some ⟨fb, 0, none⟩)] w fun v w' => v = .tuple #[] ∧ KH base H fb w w' ∧
      ∃ s' : FS, Blk w' fb tFrm (s'.form m).cs ∧ FI k H base w' s' (L ++ [ql]) (U ++ [qh]) (C ++ [qc]) B X ∧ (s'.b = s.b ∧ s'.bs = s.bs) ∧ (s'.cols = s.cols ∧ s'.cs = s.cs ∧ s'.cv = s.cv ∧ s'.ts = s.ts) := by
  obtain ⟨hn1, hn2, hn3⟩ := hn
  refine enter ttOk mixed (args := [rl.v, rh.v, rc.v, .pointer (some ⟨fb, 0, none⟩)]) Try.func63 rfl (by kernel_rfl) (by kernel_rfl) rfl ?_
  intro b4 w1 hb4 b5 w2 hb5 b6 w3 hb6
  have x1 := hb4.ext
  have x2 := hb5.extFrom x1
  have x3 := hb6.extFrom x2
  have hB4 : Blk w3 b4 tRat (rcs rl) := hb4.toBlk.ext (Ext.trans' hb5.ext hb6.ext)
  have hB5 : Blk w3 b5 tRat (rcs rh) := hb5.toBlk.ext hb6.ext
  have hB6 : Blk w3 b6 tRat (rcs rc) := hb6.toBlk
  have hF3 : FI k (upH H w w3) base w3 s L U C B X := hF.to (hF.hb.up x3) upTo x3
  have hB3 := hB.ext x3
  have u5 : upH H w w3 b5 := hb5.inUp x1 hb6.ext
  have u6 : upH H w w3 b6 := hb6.inUp x2 (Ext.rfl w3)
  have uf : upH H w w3 fb := .inl hf
  have toU : ∀ b, gH (upH H w w3) s.ss b → gH H s.ss b ∨ w.heap.size ≤ b := gH_to upTo
  have hl3 := (hl.to toU).ext x3
  have hh3 := (hh.to toU).ext x3
  have hc3 := (hc.to toU).ext x3
  have i0 : s.ss[0]? = some s.lo := rfl
  have i1 : s.ss[1]? = some s.hi := rfl
  have i2 : s.ss[2]? = some s.cost := rfl
  refine ⟨[(0, false), (1, false), (2, false), (6, false), (7, true), (8, true), (12, false), (13, true), (14, true), (3, false), (4, false), (5, true), (9, false), (10, false), (11, true), (15, false), (16, true), (17, false), (18, false), (19, false), (20, false), (21, false), (22, false)], by kernel_rfl, ?_⟩
  refine ⟨s.lo.v, hB3.one (off := 2) rfl rfl, rl.v, loadQ hB4, s.hi.v, fun w' hw _ => (hB3.ext hw).one (off := 3) rfl rfl, rh.v, fun w' hw _ => loadQ (hB5.ext hw), s.cost.v, fun w' hw _ => (hB3.ext hw).one (off := 4) rfl rfl, rc.v, fun w' hw _ => loadQ (hB6.ext hw), ?_⟩
  refine dcallR (mk := RatR.v) (Q := fun r' w' => CanQ (gH (upH H w w3) s.ss) w' r' ql) RatR.inj (fun _ => CanQ.stable) (fun w' hw hF => Norm_ok (HB.ext hF3.hbs hw) (hl3.ext hw).is) ?_
  intro r1
  intro b11 _
  intro w7 hx7 hF7
  have hF7' := hF3.ext hx7
  have hB11 : Blk w7 b11 tRat (rcs r1) := hF7.1.1
  refine ⟨rfl, base, s.los.length, gcs s.los, rcs r1, ⟨hF7'.gd.own 0 _ _ rfl rfl, rfl, ?_, ?_, fun _ => ⟨_, rfl, rfl⟩, by omega, by show (s.los.length + 1) * 64 ≤ _; omega, Nat.le_trans hbase (Nat.le_trans x3.size hx7.size)⟩, ?_⟩
  · intro q v hq
    exact hB11.cell (i := 0 + q) (v := v) (by rw [Nat.zero_add]; exact hq)
  · exact Enc.one r1
  intro v8 w8 ho8 hg8 hn8
  obtain ⟨lo', rfl, hF8⟩ := hF7'.pushLo ho8 hg8 hn8 hF7.2.1
  have k38 : KeptNew w3 w7 w8 := FI.new hF3.gd i0 hg8
  have hB8 := hF7'.blk i0 hg8 (hB3.ext hx7) (.inr uf)
  have hB58 := hF7'.blk i0 hg8 (hB5.ext hx7) (.inr u5)
  have hB68 := hF7'.blk i0 hg8 (hB6.ext hx7) (.inr u6)
  refine ⟨⟨k38, ⟨?_, hF7.1.2⟩, hF7.2.1.grow hg8 (fun b e => .inr ⟨s.lo, List.mem_of_getElem? i0, e⟩), loadQ hB68, hB8.one (off := 4) rfl rfl, loadQ hB58, hB8.one (off := 3) rfl rfl, trivial⟩, ?_⟩
  · show w8.heap[b11]? = _
    rw [k38.blk b11 hF7.1.2 hB11.lt]; exact hF7.1.1
  have hh8 := inQ_set i0 hg8 hn8 (hh3.ext hx7)
  refine dcallR (mk := RatR.v) (Q := fun r' w' => CanQ (gH (upH H w w3) (s.ss.set 0 lo')) w' r' qh) RatR.inj (fun _ => CanQ.stable) (fun w' hw hF => Norm_ok (HB.ext hF8.hbs hw) (hh8.ext hw).is) ?_
  intro r2
  intro b17 _
  intro w9 hx9 hF9
  have hF9' := hF8.ext hx9
  have hB17 : Blk w9 b17 tRat (rcs r2) := hF9.1.1
  have hB11' : Blk w9 b11 tRat (rcs r1) := hF9.2.2.1.1
  refine ⟨rfl, base, s.his.length, gcs s.his, rcs r2, ⟨hF9'.gd.own 1 _ _ rfl rfl, rfl, ?_, ?_, fun _ => ⟨_, rfl, rfl⟩, by omega, by show (s.his.length + 1) * 64 ≤ _; omega, Nat.le_trans hbase (Nat.le_trans (Nat.le_trans x3.size hx7.size) (Nat.le_trans hg8.size hx9.size))⟩, ?_⟩
  · intro q v hq
    exact hB17.cell (i := 0 + q) (v := v) (by rw [Nat.zero_add]; exact hq)
  · exact Enc.one r2
  intro v10 w10 ho10 hg10 hn10
  obtain ⟨hi', rfl, hF10⟩ := hF9'.pushHi ho10 hg10 hn10 hF9.2.1
  have k10 : KeptNew w3 w9 w10 := FI.new hF3.gd i1 hg10
  have j1 : (s.ss.set 0 lo')[1]? = some s.hi := rfl
  have hB10 := hF9'.blk j1 hg10 (hB8.ext hx9) (.inr uf)
  have hB510 := hF9'.blk j1 hg10 (hB58.ext hx9) (.inr u5)
  have hB610 := hF9'.blk j1 hg10 (hB68.ext hx9) (.inr u6)
  have g1 : ∀ b, s.hi.v.ownBlock = some b → gH (upH H w w3) s.ss b := fun b e => .inr ⟨s.hi, List.mem_of_getElem? i1, e⟩
  have g1' : ∀ b, s.hi.v.ownBlock = some b → gH (upH H w w3) (s.ss.set 0 lo') b := fun b e => .inr ⟨s.hi, List.mem_of_getElem? j1, e⟩
  refine ⟨⟨k10, ⟨?_, hF9.1.2⟩, hF9.2.1.grow hg10 g1', ⟨?_, hF9.2.2.1.2⟩, hF9.2.2.2.1.grow hg10 g1, loadQ hB610, hB10.one (off := 4) rfl rfl, loadQ hB510, hB10.one (off := 3) rfl rfl, trivial⟩, ?_⟩
  · show w10.heap[b17]? = _
    rw [k10.blk b17 hF9.1.2 hB17.lt]; exact hF9.1.1
  · show w10.heap[b11]? = _
    rw [k10.blk b11 hF9.2.2.1.2 hB11'.lt]; exact hF9.2.2.1.1
  intro b22 _
  intro w11 hx11 hF11
  have hF11' := hF10.ext hx11
  have hB22 : Blk w11 b22 tRat (rcs rc) := hF11.1.1
  have hB17' : Blk w11 b17 tRat (rcs r2) := hF11.2.1.1
  have hB11'' : Blk w11 b11 tRat (rcs r1) := hF11.2.2.2.1.1
  have hc11 := (canQ_set j1 hg10 hn10 ((canQ_set i0 hg8 hn8 (hc3.ext hx7)).ext hx9)).ext hx11
  have hsz : base ≤ w11.heap.size := Nat.le_trans hbase (Nat.le_trans (Nat.le_trans x3.size hx7.size) (Nat.le_trans (Nat.le_trans hg8.size hx9.size) (Nat.le_trans hg10.size hx11.size)))
  refine ⟨rfl, base, s.costs.length, gcs s.costs, rcs rc, ⟨hF11'.gd.own 2 _ _ rfl rfl, rfl, ?_, ?_, fun _ => ⟨_, rfl, rfl⟩, by omega, by show (s.costs.length + 1) * 64 ≤ _; omega, hsz⟩, ?_⟩
  · intro q v hq
    exact hB22.cell (i := 0 + q) (v := v) (by rw [Nat.zero_add]; exact hq)
  · exact Enc.one rc
  intro v12 w12 ho12 hg12 hn12
  obtain ⟨cost', rfl, hF12⟩ := hF11'.pushCost ho12 hg12 hn12 hc11
  have k12 : KeptNew w3 w11 w12 := FI.new hF3.gd i2 hg12
  have j2 : ((s.ss.set 0 lo').set 1 hi')[2]? = some s.cost := rfl
  have hB12 := hF11'.blk j2 hg12 (hB10.ext hx11) (.inr uf)
  have hB512 := hF11'.blk j2 hg12 (hB510.ext hx11) (.inr u5)
  have hB612 := hF11'.blk j2 hg12 (hB610.ext hx11) (.inr u6)
  refine ⟨⟨k12, ⟨?_, hF11.1.2⟩, ⟨?_, hF11.2.1.2⟩, hF11.2.2.1.grow hg12 (fun b e => .inr ⟨s.cost, List.mem_of_getElem? (i := 2) rfl, e⟩), ⟨?_, hF11.2.2.2.1.2⟩, hF11.2.2.2.2.1.grow hg12 (fun b e => .inr ⟨s.cost, List.mem_of_getElem? i2, e⟩), loadQ hB612, hB12.one (off := 4) rfl rfl, loadQ hB512, hB12.one (off := 3) rfl rfl, trivial⟩, ?_⟩
  · show w12.heap[b22]? = _
    rw [k12.blk b22 hF11.1.2 hB22.lt]; exact hF11.1.1
  · show w12.heap[b17]? = _
    rw [k12.blk b17 hF11.2.1.2 hB17'.lt]; exact hF11.2.1.1
  · show w12.heap[b11]? = _
    rw [k12.blk b11 hF11.2.2.2.1.2 hB11''.lt]; exact hF11.2.2.2.1.1
  intro w13 hx13 _
  have s1 := storeF (i := 1) (v := lo') (hB12.ext hx13) (by decide)
  refine ⟨s1.1, fun w14 hs14 => ?_⟩
  obtain ⟨hB14, hg14⟩ := s1.2 w14 hs14
  intro w15 hx15 _
  have s2 := storeF (f := ⟨m, s.cols, lo', s.hi, s.cost, s.b⟩) (i := 2) (v := hi') (hB14.ext hx15) (by decide)
  refine ⟨s2.1, fun w16 hs16 => ?_⟩
  obtain ⟨hB16, hg16⟩ := s2.2 w16 hs16
  intro w17 hx17 _
  have s3 := storeF (f := ⟨m, s.cols, lo', hi', s.cost, s.b⟩) (i := 3) (v := cost') (hB16.ext hx17) (by decide)
  refine ⟨s3.1, fun w18 hs18 => ?_⟩
  obtain ⟨hB18, hg18⟩ := s3.2 w18 hs18
  intro w19 hx19 _
  have hE := ((((((hF12.ext hx13).at' hg14 uf).ext hx15).at' hg16 uf).ext hx17).at' hg18 uf).ext hx19
  have hs19 : w.heap.size ≤ w19.heap.size := by
    have a1 := x3.size; have a2 := hx7.size; have a3 := hg8.size; have a4 := hx9.size; have a5 := hg10.size; have a6 := hx11.size; have a7 := hg12.size; have a8 := hx13.size
    have a9 := hg14.size; have c1 := hx15.size; have c2 := hg16.size; have c3 := hx17.size; have c4 := hg18.size; have c5 := hx19.size
    omega
  have kh3 : KH base (upH H w w3) fb w3 w19 :=
    (KH.ofExt hx7).trans <| (KH.row hF7' i0 hg8).trans <| (KH.ofExt hx9).trans <| (KH.row hF9' j1 hg10).trans <| (KH.ofExt hx11).trans <| (KH.row hF11' j2 hg12).trans <| (KH.ofExt hx13).trans <| (KH.at5 hg14).trans <| (KH.ofExt hx15).trans <| (KH.at5 hg16).trans <| (KH.ofExt hx17).trans <| (KH.at5 hg18).trans (KH.ofExt hx19)
  refine ⟨rfl, (KH.ofExt x3).trans (kh3.mono fun c hc => .inl hc), _, ?_, hE.to (hbGrow hF.hb hs19) (fun b hb => .inl (.inl hb)) (Ext.rfl w19), ⟨rfl, rfl⟩, rfl, rfl, rfl, rfl⟩
  exact hB18.ext hx19
end
end Go.Proofs.Ytlfdobjdlgebbaa
