/-
  The watch of the layer matrix: its own example. Helpers; no statement of the program is proved here.
-/
import Derived.Test.YtpgagepleffjlaaKC
set_option maxRecDepth 100000
set_option linter.unusedSimpArgs false
set_option linter.unusedVariables false
namespace Go.Proofs.Ytpgagepleffjlaa
open Go Go.Tw Go.RowKit
attribute [local irreducible] LoadAt StoreOk Stored rawVC


theorem VC.map {k l k' l' : Nat} {w : World} {r : SlR} {xs : VL} (h : VC k l w r xs) (hk : k ≤ k') (hl : l ≤ l') : VC k' l' w r xs := ⟨h.can.mono hk, h.cn, Nat.le_trans h.len hl⟩
theorem Vs.vi {k l : Nat} {w : World} {a : Option Addr} {n : Nat} {rs : List SlR} {xss : List VL} (h : Vs (VC k l) w a n rs xss) (hk : k ≤ 1099511627776) : Vs (VI k l) w a n rs xss := Vs.map (fun h => h.vi hk) h
theorem rightVC_at {k l : Nat} {w : World} {r : SlR} {xs : VL} (h : VC k l w r xs) (N : Int) (hk : k ≤ 1099511627776 ∧ l ≤ 1099511627776) :
    CallS Try.prog 47 #[r.v, .int .i64 N] w fun v w' => Ext w w' ∧ v = .bool (rightL N (-1) (prB xs)) := by
  have hlen := h.can.len
  have hl := h.len
  obtain ⟨⟨⟨ts, hT, hC⟩, _⟩, _⟩ := h
  refine Right_ok (prB xs) hT (by omega) (by unfold prB; rw [List.length_map, hC.length]) ?_
  intro j t p hj hp
  have hjl : j < xs.length := by
    rcases Nat.lt_or_ge j xs.length with h' | h'
    · exact h'
    · rw [List.getElem?_eq_none (by rw [hC.length]; exact h')] at hj; cases hj
  obtain ⟨t', ht', hat, hq, hf⟩ := tsCan_get hC (vget hjl)
  rw [hj] at ht'; cases ht'
  have e : p = (pl xs j, !decide (xl xs j = 0)) := by
    unfold prB at hp
    rw [List.getElem?_map, vget hjl] at hp
    exact (Option.some.inj hp).symm
  subst e
  refine ⟨hat, fun w' hx => ?_⟩
  refine CallS.mono (formedC_at ((QC.mk hq hf).ext hx) hk.1) ?_
  rintro _ w2 ⟨hx2, rfl⟩
  refine ⟨hx2, ?_⟩
  by_cases h0 : xl xs j = 0 <;> simp [h0]
def colsL : List VL := [[((0), Rat.divInt (1) 1), ((1), Rat.divInt (2) 1)], [((1), Rat.divInt (3) 1)]]
theorem vs2 {k l : Nat} {w w' : World} {r s : SlR} {xs ys : VL} {b : Nat} (hb : New w w' b tV (svs [r, s])) (hr : VC k l w r xs) (hs : VC k l w s ys) : Vs (VC k l) w' (some ⟨b, 0, none⟩) 2 [r, s] [xs, ys] := by
  have hB : Blk w' b tV (svs [r, s] ++ []) := by rw [List.append_nil]; exact hb.toBlk
  refine ⟨Ones.blk hB, rfl, fun j r' xs' h1 h2 => ?_⟩
  match j, h1, h2 with
  | 0, h1, h2 => cases h1; cases h2; exact hr.ext hb.ext
  | 1, h1, h2 => cases h1; cases h2; exact hs.ext hb.ext
  | j + 2, h1, h2 => simp at h1
theorem cols_at (w0 : World) : CallS Try.prog 37 #[] w0 fun v w' => Ext w0 w' ∧ ∃ b rs, v = .slice (some ⟨b, 0, none⟩) 2 2 ∧ Vs (VC 1 2) w' (some ⟨b, 0, none⟩) 2 rs colsL := by
  refine enter ttOk mixed (args := []) Try.func37 rfl (by kernel_rfl) (by kernel_rfl) rfl ?_
  refine CallS.mono (term6_at (0) (1) (by decide) (fit1 (by kernel_rfl))) ?_
  rintro _ w1 ⟨x1, ta0, rfl, qta0⟩
  refine CallS.mono (term6_at (1) (2) (by decide) (fit1 (by kernel_rfl))) ?_
  rintro _ w2 ⟨x2, ta1, rfl, qta1⟩
  intro a w3 ha
  have ha : New w2 w3 a tT (tcs [ta0, ta1]) := ha
  have x3 := ha.ext
  have va : VC 1 2 w3 ⟨some ⟨a, 0, none⟩, 2, 2⟩ [((0), Rat.divInt (1) 1), ((1), Rat.divInt (2) 1)] := TCs.vc 2 (.cons (qta0.ext (Ext.trans' x2 x3)) (.cons (qta1.ext x3) (.nil))) ha.toBlk rfl (by decide) (cnL (by kernel_rfl))
  refine CallS.mono (term6_at (1) (3) (by decide) (fit1 (by kernel_rfl))) ?_
  rintro _ w4 ⟨x4, tb0, rfl, qtb0⟩
  intro b w5 hb
  have hb : New w4 w5 b tT (tcs [tb0]) := hb
  have x5 := hb.ext
  have vb : VC 1 1 w5 ⟨some ⟨b, 0, none⟩, 1, 1⟩ [((1), Rat.divInt (3) 1)] := TCs.vc 1 (.cons (qtb0.ext x5) (.nil)) hb.toBlk rfl (by decide) (cnL (by kernel_rfl))
  intro c w6 hc
  have hc : New w5 w6 c tV (svs [⟨some ⟨a, 0, none⟩, 2, 2⟩, ⟨some ⟨b, 0, none⟩, 1, 1⟩]) := hc
  have x6 := hc.ext
  exact ⟨(Ext.trans' (Ext.trans' (Ext.trans' (Ext.trans' (Ext.trans' x1 x2) x3) x4) x5) x6), c, _, rfl, vs2 hc (va.ext (Ext.trans' x4 x5)) (VC.map vb (by decide) (by decide))⟩

theorem perm3 : PermL [(2), (0), (1)] := ⟨by decide, by decide⟩
theorem inv3 {M : List Int} (h : InvL [(2), (0), (1)] M) : M = [1, 2, 0] := by
  have h0 := h.inv 0 2 rfl
  have h1 := h.inv 1 0 rfl
  have h2 := h.inv 2 1 rfl
  have hl : M.length = 3 := h.len
  match M, hl with
  | [x, y, z], _ =>
    simp at h0 h1 h2
    rw [h0, h1, h2]
theorem awake6_at (w0 : World) : CallS Try.prog 30 #[] w0 fun v w' => Ext w0 w' ∧ v = .bool true := by
  refine enter ttOk mixed (args := []) Try.func30 rfl (by kernel_rfl) (by kernel_rfl) rfl ?_
  refine CallS.mono (cols_at _) ?_
  rintro _ w1 ⟨x1, b1, rs1, rfl, c1⟩
  refine CallS.mono (term6_at (0) (1) (by decide) (fit1 (by kernel_rfl))) ?_
  rintro _ w2 ⟨x2, ta0, rfl, qta0⟩
  refine CallS.mono (term6_at (1) (1) (by decide) (fit1 (by kernel_rfl))) ?_
  rintro _ w3 ⟨x3, ta1, rfl, qta1⟩
  intro a w4 ha
  have ha : New w3 w4 a tT (tcs [ta0, ta1]) := ha
  have x4 := ha.ext
  have va : VC 1 2 w4 ⟨some ⟨a, 0, none⟩, 2, 2⟩ [((0), Rat.divInt (1) 1), ((1), Rat.divInt (1) 1)] := TCs.vc 2 (.cons (qta0.ext (Ext.trans' x3 x4)) (.cons (qta1.ext x4) (.nil))) ha.toBlk rfl (by decide) (cnL (by kernel_rfl))
  refine CallS.mono (Times_ok (k := 1) (l := 2) ((c1.ext (Ext.trans' (Ext.trans' x2 x3) x4)).vi (by decide)) (by decide) (va.vi (by decide)) (by decide)) ?_
  rintro _ w5 ⟨x5, s1, rfl, h1⟩
  refine CallS.mono (term6_at (1) (1) (by decide) (fit1 (by kernel_rfl))) ?_
  rintro _ w6 ⟨x6, tb0, rfl, qtb0⟩
  intro b w7 hb
  have hb : New w6 w7 b tT (tcs [tb0]) := hb
  have x7 := hb.ext
  have vb : VC 1 1 w7 ⟨some ⟨b, 0, none⟩, 1, 1⟩ [((1), Rat.divInt (1) 1)] := TCs.vc 1 (.cons (qtb0.ext x7) (.nil)) hb.toBlk rfl (by decide) (cnL (by kernel_rfl))
  refine CallS.mono (cols_at _) ?_
  rintro _ w8 ⟨x8, b2, rs2, rfl, c2⟩
  refine CallS.mono (Left_ok (k := 1) (l := 1) (c2.vi (by decide)) (by decide) ((vb.ext x8).vi (by decide)) 1 (by decide)) ?_
  rintro _ w9 ⟨x9, s2, rfl, h2⟩
  refine CallS.mono (cols_at _) ?_
  rintro _ w10 ⟨x10, b3, rs3, rfl, c3⟩
  refine CallS.mono (Turn_ok (c3.vi (by decide)) (by decide) 2 (by decide) (by decide)) ?_
  rintro _ w11 ⟨x11, b3, rs3, rfl, h3⟩
  intro p w12 hp
  have hp : New w11 w12 p 3 (ivs [(2), (0), (1)] ++ []) := hp
  have x12 := hp.ext
  have op : Ones w12 (some ⟨p, 0, none⟩) 3 (ivs [(2), (0), (1)]) := Ones.blk hp.toBlk
  refine CallS.mono (Inverse_ok op (by decide) perm3) ?_
  rintro _ w13 ⟨x13, b4, m4, rfl, h4, i4⟩
  intro q w14 hq
  have hq : New w13 w14 q 3 (ivs [(2), (0), (1)] ++ []) := hq
  have x14 := hq.ext
  have oq : Ones w14 (some ⟨q, 0, none⟩) 3 (ivs [(2), (0), (1)]) := Ones.blk hq.toBlk
  refine CallS.mono (term6_at (0) (5) (by decide) (fit1 (by kernel_rfl))) ?_
  rintro _ w15 ⟨x15, td0, rfl, qtd0⟩
  intro d w16 hd
  have hd : New w15 w16 d tT (tcs [td0]) := hd
  have x16 := hd.ext
  have vd : VC 1 1 w16 ⟨some ⟨d, 0, none⟩, 1, 1⟩ [((0), Rat.divInt (5) 1)] := TCs.vc 1 (.cons (qtd0.ext x16) (.nil)) hd.toBlk rfl (by decide) (cnL (by kernel_rfl))
  refine CallS.mono (Move_ok (k := 1) (l := 1) (oq.ext (Ext.trans' x15 x16)) (by decide) (vd.vi (by decide)) (by decide) (by decide) perm3 (by decide +kernel)) ?_
  rintro _ w17 ⟨x17, s5, rfl, h5⟩
  refine CallS.mono (term6_at (0) (1) (by decide) (fit1 (by kernel_rfl))) ?_
  rintro _ w18 ⟨x18, te0, rfl, qte0⟩
  refine CallS.mono (term6_at (1) (5) (by decide) (fit1 (by kernel_rfl))) ?_
  rintro _ w19 ⟨x19, te1, rfl, qte1⟩
  intro e w20 he
  have he : New w19 w20 e tT (tcs [te0, te1]) := he
  have x20 := he.ext
  have ve : VC 1 2 w20 ⟨some ⟨e, 0, none⟩, 2, 2⟩ [((0), Rat.divInt (1) 1), ((1), Rat.divInt (5) 1)] := TCs.vc 2 (.cons (qte0.ext (Ext.trans' x19 x20)) (.cons (qte1.ext x20) (.nil))) he.toBlk rfl (by decide) (cnL (by kernel_rfl))
  refine CallS.mono (svecT_at (h1.ext (Ext.trans' (Ext.trans' (Ext.trans' (Ext.trans' (Ext.trans' (Ext.trans' (Ext.trans' (Ext.trans' (Ext.trans' (Ext.trans' (Ext.trans' (Ext.trans' (Ext.trans' (Ext.trans' x6 x7) x8) x9) x10) x11) x12) x13) x14) x15) x16) x17) x18) x19) x20)) ve (by decide) (by kernel_rfl)) ?_
  rintro _ w21 ⟨x21, rfl⟩
  refine CallS.mono (term6_at (0) (2) (by decide) (fit1 (by kernel_rfl))) ?_
  rintro _ w22 ⟨x22, tf0, rfl, qtf0⟩
  refine CallS.mono (term6_at (1) (3) (by decide) (fit1 (by kernel_rfl))) ?_
  rintro _ w23 ⟨x23, tf1, rfl, qtf1⟩
  intro f w24 hf
  have hf : New w23 w24 f tT (tcs [tf0, tf1]) := hf
  have x24 := hf.ext
  have vf : VC 1 2 w24 ⟨some ⟨f, 0, none⟩, 2, 2⟩ [((0), Rat.divInt (2) 1), ((1), Rat.divInt (3) 1)] := TCs.vc 2 (.cons (qtf0.ext (Ext.trans' x23 x24)) (.cons (qtf1.ext x24) (.nil))) hf.toBlk rfl (by decide) (cnL (by kernel_rfl))
  refine CallS.mono (svecT_at (h2.ext (Ext.trans' (Ext.trans' (Ext.trans' (Ext.trans' (Ext.trans' (Ext.trans' (Ext.trans' (Ext.trans' (Ext.trans' (Ext.trans' (Ext.trans' (Ext.trans' (Ext.trans' (Ext.trans' x10 x11) x12) x13) x14) x15) x16) x17) x18) x19) x20) x21) x22) x23) x24)) vf (by decide) (by kernel_rfl)) ?_
  rintro _ w25 ⟨x25, rfl⟩
  refine ⟨0, ⟨rfl, by decide⟩, 0, ⟨rfl, by decide⟩, ?_⟩
  refine And.intro (fun _ => ?_) (fun h => absurd (rfl) h)
  refine CallS.mono (term6_at (0) (1) (by decide) (fit1 (by kernel_rfl))) ?_
  rintro _ w26 ⟨x26, tg0, rfl, qtg0⟩
  intro g w27 hg
  have hg : New w26 w27 g tT (tcs [tg0]) := hg
  have x27 := hg.ext
  have vg : VC 1 1 w27 ⟨some ⟨g, 0, none⟩, 1, 1⟩ [((0), Rat.divInt (1) 1)] := TCs.vc 1 (.cons (qtg0.ext x27) (.nil)) hg.toBlk rfl (by decide) (cnL (by kernel_rfl))
  refine CallS.mono (term6_at (0) (2) (by decide) (fit1 (by kernel_rfl))) ?_
  rintro _ w28 ⟨x28, ti0, rfl, qti0⟩
  refine CallS.mono (term6_at (1) (3) (by decide) (fit1 (by kernel_rfl))) ?_
  rintro _ w29 ⟨x29, ti1, rfl, qti1⟩
  intro i w30 hi
  have hi : New w29 w30 i tT (tcs [ti0, ti1]) := hi
  have x30 := hi.ext
  have vi : VC 1 2 w30 ⟨some ⟨i, 0, none⟩, 2, 2⟩ [((0), Rat.divInt (2) 1), ((1), Rat.divInt (3) 1)] := TCs.vc 2 (.cons (qti0.ext (Ext.trans' x29 x30)) (.cons (qti1.ext x30) (.nil))) hi.toBlk rfl (by decide) (cnL (by kernel_rfl))
  intro j w31 hj
  have hj : New w30 w31 j tV (svs [⟨some ⟨g, 0, none⟩, 1, 1⟩, ⟨some ⟨i, 0, none⟩, 2, 2⟩]) := hj
  have x31 := hj.ext
  have vj := vs2 (k := 1) (l := 2) hj (VC.map (vg.ext (Ext.trans' (Ext.trans' x28 x29) x30)) (by decide) (by decide)) vi
  refine CallS.mono (SameVecs_ok (h3.ext (Ext.trans' (Ext.trans' (Ext.trans' (Ext.trans' (Ext.trans' (Ext.trans' (Ext.trans' (Ext.trans' (Ext.trans' (Ext.trans' (Ext.trans' (Ext.trans' (Ext.trans' (Ext.trans' (Ext.trans' (Ext.trans' (Ext.trans' (Ext.trans' (Ext.trans' x12 x13) x14) x15) x16) x17) x18) x19) x20) x21) x22) x23) x24) x25) x26) x27) x28) x29) x30) x31)) vj (by decide) (by decide)) ?_
  rintro _ w32 ⟨x32, rfl⟩
  rw [decide_eq_true (show turnL colsL 2 2 = [[((0), Rat.divInt (1) 1)], [((0), Rat.divInt (2) 1), ((1), Rat.divInt (3) 1)]] by kernel_rfl)]
  intro k w33 hk
  have hk : New w32 w33 k 3 (ivs [(1), (2), (0)] ++ []) := hk
  have x33 := hk.ext
  have ok : Ones w33 (some ⟨k, 0, none⟩) 3 (ivs [(1), (2), (0)]) := Ones.blk hk.toBlk
  refine CallS.mono (SameInts_ok (h4.ext (Ext.trans' (Ext.trans' (Ext.trans' (Ext.trans' (Ext.trans' (Ext.trans' (Ext.trans' (Ext.trans' (Ext.trans' (Ext.trans' (Ext.trans' (Ext.trans' (Ext.trans' (Ext.trans' (Ext.trans' (Ext.trans' (Ext.trans' (Ext.trans' (Ext.trans' x14 x15) x16) x17) x18) x19) x20) x21) x22) x23) x24) x25) x26) x27) x28) x29) x30) x31) x32) x33)) ok (by decide)) ?_
  rintro _ w34 ⟨x34, rfl⟩
  rw [decide_eq_true (inv3 i4)]
  refine CallS.mono (term6_at (2) (5) (by decide) (fit1 (by kernel_rfl))) ?_
  rintro _ w35 ⟨x35, tl0, rfl, qtl0⟩
  intro l w36 hl
  have hl : New w35 w36 l tT (tcs [tl0]) := hl
  have x36 := hl.ext
  have vl : VC 1 1 w36 ⟨some ⟨l, 0, none⟩, 1, 1⟩ [((2), Rat.divInt (5) 1)] := TCs.vc 1 (.cons (qtl0.ext x36) (.nil)) hl.toBlk rfl (by decide) (cnL (by kernel_rfl))
  refine CallS.mono (svecT_at (h5.ext (Ext.trans' (Ext.trans' (Ext.trans' (Ext.trans' (Ext.trans' (Ext.trans' (Ext.trans' (Ext.trans' (Ext.trans' (Ext.trans' (Ext.trans' (Ext.trans' (Ext.trans' (Ext.trans' (Ext.trans' (Ext.trans' (Ext.trans' (Ext.trans' x18 x19) x20) x21) x22) x23) x24) x25) x26) x27) x28) x29) x30) x31) x32) x33) x34) x35) x36)) vl (by decide) (by kernel_rfl)) ?_
  rintro _ w37 ⟨x37, rfl⟩
  exact ⟨(Ext.trans' (Ext.trans' (Ext.trans' (Ext.trans' (Ext.trans' (Ext.trans' (Ext.trans' (Ext.trans' (Ext.trans' (Ext.trans' (Ext.trans' (Ext.trans' (Ext.trans' (Ext.trans' (Ext.trans' (Ext.trans' (Ext.trans' (Ext.trans' (Ext.trans' (Ext.trans' (Ext.trans' (Ext.trans' (Ext.trans' (Ext.trans' (Ext.trans' (Ext.trans' (Ext.trans' (Ext.trans' (Ext.trans' (Ext.trans' (Ext.trans' (Ext.trans' (Ext.trans' (Ext.trans' (Ext.trans' (Ext.trans' x1 x2) x3) x4) x5) x6) x7) x8) x9) x10) x11) x12) x13) x14) x15) x16) x17) x18) x19) x20) x21) x22) x23) x24) x25) x26) x27) x28) x29) x30) x31) x32) x33) x34) x35) x36) x37), rfl⟩
end Go.Proofs.Ytpgagepleffjlaa
/-
  Contracts of the layer program: the example's program. Helpers; no statement of the program is proved here.
-/
set_option maxRecDepth 100000
set_option linter.unusedSimpArgs false
set_option linter.unusedVariables false
namespace Go.Proofs.Ytpgagepleffjlaa
open Go Go.Tw Go.RowKit
attribute [local irreducible] LoadAt StoreOk Stored rawVC

instance : Enc PrgR where
  cs := PrgR.cs
  k := 3
  len := fun _ => rfl
  pos := by decide
  one := fun x v hv => by
    simp only [PrgR.cs, List.mem_cons, List.not_mem_nil, or_false] at hv
    rcases hv with rfl | rfl | rfl <;> rfl
def PrgR.zero : PrgR := ⟨⟨none, 0, 0⟩, ⟨none, 0, 0⟩, ⟨none, 0, 0⟩⟩
theorem QC.past {k b t : Nat} {w w' : World} {x : RatR} {q : Rat} {P : PrgR} (h : QC k w x q) (hb : Blk w b t P.cs) (hg : w.grownBy w' (some b)) : QC k w' x q := by
  have hc : ∀ v ∈ P.cs, ∀ x, v ≠ .int .u64 x := by
    intro v hv x e
    subst e
    simp [PrgR.cs, SlR.v] at hv
  have h1 : CanQ (fun c => H0 c ∨ c = b) w x q := ⟨h.can.num.with hb hc, h.can.den.with hb hc⟩
  exact ⟨(h1.far hg (.inr rfl)).to (fun b hb => hb.elim), h.fit⟩
theorem TC.of {i n : Int} {w : World} {s : RatR} (h : QC 1 w s (Rat.divInt n 1)) : TC i (Rat.divInt n 1) w ⟨i, s⟩ := ⟨rfl, h⟩
def plVs : VS := [(0, Rat.divInt 3 1, false), (0, Rat.divInt 2 1, true)]
def plRow : RWS := [([(0, Rat.divInt 1 1), (1, Rat.divInt 1 1)], 3, Rat.divInt 4 1)]
def plCost : VL := [(0, Rat.divInt 1 1), (1, Rat.divInt 2 1)]
/-- The example's program, handed in. -/
structure PlI (w : World) (p : PrgR) (vr : List VarR) (rr : List RowR) : Prop where
  prg : PrgI 1 2 w p vr rr plVs plRow plCost
  nv : p.vars.n = 2
  nr : p.rows.n = 1
  vc : VC 1 2 w p.cost plCost
  vr' : ∀ (j : Nat) r, rr[j]? = some r → VC 1 2 w r.a [(0, Rat.divInt 1 1), (1, Rat.divInt 1 1)]
theorem PlI.ext {w w' : World} {p : PrgR} {vr : List VarR} {rr : List RowR} (h : PlI w p vr rr) (e : Ext w w') : PlI w' p vr rr := ⟨h.prg.ext e, h.nv, h.nr, h.vc.ext e, fun j r hj => (h.vr' j r hj).ext e⟩
theorem PlI.rc {w : World} {p : PrgR} {vr : List VarR} {rr : List RowR} (h : PlI w p vr rr) : ∀ w', Ext w w' → CallS Try.prog 47 #[p.cost.v, .int .i64 (plVs.length : Int)] w' fun v w'' => Ext w' w'' ∧ v = .bool true := fun w' hx => by
  have := rightVC_at (h.vc.ext hx) (plVs.length : Int) ⟨by decide, by decide⟩
  rw [show rightL (plVs.length : Int) (-1) (prB plCost) = true by kernel_rfl] at this
  exact this
theorem PlI.rr' {w : World} {p : PrgR} {vr : List VarR} {rr : List RowR} (h : PlI w p vr rr) : ∀ (j : Nat) r, rr[j]? = some r → ∀ w', Ext w w' → CallS Try.prog 47 #[r.a.v, .int .i64 (plVs.length : Int)] w' fun v w'' => Ext w' w'' ∧ v = .bool true := fun j r hj w' hx => by
  have := rightVC_at ((h.vr' j r hj).ext hx) (plVs.length : Int) ⟨by decide, by decide⟩
  rw [show rightL (plVs.length : Int) (-1) (prB [(0, Rat.divInt 1 1), (1, Rat.divInt 1 1)]) = true by kernel_rfl] at this
  exact this
theorem plGood : Good plVs plRow true (fun _ => true) where
  nv := by decide
  nr := by decide
  rc := rfl
  le := fun j x h => by
    match j, h with
    | 0, h => cases h; exact (by decide +kernel : (0 : Rat) ≤ Rat.divInt 3 1)
    | 1, h => cases h; exact (by decide +kernel : (0 : Rat) ≤ Rat.divInt 2 1)
    | j + 2, h => cases h
  row := fun j x h => by
    match j, h with
    | 0, h => cases h; exact ⟨by decide, by decide, rfl⟩
    | j + 1, h => cases h
theorem plain_ok (w : World) : CallS Try.prog 59 #[] w fun v w' => Ext w w' ∧ ∃ (p : PrgR) (vr : List VarR) (rr : List RowR), v = p.v ∧ PlI w' p vr rr := by
  refine enter ttOk mixed (args := []) Try.func59 rfl (by kernel_rfl) (by kernel_rfl) rfl ?_
  intro b0 w1 hb0
  refine CallS.mono (num_at 3 (by decide) (fit1 (by kernel_rfl))) ?_
  rintro _ w2 ⟨x2, r2, rfl, h2⟩
  refine CallS.mono (num_at 2 (by decide) (fit1 (by kernel_rfl))) ?_
  rintro _ w3 ⟨x3, r3, rfl, h3⟩
  intro g4 w4 hg4
  have hg4 : New w3 w4 g4 tVar (gcs [(⟨RatR.zero, r2, false⟩ : VarR), ⟨RatR.zero, r3, true⟩]) := hg4
  refine CallS.mono (num_at 1 (by decide) (fit1 (by kernel_rfl))) ?_
  rintro _ w5 ⟨x5, r5, rfl, h5⟩
  refine CallS.mono (num_at 1 (by decide) (fit1 (by kernel_rfl))) ?_
  rintro _ w6 ⟨x6, r6, rfl, h6⟩
  intro g7 w7 hg7
  have hg7 : New w6 w7 g7 tT (tcs [⟨0, r5⟩, ⟨1, r6⟩]) := hg7
  refine CallS.mono (num_at 4 (by decide) (fit1 (by kernel_rfl))) ?_
  rintro _ w8 ⟨x8, r8, rfl, h8⟩
  intro g9 w9 hg9
  have hg9 : New w8 w9 g9 tRow (gcs [(⟨⟨some ⟨g7, 0, none⟩, 2, 2⟩, 3, r8⟩ : RowR)]) := hg9
  refine CallS.mono (num_at 1 (by decide) (fit1 (by kernel_rfl))) ?_
  rintro _ w10 ⟨x10, r10, rfl, h10⟩
  refine CallS.mono (num_at 2 (by decide) (fit1 (by kernel_rfl))) ?_
  rintro _ w11 ⟨x11, r11, rfl, h11⟩
  intro g12 w12 hg12
  have hg12 : New w11 w12 g12 tT (tcs [⟨0, r10⟩, ⟨1, r11⟩]) := hg12
  have y4 := hg4.ext
  have y7 := hg7.ext
  have y9 := hg9.ext
  have y12 := hg12.ext
  have z11 := Ext.trans' x11 y12
  have z10 := Ext.trans' x10 z11
  have z9 := Ext.trans' y9 z10
  have z8 := Ext.trans' x8 z9
  have z7 := Ext.trans' y7 z8
  have z6 := Ext.trans' x6 z7
  have z5 := Ext.trans' x5 z6
  have z4 := Ext.trans' y4 z5
  have z3 := Ext.trans' x3 z4
  have z2 := Ext.trans' x2 z3
  have z1 := Ext.trans' hb0.ext z2
  have st := storeE (T := tt) (ty := tPrg) (cs := PrgR.cs PrgR.zero) (⟨⟨some ⟨g4, 0, none⟩, 2, 2⟩, ⟨some ⟨g9, 0, none⟩, 1, 1⟩, ⟨some ⟨g12, 0, none⟩, 2, 2⟩⟩ : PrgR) (hb0.toBlk.ext z2) rfl
  refine ⟨st.1, fun w13 hs13 => ?_⟩
  obtain ⟨hB13, hg13⟩ := st.2 w13 hs13
  have y13 : Ext w w13 := Ext.grownB z1 hg13 (hb0.ge (Ext.rfl w))
  have ne {c : Nat} (h : w1.heap.size ≤ c) : c ≠ b0 := by have := hb0.lt; omega
  refine ⟨_, hB13.agg (sub := PrgR.cs (⟨⟨some ⟨g4, 0, none⟩, 2, 2⟩, ⟨some ⟨g9, 0, none⟩, 1, 1⟩, ⟨some ⟨g12, 0, none⟩, 2, 2⟩⟩ : PrgR)) rfl rfl, ?_⟩
  have hZ : Blk w12 b0 tPrg PrgR.zero.cs := hb0.toBlk.ext z2
  have q2 := (h2.ext z3).past hZ hg13
  have q3 := (h3.ext z4).past hZ hg13
  have q5 := (h5.ext z6).past hZ hg13
  have q6 := (h6.ext z7).past hZ hg13
  have q8 := (h8.ext z9).past hZ hg13
  have q10 := (h10.ext z11).past hZ hg13
  have q11 := (h11.ext y12).past hZ hg13
  have s2 := x2.size
  have s3 := x3.size
  have s4 := y4.size
  have s5 := x5.size
  have s6 := x6.size
  have s7 := y7.size
  have s8 := x8.size
  have s9 := y9.size
  have s10 := x10.size
  have s11 := x11.size
  have n4 := hg4.isNew
  have n7 := hg7.isNew
  have n9 := hg9.isNew
  have n12 := hg12.isNew
  have b4 : Blk w13 g4 tVar (gcs [(⟨RatR.zero, r2, false⟩ : VarR), ⟨RatR.zero, r3, true⟩] ++ []) := by rw [List.append_nil]; exact Blk.grownN (hg4.toBlk.ext z5) hg13 (ne (by omega))
  have b7 := Blk.grownN (hg7.toBlk.ext z8) hg13 (ne (by omega))
  have b9 : Blk w13 g9 tRow (gcs [(⟨⟨some ⟨g7, 0, none⟩, 2, 2⟩, 3, r8⟩ : RowR)] ++ []) := by rw [List.append_nil]; exact Blk.grownN (hg9.toBlk.ext z10) hg13 (ne (by omega))
  have b12 := Blk.grownN hg12.toBlk hg13 (ne (by omega))
  have va := TCs.vi 2 (.cons (i := 0) (TC.of q5) (.cons (i := 1) (TC.of q6) .nil)) b7 rfl (by decide)
  have vc := TCs.vi 2 (.cons (i := 0) (TC.of q10) (.cons (i := 1) (TC.of q11) .nil)) b12 rfl (by decide)
  have ca := TCs.vc 2 (.cons (i := 0) (TC.of q5) (.cons (i := 1) (TC.of q6) .nil)) b7 rfl (by decide) (cnL (by kernel_rfl))
  have cc := TCs.vc 2 (.cons (i := 0) (TC.of q10) (.cons (i := 1) (TC.of q11) .nil)) b12 rfl (by decide) (cnL (by kernel_rfl))
  refine ⟨y13, _, [⟨RatR.zero, r2, false⟩, ⟨RatR.zero, r3, true⟩], [⟨⟨some ⟨g7, 0, none⟩, 2, 2⟩, 3, r8⟩], rfl, ⟨⟨Gr.blk b4, rfl, ?_, Gr.blk b9, rfl, ?_, vc⟩, rfl, rfl, cc, ?_⟩⟩
  · intro j v x h1 h2
    match j, h1, h2 with
    | 0, h1, h2 => cases h1; cases h2; exact ⟨InQ.zero _ _ _, (q2.qi (by decide)).inq, rfl⟩
    | 1, h1, h2 => cases h1; cases h2; exact ⟨InQ.zero _ _ _, (q3.qi (by decide)).inq, rfl⟩
    | j + 2, h1, h2 => cases h1
  · intro j r x h1 h2
    match j, h1, h2 with
    | 0, h1, h2 => cases h1; cases h2; exact ⟨va, rfl, (q8.qi (by decide)).inq⟩
    | j + 1, h1, h2 => cases h1
  · intro j r h1
    match j, h1 with
    | 0, h1 => cases h1; exact ca
    | j + 1, h1 => cases h1
end Go.Proofs.Ytpgagepleffjlaa
/-
  The watch of the layer program: its own example. Helpers; no statement of the program is proved here.
-/
set_option maxRecDepth 100000
set_option linter.unusedSimpArgs false
set_option linter.unusedVariables false
namespace Go.Proofs.Ytpgagepleffjlaa
open Go Go.Tw Go.RowKit
attribute [local irreducible] LoadAt StoreOk Stored rawVC

theorem pt2 {w : World} {b e : Nat} {x y : RatR} {p q : Rat} (hb : Blk w b e (gcs [x, y])) (hx : QC 1 w x p) (hy : QC 1 w y q) : PtI 1 H0 w ⟨some ⟨b, 0, none⟩, 2, 2⟩ [x, y] [p, q] := by
  refine ⟨Gr.blk (R := []) (by rw [List.append_nil]; exact hb), rfl, ?_⟩
  intro j r s h1 h2
  match j, h1, h2 with
  | 0, h1, h2 => cases h1; cases h2; exact (hx.qi (by decide)).inq
  | 1, h1, h2 => cases h1; cases h2; exact (hy.qi (by decide)).inq
  | j + 2, h1, h2 => cases h1
theorem awake15_at (w0 : World) : CallS Try.prog 13 #[] w0 fun v w' => Ext w0 w' ∧ v = .bool true := by
  refine enter ttOk mixed (args := []) Try.func13 rfl (by kernel_rfl) (by kernel_rfl) rfl ?_
  refine CallS.mono (plain_ok w0) ?_
  rintro _ w1 ⟨x1, p, vr, rr, rfl, hP1⟩
  intro b1 w2 hb1
  have st := storeE (T := tt) (ty := tPrg) p hb1.toBlk rfl
  refine ⟨st.1, fun w3 hs3 => ?_⟩
  obtain ⟨hB3, hg3⟩ := st.2 w3 hs3
  have x13 : Ext w1 w3 := Ext.grownB hb1.ext hg3 (hb1.ge (Ext.rfl w1))
  have hP3 := hP1.ext x13
  have nv := hP1.nv
  have nr := hP1.nr
  have x3 := Ext.trans' x1 x13
  refine ⟨sq 10, by kernel_rfl, p.v, hB3.agg (sub := p.cs) rfl rfl, ?_⟩
  refine dcallR (mk := RatR.v) (Q := fun r' w' => QC 1 w' r' (Rat.divInt 1 1)) RatR.inj (fun _ => fun _ _ h e => h.ext e) (fun w' hw hF => num_at 1 (by decide) (fit1 (by kernel_rfl))) ?_
  intro r1
  refine dcallR (mk := RatR.v) (Q := fun r' w' => QC 1 w' r' (Rat.divInt 2 1)) RatR.inj (fun _ => fun _ _ h e => h.ext e) (fun w' hw hF => num_at 2 (by decide) (fit1 (by kernel_rfl))) ?_
  intro r2
  intro bb _
  refine dcallV (.tuple #[.int .i64 2, .int .i64 0]) (fun w' hw hF => ?_) ?_
  · have e : brokenQ plVs plRow [Rat.divInt 1 1, Rat.divInt 2 1] = (2, 0) := by kernel_rfl
    have h := Broken_ok ((hP3.ext hw).prg) (pt2 hF.1.1 hF.2.2.1 hF.2.1) ⟨by decide, by decide, by decide, by show (2 : Nat) ≤ 1099511627776; decide⟩ ⟨by omega, by omega⟩
    rw [e] at h
    exact h
  intro w4 hx4 _
  have x4 := Ext.trans' x3 hx4
  have hB4 := hB3.ext hx4
  have hP4 := hP3.ext hx4
  refine ⟨sq 10, by kernel_rfl, p.v, hB4.agg (sub := p.cs) rfl rfl, ?_⟩
  refine dcallR (mk := RatR.v) (Q := fun r' w' => QC 1 w' r' (Rat.divInt 3 1)) RatR.inj (fun _ => fun _ _ h e => h.ext e) (fun w' hw hF => num_at 3 (by decide) (fit1 (by kernel_rfl))) ?_
  intro r1
  refine dcallR (mk := RatR.v) (Q := fun r' w' => QC 1 w' r' (Rat.divInt 3 2)) RatR.inj (fun _ => fun _ _ h e => h.ext e) (fun w' hw hF => CallS.mono (ROf_ok (H0.hb w') (by decide) (by decide) (by decide) (by decide)) (fun v' w'' h => ⟨h.1, h.2.elim fun r hr => ⟨r, hr.1, hr.2, fit1 (by kernel_rfl)⟩⟩)) ?_
  intro r2
  intro bb _
  refine dcallV (.tuple #[.int .i64 3, .int .i64 1]) (fun w' hw hF => ?_) ?_
  · have e : brokenQ plVs plRow [Rat.divInt 3 1, Rat.divInt 3 2] = (3, 1) := by kernel_rfl
    have h := Broken_ok ((hP4.ext hw).prg) (pt2 hF.1.1 hF.2.2.1 hF.2.1) ⟨by decide, by decide, by decide, by show (2 : Nat) ≤ 1099511627776; decide⟩ ⟨by omega, by omega⟩
    rw [e] at h
    exact h
  intro w5 hx5 _
  have x5 := Ext.trans' x4 hx5
  have hB5 := hB4.ext hx5
  have hP5 := hP4.ext hx5
  refine ⟨sq 10, by kernel_rfl, p.v, hB5.agg (sub := p.cs) rfl rfl, ?_⟩
  refine dcallR (mk := RatR.v) (Q := fun r' w' => QC 1 w' r' (Rat.divInt 3 1)) RatR.inj (fun _ => fun _ _ h e => h.ext e) (fun w' hw hF => num_at 3 (by decide) (fit1 (by kernel_rfl))) ?_
  intro r1
  refine dcallR (mk := RatR.v) (Q := fun r' w' => QC 1 w' r' (Rat.divInt 1 1)) RatR.inj (fun _ => fun _ _ h e => h.ext e) (fun w' hw hF => num_at 1 (by decide) (fit1 (by kernel_rfl))) ?_
  intro r2
  intro bb _
  refine dcallV (.tuple #[.int .i64 0, .int .i64 0]) (fun w' hw hF => ?_) ?_
  · have e : brokenQ plVs plRow [Rat.divInt 3 1, Rat.divInt 1 1] = (0, 0) := by kernel_rfl
    have h := Broken_ok ((hP5.ext hw).prg) (pt2 hF.1.1 hF.2.2.1 hF.2.1) ⟨by decide, by decide, by decide, by show (2 : Nat) ≤ 1099511627776; decide⟩ ⟨by omega, by omega⟩
    rw [e] at h
    exact h
  intro w6 hx6 _
  have x6 := Ext.trans' x5 hx6
  have hB6 := hB5.ext hx6
  have hP6 := hP5.ext hx6
  refine ⟨p.v, hB6.agg (sub := p.cs) rfl rfl, ?_⟩
  refine CallS.mono (Form_ok (RR := fun _ => true) hP6.prg ⟨by decide, by decide, by decide⟩ ⟨by omega, by omega⟩ hP6.rc hP6.rr' (fun j x h _ q hq => ?_)) ?_
  · match j, h with
    | 0, h =>
      cases h
      match q, hq with
      | 0, _ => exact ⟨by decide, by decide⟩
      | 1, _ => exact ⟨by decide, by decide⟩
      | q + 2, hq => exact absurd hq (by show ¬ q + 2 < 2; omega)
    | j + 1, h => cases h
  rintro _ w7 ⟨hx7, f, e, rfl, hfe⟩
  rcases hfe with hfe | ⟨_, rfl, s, rfl, hcv, hF7⟩
  · exact absurd plGood hfe.1
  intro b8 w8 hb8
  have st := storeE (T := tt) (ty := tFrm) (s.form (plRow.length : Int)) hb8.toBlk rfl
  refine ⟨st.1, fun w9 hs9 => ?_⟩
  obtain ⟨hB9, hg9⟩ := st.2 w9 hs9
  have hF8 : FI 2 (fun c => c = b8) w6.heap.size w8 s _ _ _ _ _ := hF7.to (fun c hc => by rw [hc]; exact hb8.lt) (fun c hc => .inr (by rw [hc]; exact hb8.ge (Ext.rfl w7))) hb8.ext
  have hF9 := hF8.at' hg9 rfl
  have x79 : Ext w7 w9 := Ext.grownB hb8.ext hg9 (hb8.ge (Ext.rfl w7))
  have hx69 := Ext.trans' hx7 x79
  have x9 := Ext.trans' x6 hx69
  have hPB9 := hB6.ext hx69
  have hP9 := hP6.ext hx69
  have eL : (formL plVs plRow plRow.length)[2]? = some (Rat.divInt (-1) 1) := by kernel_rfl
  have eU : (formU plVs plRow plRow.length)[2]? = some 0 := by kernel_rfl
  have lL : (formL plVs plRow plRow.length).length = 3 := by kernel_rfl
  have lU : (formU plVs plRow plRow.length).length = 3 := by kernel_rfl
  have lX : (formX plRow plVs.length plRow.length).length = 3 := by kernel_rfl
  have hvl := hF9.vl.len
  have hvu := hF9.vu.len
  have hxl := hF9.xl
  have hgl := hF9.gd.len
  have hcl2 : s.cs.length = s.ts.length := by
    simp only [FS.ss, FS.rs, List.length_cons, List.length_map] at hgl; omega
  have hcols : s.cols.n = 3 := by rw [hF9.getCv.1, hcv]; omega
  obtain ⟨ln, lg, _⟩ := owns_gr (hF9.gd.own 0 s.lo (rq s.los) rfl rfl)
  obtain ⟨un, ug, _⟩ := owns_gr (hF9.gd.own 1 s.hi (rq s.his) rfl rfl)
  have ln : s.lo.n = 3 := by have h : s.lo.n = s.los.length := ln; omega
  have un : s.hi.n = 3 := by have h : s.hi.n = s.his.length := un; omega
  have gl := gr_getD lg (j := 2) (by omega)
  have gu := gr_getD ug (j := 2) (by omega)
  have ql := hF9.vl.at' 2 _ _ gl eL
  have qu := hF9.vu.at' 2 _ _ gu eU
  generalize s.los.getD 2 default = rl at gl ql
  generalize s.his.getD 2 default = ru at gu qu
  have hBf9 : Blk w9 b8 tFrm (s.form (plRow.length : Int)).cs := hB9
  have ql0 : QC 1 w9 rl (Rat.divInt (-1) 1) := ⟨ql.to (fun b h => h.elim), fit1 (by kernel_rfl)⟩
  have qu0 : QC 1 w9 ru 0 := ⟨qu.to (fun b h => h.elim), FitQ.zero (by decide)⟩
  refine ⟨sq 59, by kernel_rfl, p.v, hPB9.agg (sub := p.cs) rfl rfl, ?_⟩
  refine dcallV (.int .i64 0) (fun w' hw hF => ?_) ?_
  · refine CallS.mono (PRight_ok (RR := fun _ => true) (hP9.ext hw).prg ⟨by decide, by omega, by omega⟩ (hP9.ext hw).rc (hP9.ext hw).rr') ?_
    rintro _ w'' ⟨hx, e, rfl, he⟩
    rcases he with he | he
    · exact ⟨hx, by rw [he.2]⟩
    · exact absurd plGood he.1
  refine And.intro (fun _ => ?_) (fun h => absurd rfl h)
  refine And.intro (fun _ => ?_) (fun h => absurd rfl h)
  refine And.intro (fun _ => ?_) (fun h => absurd rfl h)
  refine And.intro (fun _ => ?_) (fun h => absurd rfl h)
  refine And.intro (fun _ => ?_) (fun h => absurd rfl h)
  refine And.intro (fun _ => ?_) (fun h => absurd rfl h)
  refine ⟨p.v, hPB9.agg (sub := p.cs) rfl rfl, ?_⟩
  refine dcallR (mk := RatR.v) (Q := fun r' w' => QC 1 w' r' (Rat.divInt 3 1)) RatR.inj (fun _ => fun _ _ h e => h.ext e) (fun w' hw hF => num_at 3 (by decide) (fit1 (by kernel_rfl))) ?_
  intro r1
  refine dcallR (mk := RatR.v) (Q := fun r' w' => QC 1 w' r' (Rat.divInt 1 1)) RatR.inj (fun _ => fun _ _ h e => h.ext e) (fun w' hw hF => num_at 1 (by decide) (fit1 (by kernel_rfl))) ?_
  intro r2
  intro bb _
  refine dcallR (mk := RatR.v) (Q := fun r' w' => QC (pK 1 2) w' r' (Rat.divInt 5 1)) RatR.inj (fun _ => fun _ _ h e => h.ext e) (fun w' hw hF => ?_) ?_
  · have e : timesQ plCost [Rat.divInt 3 1, Rat.divInt 1 1] plCost.length = Rat.divInt 5 1 := by kernel_rfl
    have h := Value_ok ((hP9.ext hw).prg) (pt2 hF.1.1 hF.2.2.1 hF.2.1) ⟨by decide, by decide, by decide, by show (2 : Nat) ≤ 1099511627776; decide⟩
    rw [e] at h
    exact h
  intro r3
  refine dcallR (mk := RatR.v) (Q := fun r' w' => QC 1 w' r' (Rat.divInt 5 1)) RatR.inj (fun _ => fun _ _ h e => h.ext e) (fun w' hw hF => num_at 5 (by decide) (fit1 (by kernel_rfl))) ?_
  intro r4
  refine dcallV (.bool true) (fun w' hw hF => ?_) ?_
  · have h := RSame_ok (H0.hb w') (((hF.2.1.qi (by decide)).inq).mono (by decide)) (((hF.1.qi (by decide)).inq).mono (by decide))
    rw [decide_eq_true (Eq.refl (Rat.divInt 5 1))] at h
    exact h
  refine And.intro (fun _ => ?_) (fun h => absurd rfl h)
  refine ⟨s.cols.v, hBf9.one (off := 1) rfl rfl, ?_⟩
  refine And.intro (fun _ => ?_) (fun h => absurd (by show (s.cols.n : Int) = 3; rw [hcols]; rfl) h)
  refine ⟨s.lo.v, hBf9.one (off := 2) rfl rfl, ?_⟩
  refine ⟨2, ⟨rfl, by omega, lg.base (by omega)⟩, rl.v, lg.load gl rfl rfl, ?_⟩
  refine dcallR (mk := RatR.v) (Q := fun r' w' => QC 1 w' r' (Rat.divInt (-1) 1)) RatR.inj (fun _ => fun _ _ h e => h.ext e) (fun w' hw hF => num_at (-1) (by decide) (fit1 (by kernel_rfl))) ?_
  intro r5
  refine dcallV (.bool true) (fun w' hw hF => ?_) ?_
  · have h := RSame_ok (H0.hb w') ((((ql0.ext hw).qi (by decide)).inq).mono (by decide)) (((hF.1.qi (by decide)).inq).mono (by decide))
    rw [decide_eq_true (Eq.refl (Rat.divInt (-1) 1))] at h
    exact h
  refine ⟨s.hi.v, hBf9.one (off := 3) rfl rfl, ?_⟩
  refine ⟨2, ⟨rfl, by omega, ug.base (by omega)⟩, ru.v, ug.load gu rfl rfl, ?_⟩
  refine dcallV (.int .i64 0) (fun w' hw hF => ?_) ?_
  · have h := RSign_ok (H0.hb w') ((qu0.ext hw).qi (k := 1) (by decide)).inq.is
    exact h
  refine And.intro (fun _ => ?_) (fun h => absurd rfl h)
  intro w10 hx10 _
  exact ⟨Ext.trans' x9 hx10, rfl⟩
end Go.Proofs.Ytpgagepleffjlaa
/-
  ProgramLimits, walked. Helpers; no statement of the program is proved here.
-/
set_option maxRecDepth 100000
set_option linter.unusedSimpArgs false
set_option linter.unusedVariables false
namespace Go.Proofs.Ytpgagepleffjlaa
open Go Go.Tw Go.RowKit
attribute [local irreducible] LoadAt StoreOk Stored rawVC

def nilS : SlR := ⟨none, 0, 0⟩
def zV : VarR := ⟨RatR.zero, RatR.zero, false⟩
def zR (k : Int) : RowR := ⟨nilS, k, RatR.zero⟩
theorem VC.nil (k l : Nat) (w : World) : VC k l w nilS [] := ⟨CanV.nil k H0 w, Cn.nil, Nat.zero_le _⟩
/-- A program of zeros. -/
theorem limPrg {w : World} {p : PrgR} {vr : List VarR} {rr : List RowR} (hv : Gr w p.vars.a p.vars.n vr) (hz : ∀ v ∈ vr, v = zV) (hr : Gr w p.rows.a p.rows.n rr) (hz' : ∀ r ∈ rr, r.a = nilS ∧ r.b = RatR.zero) (hc : p.cost = nilS) :
    PrgI 1 1 w p vr rr (vr.map fun _ => (0, 0, false)) (rr.map fun r => ([], r.kind, 0)) [] := by
  refine ⟨hv, by rw [List.length_map], fun j v x h1 h2 => ?_, hr, by rw [List.length_map], fun j r x h1 h2 => ?_, by rw [hc]; exact VI.nil 1 1 w⟩
  · rw [List.getElem?_map, h1] at h2
    cases h2
    rw [hz v (List.mem_of_getElem? h1)]
    exact ⟨InQ.zero _ _ _, InQ.zero _ _ _, rfl⟩
  · rw [List.getElem?_map, h1] at h2
    cases h2
    obtain ⟨e1, e2⟩ := hz' r (List.mem_of_getElem? h1)
    rw [e1, e2]
    exact ⟨VI.nil 1 1 w, rfl, InQ.zero _ _ _⟩
theorem nilRight (w : World) (N : Int) : CallS Try.prog 47 #[nilS.v, .int .i64 N] w fun v w' => Ext w w' ∧ v = .bool true := rightVC_at (VC.nil 1 1 w) N ⟨by decide, by decide⟩
/-- A slice stored in the program's cell. -/
theorem storeP {ty : Nat} {w : World} {b i : Nat} {p : PrgR} {v : SlR} (hb : Blk w b tPrg p.cs) (hi : i < 3) (ht : ty = 22 ∨ ty = 23) :
    StoreOk tt w ty ⟨b, i, none⟩ v.v ∧ ∀ w', Stored w w' ⟨b, i, none⟩ v.v.cells.toList → Blk w' b tPrg (p.cs.set i v.v) ∧ w.grownBy w' (some b) := by
  refine ⟨by rcases ht with rfl | rfl <;> exact storeOk (Eq.refl _) (Eq.refl _) hb (by show i + 1 ≤ 3; omega), fun w' hs => ⟨?_, (Stored.grown hs).1⟩⟩
  have := Stored.blk hs hb
  rw [show v.v.cells.toList = [v.v] from Eq.refl _, splice_one] at this
  exact this
theorem owns_nil {w : World} {base e sz : Nat} : w.ownsRow base e sz nilS.v 0 [] := ⟨by simp, .inl ⟨rfl, rfl⟩⟩
theorem owns_kept {w w' : World} {base e sz n b : Nat} {v : Value} {xs : List Value} (h : w.ownsRow base e sz v n xs) (hg : w.grownBy w' (some b)) (hb : b < base) : w'.ownsRow base e sz v n xs := by
  refine h.kept hg ?_
  cases hv : v.ownBlock with
  | none => exact .inl (Eq.refl _)
  | some c => exact .inr fun e => by cases e; have := (owns_in h hv).1; omega
theorem blk_kept {w w' : World} {base e sz n b t : Nat} {v : Value} {xs cs : List Value} (h : w.ownsRow base e sz v n xs) (hg : w.grownBy w' v.ownBlock) (hb : Blk w b t cs) (hlt : b < base) : Blk w' b t cs :=
  hb.grown hg (fun e => by have := (owns_in h e.symm).1; omega)
theorem grown_ext {w0 w w' : World} {base e sz n : Nat} {v : Value} {xs : List Value} (h : w.ownsRow base e sz v n xs) (hg : w.grownBy w' v.ownBlock) (hx : Ext w0 w) (hb : w0.heap.size ≤ base) : Ext w0 w' := by
  refine ⟨hg.os.trans hx.os, hg.tape.trans hx.tape, hg.output.trans hx.output, Nat.le_trans hx.size hg.size, fun c hc => ?_⟩
  rw [hg.block c (Nat.lt_of_lt_of_le hc hx.size) (fun e => by have := (owns_in h e.symm).1; omega)]
  exact hx.block c hc
theorem rep_gcs {α : Type} [Enc α] (x : α) (n : Nat) : rep n (Enc.cs x) = gcs (List.replicate n x) := by
  induction n with
  | zero => rfl
  | succ n ih => rw [List.replicate_succ, gcs, rep, ih]
theorem repR_append (k : Int) (i : Nat) : gcs (List.replicate i (zR k)) ++ Enc.cs (zR k) = gcs (List.replicate (i + 1) (zR k)) := by
  rw [List.replicate_succ', gcs_append, gcs_one]
theorem limAt {w : World} {g base m n : Nat} {s : SlR} {rr : List RowR} (hG : Blk w g tVar (gcs (List.replicate n zV))) (ho : w.ownsRow base tRow 6 s.v m (gcs rr)) (hz : ∀ r ∈ rr, r.a = nilS ∧ r.b = RatR.zero) (hl : rr.length = m) :
    PrgI 1 1 w ⟨⟨some ⟨g, 0, none⟩, n, n⟩, s, nilS⟩ (List.replicate n zV) rr ((List.replicate n zV).map fun _ => (0, 0, false)) (rr.map fun r => ([], r.kind, 0)) [] ∧ s.n = m := by
  obtain ⟨rn, rg, _⟩ := owns_gr (s := s) (xs := rr) ho
  have gv : Gr w (some ⟨g, 0, none⟩) n (List.replicate n zV) := by
    have h := Gr.blk (R := []) (xs := List.replicate n zV) (w := w) (g := g) (e := tVar) (by rw [List.append_nil]; exact hG)
    rw [List.length_replicate] at h
    exact h
  exact ⟨limPrg gv (fun v hv => (List.mem_replicate.1 hv).2) rg hz rfl, rn⟩
theorem limAtV {w : World} {base m n : Nat} {s t : SlR} {vr : List VarR} {rr : List RowR} (hv : w.ownsRow base tVar 9 t.v n (gcs vr)) {base' : Nat} (ho : w.ownsRow base' tRow 6 s.v m (gcs rr)) (hzv : ∀ v ∈ vr, v = zV) (hz : ∀ r ∈ rr, r.a = nilS ∧ r.b = RatR.zero) :
    PrgI 1 1 w ⟨t, s, nilS⟩ vr rr (vr.map fun _ => (0, 0, false)) (rr.map fun r => ([], r.kind, 0)) [] ∧ s.n = m ∧ t.n = n := by
  obtain ⟨rn, rg, _⟩ := owns_gr (s := s) (xs := rr) ho
  obtain ⟨vn, vg, _⟩ := owns_gr (s := t) (xs := vr) hv
  exact ⟨limPrg vg hzv rg hz rfl, rn, vn⟩
theorem zR_z {k : Int} {m : Nat} : ∀ r ∈ List.replicate m (zR k), r.a = nilS ∧ r.b = RatR.zero := fun r hr => by rw [(List.mem_replicate.1 hr).2]; exact ⟨rfl, rfl⟩
theorem limGood {vr : List VarR} {rr : List RowR} (h1 : vr.length ≤ 600) (h2 : rr.length ≤ 600) (h3 : ∀ r ∈ rr, 1 ≤ r.kind ∧ r.kind ≤ 3) : Good (vr.map fun _ => ((0 : Rat), (0 : Rat), false)) (rr.map fun r => (([] : VL), r.kind, (0 : Rat))) true (fun _ => true) := by
  refine ⟨by rw [List.length_map]; exact h1, by rw [List.length_map]; exact h2, rfl, fun j x h => ?_, fun j x h => ?_⟩
  · obtain ⟨v, _, rfl⟩ := List.mem_map.1 (List.mem_of_getElem? h)
    exact Rat.le_refl
  · obtain ⟨r, hr, rfl⟩ := List.mem_map.1 (List.mem_of_getElem? h)
    exact ⟨(h3 r hr).1, (h3 r hr).2, rfl⟩
theorem limRR {rr : List RowR} (hz : ∀ r ∈ rr, r.a = nilS ∧ r.b = RatR.zero) (w : World) (N : Int) : ∀ (j : Nat) r, rr[j]? = some r → ∀ w', Ext w w' → CallS Try.prog 47 #[r.a.v, .int .i64 N] w' fun v w'' => Ext w' w'' ∧ v = .bool true := fun j r hj w' _ => by
  rw [(hz r (List.mem_of_getElem? hj)).1]; exact nilRight w' N
theorem limForm {w : World} {g base m n : Nat} {s : SlR} (hG : Blk w g tVar (gcs (List.replicate n zV))) (ho : w.ownsRow base tRow 6 s.v m (gcs (List.replicate m (zR 1)))) (hn : n ≤ 600) (hm : m ≤ 600) :
    CallS Try.prog 9 #[PrgR.v ⟨⟨some ⟨g, 0, none⟩, n, n⟩, s, nilS⟩] w fun v w' => Ext w w' ∧ ∃ f : FormR, v = .tuple #[f.v, .int .i64 0] ∧ f.cols.n = n + m ∧ f.m = (m : Int) := by
  obtain ⟨hP, rn⟩ := limAt hG ho zR_z (List.length_replicate ..)
  have hgood := limGood (vr := List.replicate n zV) (rr := List.replicate m (zR 1)) (by rw [List.length_replicate]; exact hn) (by rw [List.length_replicate]; exact hm) (fun r hr => by rw [(List.mem_replicate.1 hr).2]; exact ⟨by decide, by decide⟩)
  refine CallS.mono (Form_ok (RR := fun _ => true) hP ⟨by decide, by decide, by decide⟩ ⟨by show n ≤ _; omega, by show s.n ≤ _; omega⟩ (fun w' _ => nilRight w' _) (limRR zR_z w _) (fun j x h _ q hq => ?_)) ?_
  · obtain ⟨r, hr, rfl⟩ := List.mem_map.1 (List.mem_of_getElem? h)
    exact absurd hq (Nat.not_lt_zero _)
  rintro _ w' ⟨hx, f, e, rfl, hfe⟩
  rcases hfe with hfe | ⟨_, rfl, t, rfl, hcv, hF⟩
  · exact absurd hgood hfe.1
  refine ⟨hx, _, rfl, ?_, ?_⟩
  · have hxl := hF.xl
    have hgl := hF.gd.len
    have hcl2 : t.cs.length = t.ts.length := by
      simp only [FS.ss, FS.rs, List.length_cons, List.length_map] at hgl; omega
    have hXn := formX_length ((List.replicate m (zR 1)).map fun r => (([] : VL), r.kind, (0 : Rat))) ((List.replicate n zV).map fun _ => ((0 : Rat), (0 : Rat), false)).length ((List.replicate m (zR 1)).map fun r => (([] : VL), r.kind, (0 : Rat))).length
    show t.cols.n = n + m
    rw [hF.getCv.1, hcv]
    rw [List.length_map, List.length_map, List.length_replicate, List.length_replicate] at hXn hxl
    omega
  · show (((List.replicate m (zR 1)).map fun r => (([] : VL), r.kind, (0 : Rat))).length : Int) = m
    rw [List.length_map, List.length_replicate]
theorem limRight {w : World} {p : PrgR} {vr : List VarR} {rr : List RowR} (hP : PrgI 1 1 w p vr rr (vr.map fun _ => (0, 0, false)) (rr.map fun r => ([], r.kind, 0)) []) (hc : p.cost = nilS) (hz : ∀ r ∈ rr, r.a = nilS ∧ r.b = RatR.zero) (hn : p.vars.n ≤ 1000 ∧ p.rows.n ≤ 1000) (hm : 600 < vr.length ∨ 600 < rr.length) :
    CallS Try.prog 10 #[p.v] w fun v w' => Ext w w' ∧ v = .int .i64 100 := by
  refine CallS.mono (PRight_ok (RC := true) (RR := fun _ => true) hP ⟨by decide, by omega, by omega⟩ (fun w' _ => by rw [hc]; exact nilRight w' _) (limRR hz w _)) ?_
  rintro _ w' ⟨hx, e, rfl, he⟩
  rcases he with he | he
  · have h1 := he.1.nv
    have h2 := he.1.nr
    rw [List.length_map] at h1 h2
    omega
  · exact ⟨hx, by rw [he.2]⟩
theorem limValue {w : World} {p : PrgR} {vr : List VarR} {rr : List RowR} {vs : VS} {rws : RWS} (hP : PrgI 1 1 w p vr rr vs rws []) :
    CallS Try.prog 12 #[p.v, .slice none 0 0] w fun v w' => Ext w w' ∧ ∃ s : RatR, v = s.v ∧ QC (pK 1 1) w' s 0 :=
  Value_ok (rp := nilS) (rs := []) (qs := []) hP ⟨Gr.nil _ _, rfl, fun j x q h => by simp at h⟩ ⟨by decide, by decide, by decide, by decide⟩
theorem ownsV {w : World} {g n base : Nat} (hG : Blk w g tVar (gcs (List.replicate n zV))) (hb : base ≤ g) (hn : n ≤ 1000) : w.ownsRow base tVar 9 (SlR.v ⟨some ⟨g, 0, none⟩, n, n⟩) n (gcs (List.replicate n zV)) := by
  have hl : (gcs (List.replicate n zV)).length = n * 9 := by rw [gcs_length, List.length_replicate]; rfl
  have h := owns_take hG hb n n 9 hl (Nat.le_refl _) (by omega)
  rw [List.take_of_length_le (by omega)] at h
  exact h
theorem lim_true_true (w0 : World) : Calls Try.prog 3 #[.bool true, .bool true] w0 fun e w' => ∃ v, e = .returned v ∧ (Ext w0 w' ∧ v = .bool true) := by
  refine enterC (fun _ => none) ttOk mixed (args := [.bool true, .bool true]) Try.func3 rfl (by kernel_rfl) (by kernel_rfl) ?_
  refine ⟨3, 3, ⟨rfl, rfl, by decide, by decide +kernel, by decide⟩, ?_⟩
  intro g w1 hg
  intro b7 w2 hb7
  have hg : New w0 w1 g tVar (rep 3 (Enc.cs zV)) := hg
  rw [rep_gcs] at hg
  have x1 := hg.ext
  have st := storeE (T := tt) (ty := tPrg) (cs := PrgR.cs PrgR.zero) (⟨⟨some ⟨g, 0, none⟩, 3, 3⟩, nilS, nilS⟩ : PrgR) hb7.toBlk rfl
  refine ⟨st.1, fun w3 hs3 => ?_⟩
  obtain ⟨hB3, hg3⟩ := st.2 w3 hs3
  have hx13 : Ext w1 w3 := Ext.grownB hb7.ext hg3 (hb7.ge (Ext.rfl w1))
  have x3 := Ext.trans' x1 hx13
  have hG3 := hg.toBlk.ext hx13
  have lb := hb7.lt
  have lg := hg.lt
  have nb := hb7.isNew
  have ng := hg.isNew
  have s12 := hb7.ext.size
  have s23 := hg3.size
  have own3 : w3.ownsRow w2.heap.size tRow 6 nilS.v 0 (gcs (List.replicate 0 (zR 1))) := owns_nil
  refine ⟨Nat × SlR, fun x => [(0, .bool true), (1, .bool true), (5, .int .i64 3), (6, .int .i64 600), (7, .pointer (some ⟨b7, 0, none⟩)), (8, .int .i64 (x.1 : Int))],
    fun x w' => Ext w0 w' ∧ Blk w' b7 tPrg (PrgR.cs ⟨⟨some ⟨g, 0, none⟩, 3, 3⟩, x.2, nilS⟩) ∧ Blk w' g tVar (gcs (List.replicate 3 zV)) ∧ w'.ownsRow w2.heap.size tRow 6 x.2.v x.1 (gcs (List.replicate x.1 (zR 1))) ∧ w2.heap.size ≤ w'.heap.size ∧ x.1 ≤ 600, fun x _ => 600 - x.1,
    ⟨(0, nilS), ⟨rfl, rfl, rfl, rfl, rfl, rfl, trivial⟩, x3, hB3, hG3, own3, s23, Nat.zero_le _⟩, ?_⟩
  clear hs3 st own3 hB3 hG3 hg3 hx13 x3 s23
  rintro ⟨i, s⟩ w4 ⟨x4, hB4, hG4, ho4, s4, hi⟩
  dsimp only at *
  refine And.intro (fun h1 => ?_) (fun h1 => ?_)
  · have hin : i < 600 := ltTo h1
    refine ⟨_, hB4.one (off := 1) rfl rfl, ?_⟩
    intro b5 w5 hb5
    have hb5 : New w4 w5 b5 tRow (Enc.cs (zR 1)) := hb5
    have hx5 := hb5.ext
    have hB5 : Blk w5 b5 tRow (Enc.cs (zR 1)) := hb5.toBlk
    have ho5 := owns_ext' ho4 hx5
    refine ⟨rfl, w2.heap.size, i, gcs (List.replicate i (zR 1)), Enc.cs (zR 1), ⟨ho5, rfl, ?_, Enc.one (zR 1), fun _ => ⟨_, rfl, rfl⟩, by omega, by show (i + 1) * 96 ≤ _; omega, Nat.le_trans s4 hx5.size⟩, ?_⟩
    · intro e v he
      exact hB5.cell (i := 0 + e) (v := v) (by rw [Nat.zero_add]; exact he)
    intro v6 w6 ho6 hg6 hn6
    obtain ⟨s', rfl⟩ := slOf ho6
    have hB6 := blk_kept ho5 hg6 (hB4.ext hx5) (by omega)
    have hG6 := blk_kept ho5 hg6 (hG4.ext hx5) (by omega)
    have st := storeP (ty := 23) (i := 1) (v := s') hB6 (by decide) (.inr rfl)
    refine ⟨st.1, fun w7 hs7 => ?_⟩
    obtain ⟨hB7, hg7⟩ := st.2 w7 hs7
    have x6 : Ext w0 w6 := grown_ext ho5 hg6 (Ext.trans' x4 hx5) (by have := x1.size; omega)
    have x7 : Ext w0 w7 := Ext.grownB x6 hg7 (by have := x1.size; omega)
    refine ⟨((i + 1 : Nat) : Int), sucI i (by omega), (i + 1, s'), ⟨rfl, rfl, rfl, rfl, rfl, rfl, trivial⟩, ⟨x7, hB7, Blk.grownN hG6 hg7 (by omega), ?_, ?_, hin⟩, Nat.sub_lt_sub_left hin (Nat.lt_succ_self i)⟩
    · have h := owns_kept ho6 hg7 (by omega)
      rw [repR_append] at h
      exact h
    · exact Nat.le_trans s4 (Nat.le_trans hx5.size (Nat.le_trans hg6.size hg7.size))
  · have hi' : i = 600 := Nat.le_antisymm hi (geTo h1)
    subst hi'
    refine ⟨_, hB4.agg (sub := PrgR.cs ⟨⟨some ⟨g, 0, none⟩, 3, 3⟩, s, nilS⟩) rfl rfl, ?_⟩
    refine CallS.mono (limForm hG4 ho4 (by decide) (by decide)) ?_
    rintro _ w5 ⟨hx5, f, rfl, hfc, hfm⟩
    intro b9 w6 hb9
    have st := storeE (T := tt) (ty := tFrm) f hb9.toBlk rfl
    refine ⟨st.1, fun w7 hs7 => ?_⟩
    obtain ⟨hB7, hg7⟩ := st.2 w7 hs7
    have x57 : Ext w5 w7 := Ext.grownB hb9.ext hg7 (hb9.ge (Ext.rfl w5))
    have x47 := Ext.trans' hx5 x57
    refine And.intro (fun h => absurd rfl h) (fun _ => ?_)
    refine ⟨_, hB7.one (off := 1) rfl rfl, ?_⟩
    refine ⟨603, by decide, ?_⟩
    refine And.intro (fun h => absurd (by show (f.cols.n : Int) = 603; rw [hfc]; rfl) h) (fun _ => ?_)
    refine ⟨_, hB7.one (off := 0) rfl rfl, ?_⟩
    refine And.intro (fun h => absurd hfm h) (fun _ => ?_)
    have x7 := Ext.trans' x4 x47
    have hBp := hB4.ext x47
    have hG7 := hG4.ext x47
    have ho7 := owns_ext' ho4 x47
    have s7 := Nat.le_trans s4 x47.size
    have sx1 := x1.size
    refine ⟨_, hBp.one (off := 1) rfl rfl, ?_⟩
    intro b5 w8 hb5
    have hb5 : New w7 w8 b5 tRow (Enc.cs (zR 2)) := hb5
    have hx8 := hb5.ext
    have hB5 : Blk w8 b5 tRow (Enc.cs (zR 2)) := hb5.toBlk
    have ho8 := owns_ext' ho7 hx8
    refine ⟨rfl, w2.heap.size, 600, gcs (List.replicate 600 (zR 1)), Enc.cs (zR 2), ⟨ho8, rfl, ?_, Enc.one (zR 2), fun _ => ⟨_, rfl, rfl⟩, by decide, by decide, Nat.le_trans s7 hx8.size⟩, ?_⟩
    · intro e v he
      exact hB5.cell (i := 0 + e) (v := v) (by rw [Nat.zero_add]; exact he)
    intro v9 w9 ho9 hg9 hn9
    obtain ⟨s', rfl⟩ := slOf ho9
    have hB9 := blk_kept ho8 hg9 (hBp.ext hx8) (by omega)
    have hG9 := blk_kept ho8 hg9 (hG7.ext hx8) (by omega)
    have st := storeP (ty := 23) (i := 1) (v := s') hB9 (by decide) (.inr rfl)
    refine ⟨st.1, fun w10 hs10 => ?_⟩
    obtain ⟨hB10, hg10⟩ := st.2 w10 hs10
    have x9 : Ext w0 w9 := grown_ext ho8 hg9 (Ext.trans' x7 hx8) (by omega)
    have x10 : Ext w0 w10 := Ext.grownB x9 hg10 (by omega)
    have hG10 := Blk.grownN hG9 hg10 (by omega)
    have ho10 := owns_kept ho9 hg10 (by omega)
    rw [← gcs_one (zR 2), ← gcs_append] at ho10
    have hzz : ∀ r ∈ List.replicate 600 (zR 1) ++ [zR 2], r.a = nilS ∧ r.b = RatR.zero := fun r hr => (List.mem_append.1 hr).elim (zR_z r) (fun h => by rw [List.mem_singleton.1 h]; exact ⟨rfl, rfl⟩)
    have hL := limAtV (ownsV hG10 (Nat.zero_le _) (by decide)) ho10 (fun v hv => (List.mem_replicate.1 hv).2) hzz
    have hP10 := hL.1
    have hnn : (PrgR.mk ⟨some ⟨g, 0, none⟩, 3, 3⟩ s' nilS).vars.n ≤ 1000 ∧ (PrgR.mk ⟨some ⟨g, 0, none⟩, 3, 3⟩ s' nilS).rows.n ≤ 1000 := ⟨(by decide : 3 ≤ 1000), by show s'.n ≤ 1000; have := hL.2.1; omega⟩
    refine ⟨_, Blk.agg (sub := PrgR.cs ⟨⟨some ⟨g, 0, none⟩, 3, 3⟩, s', nilS⟩) (show Blk w10 b7 tPrg (PrgR.cs ⟨⟨some ⟨g, 0, none⟩, 3, 3⟩, s', nilS⟩) from hB10) rfl rfl, ?_⟩
    refine CallS.mono (limRight hP10 rfl hzz hnn (.inr (by rw [List.length_append, List.length_replicate]; decide))) ?_
    rintro _ w11 ⟨hx11, rfl⟩
    refine And.intro (fun _ => ?_) (fun h => absurd rfl h)
    refine CallS.mono (awake15_at w11) ?_
    rintro _ w12 ⟨hx12, rfl⟩
    exact ⟨Ext.trans' x10 (Ext.trans' hx11 hx12), rfl⟩
theorem lim_true_false (w0 : World) : Calls Try.prog 3 #[.bool true, .bool false] w0 fun e w' => ∃ v, e = .returned v ∧ (Ext w0 w' ∧ v = .bool true) := by
  refine enterC (fun _ => none) ttOk mixed (args := [.bool true, .bool false]) Try.func3 rfl (by kernel_rfl) (by kernel_rfl) ?_
  refine ⟨600, 600, ⟨rfl, rfl, by decide, by decide +kernel, by decide⟩, ?_⟩
  intro g w1 hg
  intro b7 w2 hb7
  have hg : New w0 w1 g tVar (rep 600 (Enc.cs zV)) := hg
  rw [rep_gcs] at hg
  have x1 := hg.ext
  have st := storeE (T := tt) (ty := tPrg) (cs := PrgR.cs PrgR.zero) (⟨⟨some ⟨g, 0, none⟩, 600, 600⟩, nilS, nilS⟩ : PrgR) hb7.toBlk rfl
  refine ⟨st.1, fun w3 hs3 => ?_⟩
  obtain ⟨hB3, hg3⟩ := st.2 w3 hs3
  have hx13 : Ext w1 w3 := Ext.grownB hb7.ext hg3 (hb7.ge (Ext.rfl w1))
  have x3 := Ext.trans' x1 hx13
  have hG3 := hg.toBlk.ext hx13
  have lb := hb7.lt
  have lg := hg.lt
  have nb := hb7.isNew
  have ng := hg.isNew
  have s12 := hb7.ext.size
  have s23 := hg3.size
  have own3 : w3.ownsRow w2.heap.size tRow 6 nilS.v 0 (gcs (List.replicate 0 (zR 1))) := owns_nil
  refine ⟨Nat × SlR, fun x => [(0, .bool true), (1, .bool false), (5, .int .i64 600), (6, .int .i64 3), (7, .pointer (some ⟨b7, 0, none⟩)), (8, .int .i64 (x.1 : Int))],
    fun x w' => Ext w0 w' ∧ Blk w' b7 tPrg (PrgR.cs ⟨⟨some ⟨g, 0, none⟩, 600, 600⟩, x.2, nilS⟩) ∧ Blk w' g tVar (gcs (List.replicate 600 zV)) ∧ w'.ownsRow w2.heap.size tRow 6 x.2.v x.1 (gcs (List.replicate x.1 (zR 1))) ∧ w2.heap.size ≤ w'.heap.size ∧ x.1 ≤ 3, fun x _ => 3 - x.1,
    ⟨(0, nilS), ⟨rfl, rfl, rfl, rfl, rfl, rfl, trivial⟩, x3, hB3, hG3, own3, s23, Nat.zero_le _⟩, ?_⟩
  clear hs3 st own3 hB3 hG3 hg3 hx13 x3 s23
  rintro ⟨i, s⟩ w4 ⟨x4, hB4, hG4, ho4, s4, hi⟩
  dsimp only at *
  refine And.intro (fun h1 => ?_) (fun h1 => ?_)
  · have hin : i < 3 := ltTo h1
    refine ⟨_, hB4.one (off := 1) rfl rfl, ?_⟩
    intro b5 w5 hb5
    have hb5 : New w4 w5 b5 tRow (Enc.cs (zR 1)) := hb5
    have hx5 := hb5.ext
    have hB5 : Blk w5 b5 tRow (Enc.cs (zR 1)) := hb5.toBlk
    have ho5 := owns_ext' ho4 hx5
    refine ⟨rfl, w2.heap.size, i, gcs (List.replicate i (zR 1)), Enc.cs (zR 1), ⟨ho5, rfl, ?_, Enc.one (zR 1), fun _ => ⟨_, rfl, rfl⟩, by omega, by show (i + 1) * 96 ≤ _; omega, Nat.le_trans s4 hx5.size⟩, ?_⟩
    · intro e v he
      exact hB5.cell (i := 0 + e) (v := v) (by rw [Nat.zero_add]; exact he)
    intro v6 w6 ho6 hg6 hn6
    obtain ⟨s', rfl⟩ := slOf ho6
    have hB6 := blk_kept ho5 hg6 (hB4.ext hx5) (by omega)
    have hG6 := blk_kept ho5 hg6 (hG4.ext hx5) (by omega)
    have st := storeP (ty := 23) (i := 1) (v := s') hB6 (by decide) (.inr rfl)
    refine ⟨st.1, fun w7 hs7 => ?_⟩
    obtain ⟨hB7, hg7⟩ := st.2 w7 hs7
    have x6 : Ext w0 w6 := grown_ext ho5 hg6 (Ext.trans' x4 hx5) (by have := x1.size; omega)
    have x7 : Ext w0 w7 := Ext.grownB x6 hg7 (by have := x1.size; omega)
    refine ⟨((i + 1 : Nat) : Int), sucI i (by omega), (i + 1, s'), ⟨rfl, rfl, rfl, rfl, rfl, rfl, trivial⟩, ⟨x7, hB7, Blk.grownN hG6 hg7 (by omega), ?_, ?_, hin⟩, Nat.sub_lt_sub_left hin (Nat.lt_succ_self i)⟩
    · have h := owns_kept ho6 hg7 (by omega)
      rw [repR_append] at h
      exact h
    · exact Nat.le_trans s4 (Nat.le_trans hx5.size (Nat.le_trans hg6.size hg7.size))
  · have hi' : i = 3 := Nat.le_antisymm hi (geTo h1)
    subst hi'
    refine ⟨_, hB4.agg (sub := PrgR.cs ⟨⟨some ⟨g, 0, none⟩, 600, 600⟩, s, nilS⟩) rfl rfl, ?_⟩
    refine CallS.mono (limForm hG4 ho4 (by decide) (by decide)) ?_
    rintro _ w5 ⟨hx5, f, rfl, hfc, hfm⟩
    intro b9 w6 hb9
    have st := storeE (T := tt) (ty := tFrm) f hb9.toBlk rfl
    refine ⟨st.1, fun w7 hs7 => ?_⟩
    obtain ⟨hB7, hg7⟩ := st.2 w7 hs7
    have x57 : Ext w5 w7 := Ext.grownB hb9.ext hg7 (hb9.ge (Ext.rfl w5))
    have x47 := Ext.trans' hx5 x57
    refine And.intro (fun h => absurd rfl h) (fun _ => ?_)
    refine ⟨_, hB7.one (off := 1) rfl rfl, ?_⟩
    refine ⟨603, by decide, ?_⟩
    refine And.intro (fun h => absurd (by show (f.cols.n : Int) = 603; rw [hfc]; rfl) h) (fun _ => ?_)
    refine ⟨_, hB7.one (off := 0) rfl rfl, ?_⟩
    refine And.intro (fun h => absurd hfm h) (fun _ => ?_)
    have x7 := Ext.trans' x4 x47
    have hBp := hB4.ext x47
    have hG7 := hG4.ext x47
    have ho7 := owns_ext' ho4 x47
    have s7 := Nat.le_trans s4 x47.size
    have sx1 := x1.size
    refine ⟨_, hBp.one (off := 0) rfl rfl, ?_⟩
    intro b5 w8 hb5
    have hb5 : New w7 w8 b5 tVar (Enc.cs zV) := hb5
    have hx8 := hb5.ext
    have hB5 : Blk w8 b5 tVar (Enc.cs zV) := hb5.toBlk
    have ho8 := ownsV (hG7.ext hx8) (base := w0.heap.size) (by omega) (by decide)
    refine ⟨rfl, w0.heap.size, 600, gcs (List.replicate 600 zV), Enc.cs zV, ⟨ho8, rfl, ?_, Enc.one zV, fun _ => ⟨_, rfl, rfl⟩, by decide, by decide, by have := hx8.size; omega⟩, ?_⟩
    · intro e v he
      exact hB5.cell (i := 0 + e) (v := v) (by rw [Nat.zero_add]; exact he)
    intro v9 w9 ho9 hg9 hn9
    obtain ⟨s', rfl⟩ := slOf ho9
    have hg9 : w8.grownBy w9 (some g) := hg9
    have hB9 := Blk.grownN (hBp.ext hx8) hg9 (by omega)
    have hr9 := owns_kept (owns_ext' ho7 hx8) hg9 (by omega)
    have st := storeP (ty := 22) (i := 0) (v := s') hB9 (by decide) (.inl rfl)
    refine ⟨st.1, fun w10 hs10 => ?_⟩
    obtain ⟨hB10, hg10⟩ := st.2 w10 hs10
    have x9 : Ext w0 w9 := Ext.grownB (Ext.trans' x7 hx8) hg9 (by omega)
    have x10 : Ext w0 w10 := Ext.grownB x9 hg10 (by omega)
    have hr10 := owns_kept hr9 hg10 (by omega)
    have l7 := hBp.lt
    have l8 := hx8.size
    have hob : ∀ b, s'.v.ownBlock = some b → b ≠ b7 := fun b hb e => hn9.elim (fun h => by
      have h2 : s'.v.ownBlock = some g := h
      have h3 : some g = some b := h2.symm.trans hb
      have h4 := Option.some.inj h3
      omega) (fun h => by have := h b hb; omega)
    have hv10 : w10.ownsRow w0.heap.size tVar 9 s'.v 601 (gcs (List.replicate 600 zV) ++ Enc.cs zV) := ho9.kept hg10 (by
      cases hv : s'.v.ownBlock with
      | none => exact .inl (Eq.refl _)
      | some c => exact .inr fun e => hob c hv (Option.some.inj e))
    rw [← gcs_one zV, ← gcs_append] at hv10
    have hzz : ∀ v ∈ List.replicate 600 zV ++ [zV], v = zV := fun v hv => (List.mem_append.1 hv).elim (fun h => (List.mem_replicate.1 h).2) List.mem_singleton.1
    have hL := limAtV hv10 hr10 hzz zR_z
    have hP10 := hL.1
    have hnn : (PrgR.mk s' s nilS).vars.n ≤ 1000 ∧ (PrgR.mk s' s nilS).rows.n ≤ 1000 := ⟨by show s'.n ≤ 1000; have := hL.2.2; omega, by show s.n ≤ 1000; have := hL.2.1; omega⟩
    have hzz := zR_z (k := 1) (m := 3)
    refine ⟨_, Blk.agg (sub := PrgR.cs ⟨s', s, nilS⟩) (show Blk w10 b7 tPrg (PrgR.cs ⟨s', s, nilS⟩) from hB10) rfl rfl, ?_⟩
    refine CallS.mono (limRight hP10 rfl hzz hnn (.inl (by rw [List.length_append, List.length_replicate]; decide))) ?_
    rintro _ w11 ⟨hx11, rfl⟩
    refine And.intro (fun _ => ?_) (fun h => absurd rfl h)
    refine CallS.mono (awake15_at w11) ?_
    rintro _ w12 ⟨hx12, rfl⟩
    exact ⟨Ext.trans' x10 (Ext.trans' hx11 hx12), rfl⟩
theorem lim_false_true (w0 : World) : Calls Try.prog 3 #[.bool false, .bool true] w0 fun e w' => ∃ v, e = .returned v ∧ (Ext w0 w' ∧ v = .bool true) := by
  refine enterC (fun _ => none) ttOk mixed (args := [.bool false, .bool true]) Try.func3 rfl (by kernel_rfl) (by kernel_rfl) ?_
  refine ⟨3, 3, ⟨rfl, rfl, by decide, by decide +kernel, by decide⟩, ?_⟩
  intro g w1 hg
  intro b7 w2 hb7
  have hg : New w0 w1 g tVar (rep 3 (Enc.cs zV)) := hg
  rw [rep_gcs] at hg
  have x1 := hg.ext
  have st := storeE (T := tt) (ty := tPrg) (cs := PrgR.cs PrgR.zero) (⟨⟨some ⟨g, 0, none⟩, 3, 3⟩, nilS, nilS⟩ : PrgR) hb7.toBlk rfl
  refine ⟨st.1, fun w3 hs3 => ?_⟩
  obtain ⟨hB3, hg3⟩ := st.2 w3 hs3
  have hx13 : Ext w1 w3 := Ext.grownB hb7.ext hg3 (hb7.ge (Ext.rfl w1))
  have x3 := Ext.trans' x1 hx13
  have hG3 := hg.toBlk.ext hx13
  have lb := hb7.lt
  have lg := hg.lt
  have nb := hb7.isNew
  have ng := hg.isNew
  have s12 := hb7.ext.size
  have s23 := hg3.size
  have own3 : w3.ownsRow w2.heap.size tRow 6 nilS.v 0 (gcs (List.replicate 0 (zR 1))) := owns_nil
  refine ⟨Nat × SlR, fun x => [(0, .bool false), (1, .bool true), (5, .int .i64 3), (6, .int .i64 600), (7, .pointer (some ⟨b7, 0, none⟩)), (8, .int .i64 (x.1 : Int))],
    fun x w' => Ext w0 w' ∧ Blk w' b7 tPrg (PrgR.cs ⟨⟨some ⟨g, 0, none⟩, 3, 3⟩, x.2, nilS⟩) ∧ Blk w' g tVar (gcs (List.replicate 3 zV)) ∧ w'.ownsRow w2.heap.size tRow 6 x.2.v x.1 (gcs (List.replicate x.1 (zR 1))) ∧ w2.heap.size ≤ w'.heap.size ∧ x.1 ≤ 600, fun x _ => 600 - x.1,
    ⟨(0, nilS), ⟨rfl, rfl, rfl, rfl, rfl, rfl, trivial⟩, x3, hB3, hG3, own3, s23, Nat.zero_le _⟩, ?_⟩
  clear hs3 st own3 hB3 hG3 hg3 hx13 x3 s23
  rintro ⟨i, s⟩ w4 ⟨x4, hB4, hG4, ho4, s4, hi⟩
  dsimp only at *
  refine And.intro (fun h1 => ?_) (fun h1 => ?_)
  · have hin : i < 600 := ltTo h1
    refine ⟨_, hB4.one (off := 1) rfl rfl, ?_⟩
    intro b5 w5 hb5
    have hb5 : New w4 w5 b5 tRow (Enc.cs (zR 1)) := hb5
    have hx5 := hb5.ext
    have hB5 : Blk w5 b5 tRow (Enc.cs (zR 1)) := hb5.toBlk
    have ho5 := owns_ext' ho4 hx5
    refine ⟨rfl, w2.heap.size, i, gcs (List.replicate i (zR 1)), Enc.cs (zR 1), ⟨ho5, rfl, ?_, Enc.one (zR 1), fun _ => ⟨_, rfl, rfl⟩, by omega, by show (i + 1) * 96 ≤ _; omega, Nat.le_trans s4 hx5.size⟩, ?_⟩
    · intro e v he
      exact hB5.cell (i := 0 + e) (v := v) (by rw [Nat.zero_add]; exact he)
    intro v6 w6 ho6 hg6 hn6
    obtain ⟨s', rfl⟩ := slOf ho6
    have hB6 := blk_kept ho5 hg6 (hB4.ext hx5) (by omega)
    have hG6 := blk_kept ho5 hg6 (hG4.ext hx5) (by omega)
    have st := storeP (ty := 23) (i := 1) (v := s') hB6 (by decide) (.inr rfl)
    refine ⟨st.1, fun w7 hs7 => ?_⟩
    obtain ⟨hB7, hg7⟩ := st.2 w7 hs7
    have x6 : Ext w0 w6 := grown_ext ho5 hg6 (Ext.trans' x4 hx5) (by have := x1.size; omega)
    have x7 : Ext w0 w7 := Ext.grownB x6 hg7 (by have := x1.size; omega)
    refine ⟨((i + 1 : Nat) : Int), sucI i (by omega), (i + 1, s'), ⟨rfl, rfl, rfl, rfl, rfl, rfl, trivial⟩, ⟨x7, hB7, Blk.grownN hG6 hg7 (by omega), ?_, ?_, hin⟩, Nat.sub_lt_sub_left hin (Nat.lt_succ_self i)⟩
    · have h := owns_kept ho6 hg7 (by omega)
      rw [repR_append] at h
      exact h
    · exact Nat.le_trans s4 (Nat.le_trans hx5.size (Nat.le_trans hg6.size hg7.size))
  · have hi' : i = 600 := Nat.le_antisymm hi (geTo h1)
    subst hi'
    refine ⟨_, hB4.agg (sub := PrgR.cs ⟨⟨some ⟨g, 0, none⟩, 3, 3⟩, s, nilS⟩) rfl rfl, ?_⟩
    refine CallS.mono (limForm hG4 ho4 (by decide) (by decide)) ?_
    rintro _ w5 ⟨hx5, f, rfl, hfc, hfm⟩
    intro b9 w6 hb9
    have st := storeE (T := tt) (ty := tFrm) f hb9.toBlk rfl
    refine ⟨st.1, fun w7 hs7 => ?_⟩
    obtain ⟨hB7, hg7⟩ := st.2 w7 hs7
    have x57 : Ext w5 w7 := Ext.grownB hb9.ext hg7 (hb9.ge (Ext.rfl w5))
    have x47 := Ext.trans' hx5 x57
    refine And.intro (fun h => absurd rfl h) (fun _ => ?_)
    refine ⟨_, hB7.one (off := 1) rfl rfl, ?_⟩
    refine ⟨603, by decide, ?_⟩
    refine And.intro (fun h => absurd (by show (f.cols.n : Int) = 603; rw [hfc]; rfl) h) (fun _ => ?_)
    refine ⟨_, hB7.one (off := 0) rfl rfl, ?_⟩
    refine And.intro (fun h => absurd hfm h) (fun _ => ?_)
    have x7 := Ext.trans' x4 x47
    have hBp := hB4.ext x47
    have hG7 := hG4.ext x47
    have ho7 := owns_ext' ho4 x47
    have s7 := Nat.le_trans s4 x47.size
    have sx1 := x1.size
    refine ⟨_, hBp.one (off := 1) rfl rfl, ?_⟩
    intro b5 w8 hb5
    have hb5 : New w7 w8 b5 tRow (Enc.cs (zR 2)) := hb5
    have hx8 := hb5.ext
    have hB5 : Blk w8 b5 tRow (Enc.cs (zR 2)) := hb5.toBlk
    have ho8 := owns_ext' ho7 hx8
    refine ⟨rfl, w2.heap.size, 600, gcs (List.replicate 600 (zR 1)), Enc.cs (zR 2), ⟨ho8, rfl, ?_, Enc.one (zR 2), fun _ => ⟨_, rfl, rfl⟩, by decide, by decide, Nat.le_trans s7 hx8.size⟩, ?_⟩
    · intro e v he
      exact hB5.cell (i := 0 + e) (v := v) (by rw [Nat.zero_add]; exact he)
    intro v9 w9 ho9 hg9 hn9
    obtain ⟨s', rfl⟩ := slOf ho9
    have hB9 := blk_kept ho8 hg9 (hBp.ext hx8) (by omega)
    have hG9 := blk_kept ho8 hg9 (hG7.ext hx8) (by omega)
    have st := storeP (ty := 23) (i := 1) (v := s') hB9 (by decide) (.inr rfl)
    refine ⟨st.1, fun w10 hs10 => ?_⟩
    obtain ⟨hB10, hg10⟩ := st.2 w10 hs10
    have x9 : Ext w0 w9 := grown_ext ho8 hg9 (Ext.trans' x7 hx8) (by omega)
    have x10 : Ext w0 w10 := Ext.grownB x9 hg10 (by omega)
    have hG10 := Blk.grownN hG9 hg10 (by omega)
    have ho10 := owns_kept ho9 hg10 (by omega)
    rw [← gcs_one (zR 2), ← gcs_append] at ho10
    have hzz : ∀ r ∈ List.replicate 600 (zR 1) ++ [zR 2], r.a = nilS ∧ r.b = RatR.zero := fun r hr => (List.mem_append.1 hr).elim (zR_z r) (fun h => by rw [List.mem_singleton.1 h]; exact ⟨rfl, rfl⟩)
    have hL := limAtV (ownsV hG10 (Nat.zero_le _) (by decide)) ho10 (fun v hv => (List.mem_replicate.1 hv).2) hzz
    have hP10 := hL.1
    have hnn : (PrgR.mk ⟨some ⟨g, 0, none⟩, 3, 3⟩ s' nilS).vars.n ≤ 1000 ∧ (PrgR.mk ⟨some ⟨g, 0, none⟩, 3, 3⟩ s' nilS).rows.n ≤ 1000 := ⟨(by decide : 3 ≤ 1000), by show s'.n ≤ 1000; have := hL.2.1; omega⟩
    refine ⟨_, Blk.agg (sub := PrgR.cs ⟨⟨some ⟨g, 0, none⟩, 3, 3⟩, s', nilS⟩) (show Blk w10 b7 tPrg (PrgR.cs ⟨⟨some ⟨g, 0, none⟩, 3, 3⟩, s', nilS⟩) from hB10) rfl rfl, ?_⟩
    refine CallS.mono (limRight hP10 rfl hzz hnn (.inr (by rw [List.length_append, List.length_replicate]; decide))) ?_
    rintro _ w11 ⟨hx11, rfl⟩
    refine And.intro (fun _ => ?_) (fun h => absurd rfl h)
    refine ⟨_, Blk.agg (sub := PrgR.cs ⟨⟨some ⟨g, 0, none⟩, 3, 3⟩, s', nilS⟩) (show Blk w11 b7 tPrg (PrgR.cs ⟨⟨some ⟨g, 0, none⟩, 3, 3⟩, s', nilS⟩) from hB10.ext hx11) rfl rfl, ?_⟩
    refine CallS.mono (limValue (hP10.ext hx11)) ?_
    rintro _ w12 ⟨hx12, r, rfl, hr⟩
    refine CallS.mono (RSign_ok (H0.hb w12) (hr.qi (k := pK 1 1) (by decide)).inq.is) ?_
    rintro _ w13 ⟨hx13, rfl⟩
    refine And.intro (fun _ => ?_) (fun h => absurd rfl h)
    refine CallS.mono (awake15_at w13) ?_
    rintro _ w14 ⟨hx14, rfl⟩
    exact ⟨Ext.trans' x10 (Ext.trans' hx11 (Ext.trans' hx12 (Ext.trans' hx13 hx14))), rfl⟩
theorem lim_false_false (w0 : World) : Calls Try.prog 3 #[.bool false, .bool false] w0 fun e w' => ∃ v, e = .returned v ∧ (Ext w0 w' ∧ v = .bool true) := by
  refine enterC (fun _ => none) ttOk mixed (args := [.bool false, .bool false]) Try.func3 rfl (by kernel_rfl) (by kernel_rfl) ?_
  refine ⟨600, 600, ⟨rfl, rfl, by decide, by decide +kernel, by decide⟩, ?_⟩
  intro g w1 hg
  intro b7 w2 hb7
  have hg : New w0 w1 g tVar (rep 600 (Enc.cs zV)) := hg
  rw [rep_gcs] at hg
  have x1 := hg.ext
  have st := storeE (T := tt) (ty := tPrg) (cs := PrgR.cs PrgR.zero) (⟨⟨some ⟨g, 0, none⟩, 600, 600⟩, nilS, nilS⟩ : PrgR) hb7.toBlk rfl
  refine ⟨st.1, fun w3 hs3 => ?_⟩
  obtain ⟨hB3, hg3⟩ := st.2 w3 hs3
  have hx13 : Ext w1 w3 := Ext.grownB hb7.ext hg3 (hb7.ge (Ext.rfl w1))
  have x3 := Ext.trans' x1 hx13
  have hG3 := hg.toBlk.ext hx13
  have lb := hb7.lt
  have lg := hg.lt
  have nb := hb7.isNew
  have ng := hg.isNew
  have s12 := hb7.ext.size
  have s23 := hg3.size
  have own3 : w3.ownsRow w2.heap.size tRow 6 nilS.v 0 (gcs (List.replicate 0 (zR 1))) := owns_nil
  refine ⟨Nat × SlR, fun x => [(0, .bool false), (1, .bool false), (5, .int .i64 600), (6, .int .i64 3), (7, .pointer (some ⟨b7, 0, none⟩)), (8, .int .i64 (x.1 : Int))],
    fun x w' => Ext w0 w' ∧ Blk w' b7 tPrg (PrgR.cs ⟨⟨some ⟨g, 0, none⟩, 600, 600⟩, x.2, nilS⟩) ∧ Blk w' g tVar (gcs (List.replicate 600 zV)) ∧ w'.ownsRow w2.heap.size tRow 6 x.2.v x.1 (gcs (List.replicate x.1 (zR 1))) ∧ w2.heap.size ≤ w'.heap.size ∧ x.1 ≤ 3, fun x _ => 3 - x.1,
    ⟨(0, nilS), ⟨rfl, rfl, rfl, rfl, rfl, rfl, trivial⟩, x3, hB3, hG3, own3, s23, Nat.zero_le _⟩, ?_⟩
  clear hs3 st own3 hB3 hG3 hg3 hx13 x3 s23
  rintro ⟨i, s⟩ w4 ⟨x4, hB4, hG4, ho4, s4, hi⟩
  dsimp only at *
  refine And.intro (fun h1 => ?_) (fun h1 => ?_)
  · have hin : i < 3 := ltTo h1
    refine ⟨_, hB4.one (off := 1) rfl rfl, ?_⟩
    intro b5 w5 hb5
    have hb5 : New w4 w5 b5 tRow (Enc.cs (zR 1)) := hb5
    have hx5 := hb5.ext
    have hB5 : Blk w5 b5 tRow (Enc.cs (zR 1)) := hb5.toBlk
    have ho5 := owns_ext' ho4 hx5
    refine ⟨rfl, w2.heap.size, i, gcs (List.replicate i (zR 1)), Enc.cs (zR 1), ⟨ho5, rfl, ?_, Enc.one (zR 1), fun _ => ⟨_, rfl, rfl⟩, by omega, by show (i + 1) * 96 ≤ _; omega, Nat.le_trans s4 hx5.size⟩, ?_⟩
    · intro e v he
      exact hB5.cell (i := 0 + e) (v := v) (by rw [Nat.zero_add]; exact he)
    intro v6 w6 ho6 hg6 hn6
    obtain ⟨s', rfl⟩ := slOf ho6
    have hB6 := blk_kept ho5 hg6 (hB4.ext hx5) (by omega)
    have hG6 := blk_kept ho5 hg6 (hG4.ext hx5) (by omega)
    have st := storeP (ty := 23) (i := 1) (v := s') hB6 (by decide) (.inr rfl)
    refine ⟨st.1, fun w7 hs7 => ?_⟩
    obtain ⟨hB7, hg7⟩ := st.2 w7 hs7
    have x6 : Ext w0 w6 := grown_ext ho5 hg6 (Ext.trans' x4 hx5) (by have := x1.size; omega)
    have x7 : Ext w0 w7 := Ext.grownB x6 hg7 (by have := x1.size; omega)
    refine ⟨((i + 1 : Nat) : Int), sucI i (by omega), (i + 1, s'), ⟨rfl, rfl, rfl, rfl, rfl, rfl, trivial⟩, ⟨x7, hB7, Blk.grownN hG6 hg7 (by omega), ?_, ?_, hin⟩, Nat.sub_lt_sub_left hin (Nat.lt_succ_self i)⟩
    · have h := owns_kept ho6 hg7 (by omega)
      rw [repR_append] at h
      exact h
    · exact Nat.le_trans s4 (Nat.le_trans hx5.size (Nat.le_trans hg6.size hg7.size))
  · have hi' : i = 3 := Nat.le_antisymm hi (geTo h1)
    subst hi'
    refine ⟨_, hB4.agg (sub := PrgR.cs ⟨⟨some ⟨g, 0, none⟩, 600, 600⟩, s, nilS⟩) rfl rfl, ?_⟩
    refine CallS.mono (limForm hG4 ho4 (by decide) (by decide)) ?_
    rintro _ w5 ⟨hx5, f, rfl, hfc, hfm⟩
    intro b9 w6 hb9
    have st := storeE (T := tt) (ty := tFrm) f hb9.toBlk rfl
    refine ⟨st.1, fun w7 hs7 => ?_⟩
    obtain ⟨hB7, hg7⟩ := st.2 w7 hs7
    have x57 : Ext w5 w7 := Ext.grownB hb9.ext hg7 (hb9.ge (Ext.rfl w5))
    have x47 := Ext.trans' hx5 x57
    refine And.intro (fun h => absurd rfl h) (fun _ => ?_)
    refine ⟨_, hB7.one (off := 1) rfl rfl, ?_⟩
    refine ⟨603, by decide, ?_⟩
    refine And.intro (fun h => absurd (by show (f.cols.n : Int) = 603; rw [hfc]; rfl) h) (fun _ => ?_)
    refine ⟨_, hB7.one (off := 0) rfl rfl, ?_⟩
    refine And.intro (fun h => absurd hfm h) (fun _ => ?_)
    have x7 := Ext.trans' x4 x47
    have hBp := hB4.ext x47
    have hG7 := hG4.ext x47
    have ho7 := owns_ext' ho4 x47
    have s7 := Nat.le_trans s4 x47.size
    have sx1 := x1.size
    refine ⟨_, hBp.one (off := 0) rfl rfl, ?_⟩
    intro b5 w8 hb5
    have hb5 : New w7 w8 b5 tVar (Enc.cs zV) := hb5
    have hx8 := hb5.ext
    have hB5 : Blk w8 b5 tVar (Enc.cs zV) := hb5.toBlk
    have ho8 := ownsV (hG7.ext hx8) (base := w0.heap.size) (by omega) (by decide)
    refine ⟨rfl, w0.heap.size, 600, gcs (List.replicate 600 zV), Enc.cs zV, ⟨ho8, rfl, ?_, Enc.one zV, fun _ => ⟨_, rfl, rfl⟩, by decide, by decide, by have := hx8.size; omega⟩, ?_⟩
    · intro e v he
      exact hB5.cell (i := 0 + e) (v := v) (by rw [Nat.zero_add]; exact he)
    intro v9 w9 ho9 hg9 hn9
    obtain ⟨s', rfl⟩ := slOf ho9
    have hg9 : w8.grownBy w9 (some g) := hg9
    have hB9 := Blk.grownN (hBp.ext hx8) hg9 (by omega)
    have hr9 := owns_kept (owns_ext' ho7 hx8) hg9 (by omega)
    have st := storeP (ty := 22) (i := 0) (v := s') hB9 (by decide) (.inl rfl)
    refine ⟨st.1, fun w10 hs10 => ?_⟩
    obtain ⟨hB10, hg10⟩ := st.2 w10 hs10
    have x9 : Ext w0 w9 := Ext.grownB (Ext.trans' x7 hx8) hg9 (by omega)
    have x10 : Ext w0 w10 := Ext.grownB x9 hg10 (by omega)
    have hr10 := owns_kept hr9 hg10 (by omega)
    have l7 := hBp.lt
    have l8 := hx8.size
    have hob : ∀ b, s'.v.ownBlock = some b → b ≠ b7 := fun b hb e => hn9.elim (fun h => by
      have h2 : s'.v.ownBlock = some g := h
      have h3 : some g = some b := h2.symm.trans hb
      have h4 := Option.some.inj h3
      omega) (fun h => by have := h b hb; omega)
    have hv10 : w10.ownsRow w0.heap.size tVar 9 s'.v 601 (gcs (List.replicate 600 zV) ++ Enc.cs zV) := ho9.kept hg10 (by
      cases hv : s'.v.ownBlock with
      | none => exact .inl (Eq.refl _)
      | some c => exact .inr fun e => hob c hv (Option.some.inj e))
    rw [← gcs_one zV, ← gcs_append] at hv10
    have hzz : ∀ v ∈ List.replicate 600 zV ++ [zV], v = zV := fun v hv => (List.mem_append.1 hv).elim (fun h => (List.mem_replicate.1 h).2) List.mem_singleton.1
    have hL := limAtV hv10 hr10 hzz zR_z
    have hP10 := hL.1
    have hnn : (PrgR.mk s' s nilS).vars.n ≤ 1000 ∧ (PrgR.mk s' s nilS).rows.n ≤ 1000 := ⟨by show s'.n ≤ 1000; have := hL.2.2; omega, by show s.n ≤ 1000; have := hL.2.1; omega⟩
    have hzz := zR_z (k := 1) (m := 3)
    refine ⟨_, Blk.agg (sub := PrgR.cs ⟨s', s, nilS⟩) (show Blk w10 b7 tPrg (PrgR.cs ⟨s', s, nilS⟩) from hB10) rfl rfl, ?_⟩
    refine CallS.mono (limRight hP10 rfl hzz hnn (.inl (by rw [List.length_append, List.length_replicate]; decide))) ?_
    rintro _ w11 ⟨hx11, rfl⟩
    refine And.intro (fun _ => ?_) (fun h => absurd rfl h)
    refine ⟨_, Blk.agg (sub := PrgR.cs ⟨s', s, nilS⟩) (show Blk w11 b7 tPrg (PrgR.cs ⟨s', s, nilS⟩) from hB10.ext hx11) rfl rfl, ?_⟩
    refine CallS.mono (limValue (hP10.ext hx11)) ?_
    rintro _ w12 ⟨hx12, r, rfl, hr⟩
    refine CallS.mono (RSign_ok (H0.hb w12) (hr.qi (k := pK 1 1) (by decide)).inq.is) ?_
    rintro _ w13 ⟨hx13, rfl⟩
    refine And.intro (fun _ => ?_) (fun h => absurd rfl h)
    refine CallS.mono (awake15_at w13) ?_
    rintro _ w14 ⟨hx14, rfl⟩
    exact ⟨Ext.trans' x10 (Ext.trans' hx11 (Ext.trans' hx12 (Ext.trans' hx13 hx14))), rfl⟩
theorem ProgramLimits_ok (more rows : Bool) (w0 : World) : Calls Try.prog 3 #[.bool more, .bool rows] w0 fun e w' => ∃ v, e = .returned v ∧ (Ext w0 w' ∧ v = .bool true) := by
  cases more <;> cases rows
  · exact lim_false_false w0
  · exact lim_false_true w0
  · exact lim_true_false w0
  · exact lim_true_true w0
end Go.Proofs.Ytpgagepleffjlaa
