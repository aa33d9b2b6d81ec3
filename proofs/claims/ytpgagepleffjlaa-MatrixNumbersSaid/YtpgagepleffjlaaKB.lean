/-
  MatrixNumbers, walked. Helpers; no statement of the program is proved here.
-/
import Derived.Test.YtpgagepleffjlaaKA
set_option maxRecDepth 100000
set_option linter.unusedSimpArgs false
set_option linter.unusedVariables false
namespace Go.Proofs.Ytpgagepleffjlaa
open Go Go.Tw Go.RowKit
attribute [local irreducible] LoadAt StoreOk Stored rawVC


theorem mright_at {k l : Nat} {w : World} {a : Option Addr} {m c : Nat} {rs : List SlR} {xss : List VL} (h : Vs (VC k l) w a m rs xss) (N : Int) (r : Bool) (hm : m ≤ 1099511627776) (hk : k ≤ 1099511627776 ∧ l ≤ 1099511627776)
    (hr : r = true ↔ 0 ≤ N ∧ ∀ j, j < m → rightL N (-1) (prB (xss.getD j [])) = true) :
    CallS Try.prog 39 #[.slice a m c, .int .i64 N] w fun v w' => Ext w w' ∧ v = .bool r := by
  refine CallS.mono (MRight_ok (fun j => rightL N (-1) (prB (xss.getD j []))) h.ones hm (fun j r' hj w' hx => ?_)) ?_
  · obtain ⟨r2, e1, e2, e3⟩ := h.get (rows_lt h.ones hj)
    rw [hj] at e1; cases e1
    exact rightVC_at (e3.ext hx) N hk
  · rintro _ w2 ⟨hx2, b, rfl, hb⟩
    refine ⟨hx2, ?_⟩
    have hbr : (b = true) ↔ (r = true) := hb.trans hr.symm
    have : b = r := by
      cases b <;> cases r <;> simp at hbr ⊢
    rw [this]
theorem vsNil {P : World → SlR → VL → Prop} (w : World) : Vs P w none 0 [] [] := ⟨Ones.nil w none, rfl, fun j r xs h => by simp at h⟩
theorem VC.at0 {k l : Nat} {w : World} {s : SlR} {xs : VL} (h : VC k l w s xs) {j : Nat} {p : Int × Rat} (hj : xs[j]? = some p) : okB s.a ∧ j < s.n ∧ LoadAt tt w 3 ⟨Tw.blk s.a, ofs s.a + j * 5 + 0, none⟩ (.int .i64 p.1) := by
  have hl := h.can.len
  have hjl : j < xs.length := by
    rcases Nat.lt_or_ge j xs.length with h' | h'
    · exact h'
    · rw [List.getElem?_eq_none h'] at hj; cases hj
  obtain ⟨⟨⟨ts, hT, hC⟩, _⟩, _⟩ := h
  obtain ⟨t, h1, h2, h3, h4⟩ := tsCan_get hC hj
  rw [← h2]
  exact ⟨hT.base (by omega), by omega, hT.loadAt h1 rfl rfl⟩
theorem cols2 : ∀ j, j < 2 → rightL 2 (-1) (prB (colsL.getD j [])) = true
  | 0, _ => by kernel_rfl
  | 1, _ => by kernel_rfl
  | j + 2, h => by omega
theorem perm10 : PermL [(1), (0)] := ⟨by decide, by decide⟩
theorem MatrixNumbers_ok (w0 : World) : Calls Try.prog 6 #[] w0 fun e w' => ∃ v, e = .returned v ∧ (Ext w0 w' ∧ v = .bool true) := by
  refine enterC (fun _ => none) ttOk mixed (args := []) Try.func6 rfl (by kernel_rfl) (by kernel_rfl) ?_
  refine CallS.mono (cols_at _) ?_
  rintro _ w1 ⟨x1, b1, rs1, rfl, c1⟩
  refine CallS.mono (TurnNo_ok (N := -1) (.inl (by decide))) ?_
  rintro _ w2 ⟨x2, rfl⟩
  refine CallS.mono (cols_at _) ?_
  rintro _ w3 ⟨x3, b2, rs2, rfl, c2⟩
  refine CallS.mono (TurnNo_ok (N := 65537) (.inr (by decide))) ?_
  rintro _ w4 ⟨x4, rfl⟩
  refine CallS.mono (cols_at _) ?_
  rintro _ w5 ⟨x5, b3, rs3, rfl, c3⟩
  refine CallS.mono (Turn_ok (c3.vi (by decide)) (by decide) 1 (by decide) (by decide)) ?_
  rintro _ w6 ⟨x6, b3, rs3, rfl, h3⟩
  intro p w7 hp
  have hp : New w6 w7 p 3 (ivs [(0), (0)] ++ []) := hp
  have x7 := hp.ext
  have op : Ones w7 (some ⟨p, 0, none⟩) 2 (ivs [(0), (0)]) := Ones.blk hp.toBlk
  refine CallS.mono (InverseNo_ok op (by decide) (fun h => absurd h.nodup (by decide))) ?_
  rintro _ w8 ⟨x8, rfl⟩
  intro q w9 hq
  have hq : New w8 w9 q 3 (ivs [(0), (1)] ++ []) := hq
  have x9 := hq.ext
  have oq : Ones w9 (some ⟨q, 0, none⟩) 2 (ivs [(0), (1)]) := Ones.blk hq.toBlk
  refine CallS.mono (term6_at (2) (1) (by decide) (fit1 (by kernel_rfl))) ?_
  rintro _ w10 ⟨x10, ta0, rfl, qta0⟩
  intro a w11 ha
  have ha : New w10 w11 a tT (tcs [ta0]) := ha
  have x11 := ha.ext
  have va : VC 1 1 w11 ⟨some ⟨a, 0, none⟩, 1, 1⟩ [((2), Rat.divInt (1) 1)] := TCs.vc 1 (.cons (qta0.ext x11) (.nil)) ha.toBlk rfl (by decide) (cnL (by kernel_rfl))
  refine CallS.mono (MoveNo_ok (k := 1) (l := 1) (oq.ext (Ext.trans' x10 x11)) (by decide) (va.vi (by decide)) (by decide) (by decide) (fun h => absurd h.2 (by decide +kernel))) ?_
  rintro _ w12 ⟨x12, rfl⟩
  intro r w13 hr
  have hr : New w12 w13 r 3 (ivs [(0), (1)] ++ []) := hr
  have x13 := hr.ext
  have or : Ones w13 (some ⟨r, 0, none⟩) 2 (ivs [(0), (1)]) := Ones.blk hr.toBlk
  refine CallS.mono (term6_at (-1) (1) (by decide) (fit1 (by kernel_rfl))) ?_
  rintro _ w14 ⟨x14, tb0, rfl, qtb0⟩
  intro b w15 hb
  have hb : New w14 w15 b tT (tcs [tb0]) := hb
  have x15 := hb.ext
  have vb : VC 1 1 w15 ⟨some ⟨b, 0, none⟩, 1, 1⟩ [((-1), Rat.divInt (1) 1)] := TCs.vc 1 (.cons (qtb0.ext x15) (.nil)) hb.toBlk rfl (by decide) (cnL (by kernel_rfl))
  refine CallS.mono (MoveNo_ok (k := 1) (l := 1) (or.ext (Ext.trans' x14 x15)) (by decide) (vb.vi (by decide)) (by decide) (by decide) (fun h => absurd h.2 (by decide +kernel))) ?_
  rintro _ w16 ⟨x16, rfl⟩
  intro s w17 hs
  have hs : New w16 w17 s 3 (ivs [(1), (0)] ++ []) := hs
  have x17 := hs.ext
  have os : Ones w17 (some ⟨s, 0, none⟩) 2 (ivs [(1), (0)]) := Ones.blk hs.toBlk
  refine CallS.mono (term6_at (9) (1) (by decide) (fit1 (by kernel_rfl))) ?_
  rintro _ w18 ⟨x18, tc0, rfl, qtc0⟩
  refine CallS.mono (term6_at (9) (-1) (by decide) (fit1 (by kernel_rfl))) ?_
  rintro _ w19 ⟨x19, tc1, rfl, qtc1⟩
  refine CallS.mono (term6_at (0) (4) (by decide) (fit1 (by kernel_rfl))) ?_
  rintro _ w20 ⟨x20, tc2, rfl, qtc2⟩
  intro c w21 hc
  have hc : New w20 w21 c tT (tcs [tc0, tc1, tc2]) := hc
  have x21 := hc.ext
  have vc : VI 1 3 w21 ⟨some ⟨c, 0, none⟩, 3, 3⟩ [((9), Rat.divInt (1) 1), ((9), Rat.divInt (-1) 1), ((0), Rat.divInt (4) 1)] := TCs.vi 3 (.cons (qtc0.ext (Ext.trans' (Ext.trans' x19 x20) x21)) (.cons (qtc1.ext (Ext.trans' x20 x21)) (.cons (qtc2.ext x21) (.nil)))) hc.toBlk rfl (by decide)
  refine CallS.mono (Move_ok (k := 1) (l := 3) (os.ext (Ext.trans' (Ext.trans' (Ext.trans' x18 x19) x20) x21)) (by decide) vc (by decide) (by decide) perm10 (by decide +kernel)) ?_
  rintro _ w22 ⟨x22, s4, rfl, h4⟩
  refine And.intro (fun _ => ?_) (fun h => absurd (rfl) h)
  refine And.intro (fun _ => ?_) (fun h => absurd (rfl) h)
  refine And.intro (fun _ => ?_) (fun h => absurd (rfl) h)
  refine And.intro (fun _ => ?_) (fun h => absurd (rfl) h)
  obtain ⟨r3, e3, f3, v3⟩ := h3.get (j := 0) (by decide)
  have l3 : r3.n = 1 := by rw [v3.can.len]; kernel_rfl
  refine ⟨0, ⟨rfl, by decide, ⟨_, rfl, rfl⟩⟩, r3.v, ((h3.ext (Ext.trans' (Ext.trans' (Ext.trans' (Ext.trans' (Ext.trans' (Ext.trans' (Ext.trans' (Ext.trans' (Ext.trans' (Ext.trans' (Ext.trans' (Ext.trans' (Ext.trans' (Ext.trans' (Ext.trans' x7 x8) x9) x10) x11) x12) x13) x14) x15) x16) x17) x18) x19) x20) x21) x22)).ones).load (T := tt) (ty := tV) (sz := 1) (svs_get e3) rfl rfl, ?_⟩
  refine And.intro (fun _ => ?_) (fun h => absurd (by show (r3.n : Int) = 1; rw [l3]; rfl) h)
  refine And.intro (fun _ => ?_) (fun h => absurd (rfl) h)
  refine And.intro (fun _ => ?_) (fun h => absurd (rfl) h)
  refine And.intro (fun _ => ?_) (fun h => absurd (rfl) h)
  refine And.intro (fun _ => ?_) (fun h => absurd (rfl) h)
  have e4 : nrm (mvL [(1), (0)] (nrm [((9), Rat.divInt (1) 1), ((9), Rat.divInt (-1) 1), ((0), Rat.divInt (4) 1)])) = [(1, 4)] := by kernel_rfl
  rw [e4] at h4
  have l4 : s4.n = 1 := by rw [h4.can.len]; rfl
  refine And.intro (fun _ => ?_) (fun h => absurd (by show (s4.n : Int) = 1; rw [l4]; rfl) h)
  have k4 := VC.at0 (j := 0) h4 rfl
  refine ⟨0, ⟨rfl, by omega, k4.1⟩, _, k4.2.2, ?_⟩
  refine And.intro (fun _ => ?_) (fun h => absurd (rfl) h)
  refine CallS.mono (Perm_ok (L := []) (Ones.nil _ none) (by decide)) ?_
  rintro _ w23 ⟨x23, rfl⟩
  rw [decide_eq_true (show PermL [] from ⟨by decide, by decide⟩)]
  intro z0 w24 hz0
  have hz0 : New w23 w24 z0 3 (ivs [(0)] ++ []) := hz0
  have x24 := hz0.ext
  have oz0 : Ones w24 (some ⟨z0, 0, none⟩) 1 (ivs [(0)]) := Ones.blk hz0.toBlk
  refine CallS.mono (Perm_ok oz0 (by decide)) ?_
  rintro _ w25 ⟨x25, rfl⟩
  rw [decide_eq_true (show PermL [(0)] from ⟨by decide, by decide⟩)]
  intro z1 w26 hz1
  have hz1 : New w25 w26 z1 3 (ivs [(1)] ++ []) := hz1
  have x26 := hz1.ext
  have oz1 : Ones w26 (some ⟨z1, 0, none⟩) 1 (ivs [(1)]) := Ones.blk hz1.toBlk
  refine CallS.mono (Perm_ok oz1 (by decide)) ?_
  rintro _ w27 ⟨x27, rfl⟩
  rw [decide_eq_false (show ¬ PermL [(1)] from fun h => absurd h.rng (by decide))]
  intro z2 w28 hz2
  have hz2 : New w27 w28 z2 3 (ivs [(-1), (0)] ++ []) := hz2
  have x28 := hz2.ext
  have oz2 : Ones w28 (some ⟨z2, 0, none⟩) 2 (ivs [(-1), (0)]) := Ones.blk hz2.toBlk
  refine CallS.mono (Perm_ok oz2 (by decide)) ?_
  rintro _ w29 ⟨x29, rfl⟩
  rw [decide_eq_false (show ¬ PermL [(-1), (0)] from fun h => absurd h.rng (by decide))]
  intro z3 w30 hz3
  have hz3 : New w29 w30 z3 3 (ivs [(0), (0)] ++ []) := hz3
  have x30 := hz3.ext
  have oz3 : Ones w30 (some ⟨z3, 0, none⟩) 2 (ivs [(0), (0)]) := Ones.blk hz3.toBlk
  refine CallS.mono (Perm_ok oz3 (by decide)) ?_
  rintro _ w31 ⟨x31, rfl⟩
  rw [decide_eq_false (show ¬ PermL [(0), (0)] from fun h => absurd h.nodup (by decide))]
  refine CallS.mono (cols_at _) ?_
  rintro _ w32 ⟨x32, b4, rs4, rfl, c4⟩
  refine CallS.mono (mright_at c4 2 true (by decide) (by decide) ⟨fun _ => ⟨by decide, fun j hj => cols2 j hj⟩, fun _ => rfl⟩) ?_
  rintro _ w33 ⟨x33, rfl⟩
  refine CallS.mono (cols_at _) ?_
  rintro _ w34 ⟨x34, b5, rs5, rfl, c5⟩
  refine CallS.mono (mright_at c5 1 false (by decide) (by decide) ⟨fun h => (by cases h), fun h => (by have := h.2 0 (by decide); revert this; decide +kernel)⟩) ?_
  rintro _ w35 ⟨x35, rfl⟩
  refine CallS.mono (mright_at (k := 1) (l := 1) (vsNil _) (-1) false (by decide) (by decide) ⟨fun h => (by cases h), fun h => absurd h.1 (by decide)⟩) ?_
  rintro _ w36 ⟨x36, rfl⟩
  refine CallS.mono (mright_at (k := 1) (l := 1) (vsNil _) 0 true (by decide) (by decide) ⟨fun _ => ⟨by decide, fun j hj => absurd hj (Nat.not_lt_zero _)⟩, fun _ => rfl⟩) ?_
  rintro _ w37 ⟨x37, rfl⟩
  refine CallS.mono (cols_at _) ?_
  rintro _ w38 ⟨x38, b6, rs6, rfl, c6⟩
  refine CallS.mono (term6_at (2) (1) (by decide) (fit1 (by kernel_rfl))) ?_
  rintro _ w39 ⟨x39, td0, rfl, qtd0⟩
  refine CallS.mono (term6_at (-1) (1) (by decide) (fit1 (by kernel_rfl))) ?_
  rintro _ w40 ⟨x40, td1, rfl, qtd1⟩
  intro d w41 hd
  have hd : New w40 w41 d tT (tcs [td0, td1]) := hd
  have x41 := hd.ext
  have vd : VI 1 2 w41 ⟨some ⟨d, 0, none⟩, 2, 2⟩ [((2), Rat.divInt (1) 1), ((-1), Rat.divInt (1) 1)] := TCs.vi 2 (.cons (qtd0.ext (Ext.trans' x40 x41)) (.cons (qtd1.ext x41) (.nil))) hd.toBlk rfl (by decide)
  refine CallS.mono (Times_ok (k := 1) (l := 2) ((c6.ext (Ext.trans' (Ext.trans' x39 x40) x41)).vi (by decide)) (by decide) vd (by decide)) ?_
  rintro _ w42 ⟨x42, s6, rfl, h6⟩
  have l6 : s6.n = 0 := by rw [h6.can.len]; kernel_rfl
  refine And.intro (fun _ => ?_) (fun h => absurd (by show (s6.n : Int) = 0; rw [l6]; rfl) h)
  refine CallS.mono (awake6_at _) ?_
  rintro _ w43 ⟨x43, rfl⟩
  exact ⟨(Ext.trans' (Ext.trans' (Ext.trans' (Ext.trans' (Ext.trans' (Ext.trans' (Ext.trans' (Ext.trans' (Ext.trans' (Ext.trans' (Ext.trans' (Ext.trans' (Ext.trans' (Ext.trans' (Ext.trans' (Ext.trans' (Ext.trans' (Ext.trans' (Ext.trans' (Ext.trans' (Ext.trans' (Ext.trans' (Ext.trans' (Ext.trans' (Ext.trans' (Ext.trans' (Ext.trans' (Ext.trans' (Ext.trans' (Ext.trans' (Ext.trans' (Ext.trans' (Ext.trans' (Ext.trans' (Ext.trans' (Ext.trans' (Ext.trans' (Ext.trans' (Ext.trans' (Ext.trans' (Ext.trans' (Ext.trans' x1 x2) x3) x4) x5) x6) x7) x8) x9) x10) x11) x12) x13) x14) x15) x16) x17) x18) x19) x20) x21) x22) x23) x24) x25) x26) x27) x28) x29) x30) x31) x32) x33) x34) x35) x36) x37) x38) x39) x40) x41) x42) x43), rfl⟩
end Go.Proofs.Ytpgagepleffjlaa
