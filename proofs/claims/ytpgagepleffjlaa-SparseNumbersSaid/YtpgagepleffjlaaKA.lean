/-
  SparseNumbers, walked. Helpers; no statement of the program is proved here.
-/
import Derived.Test.YtpgagepleffjlaaK9
set_option maxRecDepth 100000
set_option linter.unusedSimpArgs false
set_option linter.unusedVariables false
namespace Go.Proofs.Ytpgagepleffjlaa
open Go Go.Tw Go.RowKit
attribute [local irreducible] LoadAt StoreOk Stored rawVC

theorem fit5 : ∀ j : Nat, FitQ 1 (getL [((1), Rat.divInt (5) (1))] (j : Int)) := by
  intro j
  have e : getL [((1), Rat.divInt (5) (1))] (j : Int) = if (1 : Int) = j then Rat.divInt 5 1 else 0 := by
    simp only [getL]; split <;> rw [Rat.add_zero]
  rw [e]
  split
  · exact fit1 (by kernel_rfl)
  · exact FitQ.zero (k := 1) (by decide)
theorem QC.fit1 {k m : Nat} {w : World} {x : RatR} {q : Rat} (h : QC k w x q) (hf : FitQ m q) : QC m w x q := ⟨h.can, hf⟩
theorem QI.zero (k : Nat) (w : World) (hk : 1 ≤ k) : QI k w RatR.zero 0 := ⟨IsQ.zero H0 w, Nat.zero_le _, Nat.zero_le _⟩
theorem mixed_vi {w : World} {t0 t1 : TmR} {r : RatR} {b : Nat} {i0 i1 : Int} {q0 q1 : Rat} (h0 : TC i0 q0 w t0) (h1 : TC i1 q1 w t1) (h2 : Raw24 w r) (hb : Blk w b tT (tcs [t0, t1, ⟨0, r⟩])) : VI 1 3 w ⟨some ⟨b, 0, none⟩, 3, 3⟩ [(i0, q0), (i1, q1), (0, Rat.divInt 1 2)] := by
  have hB : Blk w b tT (tcs [t0, t1, ⟨0, r⟩] ++ []) := by rw [List.append_nil]; exact hb
  exact ⟨⟨⟨_, Tms.blk hB, .cons h0.at' (h0.qc.qi (by decide)).inq (.cons h1.at' (h1.qc.qi (by decide)).inq (.cons rfl h2.qi.inq .nil))⟩, Nat.le_refl _, by show 3 ≤ _; omega, H0.av _ _⟩, Nat.le_refl _, .inl (by show 3 ≤ 21; omega)⟩
theorem VC.base {k l : Nat} {w : World} {s : SlR} {xs : VL} (h : VC k l w s xs) (hn : 0 < s.n) : okB s.a := by
  obtain ⟨⟨⟨ts, hT, hC⟩, _⟩, _⟩ := h
  exact hT.base hn
theorem VC.get {k l : Nat} {w : World} {s : SlR} {xs : VL} (h : VC k l w s xs) {j : Nat} {p : Int × Rat} (hj : xs[j]? = some p) : ∃ t : TmR, t.at' = p.1 ∧ (LoadAt tt w 3 ⟨Tw.blk s.a, ofs s.a + j * 5 + 0, none⟩ (.int .i64 t.at') ∧ LoadAt tt w 33 ⟨Tw.blk s.a, ofs s.a + j * 5 + 1, none⟩ t.x.v) ∧ QC k w t.x p.2 := by
  obtain ⟨⟨⟨ts, hT, hC⟩, _⟩, _⟩ := h
  obtain ⟨t, h1, h2, h3, h4⟩ := tsCan_get hC hj
  exact ⟨t, h2, ⟨hT.loadAt h1 rfl rfl, hT.loadX h1 rfl rfl⟩, h3, h4⟩
theorem SparseNumbers_ok (w0 : World) : Calls Try.prog 8 #[] w0 fun e w' => ∃ v, e = .returned v ∧ (Ext w0 w' ∧ v = .bool true) := by
  refine enterC (fun _ => none) ttOk mixed (args := []) Try.func8 rfl (by kernel_rfl) (by kernel_rfl) ?_
  refine CallS.mono (term_at (1) (5) (1) (by decide) (by decide) (fit1 (by kernel_rfl))) ?_
  rintro _ w1 ⟨x1, ta0, rfl, qta0⟩
  intro a w2 ha
  have ha : New w1 w2 a tT (tcs [ta0]) := ha
  have x2 := ha.ext
  have va : TR w2 a 1 [ta0] [((1), Rat.divInt (5) (1))] := ⟨.cons (qta0.ext x2) (.nil), ha.toBlk, rfl, by decide⟩
  refine CallS.mono (dense_at (m := 1) (va.vi) (by decide) 3 3 (by decide) (by decide) fit5) ?_
  rintro _ w3 ⟨x3, bd1, ld1, rfl, d1⟩
  refine And.intro (fun _ => ?_) (fun h => absurd (rfl) h)
  refine ⟨1, ⟨rfl, by decide, ⟨_, rfl, rfl⟩⟩, _, d1.at (j := 1) (by decide), ?_⟩
  refine CallS.mono (RText_ok (z := 5) ((d1.row 1 (by decide)).qi (by decide)) (by kernel_rfl) (by decide) (by decide) (by decide +kernel)) ?_
  rintro _ w4 ⟨x4, rfl⟩
  refine And.intro (fun _ => ?_) (fun h => absurd (by kernel_rfl) h)
  refine ⟨0, ⟨rfl, by decide, ⟨_, rfl, rfl⟩⟩, _, (d1.ext x4).at (j := 0) (by decide), ?_⟩
  refine CallS.mono (rsign_at (((d1.ext x4).row 0 (by decide)).qi (by decide))) ?_
  rintro _ w5 ⟨x5, rfl⟩
  refine And.intro (fun _ => ?_) (fun h => absurd (by kernel_rfl) h)
  refine CallS.mono (DenseNil_ok (r := ⟨some ⟨a, 0, none⟩, 1, 1⟩) (N := 0) (by decide)) ?_
  rintro _ w6 ⟨x6, rfl⟩
  refine And.intro (fun _ => ?_) (fun h => absurd (rfl) h)
  refine CallS.mono (DenseNil_ok (r := ⟨some ⟨a, 0, none⟩, 1, 1⟩) (N := (-1)) (by decide)) ?_
  rintro _ w7 ⟨x7, rfl⟩
  refine And.intro (fun _ => ?_) (fun h => absurd (rfl) h)
  refine CallS.mono (dense_at (m := 1) ((va.ext (Ext.trans' (Ext.trans' (Ext.trans' (Ext.trans' x3 x4) x5) x6) x7)).vi) (by decide) 1 1 (by decide) (by decide) fit5) ?_
  rintro _ w8 ⟨x8, bd2, ld2, rfl, d2⟩
  refine And.intro (fun _ => ?_) (fun h => absurd (rfl) h)
  refine CallS.mono (dense_at (m := 1) ((va.ext (Ext.trans' (Ext.trans' (Ext.trans' (Ext.trans' (Ext.trans' x3 x4) x5) x6) x7) x8)).vi) (by decide) 1048576 65536 (by decide) (by decide) fit5) ?_
  rintro _ w9 ⟨x9, bd3, ld3, rfl, d3⟩
  refine And.intro (fun _ => ?_) (fun h => absurd (rfl) h)
  intro bn w10 hn
  have x10 := hn.ext
  have hn : New w9 w10 bn 88 (wv [2]) := hn
  intro bm w11 hm
  have x11 := hm.ext
  have hm : New w10 w11 bm 88 (wv [4]) := hm
  let rw : RatR := ⟨⟨false, some ⟨bn, 0, none⟩, 1, 1⟩, ⟨false, some ⟨bm, 0, none⟩, 1, 1⟩⟩
  have hw : Raw24 w11 rw := ⟨(Words.blkAll (A := [2]) hn.toBlk (fun x hx => by simp at hx; omega)).ext x11, Words.blkAll (A := [4]) hm.toBlk (fun x hx => by simp at hx; omega), ⟨rfl, rfl⟩, rfl, rfl⟩
  intro br ur hbr
  have sr := storeQ (r := rw) hbr.toBlk hbr.ext (hbr.ge (Ext.rfl _)) rfl
  refine ⟨sr.1, fun w12 hsr => ?_⟩
  have hB := (sr.2 w12 hsr).1
  have x12 := (sr.2 w12 hsr).2.2
  refine CallS.mono (term_at (0) (1) (1) (by decide) (by decide) (fit1 (by kernel_rfl))) ?_
  rintro _ w13 ⟨x13, tb0, rfl, qtb0⟩
  intro b w14 hb
  have hb : New w13 w14 b tT (tcs [tb0]) := hb
  have x14 := hb.ext
  have vb : TR w14 b 1 [tb0] [((0), Rat.divInt (1) (1))] := ⟨.cons (qtb0.ext x14) (.nil), hb.toBlk, rfl, by decide⟩
  refine CallS.mono (right_at vb (1) true (by kernel_rfl)) ?_
  rintro _ w15 ⟨x15, rfl⟩
  refine CallS.mono (right_at (va.ext (Ext.trans' (Ext.trans' (Ext.trans' (Ext.trans' (Ext.trans' (Ext.trans' (Ext.trans' (Ext.trans' (Ext.trans' (Ext.trans' (Ext.trans' (Ext.trans' x3 x4) x5) x6) x7) x8) x9) x10) x11) x12) x13) x14) x15)) (1) false (by kernel_rfl)) ?_
  rintro _ w16 ⟨x16, rfl⟩
  refine CallS.mono (term_at (0) (0) (1) (by decide) (by decide) (fit1 (by kernel_rfl))) ?_
  rintro _ w17 ⟨x17, tc0, rfl, qtc0⟩
  intro c w18 hc
  have hc : New w17 w18 c tT (tcs [tc0]) := hc
  have x18 := hc.ext
  have vc : TR w18 c 1 [tc0] [((0), Rat.divInt (0) (1))] := ⟨.cons (qtc0.ext x18) (.nil), hc.toBlk, rfl, by decide⟩
  refine CallS.mono (right_at vc (1) false (by kernel_rfl)) ?_
  rintro _ w19 ⟨x19, rfl⟩
  refine ⟨rw.v, loadQ (hB.ext (Ext.trans' (Ext.trans' (Ext.trans' (Ext.trans' (Ext.trans' (Ext.trans' x13 x14) x15) x16) x17) x18) x19)), ?_⟩
  intro bd w20 hd
  have hd : New w19 w20 bd tT (tcs [⟨0, rw⟩] ++ []) := hd
  have x20 := hd.ext
  refine CallS.mono (Right_ok (ts := [⟨0, rw⟩]) (n := 1) (N := 1) [(0, false)] (Tms.blk hd.toBlk) (by decide) rfl (fun j t p hj hp => by
      match j, hj, hp with
      | 0, hj, hp => cases hj; cases hp; exact ⟨rfl, fun w' hx => ((hw.ext (Ext.trans' (Ext.trans' (Ext.trans' (Ext.trans' (Ext.trans' (Ext.trans' (Ext.trans' (Ext.trans' x12 x13) x14) x15) x16) x17) x18) x19) x20)).ext hx).formed_at⟩
      | j + 1, hj, hp => simp at hj)) ?_
  rintro _ w21 ⟨x21, rfl⟩
  refine CallS.mono (term_at (-1) (1) (1) (by decide) (by decide) (fit1 (by kernel_rfl))) ?_
  rintro _ w22 ⟨x22, te0, rfl, qte0⟩
  intro e w23 he
  have he : New w22 w23 e tT (tcs [te0]) := he
  have x23 := he.ext
  have ve : TR w23 e 1 [te0] [((-1), Rat.divInt (1) (1))] := ⟨.cons (qte0.ext x23) (.nil), he.toBlk, rfl, by decide⟩
  refine CallS.mono (right_at ve (1) false (by kernel_rfl)) ?_
  rintro _ w24 ⟨x24, rfl⟩
  refine CallS.mono (term_at (1) (1) (1) (by decide) (by decide) (fit1 (by kernel_rfl))) ?_
  rintro _ w25 ⟨x25, tf0, rfl, qtf0⟩
  refine CallS.mono (term_at (1) (1) (1) (by decide) (by decide) (fit1 (by kernel_rfl))) ?_
  rintro _ w26 ⟨x26, tf1, rfl, qtf1⟩
  intro f w27 hf
  have hf : New w26 w27 f tT (tcs [tf0, tf1]) := hf
  have x27 := hf.ext
  have vf : TR w27 f 2 [tf0, tf1] [((1), Rat.divInt (1) (1)), ((1), Rat.divInt (1) (1))] := ⟨.cons (qtf0.ext (Ext.trans' x26 x27)) (.cons (qtf1.ext x27) (.nil)), hf.toBlk, rfl, by decide⟩
  refine CallS.mono (right_at vf (5) false (by kernel_rfl)) ?_
  rintro _ w28 ⟨x28, rfl⟩
  refine CallS.mono (term_at (2) (1) (1) (by decide) (by decide) (fit1 (by kernel_rfl))) ?_
  rintro _ w29 ⟨x29, tg0, rfl, qtg0⟩
  refine CallS.mono (term_at (1) (1) (1) (by decide) (by decide) (fit1 (by kernel_rfl))) ?_
  rintro _ w30 ⟨x30, tg1, rfl, qtg1⟩
  intro g w31 hg
  have hg : New w30 w31 g tT (tcs [tg0, tg1]) := hg
  have x31 := hg.ext
  have vg : TR w31 g 2 [tg0, tg1] [((2), Rat.divInt (1) (1)), ((1), Rat.divInt (1) (1))] := ⟨.cons (qtg0.ext (Ext.trans' x30 x31)) (.cons (qtg1.ext x31) (.nil)), hg.toBlk, rfl, by decide⟩
  refine CallS.mono (right_at vg (5) false (by kernel_rfl)) ?_
  rintro _ w32 ⟨x32, rfl⟩
  refine CallS.mono (rightNil_at _ 0) ?_
  rintro _ w33 ⟨x33, rfl⟩
  refine CallS.mono (rightNil_at _ (-5)) ?_
  rintro _ w34 ⟨x34, rfl⟩
  have va := (va.ext (Ext.trans' (Ext.trans' (Ext.trans' (Ext.trans' (Ext.trans' (Ext.trans' (Ext.trans' (Ext.trans' (Ext.trans' (Ext.trans' (Ext.trans' (Ext.trans' (Ext.trans' (Ext.trans' (Ext.trans' (Ext.trans' (Ext.trans' (Ext.trans' (Ext.trans' (Ext.trans' (Ext.trans' (Ext.trans' (Ext.trans' (Ext.trans' (Ext.trans' (Ext.trans' (Ext.trans' (Ext.trans' (Ext.trans' (Ext.trans' (Ext.trans' x3 x4) x5) x6) x7) x8) x9) x10) x11) x12) x13) x14) x15) x16) x17) x18) x19) x20) x21) x22) x23) x24) x25) x26) x27) x28) x29) x30) x31) x32) x33) x34))
  have hw := (hw.ext (Ext.trans' (Ext.trans' (Ext.trans' (Ext.trans' (Ext.trans' (Ext.trans' (Ext.trans' (Ext.trans' (Ext.trans' (Ext.trans' (Ext.trans' (Ext.trans' (Ext.trans' (Ext.trans' (Ext.trans' (Ext.trans' (Ext.trans' (Ext.trans' (Ext.trans' (Ext.trans' (Ext.trans' (Ext.trans' x12 x13) x14) x15) x16) x17) x18) x19) x20) x21) x22) x23) x24) x25) x26) x27) x28) x29) x30) x31) x32) x33) x34))
  have hB := (hB.ext (Ext.trans' (Ext.trans' (Ext.trans' (Ext.trans' (Ext.trans' (Ext.trans' (Ext.trans' (Ext.trans' (Ext.trans' (Ext.trans' (Ext.trans' (Ext.trans' (Ext.trans' (Ext.trans' (Ext.trans' (Ext.trans' (Ext.trans' (Ext.trans' (Ext.trans' (Ext.trans' (Ext.trans' x13 x14) x15) x16) x17) x18) x19) x20) x21) x22) x23) x24) x25) x26) x27) x28) x29) x30) x31) x32) x33) x34))
  refine ⟨sq 7, by kernel_rfl, ?_⟩
  refine dcallR (mk := TmR.v) (Q := fun r w' => TC (4611686018427387904) (Rat.divInt (1) (1)) w' r) TmR.inj (fun _ => TC.stable _) (fun w' hw hF => term_at (4611686018427387904) (1) (1) (by decide) (by decide) (fit1 (by kernel_rfl))) ?_
  intro th0
  refine dcallR (mk := TmR.v) (Q := fun r w' => TC (-9223372036854775808) (Rat.divInt (2) (1)) w' r) TmR.inj (fun _ => TC.stable _) (fun w' hw hF => term_at (-9223372036854775808) (2) (1) (by decide) (by decide) (fit1 (by kernel_rfl))) ?_
  intro th1
  refine ⟨rw.v, loadQ hB, ?_⟩
  intro bh _
  refine dcallR (mk := SlR.v) (Q := fun r w' => VC (nK 1) 3 w' r (nrm [(4611686018427387904, Rat.divInt (1) (1)), (-9223372036854775808, Rat.divInt (2) (1)), (0, Rat.divInt 1 2)])) SlR.inj (fun _ => VC.stable) (fun w' hw' hF => norm_at (rx := ⟨some ⟨bh, 0, none⟩, 3, 3⟩) (mixed_vi (t0 := th0) (t1 := th1) (r := rw) (b := bh) hF.2.2.1 hF.2.1 (hw.ext hw') hF.1.1) (by decide)) ?_
  intro sf
  intro w35 x35 hF
  have hf := hF.1
  have ef : nrm [(4611686018427387904, Rat.divInt (1) (1)), (-9223372036854775808, Rat.divInt (2) (1)), (0, Rat.divInt 1 2)] = [(-9223372036854775808, 2), (0, Rat.divInt 1 2), (4611686018427387904, 1)] := by kernel_rfl
  rw [ef] at hf
  have lf : sf.n = 3 := by rw [hf.can.len]; rfl
  refine And.intro (fun _ => ?_) (fun h => absurd (by show (sf.n : Int) = 3; rw [lf]; rfl) h)
  obtain ⟨tf0, e0, l0, q0⟩ := hf.get (j := 0) rfl
  obtain ⟨tf1, e1, l1, q1⟩ := hf.get (j := 1) rfl
  refine ⟨0, ⟨rfl, by omega, hf.base (by omega)⟩, _, l0.1, ?_⟩
  rw [e0]
  refine And.intro (fun _ => ?_) (fun h => absurd (rfl) h)
  refine ⟨1, ⟨rfl, by omega, hf.base (by omega)⟩, _, l1.2, ?_⟩
  refine CallS.mono (RText_ok (z := 1) ((q1.fit1 (fit1 (by kernel_rfl))).qi (by decide)) (by kernel_rfl) (by decide) (by decide) (by decide +kernel)) ?_
  rintro _ w36 ⟨x36, rfl⟩
  refine And.intro (fun _ => ?_) (fun h => absurd (by kernel_rfl) h)
  refine CallS.mono (get_at ((hf.ext x36).vi (by decide)) 4611686018427387904 (by decide)) ?_
  rintro _ w37 ⟨x37, r5, rfl, hr5⟩
  refine CallS.mono (RText_ok (z := 1) ((hr5.fit1 (fit1 (by kernel_rfl))).qi (by decide)) (by kernel_rfl) (by decide) (by decide) (by decide +kernel)) ?_
  rintro _ w38 ⟨x38, rfl⟩
  refine And.intro (fun _ => ?_) (fun h => absurd (by kernel_rfl) h)
  refine CallS.mono (put_at 1 ((va.ext (Ext.trans' (Ext.trans' (Ext.trans' x35 x36) x37) x38)).vi) 1 (QI.zero 1 _ (by decide)) (by decide) (by decide)) ?_
  rintro _ w39 ⟨x39, s6, rfl, h6⟩
  have z6 : s6.n = 0 := by rw [h6.can.len]; kernel_rfl
  refine And.intro (fun _ => ?_) (fun h => absurd (by show (s6.n : Int) = 0; rw [z6]; rfl) h)
  refine CallS.mono (of_at 1 1 (by decide) (by decide) (fit1 (by kernel_rfl))) ?_
  rintro _ w40 ⟨x40, r7, rfl, hr7⟩
  refine CallS.mono (put_at 1 ((va.ext (Ext.trans' (Ext.trans' (Ext.trans' (Ext.trans' (Ext.trans' x35 x36) x37) x38) x39) x40)).vi) 0 (hr7.qi (by decide)) (by decide) (by decide)) ?_
  rintro _ w41 ⟨x41, s8, rfl, h8⟩
  have z8 : s8.n = 2 := by rw [h8.can.len]; kernel_rfl
  refine And.intro (fun _ => ?_) (fun h => absurd (by show (s8.n : Int) = 2; rw [z8]; rfl) h)
  refine CallS.mono (scale_at 1 (QI.zero 1 _ (by decide)) ((va.ext (Ext.trans' (Ext.trans' (Ext.trans' (Ext.trans' (Ext.trans' (Ext.trans' x35 x36) x37) x38) x39) x40) x41)).vi) (by decide)) ?_
  rintro _ w42 ⟨x42, s9, rfl, h9⟩
  have z9 : s9.n = 0 := by rw [h9.can.len]; kernel_rfl
  refine And.intro (fun _ => ?_) (fun h => absurd (by show (s9.n : Int) = 0; rw [z9]; rfl) h)
  refine CallS.mono (term_at (3) (1) (1) (by decide) (by decide) (fit1 (by kernel_rfl))) ?_
  rintro _ w43 ⟨x43, ti0, rfl, qti0⟩
  refine CallS.mono (term_at (3) (-1) (1) (by decide) (by decide) (fit1 (by kernel_rfl))) ?_
  rintro _ w44 ⟨x44, ti1, rfl, qti1⟩
  intro i w45 hi
  have hi : New w44 w45 i tT (tcs [ti0, ti1]) := hi
  have x45 := hi.ext
  have vi : TR w45 i 2 [ti0, ti1] [((3), Rat.divInt (1) (1)), ((3), Rat.divInt (-1) (1))] := ⟨.cons (qti0.ext (Ext.trans' x44 x45)) (.cons (qti1.ext x45) (.nil)), hi.toBlk, rfl, by decide⟩
  refine CallS.mono (vsame_at 1 (vi.vi) (VI.nil 1 0 _) (by decide)) ?_
  rintro _ w46 ⟨x46, rfl⟩
  rw [decide_eq_true (show axp [((3), Rat.divInt (1) (1)), ((3), Rat.divInt (-1) (1))] (-1) [] = [] by kernel_rfl)]
  refine CallS.mono (awake5_at _) ?_
  rintro _ w47 ⟨x47, rfl⟩
  exact ⟨(Ext.trans' (Ext.trans' (Ext.trans' (Ext.trans' (Ext.trans' (Ext.trans' (Ext.trans' (Ext.trans' (Ext.trans' (Ext.trans' (Ext.trans' (Ext.trans' (Ext.trans' (Ext.trans' (Ext.trans' (Ext.trans' (Ext.trans' (Ext.trans' (Ext.trans' (Ext.trans' (Ext.trans' (Ext.trans' (Ext.trans' (Ext.trans' (Ext.trans' (Ext.trans' (Ext.trans' (Ext.trans' (Ext.trans' (Ext.trans' (Ext.trans' (Ext.trans' (Ext.trans' (Ext.trans' (Ext.trans' (Ext.trans' (Ext.trans' (Ext.trans' (Ext.trans' (Ext.trans' (Ext.trans' (Ext.trans' (Ext.trans' (Ext.trans' (Ext.trans' (Ext.trans' x1 x2) x3) x4) x5) x6) x7) x8) x9) x10) x11) x12) x13) x14) x15) x16) x17) x18) x19) x20) x21) x22) x23) x24) x25) x26) x27) x28) x29) x30) x31) x32) x33) x34) x35) x36) x37) x38) x39) x40) x41) x42) x43) x44) x45) x46) x47), rfl⟩
end Go.Proofs.Ytpgagepleffjlaa
