/-
  ProgramSpans, walked. Helpers; no statement of the program is proved here.
-/
import Derived.Test.YtlfdobjdlgebbaaKE
import Derived.Test.YtlfdobjdlgebbaaRows
import Derived.Test.YtlfdobjdlgebbaaChecked
import Derived.ProofKit
import Derived.JoinedCond
set_option maxRecDepth 100000
set_option linter.unusedSimpArgs false
set_option linter.unusedVariables false
namespace Go.Proofs.Ytlfdobjdlgebbaa
open Go Go.Tw Go.RowKit
attribute [local irreducible] LoadAt StoreOk Stored rawVC

theorem ProgramSpans_ok {w0 : World} {p : PrgR} {vr : List VarR} {rr : List RowR} (hp : OpPrg 1048576 w0 p vr rr) {ra : SlR} {ta : List TmR} (ha : OpVB 1048576 w0 ra ta) {a : Option Addr} {n c : Nat} {P : List Int} (oP : OpL w0 a n c P) :
    Calls Try.prog 9 #[p.v, ra.v, .slice a n c] w0 fun e w' => ∃ v, e = .returned v ∧ (Ext w0 w' ∧ v = .bool true) := by
  obtain ⟨vs, rws, cost, hP⟩ := hp.prg (by decide)
  obtain ⟨rts, hrts⟩ := hp.rts
  obtain ⟨ct, hct⟩ := hp.cost
  obtain ⟨xs, hxs⟩ := ha.inv (by decide)
  obtain ⟨RC, RR, hRC, hRR, hrc, hrr⟩ := hP.right ⟨by decide, by decide⟩ (by decide) (vs.length : Int)
  obtain ⟨RA, hRA, hra⟩ := right_rawJ hxs.inv hxs.len (vs.length : Int) ⟨by decide, by decide⟩ (by decide)
  have hvn := hP.vars.len
  have hvl := hP.vlen
  have hnv := hp.nv
  have hnr := hp.nr
  refine enterC (fun _ => none) ttOk mixed (args := [p.v, ra.v, .slice a n c]) Try.func9 rfl (by kernel_rfl) (by kernel_rfl) ?_
  intro b3 w1 hb3
  have x1 := hb3.ext
  have hB1 : Blk w1 b3 tPrg p.cs := hb3.toBlk
  refine ⟨p.v, hB1.agg (sub := p.cs) rfl rfl, ?_⟩
  refine CallS.mono (great15_ok (hp.vars.ext x1) (hp.rows.ext x1) (hct.op.tms.ext x1) (fun j r ts h1 h2 => ⟨(hrts.at' j r ts h1 h2).op.tms.ext x1, Nat.le_trans (hrts.at' j r ts h1 h2).len (by decide)⟩) hrts.len ⟨by omega, by omega, Nat.le_trans hct.len (by decide)⟩) ?_
  rintro _ w2 ⟨hx2, gb, rfl, hgb⟩
  have x2 := Ext.trans' x1 hx2
  cases gb with
  | true =>
    refine CallS.mono (awake15_at _) ?_
    rintro _ w' ⟨hx', rfl⟩
    exact ⟨Ext.trans' x2 hx', rfl⟩
  | false =>
    obtain ⟨g1, g2, g3, g4, g5⟩ := hgb rfl
    refine ⟨p.v, (hB1.ext hx2).agg (sub := p.cs) rfl rfl, ?_⟩
    refine CallS.mono (PRight_ok (hP.ext x2) ⟨by decide, by omega, by omega⟩ (fun w' hx => hRC w' (Ext.trans' x2 hx)) (fun j r hj w' hx => hRR j r hj w' (Ext.trans' x2 hx))) ?_
    rintro _ w3 ⟨hx3, e, rfl, hg⟩
    have x3 := Ext.trans' x2 hx3
    refine And.intro (fun h1 => ?_) (fun h1 => ?_)
    · refine CallS.mono (awake15_at _) ?_
      rintro _ w' ⟨hx', rfl⟩
      exact ⟨Ext.trans' x3 hx', rfl⟩
    have hgood : Good vs rws RC RR := by
      rcases hg with hg | hg
      · exact hg.1
      · exact absurd hg.2 (fun h => h1 (by rw [h]; decide))
    have hB3 := (hB1.ext hx2).ext hx3
    refine ⟨_, hB3.one (off := 0) rfl rfl, ?_⟩
    have hcall := hRA w3 x3
    have ev : (vs.length : Int) = (p.vars.n : Int) := by omega
    rw [ev] at hcall
    refine CallS.mono hcall ?_
    rintro _ w4 ⟨hx4, rfl⟩
    have x4 := Ext.trans' x3 hx4
    cases hRA' : RA with
    | false =>
      refine CallS.mono (awake15_at _) ?_
      rintro _ w' ⟨hx', rfl⟩
      exact ⟨Ext.trans' x4 hx', rfl⟩
    | true =>
      obtain ⟨hVC0, hIR0⟩ := hra hRA'
      have hIR : InR vs.length xs := by rw [show (vs.length : Int).toNat = vs.length by omega] at hIR0; exact hIR0
      have hcl := cn_len hVC0.cn hIR
      have hVC : VC 1048576 12 w0 ra xs := ⟨hVC0.can, hVC0.cn, by omega⟩
      have hP8 := hP.short hct.op.tms hrts g3 g4 g5
      have hB4 := hB3.ext hx4
      have WI := within_of (P := P) hIR hgood.le
      have wi1 := WI.1
      have wi2 := WI.2
      have EN := ends_of hVC.cn hIR hgood.le
      have en1 := EN.1
      have en2 := EN.2
      refine ⟨_, hB4.one (off := 0) rfl rfl, ?_⟩
      refine ⟨Nat × (SlR × SlR × SlR) × (List RatR × List RatR × List RatR), fun x => [(1, ra.v), (2, .slice a n c), (3, .pointer (some ⟨b3, 0, none⟩)), (7, x.2.1.1.v), (8, x.2.1.2.1.v), (9, x.2.1.2.2.v), (33, p.vars.v), (34, .int .i64 (p.vars.n : Int)), (35, .int .i64 (x.1 : Int))],
        fun x w' => Ext w4 w' ∧ x.1 ≤ p.vars.n ∧ QRows 64 w4.heap.size w' [x.2.1.1, x.2.1.2.1, x.2.1.2.2] [x.2.2.1, x.2.2.2.1, x.2.2.2.2] [upR (atQ vs P) x.1, upR (leQ vs xs) x.1, upR (moQ vs xs) x.1], fun x _ => p.vars.n - x.1,
        ⟨(0, (⟨none, 0, 0⟩, ⟨none, 0, 0⟩, ⟨none, 0, 0⟩), ([], [], [])), ⟨rfl, rfl, rfl, rfl, rfl, rfl, rfl, rfl, rfl, trivial⟩, Ext.rfl w4, Nat.zero_le _, QRows.nils 3 64 _ w4⟩, ?_⟩
      rintro ⟨i, ⟨s1, s2, s3⟩, ⟨r1, r2, r3⟩⟩ w5 ⟨hx5, hi, hQ⟩
      dsimp only at *
      refine And.intro (fun h2 => ?_) (fun h2 => ?_)
      · have hin := ltTo h2
        have hg := gr_getD hP8.vars hin
        have hgx : vs[i]? = some (vs.getD i default) := by rw [List.getD_eq_getElem?_getD, List.getElem?_eq_getElem (by omega)]; rfl
        have x5 := Ext.trans' x4 hx5
        have hvar := hP8.var i _ _ hg hgx
        refine ⟨i, ⟨rfl, hin, hP8.vars.base (by omega)⟩, _, (hP8.vars.ext x5).load hg rfl rfl, ?_⟩
        intro b11 w6 hb11
        have st := storeE (T := tt) (ty := tVar) (vr.getD i default) hb11.toBlk rfl
        refine ⟨st.1, fun w7 hs7 => ?_⟩
        have hB7 := (st.2 w7 hs7).1
        have hx57 : Ext w5 w7 := Ext.grownB hb11.ext (st.2 w7 hs7).2 (hb11.ge (Ext.rfl w5))
        have x7 := Ext.trans' x5 hx57
        refine And.intro (fun h3 => ?_) (fun h3 => ?_)
        · have hlt : i < n := by omega
          have hPl := oP.ones.len
          rw [ivs_length] at hPl
          have hgP : P[i]? = some (P.getD i 0) := by rw [List.getD_eq_getElem?_getD, List.getElem?_eq_getElem (by omega)]; rfl
          have ht1 := Int.lt_tmod_of_pos (P.getD i 0) (show (0 : Int) < 5 by decide)
          have ht2 := Int.tmod_lt_of_pos (P.getD i 0) (show (0 : Int) < 5 by decide)
          refine ⟨i, ⟨rfl, hlt, (oP.ones.base (by omega))⟩, .int .i64 (P.getD i 0), (oP.ones.ext x7).load (T := tt) (ty := 3) (sz := 1) (ivs_get hgP) rfl rfl, (P.getD i 0).tmod 5, ⟨rfl, by decide⟩, (P.getD i 0).tmod 5 + 5, ⟨rfl, by omega⟩, ((P.getD i 0).tmod 5 + 5).tmod 5, ⟨rfl, by decide⟩, ?_⟩
          have hq : ((P.getD i 0).tmod 5 + 5).tmod 5 = partQ P i := by unfold partQ; rw [if_pos (by omega)]
          have hbd := partQ_bd P i
          have toB : ∀ b, gH H0 [s1, s2, s3] b → H0 b ∨ w0.heap.size ≤ b := fun b hb => (hQ.toB b hb).imp_right fun h => Nat.le_trans x4.size h
          have hQ7 := hQ.ext hx57
          have hlo := (hvar.1.to toB).ext x7
          have hhi := (hvar.2.1.to toB).ext x7
          refine ⟨sq 15, by kernel_rfl, (vr.getD i default).lo.v, hB7.agg (sub := rcs (vr.getD i default).lo) rfl rfl, ?_⟩
          refine dcallR (mk := RatR.v) (Q := fun r' w' => CanQ (gH H0 [s1, s2, s3]) w' r' (Rat.divInt (partQ P i) 4)) RatR.inj (fun _ => CanQ.stable) (fun w' hw hF => CallS.mono (ROf_ok (n := (((P.getD i 0).tmod 5 + 5).tmod 5)) (d := 4) (HB.ext hQ7.hb hw) (by omega) (by omega) (by decide) (by decide)) (fun v' w'' h => ⟨h.1, h.2.elim fun r hr => ⟨r, hr.1, by rw [← hq]; exact hr.2⟩⟩)) ?_
          intro q1
          refine ⟨(vr.getD i default).hi.v, hB7.agg (sub := rcs (vr.getD i default).hi) rfl rfl, (vr.getD i default).lo.v, hB7.agg (sub := rcs (vr.getD i default).lo) rfl rfl, ?_⟩
          refine dcallR (mk := RatR.v) (Q := fun r' w' => CanQ (gH H0 [s1, s2, s3]) w' r' ((vs.getD i default).2.1 - (vs.getD i default).1)) RatR.inj (fun _ => CanQ.stable) (fun w' hw hF => RSub_ok (HB.ext hQ7.hb hw) ((hhi.ext hw).mono (by decide)) ((hlo.ext hw).mono (by decide))) ?_
          intro q2
          have f2 : FitQ (9 + 9 + 1) ((vs.getD i default).2.1 - (vs.getD i default).1) := FitQ.sub hhi.fit hlo.fit
          refine dcallR (mk := RatR.v) (Q := fun r' w' => CanQ (gH H0 [s1, s2, s3]) w' r' (Rat.divInt (partQ P i) 4 * ((vs.getD i default).2.1 - (vs.getD i default).1))) RatR.inj (fun _ => CanQ.stable) (fun w' hw hF => RMul_ok (HB.ext hQ7.hb hw) ((hF.2.1.inq (fitFour hbd) (by decide)).mono (by decide)) ((hF.1.inq f2 (by decide)).mono (by decide))) ?_
          intro q3
          have f3 : FitQ (1 + (9 + 9 + 1)) (Rat.divInt (partQ P i) 4 * ((vs.getD i default).2.1 - (vs.getD i default).1)) := FitQ.mul (fitFour hbd) f2 (by decide)
          refine dcallR (mk := RatR.v) (Q := fun r' w' => CanQ (gH H0 [s1, s2, s3]) w' r' (atQ vs P i)) RatR.inj (fun _ => CanQ.stable) (fun w' hw hF => RAdd_ok (HB.ext hQ7.hb hw) ((hlo.ext hw).mono (by decide)) ((hF.1.inq f3 (by decide)).mono (by decide))) ?_
          intro q4
          have f4 : FitQ (9 + (1 + (9 + 9 + 1)) + 1) (atQ vs P i) := FitQ.add hlo.fit f3
          intro b63 _
          intro w8 hx8 hF8
          have hQ8 := hQ7.ext hx8
          have hB63 : Blk w8 b63 tRat (rcs q4) := hF8.1.1
          have e1 := hQ8.at' 0 _ _ rfl rfl
          have l1 : r1.length = i := by have := e1.1; rw [upR_len] at this; exact this
          refine ⟨rfl, w4.heap.size, r1.length, gcs r1, rcs q4, ⟨hQ8.gd.own 0 _ _ rfl rfl, rfl, ?_, Enc.one q4, fun _ => ⟨_, rfl, rfl⟩, by omega, by show (r1.length + 1) * 64 ≤ _; omega, Nat.le_trans hx5.size (Nat.le_trans hx57.size hx8.size)⟩, ?_⟩
          · intro e v he
            exact hB63.cell (i := 0 + e) (v := v) (by rw [Nat.zero_add]; exact he)
          intro v9 w9 ho9 hg9 hn9
          refine (hQ8.push (i := 0) rfl rfl rfl ho9 hg9 hn9 ((hF8.2.1.inq f4 (by decide)).mono (by decide))).elim fun s1' hs1 => ?_
          have hQ9 := hs1.2
          have x49 : Ext w4 w9 := hQ8.grown_ext (i := 0) rfl hg9 (Ext.trans' hx5 (Ext.trans' hx57 hx8)) (Nat.le_refl _)
          have x79 : KeptNew w5 w8 w9 := ⟨fun c h1 h2 => hg9.block c h2 (fun e => by have := (hQ.gd.lt (i := 0) (s := s1) rfl e.symm).2; omega), hg9.size⟩
          have hB79 : Blk w9 b11 tVar (Enc.cs (vr.getD i default)) := by
            show w9.heap[b11]? = _
            rw [x79.blk b11 (hb11.ge (Ext.rfl w5)) (hB7.ext hx8).lt]; exact hB7.ext hx8
          intro w10 hx10 _
          have x0A := Ext.trans' x4 (Ext.trans' x49 hx10)
          refine CallS.mono (get_at (hVC.vi (by decide) |>.ext x0A) (i : Int) ⟨by decide, by decide⟩) ?_
          rintro _ w11 ⟨hx11, g, rfl, hgq⟩
          refine CallS.mono (RSign_ok (H0.hb w11) ((hgq.qi (by decide)).inq.is)) ?_
          rintro _ w12 ⟨hx12, rfl⟩
          have hx912 := Ext.trans' hx10 (Ext.trans' hx11 hx12)
          have hQ12 := hQ9.ext hx912
          have hB12 := hB79.ext hx912
          have x412 := Ext.trans' x49 hx912
          have x012 := Ext.trans' x4 x412
          refine And.intro (fun h4 => ?_) (fun h4 => ?_)
          · have eA : leQ vs xs i = (vs.getD i default).2.1 := by unfold leQ; rw [if_pos h4]
            have eB : moQ vs xs i = (vs.getD i default).1 := by unfold moQ; rw [if_pos h4]
            have toC : ∀ b, gH H0 [s1', s2, s3] b → H0 b ∨ w0.heap.size ≤ b := fun b hb => (hQ12.toB b hb).imp_right fun h => Nat.le_trans x4.size h
            have e2 := hQ12.at' 1 _ _ rfl rfl
            have l2 : r2.length = i := by have := e2.1; rw [upR_len] at this; exact this
            refine ⟨[(0, false), (1, false), (2, false), (5, false), (6, false), (7, true), (3, false), (4, true), (8, false), (9, false), (10, false), (11, false)], by kernel_rfl, ?_⟩
            refine ⟨(vr.getD i default).hi.v, hB12.agg (sub := rcs (vr.getD i default).hi) rfl rfl, (vr.getD i default).lo.v, fun w' hw _ => (hB12.ext hw).agg (sub := rcs (vr.getD i default).lo) rfl rfl, ?_⟩
            intro b73 _
            intro w13 hx13 hF13
            have hQ13 := hQ12.ext hx13
            have hB73 : Blk w13 b73 tRat (rcs (vr.getD i default).hi) := hF13.1.1
            refine ⟨rfl, w4.heap.size, r2.length, gcs r2, rcs (vr.getD i default).hi, ⟨hQ13.gd.own 1 _ _ rfl rfl, rfl, ?_, Enc.one (vr.getD i default).hi, fun _ => ⟨_, rfl, rfl⟩, by omega, by show (r2.length + 1) * 64 ≤ _; omega, Nat.le_trans x412.size hx13.size⟩, ?_⟩
            · intro e v he
              exact hB73.cell (i := 0 + e) (v := v) (by rw [Nat.zero_add]; exact he)
            intro v14 w14 ho14 hg14 hn14
            have x013 := Ext.trans' x012 hx13
            refine (hQ13.push (i := 1) rfl rfl rfl ho14 hg14 hn14 ((((hvar.2.1).to toC).ext x013).mono (by decide))).elim fun s2' hs2 => ?_
            have hQ14 := hs2.2
            have k14 : KeptNew w12 w13 w14 := ⟨fun c h1 h2 => hg14.block c h2 (fun e => by have := (hQ12.gd.lt (i := 1) (s := s2) rfl e.symm).2; omega), hg14.size⟩
            have k14' : KeptNew w5 w13 w14 := ⟨fun c h1 h2 => hg14.block c h2 (fun e => by have := (hQ.gd.lt (i := 1) (s := s2) rfl e.symm).2; omega), hg14.size⟩
            have hB14 : Blk w14 b11 tVar (Enc.cs (vr.getD i default)) := by
              show w14.heap[b11]? = _
              rw [k14'.blk b11 (hb11.ge (Ext.rfl w5)) (hB12.ext hx13).lt]; exact hB12.ext hx13
            have hB73' : Blk w14 b73 tRat (rcs (vr.getD i default).hi) := by
              show w14.heap[b73]? = _
              rw [k14.blk b73 hF13.1.2 hB73.lt]; exact hB73
            refine ⟨⟨k14, ⟨hB73', hF13.1.2⟩, hB14.agg (sub := rcs (vr.getD i default).lo) rfl rfl, trivial⟩, ?_⟩
            have x414 : Ext w4 w14 := hQ13.grown_ext (i := 1) rfl hg14 (Ext.trans' x412 hx13) (Nat.le_refl _)
            intro b78 _
            intro w15 hx15 hF15
            have hQ15 := hQ14.ext hx15
            have hB78 : Blk w15 b78 tRat (rcs (vr.getD i default).lo) := hF15.1.1
            have e3 := hQ15.at' 2 _ _ rfl rfl
            have l3 : r3.length = i := by have := e3.1; rw [upR_len] at this; exact this
            have x415 := Ext.trans' x414 hx15
            have x015 := Ext.trans' x4 x415
            refine ⟨rfl, w4.heap.size, r3.length, gcs r3, rcs (vr.getD i default).lo, ⟨hQ15.gd.own 2 _ _ rfl rfl, rfl, ?_, Enc.one (vr.getD i default).lo, fun _ => ⟨_, rfl, rfl⟩, by omega, by show (r3.length + 1) * 64 ≤ _; omega, x415.size⟩, ?_⟩
            · intro e v he
              exact hB78.cell (i := 0 + e) (v := v) (by rw [Nat.zero_add]; exact he)
            intro v16 w16 ho16 hg16 hn16
            have toD : ∀ b, gH H0 [s1', s2', s3] b → H0 b ∨ w0.heap.size ≤ b := fun b hb => (hQ15.toB b hb).imp_right fun h => Nat.le_trans x4.size h
            refine (hQ15.push (i := 2) rfl rfl rfl ho16 hg16 hn16 ((((hvar.1).to toD).ext x015).mono (by decide))).elim fun s3' hs3 => ?_
            have x416 : Ext w4 w16 := hQ15.grown_ext (i := 2) rfl hg16 x415 (Nat.le_refl _)
            intro w17 hx17 _
            refine ⟨((i + 1 : Nat) : Int), sucI i (by omega), (i + 1, (s1', s2', s3'), (r1 ++ [q4], r2 ++ [(vr.getD i default).hi], r3 ++ [(vr.getD i default).lo])), ⟨rfl, rfl, rfl, ?_, ?_, ?_, rfl, rfl, rfl, trivial⟩, ⟨Ext.trans' x416 hx17, hin, ?_⟩, Nat.sub_lt_sub_left hin (Nat.lt_succ_self i)⟩
            · exact congrArg some hs1.1
            · exact congrArg some hs2.1
            · exact congrArg some hs3.1
            · have hE := hs3.2.ext hx17
              rw [upR_succ, upR_succ, upR_succ, eA, eB]
              exact hE
          · have eA : leQ vs xs i = (vs.getD i default).1 := by unfold leQ; rw [if_neg h4]
            have eB : moQ vs xs i = (vs.getD i default).2.1 := by unfold moQ; rw [if_neg h4]
            have toC : ∀ b, gH H0 [s1', s2, s3] b → H0 b ∨ w0.heap.size ≤ b := fun b hb => (hQ12.toB b hb).imp_right fun h => Nat.le_trans x4.size h
            have e2 := hQ12.at' 1 _ _ rfl rfl
            have l2 : r2.length = i := by have := e2.1; rw [upR_len] at this; exact this
            refine ⟨[(0, false), (1, false), (2, false), (5, false), (6, false), (7, true), (3, false), (4, true), (8, false), (9, false), (10, false), (11, false)], by kernel_rfl, ?_⟩
            refine ⟨(vr.getD i default).lo.v, hB12.agg (sub := rcs (vr.getD i default).lo) rfl rfl, (vr.getD i default).hi.v, fun w' hw _ => (hB12.ext hw).agg (sub := rcs (vr.getD i default).hi) rfl rfl, ?_⟩
            intro b73 _
            intro w13 hx13 hF13
            have hQ13 := hQ12.ext hx13
            have hB73 : Blk w13 b73 tRat (rcs (vr.getD i default).lo) := hF13.1.1
            refine ⟨rfl, w4.heap.size, r2.length, gcs r2, rcs (vr.getD i default).lo, ⟨hQ13.gd.own 1 _ _ rfl rfl, rfl, ?_, Enc.one (vr.getD i default).lo, fun _ => ⟨_, rfl, rfl⟩, by omega, by show (r2.length + 1) * 64 ≤ _; omega, Nat.le_trans x412.size hx13.size⟩, ?_⟩
            · intro e v he
              exact hB73.cell (i := 0 + e) (v := v) (by rw [Nat.zero_add]; exact he)
            intro v14 w14 ho14 hg14 hn14
            have x013 := Ext.trans' x012 hx13
            refine (hQ13.push (i := 1) rfl rfl rfl ho14 hg14 hn14 ((((hvar.1).to toC).ext x013).mono (by decide))).elim fun s2' hs2 => ?_
            have hQ14 := hs2.2
            have k14 : KeptNew w12 w13 w14 := ⟨fun c h1 h2 => hg14.block c h2 (fun e => by have := (hQ12.gd.lt (i := 1) (s := s2) rfl e.symm).2; omega), hg14.size⟩
            have k14' : KeptNew w5 w13 w14 := ⟨fun c h1 h2 => hg14.block c h2 (fun e => by have := (hQ.gd.lt (i := 1) (s := s2) rfl e.symm).2; omega), hg14.size⟩
            have hB14 : Blk w14 b11 tVar (Enc.cs (vr.getD i default)) := by
              show w14.heap[b11]? = _
              rw [k14'.blk b11 (hb11.ge (Ext.rfl w5)) (hB12.ext hx13).lt]; exact hB12.ext hx13
            have hB73' : Blk w14 b73 tRat (rcs (vr.getD i default).lo) := by
              show w14.heap[b73]? = _
              rw [k14.blk b73 hF13.1.2 hB73.lt]; exact hB73
            refine ⟨⟨k14, ⟨hB73', hF13.1.2⟩, hB14.agg (sub := rcs (vr.getD i default).hi) rfl rfl, trivial⟩, ?_⟩
            have x414 : Ext w4 w14 := hQ13.grown_ext (i := 1) rfl hg14 (Ext.trans' x412 hx13) (Nat.le_refl _)
            intro b78 _
            intro w15 hx15 hF15
            have hQ15 := hQ14.ext hx15
            have hB78 : Blk w15 b78 tRat (rcs (vr.getD i default).hi) := hF15.1.1
            have e3 := hQ15.at' 2 _ _ rfl rfl
            have l3 : r3.length = i := by have := e3.1; rw [upR_len] at this; exact this
            have x415 := Ext.trans' x414 hx15
            have x015 := Ext.trans' x4 x415
            refine ⟨rfl, w4.heap.size, r3.length, gcs r3, rcs (vr.getD i default).hi, ⟨hQ15.gd.own 2 _ _ rfl rfl, rfl, ?_, Enc.one (vr.getD i default).hi, fun _ => ⟨_, rfl, rfl⟩, by omega, by show (r3.length + 1) * 64 ≤ _; omega, x415.size⟩, ?_⟩
            · intro e v he
              exact hB78.cell (i := 0 + e) (v := v) (by rw [Nat.zero_add]; exact he)
            intro v16 w16 ho16 hg16 hn16
            have toD : ∀ b, gH H0 [s1', s2', s3] b → H0 b ∨ w0.heap.size ≤ b := fun b hb => (hQ15.toB b hb).imp_right fun h => Nat.le_trans x4.size h
            refine (hQ15.push (i := 2) rfl rfl rfl ho16 hg16 hn16 ((((hvar.2.1).to toD).ext x015).mono (by decide))).elim fun s3' hs3 => ?_
            have x416 : Ext w4 w16 := hQ15.grown_ext (i := 2) rfl hg16 x415 (Nat.le_refl _)
            intro w17 hx17 _
            refine ⟨((i + 1 : Nat) : Int), sucI i (by omega), (i + 1, (s1', s2', s3'), (r1 ++ [q4], r2 ++ [(vr.getD i default).lo], r3 ++ [(vr.getD i default).hi])), ⟨rfl, rfl, rfl, ?_, ?_, ?_, rfl, rfl, rfl, trivial⟩, ⟨Ext.trans' x416 hx17, hin, ?_⟩, Nat.sub_lt_sub_left hin (Nat.lt_succ_self i)⟩
            · exact congrArg some hs1.1
            · exact congrArg some hs2.1
            · exact congrArg some hs3.1
            · have hE := hs3.2.ext hx17
              rw [upR_succ, upR_succ, upR_succ, eA, eB]
              exact hE
        · have hPl := oP.ones.len
          rw [ivs_length] at hPl
          have hq : (0 : Int) = partQ P i := by unfold partQ; rw [if_neg (by omega)]
          have hbd := partQ_bd P i
          have toB : ∀ b, gH H0 [s1, s2, s3] b → H0 b ∨ w0.heap.size ≤ b := fun b hb => (hQ.toB b hb).imp_right fun h => Nat.le_trans x4.size h
          have hQ7 := hQ.ext hx57
          have hlo := (hvar.1.to toB).ext x7
          have hhi := (hvar.2.1.to toB).ext x7
          refine ⟨sq 15, by kernel_rfl, (vr.getD i default).lo.v, hB7.agg (sub := rcs (vr.getD i default).lo) rfl rfl, ?_⟩
          refine dcallR (mk := RatR.v) (Q := fun r' w' => CanQ (gH H0 [s1, s2, s3]) w' r' (Rat.divInt (partQ P i) 4)) RatR.inj (fun _ => CanQ.stable) (fun w' hw hF => CallS.mono (ROf_ok (n := 0) (d := 4) (HB.ext hQ7.hb hw) (by omega) (by omega) (by decide) (by decide)) (fun v' w'' h => ⟨h.1, h.2.elim fun r hr => ⟨r, hr.1, by rw [← hq]; exact hr.2⟩⟩)) ?_
          intro q1
          refine ⟨(vr.getD i default).hi.v, hB7.agg (sub := rcs (vr.getD i default).hi) rfl rfl, (vr.getD i default).lo.v, hB7.agg (sub := rcs (vr.getD i default).lo) rfl rfl, ?_⟩
          refine dcallR (mk := RatR.v) (Q := fun r' w' => CanQ (gH H0 [s1, s2, s3]) w' r' ((vs.getD i default).2.1 - (vs.getD i default).1)) RatR.inj (fun _ => CanQ.stable) (fun w' hw hF => RSub_ok (HB.ext hQ7.hb hw) ((hhi.ext hw).mono (by decide)) ((hlo.ext hw).mono (by decide))) ?_
          intro q2
          have f2 : FitQ (9 + 9 + 1) ((vs.getD i default).2.1 - (vs.getD i default).1) := FitQ.sub hhi.fit hlo.fit
          refine dcallR (mk := RatR.v) (Q := fun r' w' => CanQ (gH H0 [s1, s2, s3]) w' r' (Rat.divInt (partQ P i) 4 * ((vs.getD i default).2.1 - (vs.getD i default).1))) RatR.inj (fun _ => CanQ.stable) (fun w' hw hF => RMul_ok (HB.ext hQ7.hb hw) ((hF.2.1.inq (fitFour hbd) (by decide)).mono (by decide)) ((hF.1.inq f2 (by decide)).mono (by decide))) ?_
          intro q3
          have f3 : FitQ (1 + (9 + 9 + 1)) (Rat.divInt (partQ P i) 4 * ((vs.getD i default).2.1 - (vs.getD i default).1)) := FitQ.mul (fitFour hbd) f2 (by decide)
          refine dcallR (mk := RatR.v) (Q := fun r' w' => CanQ (gH H0 [s1, s2, s3]) w' r' (atQ vs P i)) RatR.inj (fun _ => CanQ.stable) (fun w' hw hF => RAdd_ok (HB.ext hQ7.hb hw) ((hlo.ext hw).mono (by decide)) ((hF.1.inq f3 (by decide)).mono (by decide))) ?_
          intro q4
          have f4 : FitQ (9 + (1 + (9 + 9 + 1)) + 1) (atQ vs P i) := FitQ.add hlo.fit f3
          intro b63 _
          intro w8 hx8 hF8
          have hQ8 := hQ7.ext hx8
          have hB63 : Blk w8 b63 tRat (rcs q4) := hF8.1.1
          have e1 := hQ8.at' 0 _ _ rfl rfl
          have l1 : r1.length = i := by have := e1.1; rw [upR_len] at this; exact this
          refine ⟨rfl, w4.heap.size, r1.length, gcs r1, rcs q4, ⟨hQ8.gd.own 0 _ _ rfl rfl, rfl, ?_, Enc.one q4, fun _ => ⟨_, rfl, rfl⟩, by omega, by show (r1.length + 1) * 64 ≤ _; omega, Nat.le_trans hx5.size (Nat.le_trans hx57.size hx8.size)⟩, ?_⟩
          · intro e v he
            exact hB63.cell (i := 0 + e) (v := v) (by rw [Nat.zero_add]; exact he)
          intro v9 w9 ho9 hg9 hn9
          refine (hQ8.push (i := 0) rfl rfl rfl ho9 hg9 hn9 ((hF8.2.1.inq f4 (by decide)).mono (by decide))).elim fun s1' hs1 => ?_
          have hQ9 := hs1.2
          have x49 : Ext w4 w9 := hQ8.grown_ext (i := 0) rfl hg9 (Ext.trans' hx5 (Ext.trans' hx57 hx8)) (Nat.le_refl _)
          have x79 : KeptNew w5 w8 w9 := ⟨fun c h1 h2 => hg9.block c h2 (fun e => by have := (hQ.gd.lt (i := 0) (s := s1) rfl e.symm).2; omega), hg9.size⟩
          have hB79 : Blk w9 b11 tVar (Enc.cs (vr.getD i default)) := by
            show w9.heap[b11]? = _
            rw [x79.blk b11 (hb11.ge (Ext.rfl w5)) (hB7.ext hx8).lt]; exact hB7.ext hx8
          intro w10 hx10 _
          have x0A := Ext.trans' x4 (Ext.trans' x49 hx10)
          refine CallS.mono (get_at (hVC.vi (by decide) |>.ext x0A) (i : Int) ⟨by decide, by decide⟩) ?_
          rintro _ w11 ⟨hx11, g, rfl, hgq⟩
          refine CallS.mono (RSign_ok (H0.hb w11) ((hgq.qi (by decide)).inq.is)) ?_
          rintro _ w12 ⟨hx12, rfl⟩
          have hx912 := Ext.trans' hx10 (Ext.trans' hx11 hx12)
          have hQ12 := hQ9.ext hx912
          have hB12 := hB79.ext hx912
          have x412 := Ext.trans' x49 hx912
          have x012 := Ext.trans' x4 x412
          refine And.intro (fun h4 => ?_) (fun h4 => ?_)
          · have eA : leQ vs xs i = (vs.getD i default).2.1 := by unfold leQ; rw [if_pos h4]
            have eB : moQ vs xs i = (vs.getD i default).1 := by unfold moQ; rw [if_pos h4]
            have toC : ∀ b, gH H0 [s1', s2, s3] b → H0 b ∨ w0.heap.size ≤ b := fun b hb => (hQ12.toB b hb).imp_right fun h => Nat.le_trans x4.size h
            have e2 := hQ12.at' 1 _ _ rfl rfl
            have l2 : r2.length = i := by have := e2.1; rw [upR_len] at this; exact this
            refine ⟨[(0, false), (1, false), (2, false), (5, false), (6, false), (7, true), (3, false), (4, true), (8, false), (9, false), (10, false), (11, false)], by kernel_rfl, ?_⟩
            refine ⟨(vr.getD i default).hi.v, hB12.agg (sub := rcs (vr.getD i default).hi) rfl rfl, (vr.getD i default).lo.v, fun w' hw _ => (hB12.ext hw).agg (sub := rcs (vr.getD i default).lo) rfl rfl, ?_⟩
            intro b73 _
            intro w13 hx13 hF13
            have hQ13 := hQ12.ext hx13
            have hB73 : Blk w13 b73 tRat (rcs (vr.getD i default).hi) := hF13.1.1
            refine ⟨rfl, w4.heap.size, r2.length, gcs r2, rcs (vr.getD i default).hi, ⟨hQ13.gd.own 1 _ _ rfl rfl, rfl, ?_, Enc.one (vr.getD i default).hi, fun _ => ⟨_, rfl, rfl⟩, by omega, by show (r2.length + 1) * 64 ≤ _; omega, Nat.le_trans x412.size hx13.size⟩, ?_⟩
            · intro e v he
              exact hB73.cell (i := 0 + e) (v := v) (by rw [Nat.zero_add]; exact he)
            intro v14 w14 ho14 hg14 hn14
            have x013 := Ext.trans' x012 hx13
            refine (hQ13.push (i := 1) rfl rfl rfl ho14 hg14 hn14 ((((hvar.2.1).to toC).ext x013).mono (by decide))).elim fun s2' hs2 => ?_
            have hQ14 := hs2.2
            have k14 : KeptNew w12 w13 w14 := ⟨fun c h1 h2 => hg14.block c h2 (fun e => by have := (hQ12.gd.lt (i := 1) (s := s2) rfl e.symm).2; omega), hg14.size⟩
            have k14' : KeptNew w5 w13 w14 := ⟨fun c h1 h2 => hg14.block c h2 (fun e => by have := (hQ.gd.lt (i := 1) (s := s2) rfl e.symm).2; omega), hg14.size⟩
            have hB14 : Blk w14 b11 tVar (Enc.cs (vr.getD i default)) := by
              show w14.heap[b11]? = _
              rw [k14'.blk b11 (hb11.ge (Ext.rfl w5)) (hB12.ext hx13).lt]; exact hB12.ext hx13
            have hB73' : Blk w14 b73 tRat (rcs (vr.getD i default).hi) := by
              show w14.heap[b73]? = _
              rw [k14.blk b73 hF13.1.2 hB73.lt]; exact hB73
            refine ⟨⟨k14, ⟨hB73', hF13.1.2⟩, hB14.agg (sub := rcs (vr.getD i default).lo) rfl rfl, trivial⟩, ?_⟩
            have x414 : Ext w4 w14 := hQ13.grown_ext (i := 1) rfl hg14 (Ext.trans' x412 hx13) (Nat.le_refl _)
            intro b78 _
            intro w15 hx15 hF15
            have hQ15 := hQ14.ext hx15
            have hB78 : Blk w15 b78 tRat (rcs (vr.getD i default).lo) := hF15.1.1
            have e3 := hQ15.at' 2 _ _ rfl rfl
            have l3 : r3.length = i := by have := e3.1; rw [upR_len] at this; exact this
            have x415 := Ext.trans' x414 hx15
            have x015 := Ext.trans' x4 x415
            refine ⟨rfl, w4.heap.size, r3.length, gcs r3, rcs (vr.getD i default).lo, ⟨hQ15.gd.own 2 _ _ rfl rfl, rfl, ?_, Enc.one (vr.getD i default).lo, fun _ => ⟨_, rfl, rfl⟩, by omega, by show (r3.length + 1) * 64 ≤ _; omega, x415.size⟩, ?_⟩
            · intro e v he
              exact hB78.cell (i := 0 + e) (v := v) (by rw [Nat.zero_add]; exact he)
            intro v16 w16 ho16 hg16 hn16
            have toD : ∀ b, gH H0 [s1', s2', s3] b → H0 b ∨ w0.heap.size ≤ b := fun b hb => (hQ15.toB b hb).imp_right fun h => Nat.le_trans x4.size h
            refine (hQ15.push (i := 2) rfl rfl rfl ho16 hg16 hn16 ((((hvar.1).to toD).ext x015).mono (by decide))).elim fun s3' hs3 => ?_
            have x416 : Ext w4 w16 := hQ15.grown_ext (i := 2) rfl hg16 x415 (Nat.le_refl _)
            intro w17 hx17 _
            refine ⟨((i + 1 : Nat) : Int), sucI i (by omega), (i + 1, (s1', s2', s3'), (r1 ++ [q4], r2 ++ [(vr.getD i default).hi], r3 ++ [(vr.getD i default).lo])), ⟨rfl, rfl, rfl, ?_, ?_, ?_, rfl, rfl, rfl, trivial⟩, ⟨Ext.trans' x416 hx17, hin, ?_⟩, Nat.sub_lt_sub_left hin (Nat.lt_succ_self i)⟩
            · exact congrArg some hs1.1
            · exact congrArg some hs2.1
            · exact congrArg some hs3.1
            · have hE := hs3.2.ext hx17
              rw [upR_succ, upR_succ, upR_succ, eA, eB]
              exact hE
          · have eA : leQ vs xs i = (vs.getD i default).1 := by unfold leQ; rw [if_neg h4]
            have eB : moQ vs xs i = (vs.getD i default).2.1 := by unfold moQ; rw [if_neg h4]
            have toC : ∀ b, gH H0 [s1', s2, s3] b → H0 b ∨ w0.heap.size ≤ b := fun b hb => (hQ12.toB b hb).imp_right fun h => Nat.le_trans x4.size h
            have e2 := hQ12.at' 1 _ _ rfl rfl
            have l2 : r2.length = i := by have := e2.1; rw [upR_len] at this; exact this
            refine ⟨[(0, false), (1, false), (2, false), (5, false), (6, false), (7, true), (3, false), (4, true), (8, false), (9, false), (10, false), (11, false)], by kernel_rfl, ?_⟩
            refine ⟨(vr.getD i default).lo.v, hB12.agg (sub := rcs (vr.getD i default).lo) rfl rfl, (vr.getD i default).hi.v, fun w' hw _ => (hB12.ext hw).agg (sub := rcs (vr.getD i default).hi) rfl rfl, ?_⟩
            intro b73 _
            intro w13 hx13 hF13
            have hQ13 := hQ12.ext hx13
            have hB73 : Blk w13 b73 tRat (rcs (vr.getD i default).lo) := hF13.1.1
            refine ⟨rfl, w4.heap.size, r2.length, gcs r2, rcs (vr.getD i default).lo, ⟨hQ13.gd.own 1 _ _ rfl rfl, rfl, ?_, Enc.one (vr.getD i default).lo, fun _ => ⟨_, rfl, rfl⟩, by omega, by show (r2.length + 1) * 64 ≤ _; omega, Nat.le_trans x412.size hx13.size⟩, ?_⟩
            · intro e v he
              exact hB73.cell (i := 0 + e) (v := v) (by rw [Nat.zero_add]; exact he)
            intro v14 w14 ho14 hg14 hn14
            have x013 := Ext.trans' x012 hx13
            refine (hQ13.push (i := 1) rfl rfl rfl ho14 hg14 hn14 ((((hvar.1).to toC).ext x013).mono (by decide))).elim fun s2' hs2 => ?_
            have hQ14 := hs2.2
            have k14 : KeptNew w12 w13 w14 := ⟨fun c h1 h2 => hg14.block c h2 (fun e => by have := (hQ12.gd.lt (i := 1) (s := s2) rfl e.symm).2; omega), hg14.size⟩
            have k14' : KeptNew w5 w13 w14 := ⟨fun c h1 h2 => hg14.block c h2 (fun e => by have := (hQ.gd.lt (i := 1) (s := s2) rfl e.symm).2; omega), hg14.size⟩
            have hB14 : Blk w14 b11 tVar (Enc.cs (vr.getD i default)) := by
              show w14.heap[b11]? = _
              rw [k14'.blk b11 (hb11.ge (Ext.rfl w5)) (hB12.ext hx13).lt]; exact hB12.ext hx13
            have hB73' : Blk w14 b73 tRat (rcs (vr.getD i default).lo) := by
              show w14.heap[b73]? = _
              rw [k14.blk b73 hF13.1.2 hB73.lt]; exact hB73
            refine ⟨⟨k14, ⟨hB73', hF13.1.2⟩, hB14.agg (sub := rcs (vr.getD i default).hi) rfl rfl, trivial⟩, ?_⟩
            have x414 : Ext w4 w14 := hQ13.grown_ext (i := 1) rfl hg14 (Ext.trans' x412 hx13) (Nat.le_refl _)
            intro b78 _
            intro w15 hx15 hF15
            have hQ15 := hQ14.ext hx15
            have hB78 : Blk w15 b78 tRat (rcs (vr.getD i default).hi) := hF15.1.1
            have e3 := hQ15.at' 2 _ _ rfl rfl
            have l3 : r3.length = i := by have := e3.1; rw [upR_len] at this; exact this
            have x415 := Ext.trans' x414 hx15
            have x015 := Ext.trans' x4 x415
            refine ⟨rfl, w4.heap.size, r3.length, gcs r3, rcs (vr.getD i default).hi, ⟨hQ15.gd.own 2 _ _ rfl rfl, rfl, ?_, Enc.one (vr.getD i default).hi, fun _ => ⟨_, rfl, rfl⟩, by omega, by show (r3.length + 1) * 64 ≤ _; omega, x415.size⟩, ?_⟩
            · intro e v he
              exact hB78.cell (i := 0 + e) (v := v) (by rw [Nat.zero_add]; exact he)
            intro v16 w16 ho16 hg16 hn16
            have toD : ∀ b, gH H0 [s1', s2', s3] b → H0 b ∨ w0.heap.size ≤ b := fun b hb => (hQ15.toB b hb).imp_right fun h => Nat.le_trans x4.size h
            refine (hQ15.push (i := 2) rfl rfl rfl ho16 hg16 hn16 ((((hvar.2.1).to toD).ext x015).mono (by decide))).elim fun s3' hs3 => ?_
            have x416 : Ext w4 w16 := hQ15.grown_ext (i := 2) rfl hg16 x415 (Nat.le_refl _)
            intro w17 hx17 _
            refine ⟨((i + 1 : Nat) : Int), sucI i (by omega), (i + 1, (s1', s2', s3'), (r1 ++ [q4], r2 ++ [(vr.getD i default).lo], r3 ++ [(vr.getD i default).hi])), ⟨rfl, rfl, rfl, ?_, ?_, ?_, rfl, rfl, rfl, trivial⟩, ⟨Ext.trans' x416 hx17, hin, ?_⟩, Nat.sub_lt_sub_left hin (Nat.lt_succ_self i)⟩
            · exact congrArg some hs1.1
            · exact congrArg some hs2.1
            · exact congrArg some hs3.1
            · have hE := hs3.2.ext hx17
              rw [upR_succ, upR_succ, upR_succ, eA, eB]
              exact hE
      · have hi' : i = vs.length := by have := Nat.le_antisymm hi (geTo h2); omega
        have x5 := Ext.trans' x4 hx5
        have hB5 := hB4.ext hx5
        have hQ : QRows 64 w4.heap.size w5 [s1, s2, s3] [r1, r2, r3] [upR (atQ vs P) vs.length, upR (leQ vs xs) vs.length, upR (moQ vs xs) vs.length] := by rw [← hi']; exact hQ
        refine ⟨p.v, hB5.agg (sub := p.cs) rfl rfl, ?_⟩
        refine CallS.mono (Span_ok (k := 1048576) (l := 12) (H0.hb w5) (hP.vs.ext x5) ((hVC.vi (by decide)).inv.ext x5) hVC.len ⟨by decide, by decide, by decide, by omega⟩) ?_
        intro v6 w6 hsp
        have hx6 := hsp.1
        refine hsp.2.elim fun sl hsp2 => hsp2.elim fun sh hsp3 => ?_
        have hv6 := hsp3.1
        have hsl := hsp3.2.1
        have hsh := hsp3.2.2
        subst hv6
        intro c13 w7 hc13 c14 w8 hc14
        have hC13 : Blk w8 c13 tRat (rcs RatR.zero) := hc13.toBlk.ext hc14.ext
        have nec : c13 ≠ c14 := by have := hc13.lt; have := hc14.isNew; omega
        have st1 := storeQ (r := sl) hC13 (hc14.extFrom hc13.ext) (hc13.ge (Ext.rfl w6)) rfl
        refine ⟨st1.1, fun w9 hs9 => ?_⟩
        have h9 := st1.2 w9 hs9
        have st2 := storeQ (r := sh) (Blk.grownN hc14.toBlk h9.2.1 (Ne.symm nec)) h9.2.2 (hc14.ge hc13.ext) rfl
        refine ⟨st2.1, fun w10 hs10 => ?_⟩
        have h10 := st2.2 w10 hs10
        have hL13 := Blk.grownN h9.1 h10.2.1 nec
        have hx610 : Ext w6 w10 := h10.2.2
        have hx510 := Ext.trans' hx6 hx610
        have hQA := hQ.ext hx510
        have pt0 := (hQA.pt (i := 0) rfl rfl rfl).1
        have pt1 := (hQA.pt (i := 1) rfl rfl rfl).1
        have pt2 := (hQA.pt (i := 2) rfl rfl rfl).1
        have x10 := Ext.trans' x5 hx510
        refine CallS.mono (Of_ok pt0 (by decide) (by rw [upR_len]; omega)) ?_
        intro v11 w11 hof
        have hx11 := hof.1
        refine hof.2.elim fun so hof2 => ?_
        have hv11 := hof2.1
        have hso := hof2.2
        subst hv11
        have x11 := Ext.trans' x10 hx11
        have hso' : VC (nK 64) 12 w11 so _ := hso.map (Nat.le_refl _) (by rw [upR_len]; omega)
        refine CallS.mono (dot_at 1048576 ((hVC.vi (by decide)).ext x11) (hso'.vi (by decide)) ⟨⟨by decide, by decide, by decide, by decide, by decide, by decide⟩, by decide⟩) ?_
        intro v12 w12 hdt
        have hx12 := hdt.1
        refine hdt.2.elim fun t0 hdt2 => ?_
        have hv12 := hdt2.1
        have ht0 := hdt2.2
        subst hv12
        intro c15 w13 hc15
        have st3 := storeQ (r := t0) hc15.toBlk hc15.ext (hc15.ge (Ext.rfl w12)) rfl
        refine ⟨st3.1, fun w14 hs14 => ?_⟩
        have h14 := st3.2 w14 hs14
        have hx1014 : Ext w10 w14 := Ext.trans' hx11 (Ext.trans' hx12 h14.2.2)
        have x14 := Ext.trans' x10 hx1014
        have hC15 := h14.1
        have hC13' := hL13.ext hx1014
        have hC14' := h10.1.ext hx1014
        have ql : InQ 137438953472 H0 w14 sl _ := ((hsl.1.inq hsl.2 (by decide)).ext (Ext.trans' hx610 hx1014)).mono (by decide)
        have qh : InQ 137438953472 H0 w14 sh _ := ((hsh.1.inq hsh.2 (by decide)).ext (Ext.trans' hx610 hx1014)).mono (by decide)
        have qt : InQ 137438953472 H0 w14 t0 _ := (((ht0.qi (by decide)).inq).ext h14.2.2).mono (by decide)
        refine ⟨sq 30, by kernel_rfl, sl.v, loadQ hC13', t0.v, loadQ hC15, ?_⟩
        refine dcallV (.int .i64 (cmpQ (spanQ vs xs xs.length).1 (dotL xs (nrm (ofV (upR (atQ vs P) vs.length)))))) (fun w' hw hF => RCmp_ok (H0.hb w') (ql.ext hw) (qt.ext hw)) ?_
        refine And.intro (fun _ => ?_) (fun h => absurd (cmpQ_pos.1 (by omega)) (Rat.not_lt.2 wi1))
        refine ⟨t0.v, loadQ hC15, sh.v, loadQ hC14', ?_⟩
        refine dcallV (.int .i64 (cmpQ (dotL xs (nrm (ofV (upR (atQ vs P) vs.length)))) (spanQ vs xs xs.length).2)) (fun w' hw hF => RCmp_ok (H0.hb w') (qt.ext hw) (qh.ext hw)) ?_
        refine And.intro (fun _ => ?_) (fun h => absurd (cmpQ_pos.1 (by omega)) (Rat.not_lt.2 wi2))
        refine ⟨sl.v, loadQ hC13', ?_⟩
        refine dcallR (mk := SlR.v) (Q := fun r' w' => VC (nK 64) 12 w' r' (nrm (ofV (upR (leQ vs xs) vs.length)))) SlR.inj (fun _ => fun _ _ h e => h.ext e) (fun w' hw hF => CallS.mono (Of_ok (pt1.ext (Ext.trans' hx1014 hw)) (by decide) (by rw [upR_len]; omega)) (fun v' w'' h => ⟨h.1, h.2.elim fun r hr => ⟨r, hr.1, hr.2.map (Nat.le_refl _) (by rw [upR_len]; omega)⟩⟩)) ?_
        intro so1
        refine dcallR (mk := RatR.v) (Q := fun r' w' => QC (dK 1048576 12) w' r' (spanQ vs xs xs.length).1) RatR.inj (fun _ => fun _ _ h e => h.ext e) (fun w' hw hF => by
          have h := dot_at 1048576 ((hVC.vi (by decide)).ext (Ext.trans' x14 hw)) (hF.1.vi (by decide)) ⟨⟨by decide, by decide, by decide, by decide, by decide, by decide⟩, by decide⟩
          rw [← en1] at h
          exact h) ?_
        intro t1
        refine dcallV (.bool true) (fun w' hw hF => by
          have h := RSame_ok (H0.hb w') (ql.ext hw) (((hF.1.qi (by decide)).inq).mono (by decide))
          rw [decide_eq_true (Eq.refl (spanQ vs xs xs.length).1)] at h
          exact h) ?_
        refine ⟨sh.v, loadQ hC14', ?_⟩
        refine dcallR (mk := SlR.v) (Q := fun r' w' => VC (nK 64) 12 w' r' (nrm (ofV (upR (moQ vs xs) vs.length)))) SlR.inj (fun _ => fun _ _ h e => h.ext e) (fun w' hw hF => CallS.mono (Of_ok (pt2.ext (Ext.trans' hx1014 hw)) (by decide) (by rw [upR_len]; omega)) (fun v' w'' h => ⟨h.1, h.2.elim fun r hr => ⟨r, hr.1, hr.2.map (Nat.le_refl _) (by rw [upR_len]; omega)⟩⟩)) ?_
        intro so2
        refine dcallR (mk := RatR.v) (Q := fun r' w' => QC (dK 1048576 12) w' r' (spanQ vs xs xs.length).2) RatR.inj (fun _ => fun _ _ h e => h.ext e) (fun w' hw hF => by
          have h := dot_at 1048576 ((hVC.vi (by decide)).ext (Ext.trans' x14 hw)) (hF.1.vi (by decide)) ⟨⟨by decide, by decide, by decide, by decide, by decide, by decide⟩, by decide⟩
          rw [← en2] at h
          exact h) ?_
        intro t2
        refine dcallV (.bool true) (fun w' hw hF => by
          have h := RSame_ok (H0.hb w') (qh.ext hw) (((hF.1.qi (by decide)).inq).mono (by decide))
          rw [decide_eq_true (Eq.refl (spanQ vs xs xs.length).2)] at h
          exact h) ?_
        refine dcallV (.bool true) (fun w' hw hF => awake15_at w') ?_
        intro w15 hx15 _
        exact ⟨Ext.trans' x14 hx15, rfl⟩
end Go.Proofs.Ytlfdobjdlgebbaa
/-
  What a row asks behind a call that makes new memory alone. Helpers; no statement of the program is proved here.
-/
set_option maxRecDepth 100000
namespace Go.Proofs.Ytlfdobjdlgebbaa
open Go Go.Tw Go.ChangeShapes Go.WideShapes Go.ChangeAt Go.RowKit

theorem own0 : ownKnob Try.prog.godebug = none := by kernel_rfl
theorem kids0 : Kids Try.prog (fun t => t < Try.prog.types.size) := kids_rows (by kernel_rfl) (by kernel_rfl)
theorem full0 : ∀ t e, t < Try.prog.types.size → Try.prog.underlying t = some (.slice e) → 0 < Try.prog.cellsOf e := slices_full_of _ (by kernel_rfl)
theorem trodAll_ext {H : Type} {enc : TypeId × Value → H} {W W' : World} {sp : Nat → Bool} (hx : Ext W W') : ∀ {ts : List TypeId} {vs : List Value} {ds : List (DataW H)} {ps : List MemPlace}, (∀ p ∈ ps, p.block < W.heap.size) →
    DataW.TrodAll enc Try.prog W 0 sp true ts vs ds ps → DataW.TrodAll enc Try.prog W' 0 sp true ts vs ds ps
  | [], [], [], _, _, h => h
  | _ :: _, _ :: _, _ :: _, _, hl, ⟨p, q, ⟨n, h1⟩, h2, e⟩ =>
    ⟨p, q, ⟨n, DataW.trod_carry n _ _ _ h1 fun x hx' => Below.same hx (hl x (by rw [e]; exact List.mem_append_left _ hx'))⟩, trodAll_ext hx (fun x hx' => hl x (by rw [e]; exact List.mem_append_right _ hx')) h2, e⟩
/-- What the row asks behind a call that made new memory alone. -/
theorem post_ext {H : Type} {enc : TypeId × Value → H} {f : Func} {s : ChangeSpec} {apart fresh handsOn again : Bool} {W W' : World} {args : Array Value} {v : Value} {ds : List (DataW H)} {before : List MemPlace}
    (hvn : s.vars = []) (hW : DataW.Whole enc Try.prog f.params.toList s.vars apart W args.toList ds [] before) (hx : Ext W W') (hlt : ∀ t ∈ f.params.toList, t < Try.prog.types.size)
    (hA : DataW.TrodAll enc Try.prog W 0 (fun _ => true) true f.params.toList args.toList ds before)
    (hres : ∀ (b : Nat) (sp : Nat → Bool) (hd : Bool), DataW.TrodAll enc Try.prog W' b sp hd f.resultTypes.toList (v.resultList f.resultTypes.size) (s.fn H (ds ++ [])).results [])
    (hargs : (s.fn H (ds ++ [])).args = ds) (hvars : (s.fn H (ds ++ [])).vars = [])
    (hok : ∀ (j : Nat) (t : TypeId) (r : Value), f.resultTypes[j]? = some t → (v.resultList f.resultTypes.size)[j]? = some r → Value.okWide Try.prog W' .any 0 t r) :
    s.post enc Try.prog f apart fresh handsOn again W args v W' := by
  have hl : ∀ p ∈ before, p.block < W.heap.size := fun p hp => hW.lt p hp
  have hold : ∀ p ∈ before, (fun b => decide (b < W.heap.size)) p.block = true := fun p hp => by simpa using hl p hp
  have ha : ∀ sp : Nat → Bool, (∀ p ∈ before, sp p.block = true) → DataW.TrodAll enc Try.prog W' 0 sp true f.params.toList args.toList (s.fn H (ds ++ [])).args before := fun sp hsp => by
    rw [hargs]
    exact trodAll_ext hx hl (DataW.TrodAll.respare (T := fun t => t < Try.prog.types.size) kids0 full0 hlt hA hsp)
  have hv : ∀ sp : Nat → Bool, DataW.TrodVars enc Try.prog W' sp s.vars (s.fn H (ds ++ [])).vars [] := fun sp => by
    rw [hvars, hvn]; rfl
  refine ⟨ds, [], before, [], before, [], hW, hres _ _ _, ha _ hold, hv _, Below.frame hx _, fun _ => ?_⟩
  obtain ⟨_, _, _, _, _, hz, hn⟩ := hW
  refine ⟨hok, _, _, ([] ++ before) ++ [], ⟨[] ++ before, [], trodAll_append (ha _ (fun _ _ => rfl)) (hres _ _ _), hv _, rfl, ?_, ?_⟩, ?_⟩
  · intro b off hp
    have hp : MemPlace.cell b off ∈ before := by simpa using hp
    rw [Below.frozen hx (p := ⟨b, off, none⟩) (hl _ hp)]
    exact hz b off hp
  · intro hap
    have := hn hap
    simpa using this
  · intro p hp _
    simpa using hp
end Go.Proofs.Ytlfdobjdlgebbaa
/-
  What a row narrowed by its bulk hands over: vectors and programs. Helpers; no statement of the program is proved here.
-/
set_option maxRecDepth 100000
namespace Go.Proofs.Ytlfdobjdlgebbaa
open Go Go.Tw Go.ChangeShapes Go.WideShapes Go.ChangeAt Go.RowKit

section
variable {H : Type} {enc : TypeId × Value → H} {W : World} {base B : Nat} {sp : Nat → Bool} {held : Bool} {r : Reach} {b0 : Nat} {v : Value} {d : DataW H} {p : List MemPlace}
theorem openVB {t : Nat} (ht : Try.prog.underlying t = some (.slice 77)) (hv : Value.okWide Try.prog W r b0 t v) (h : DataW.Trod enc Try.prog W base sp held t v d p) (hB : Rows.uptoBulk d ≤ B) : ∃ (s : SlR) (ts : List TmR), v = s.v ∧ OpVB B W s ts := by
  obtain ⟨a, n, c, rfl⟩ := okWide_slice ht hv
  obtain ⟨fuel, hf⟩ := h
  obtain ⟨s, ts, e, ho⟩ := opVecB ht hf hB
  exact ⟨s, ts, (List.cons.inj e).1, ho⟩
theorem openPB (hv : Value.okWide Try.prog W r b0 27 v) (h : DataW.Trod enc Try.prog W base sp held 27 v d p) (hB : Rows.uptoBulk d ≤ B) : ∃ (s : PrgR) (vr : List VarR) (rr : List RowR), v = s.v ∧ OpPrg B W s vr rr := by
  obtain ⟨cs, rfl, _⟩ := okWide_struct (t := 27) rfl hv
  obtain ⟨fuel, hf⟩ := h
  obtain ⟨s, vr, rr, e, ho⟩ := opPrg hf hB
  refine ⟨s, vr, rr, ?_, ho⟩
  have e : cs.toList = s.cs := e
  show Value.agg cs = Value.agg s.cs.toArray
  rw [← e]
end
theorem small_all {H : Type} {ds : List (DataW H)} (h : Rows.uptoSmall H ds = true) : Rows.uptoBulkAll ds ≤ 1048576 := of_decide_eq_true h
end Go.Proofs.Ytlfdobjdlgebbaa
