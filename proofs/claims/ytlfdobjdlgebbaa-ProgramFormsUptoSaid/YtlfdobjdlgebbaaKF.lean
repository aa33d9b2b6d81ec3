/-
  Contracts of the layer program: the example's program. Helpers; no statement of the program is proved here.
-/
import Derived.Test.YtlfdobjdlgebbaaKE
import Derived.Test.YtlfdobjdlgebbaaRows
import Derived.Test.YtlfdobjdlgebbaaChecked
import Derived.ProofKit
import Derived.JoinedCond
set_option maxRecDepth 100000
set_option linter.unusedSimpArgs false
set_option linter.unusedVariables false
namespace Go.Proofs.Ytlfdobjdlgebbaa
open Go Go.Tw Go.RowKit
attribute [local irreducible] LoadAt StoreOk Stored rawVC

instance : Enc PrgR where
  cs := PrgR.cs
  k := 3
  len := fun _ => rfl
  pos := by decide
  one := fun x v hv => by
    simp only [PrgR.cs, List.mem_cons, List.not_mem_nil, or_false] at hv
    rcases hv with rfl | rfl | rfl <;> rfl
def PrgR.zero : PrgR := ⟨⟨none, 0, 0⟩, ⟨none, 0, 0⟩, ⟨none, 0, 0⟩⟩
theorem QC.past {k b t : Nat} {w w' : World} {x : RatR} {q : Rat} {P : PrgR} (h : QC k w x q) (hb : Blk w b t P.cs) (hg : w.grownBy w' (some b)) : QC k w' x q := by
  have hc : ∀ v ∈ P.cs, ∀ x, v ≠ .int .u64 x := by
    intro v hv x e
    subst e
    simp [PrgR.cs, SlR.v] at hv
  have h1 : CanQ (fun c => H0 c ∨ c = b) w x q := ⟨h.can.num.with hb hc, h.can.den.with hb hc⟩
  exact ⟨(h1.far hg (.inr rfl)).to (fun b hb => hb.elim), h.fit⟩
theorem TC.of {i n : Int} {w : World} {s : RatR} (h : QC 1 w s (Rat.divInt n 1)) : TC i (Rat.divInt n 1) w ⟨i, s⟩ := ⟨rfl, h⟩
def plVs : VS := [(0, Rat.divInt 3 1, false), (0, Rat.divInt 2 1, true)]
def plRow : RWS := [([(0, Rat.divInt 1 1), (1, Rat.divInt 1 1)], 3, Rat.divInt 4 1)]
def plCost : VL := [(0, Rat.divInt 1 1), (1, Rat.divInt 2 1)]
/-- The example's program, handed in. -/
structure PlI (w : World) (p : PrgR) (vr : List VarR) (rr : List RowR) : Prop where
  prg : PrgI 1 2 w p vr rr plVs plRow plCost
  nv : p.vars.n = 2
  nr : p.rows.n = 1
  vc : VC 1 2 w p.cost plCost
  vr' : ∀ (j : Nat) r, rr[j]? = some r → VC 1 2 w r.a [(0, Rat.divInt 1 1), (1, Rat.divInt 1 1)]
theorem PlI.ext {w w' : World} {p : PrgR} {vr : List VarR} {rr : List RowR} (h : PlI w p vr rr) (e : Ext w w') : PlI w' p vr rr := ⟨h.prg.ext e, h.nv, h.nr, h.vc.ext e, fun j r hj => (h.vr' j r hj).ext e⟩
theorem PlI.rc {w : World} {p : PrgR} {vr : List VarR} {rr : List RowR} (h : PlI w p vr rr) : ∀ w', Ext w w' → CallS Try.prog 50 #[p.cost.v, .int .i64 (plVs.length : Int)] w' fun v w'' => Ext w' w'' ∧ v = .bool true := fun w' hx => by
  have := rightVC_at (h.vc.ext hx) (plVs.length : Int) ⟨by decide, by decide⟩
  rw [show rightL (plVs.length : Int) (-1) (prB plCost) = true by kernel_rfl] at this
  exact this
theorem PlI.rr' {w : World} {p : PrgR} {vr : List VarR} {rr : List RowR} (h : PlI w p vr rr) : ∀ (j : Nat) r, rr[j]? = some r → ∀ w', Ext w w' → CallS Try.prog 50 #[r.a.v, .int .i64 (plVs.length : Int)] w' fun v w'' => Ext w' w'' ∧ v = .bool true := fun j r hj w' hx => by
  have := rightVC_at ((h.vr' j r hj).ext hx) (plVs.length : Int) ⟨by decide, by decide⟩
  rw [show rightL (plVs.length : Int) (-1) (prB [(0, Rat.divInt 1 1), (1, Rat.divInt 1 1)]) = true by kernel_rfl] at this
  exact this
theorem plGood : Good plVs plRow true (fun _ => true) where
  nv := by decide
  nr := by decide
  rc := rfl
  le := fun j x h => by
    match j, h with
    | 0, h => cases h; exact (by decide +kernel : (0 : Rat) ≤ Rat.divInt 3 1)
    | 1, h => cases h; exact (by decide +kernel : (0 : Rat) ≤ Rat.divInt 2 1)
    | j + 2, h => cases h
  row := fun j x h => by
    match j, h with
    | 0, h => cases h; exact ⟨by decide, by decide, rfl⟩
    | j + 1, h => cases h
theorem plain_ok (w : World) : CallS Try.prog 71 #[] w fun v w' => Ext w w' ∧ ∃ (p : PrgR) (vr : List VarR) (rr : List RowR), v = p.v ∧ PlI w' p vr rr := by
  refine enter ttOk mixed (args := []) Try.func71 rfl (by kernel_rfl) (by kernel_rfl) rfl ?_
  intro b0 w1 hb0
  refine CallS.mono (num_at 3 (by decide) (fit1 (by kernel_rfl))) ?_
  rintro _ w2 ⟨x2, r2, rfl, h2⟩
  refine CallS.mono (num_at 2 (by decide) (fit1 (by kernel_rfl))) ?_
  rintro _ w3 ⟨x3, r3, rfl, h3⟩
  intro g4 w4 hg4
  have hg4 : New w3 w4 g4 tVar (gcs [(⟨RatR.zero, r2, false⟩ : VarR), ⟨RatR.zero, r3, true⟩]) := hg4
  refine CallS.mono (num_at 1 (by decide) (fit1 (by kernel_rfl))) ?_
  rintro _ w5 ⟨x5, r5, rfl, h5⟩
  refine CallS.mono (num_at 1 (by decide) (fit1 (by kernel_rfl))) ?_
  rintro _ w6 ⟨x6, r6, rfl, h6⟩
  intro g7 w7 hg7
  have hg7 : New w6 w7 g7 tT (tcs [⟨0, r5⟩, ⟨1, r6⟩]) := hg7
  refine CallS.mono (num_at 4 (by decide) (fit1 (by kernel_rfl))) ?_
  rintro _ w8 ⟨x8, r8, rfl, h8⟩
  intro g9 w9 hg9
  have hg9 : New w8 w9 g9 tRow (gcs [(⟨⟨some ⟨g7, 0, none⟩, 2, 2⟩, 3, r8⟩ : RowR)]) := hg9
  refine CallS.mono (num_at 1 (by decide) (fit1 (by kernel_rfl))) ?_
  rintro _ w10 ⟨x10, r10, rfl, h10⟩
  refine CallS.mono (num_at 2 (by decide) (fit1 (by kernel_rfl))) ?_
  rintro _ w11 ⟨x11, r11, rfl, h11⟩
  intro g12 w12 hg12
  have hg12 : New w11 w12 g12 tT (tcs [⟨0, r10⟩, ⟨1, r11⟩]) := hg12
  have y4 := hg4.ext
  have y7 := hg7.ext
  have y9 := hg9.ext
  have y12 := hg12.ext
  have z11 := Ext.trans' x11 y12
  have z10 := Ext.trans' x10 z11
  have z9 := Ext.trans' y9 z10
  have z8 := Ext.trans' x8 z9
  have z7 := Ext.trans' y7 z8
  have z6 := Ext.trans' x6 z7
  have z5 := Ext.trans' x5 z6
  have z4 := Ext.trans' y4 z5
  have z3 := Ext.trans' x3 z4
  have z2 := Ext.trans' x2 z3
  have z1 := Ext.trans' hb0.ext z2
  have st := storeE (T := tt) (ty := tPrg) (cs := PrgR.cs PrgR.zero) (⟨⟨some ⟨g4, 0, none⟩, 2, 2⟩, ⟨some ⟨g9, 0, none⟩, 1, 1⟩, ⟨some ⟨g12, 0, none⟩, 2, 2⟩⟩ : PrgR) (hb0.toBlk.ext z2) rfl
  refine ⟨st.1, fun w13 hs13 => ?_⟩
  obtain ⟨hB13, hg13⟩ := st.2 w13 hs13
  have y13 : Ext w w13 := Ext.grownB z1 hg13 (hb0.ge (Ext.rfl w))
  have ne {c : Nat} (h : w1.heap.size ≤ c) : c ≠ b0 := by have := hb0.lt; omega
  refine ⟨_, hB13.agg (sub := PrgR.cs (⟨⟨some ⟨g4, 0, none⟩, 2, 2⟩, ⟨some ⟨g9, 0, none⟩, 1, 1⟩, ⟨some ⟨g12, 0, none⟩, 2, 2⟩⟩ : PrgR)) rfl rfl, ?_⟩
  have hZ : Blk w12 b0 tPrg PrgR.zero.cs := hb0.toBlk.ext z2
  have q2 := (h2.ext z3).past hZ hg13
  have q3 := (h3.ext z4).past hZ hg13
  have q5 := (h5.ext z6).past hZ hg13
  have q6 := (h6.ext z7).past hZ hg13
  have q8 := (h8.ext z9).past hZ hg13
  have q10 := (h10.ext z11).past hZ hg13
  have q11 := (h11.ext y12).past hZ hg13
  have s2 := x2.size
  have s3 := x3.size
  have s4 := y4.size
  have s5 := x5.size
  have s6 := x6.size
  have s7 := y7.size
  have s8 := x8.size
  have s9 := y9.size
  have s10 := x10.size
  have s11 := x11.size
  have n4 := hg4.isNew
  have n7 := hg7.isNew
  have n9 := hg9.isNew
  have n12 := hg12.isNew
  have b4 : Blk w13 g4 tVar (gcs [(⟨RatR.zero, r2, false⟩ : VarR), ⟨RatR.zero, r3, true⟩] ++ []) := by rw [List.append_nil]; exact Blk.grownN (hg4.toBlk.ext z5) hg13 (ne (by omega))
  have b7 := Blk.grownN (hg7.toBlk.ext z8) hg13 (ne (by omega))
  have b9 : Blk w13 g9 tRow (gcs [(⟨⟨some ⟨g7, 0, none⟩, 2, 2⟩, 3, r8⟩ : RowR)] ++ []) := by rw [List.append_nil]; exact Blk.grownN (hg9.toBlk.ext z10) hg13 (ne (by omega))
  have b12 := Blk.grownN hg12.toBlk hg13 (ne (by omega))
  have va := TCs.vi 2 (.cons (i := 0) (TC.of q5) (.cons (i := 1) (TC.of q6) .nil)) b7 rfl (by decide)
  have vc := TCs.vi 2 (.cons (i := 0) (TC.of q10) (.cons (i := 1) (TC.of q11) .nil)) b12 rfl (by decide)
  have ca := TCs.vc 2 (.cons (i := 0) (TC.of q5) (.cons (i := 1) (TC.of q6) .nil)) b7 rfl (by decide) (cnL (by kernel_rfl))
  have cc := TCs.vc 2 (.cons (i := 0) (TC.of q10) (.cons (i := 1) (TC.of q11) .nil)) b12 rfl (by decide) (cnL (by kernel_rfl))
  refine ⟨y13, _, [⟨RatR.zero, r2, false⟩, ⟨RatR.zero, r3, true⟩], [⟨⟨some ⟨g7, 0, none⟩, 2, 2⟩, 3, r8⟩], rfl, ⟨⟨Gr.blk b4, rfl, ?_, Gr.blk b9, rfl, ?_, vc.vj⟩, rfl, rfl, cc, ?_⟩⟩
  · intro j v x h1 h2
    match j, h1, h2 with
    | 0, h1, h2 => cases h1; cases h2; exact ⟨InQ.zero _ _ _, (q2.qi (by decide)).inq, rfl⟩
    | 1, h1, h2 => cases h1; cases h2; exact ⟨InQ.zero _ _ _, (q3.qi (by decide)).inq, rfl⟩
    | j + 2, h1, h2 => cases h1
  · intro j r x h1 h2
    match j, h1, h2 with
    | 0, h1, h2 => cases h1; cases h2; exact ⟨va.vj, rfl, (q8.qi (by decide)).inq⟩
    | j + 1, h1, h2 => cases h1
  · intro j r h1
    match j, h1 with
    | 0, h1 => cases h1; exact ca
    | j + 1, h1 => cases h1
end Go.Proofs.Ytlfdobjdlgebbaa
/-
  The watch of the layer program: its own example. Helpers; no statement of the program is proved here.
-/
set_option maxRecDepth 100000
set_option linter.unusedSimpArgs false
set_option linter.unusedVariables false
namespace Go.Proofs.Ytlfdobjdlgebbaa
open Go Go.Tw Go.RowKit
attribute [local irreducible] LoadAt StoreOk Stored rawVC

theorem pt2 {w : World} {b e : Nat} {x y : RatR} {p q : Rat} (hb : Blk w b e (gcs [x, y])) (hx : QC 1 w x p) (hy : QC 1 w y q) : PtI 1 H0 w ⟨some ⟨b, 0, none⟩, 2, 2⟩ [x, y] [p, q] := by
  refine ⟨Gr.blk (R := []) (by rw [List.append_nil]; exact hb), rfl, ?_⟩
  intro j r s h1 h2
  match j, h1, h2 with
  | 0, h1, h2 => cases h1; cases h2; exact (hx.qi (by decide)).inq
  | 1, h1, h2 => cases h1; cases h2; exact (hy.qi (by decide)).inq
  | j + 2, h1, h2 => cases h1
theorem awake15_at (w0 : World) : CallS Try.prog 16 #[] w0 fun v w' => Ext w0 w' ∧ v = .bool true := by
  refine enter ttOk mixed (args := []) Try.func16 rfl (by kernel_rfl) (by kernel_rfl) rfl ?_
  refine CallS.mono (plain_ok w0) ?_
  rintro _ w1 ⟨x1, p, vr, rr, rfl, hP1⟩
  intro b1 w2 hb1
  have st := storeE (T := tt) (ty := tPrg) p hb1.toBlk rfl
  refine ⟨st.1, fun w3 hs3 => ?_⟩
  obtain ⟨hB3, hg3⟩ := st.2 w3 hs3
  have x13 : Ext w1 w3 := Ext.grownB hb1.ext hg3 (hb1.ge (Ext.rfl w1))
  have hP3 := hP1.ext x13
  have nv := hP1.nv
  have nr := hP1.nr
  have x3 := Ext.trans' x1 x13
  refine ⟨sq 10, by kernel_rfl, p.v, hB3.agg (sub := p.cs) rfl rfl, ?_⟩
  refine dcallR (mk := RatR.v) (Q := fun r' w' => QC 1 w' r' (Rat.divInt 1 1)) RatR.inj (fun _ => fun _ _ h e => h.ext e) (fun w' hw hF => num_at 1 (by decide) (fit1 (by kernel_rfl))) ?_
  intro r1
  refine dcallR (mk := RatR.v) (Q := fun r' w' => QC 1 w' r' (Rat.divInt 2 1)) RatR.inj (fun _ => fun _ _ h e => h.ext e) (fun w' hw hF => num_at 2 (by decide) (fit1 (by kernel_rfl))) ?_
  intro r2
  intro bb _
  refine dcallV (.tuple #[.int .i64 2, .int .i64 0]) (fun w' hw hF => ?_) ?_
  · have e : brokenQ plVs plRow [Rat.divInt 1 1, Rat.divInt 2 1] = (2, 0) := by kernel_rfl
    have h := Broken_ok ((hP3.ext hw).prg) (pt2 hF.1.1 hF.2.2.1 hF.2.1) ⟨by decide, by decide, by decide, by show (2 : Nat) ≤ 1099511627776; decide⟩ ⟨by omega, by omega⟩
    rw [e] at h
    exact h
  intro w4 hx4 _
  have x4 := Ext.trans' x3 hx4
  have hB4 := hB3.ext hx4
  have hP4 := hP3.ext hx4
  refine ⟨sq 10, by kernel_rfl, p.v, hB4.agg (sub := p.cs) rfl rfl, ?_⟩
  refine dcallR (mk := RatR.v) (Q := fun r' w' => QC 1 w' r' (Rat.divInt 3 1)) RatR.inj (fun _ => fun _ _ h e => h.ext e) (fun w' hw hF => num_at 3 (by decide) (fit1 (by kernel_rfl))) ?_
  intro r1
  refine dcallR (mk := RatR.v) (Q := fun r' w' => QC 1 w' r' (Rat.divInt 3 2)) RatR.inj (fun _ => fun _ _ h e => h.ext e) (fun w' hw hF => CallS.mono (ROf_ok (H0.hb w') (by decide) (by decide) (by decide) (by decide)) (fun v' w'' h => ⟨h.1, h.2.elim fun r hr => ⟨r, hr.1, hr.2, fit1 (by kernel_rfl)⟩⟩)) ?_
  intro r2
  intro bb _
  refine dcallV (.tuple #[.int .i64 3, .int .i64 1]) (fun w' hw hF => ?_) ?_
  · have e : brokenQ plVs plRow [Rat.divInt 3 1, Rat.divInt 3 2] = (3, 1) := by kernel_rfl
    have h := Broken_ok ((hP4.ext hw).prg) (pt2 hF.1.1 hF.2.2.1 hF.2.1) ⟨by decide, by decide, by decide, by show (2 : Nat) ≤ 1099511627776; decide⟩ ⟨by omega, by omega⟩
    rw [e] at h
    exact h
  intro w5 hx5 _
  have x5 := Ext.trans' x4 hx5
  have hB5 := hB4.ext hx5
  have hP5 := hP4.ext hx5
  refine ⟨sq 10, by kernel_rfl, p.v, hB5.agg (sub := p.cs) rfl rfl, ?_⟩
  refine dcallR (mk := RatR.v) (Q := fun r' w' => QC 1 w' r' (Rat.divInt 3 1)) RatR.inj (fun _ => fun _ _ h e => h.ext e) (fun w' hw hF => num_at 3 (by decide) (fit1 (by kernel_rfl))) ?_
  intro r1
  refine dcallR (mk := RatR.v) (Q := fun r' w' => QC 1 w' r' (Rat.divInt 1 1)) RatR.inj (fun _ => fun _ _ h e => h.ext e) (fun w' hw hF => num_at 1 (by decide) (fit1 (by kernel_rfl))) ?_
  intro r2
  intro bb _
  refine dcallV (.tuple #[.int .i64 0, .int .i64 0]) (fun w' hw hF => ?_) ?_
  · have e : brokenQ plVs plRow [Rat.divInt 3 1, Rat.divInt 1 1] = (0, 0) := by kernel_rfl
    have h := Broken_ok ((hP5.ext hw).prg) (pt2 hF.1.1 hF.2.2.1 hF.2.1) ⟨by decide, by decide, by decide, by show (2 : Nat) ≤ 1099511627776; decide⟩ ⟨by omega, by omega⟩
    rw [e] at h
    exact h
  intro w6 hx6 _
  have x6 := Ext.trans' x5 hx6
  have hB6 := hB5.ext hx6
  have hP6 := hP5.ext hx6
  refine ⟨p.v, hB6.agg (sub := p.cs) rfl rfl, ?_⟩
  refine CallS.mono (Form_ok (RR := fun _ => true) hP6.prg (fun _ => hP6.prg) ⟨by decide, by decide, by decide, by decide⟩ ⟨by omega, by omega⟩ hP6.rc hP6.rr' (fun j x h _ q hq => ?_)) ?_
  · match j, h with
    | 0, h =>
      cases h
      match q, hq with
      | 0, _ => exact ⟨by decide, by decide⟩
      | 1, _ => exact ⟨by decide, by decide⟩
      | q + 2, hq => exact absurd hq (by show ¬ q + 2 < 2; omega)
    | j + 1, h => cases h
  rintro _ w7 ⟨hx7, f, e, rfl, hfe⟩
  rcases hfe with hfe | ⟨_, rfl, s, rfl, hcv, hF7⟩
  · exact absurd plGood hfe.1
  intro b8 w8 hb8
  have st := storeE (T := tt) (ty := tFrm) (s.form (plRow.length : Int)) hb8.toBlk rfl
  refine ⟨st.1, fun w9 hs9 => ?_⟩
  obtain ⟨hB9, hg9⟩ := st.2 w9 hs9
  have hF8 : FI 2 (fun c => c = b8) w6.heap.size w8 s _ _ _ _ _ := hF7.to (fun c hc => by rw [hc]; exact hb8.lt) (fun c hc => .inr (by rw [hc]; exact hb8.ge (Ext.rfl w7))) hb8.ext
  have hF9 := hF8.at' hg9 rfl
  have x79 : Ext w7 w9 := Ext.grownB hb8.ext hg9 (hb8.ge (Ext.rfl w7))
  have hx69 := Ext.trans' hx7 x79
  have x9 := Ext.trans' x6 hx69
  have hPB9 := hB6.ext hx69
  have hP9 := hP6.ext hx69
  have eL : (formL plVs plRow plRow.length)[2]? = some (Rat.divInt (-1) 1) := by kernel_rfl
  have eU : (formU plVs plRow plRow.length)[2]? = some 0 := by kernel_rfl
  have lL : (formL plVs plRow plRow.length).length = 3 := by kernel_rfl
  have lU : (formU plVs plRow plRow.length).length = 3 := by kernel_rfl
  have lX : (formX plRow plVs.length plRow.length).length = 3 := by kernel_rfl
  have hvl := hF9.vl.len
  have hvu := hF9.vu.len
  have hxl := hF9.xl
  have hgl := hF9.gd.len
  have hcl2 : s.cs.length = s.ts.length := by
    simp only [FS.ss, FS.rs, List.length_cons, List.length_map] at hgl; omega
  have hcols : s.cols.n = 3 := by rw [hF9.getCv.1, hcv]; omega
  obtain ⟨ln, lg, _⟩ := owns_gr (hF9.gd.own 0 s.lo (rq s.los) rfl rfl)
  obtain ⟨un, ug, _⟩ := owns_gr (hF9.gd.own 1 s.hi (rq s.his) rfl rfl)
  have ln : s.lo.n = 3 := by have h : s.lo.n = s.los.length := ln; omega
  have un : s.hi.n = 3 := by have h : s.hi.n = s.his.length := un; omega
  have gl := gr_getD lg (j := 2) (by omega)
  have gu := gr_getD ug (j := 2) (by omega)
  have ql := hF9.vl.at' 2 _ _ gl eL
  have qu := hF9.vu.at' 2 _ _ gu eU
  generalize s.los.getD 2 default = rl at gl ql
  generalize s.his.getD 2 default = ru at gu qu
  have hBf9 : Blk w9 b8 tFrm (s.form (plRow.length : Int)).cs := hB9
  have ql0 : QC 1 w9 rl (Rat.divInt (-1) 1) := ⟨ql.to (fun b h => h.elim), fit1 (by kernel_rfl)⟩
  have qu0 : QC 1 w9 ru 0 := ⟨qu.to (fun b h => h.elim), FitQ.zero (by decide)⟩
  refine ⟨sq 59, by kernel_rfl, p.v, hPB9.agg (sub := p.cs) rfl rfl, ?_⟩
  refine dcallV (.int .i64 0) (fun w' hw hF => ?_) ?_
  · refine CallS.mono (PRight_ok (RR := fun _ => true) (hP9.ext hw).prg ⟨by decide, by omega, by omega⟩ (hP9.ext hw).rc (hP9.ext hw).rr') ?_
    rintro _ w'' ⟨hx, e, rfl, he⟩
    rcases he with he | he
    · exact ⟨hx, by rw [he.2]⟩
    · exact absurd plGood he.1
  refine And.intro (fun _ => ?_) (fun h => absurd rfl h)
  refine And.intro (fun _ => ?_) (fun h => absurd rfl h)
  refine And.intro (fun _ => ?_) (fun h => absurd rfl h)
  refine And.intro (fun _ => ?_) (fun h => absurd rfl h)
  refine And.intro (fun _ => ?_) (fun h => absurd rfl h)
  refine And.intro (fun _ => ?_) (fun h => absurd rfl h)
  refine ⟨p.v, hPB9.agg (sub := p.cs) rfl rfl, ?_⟩
  refine dcallR (mk := RatR.v) (Q := fun r' w' => QC 1 w' r' (Rat.divInt 3 1)) RatR.inj (fun _ => fun _ _ h e => h.ext e) (fun w' hw hF => num_at 3 (by decide) (fit1 (by kernel_rfl))) ?_
  intro r1
  refine dcallR (mk := RatR.v) (Q := fun r' w' => QC 1 w' r' (Rat.divInt 1 1)) RatR.inj (fun _ => fun _ _ h e => h.ext e) (fun w' hw hF => num_at 1 (by decide) (fit1 (by kernel_rfl))) ?_
  intro r2
  intro bb _
  refine dcallR (mk := RatR.v) (Q := fun r' w' => QC (pK 1 2) w' r' (Rat.divInt 5 1)) RatR.inj (fun _ => fun _ _ h e => h.ext e) (fun w' hw hF => ?_) ?_
  · have e : timesQ plCost [Rat.divInt 3 1, Rat.divInt 1 1] plCost.length = Rat.divInt 5 1 := by kernel_rfl
    have h := Value_ok ((hP9.ext hw).prg) (pt2 hF.1.1 hF.2.2.1 hF.2.1) ⟨by decide, by decide, by decide, by show (2 : Nat) ≤ 1099511627776; decide⟩
    rw [e] at h
    exact h
  intro r3
  refine dcallR (mk := RatR.v) (Q := fun r' w' => QC 1 w' r' (Rat.divInt 5 1)) RatR.inj (fun _ => fun _ _ h e => h.ext e) (fun w' hw hF => num_at 5 (by decide) (fit1 (by kernel_rfl))) ?_
  intro r4
  refine dcallV (.bool true) (fun w' hw hF => ?_) ?_
  · have h := RSame_ok (H0.hb w') (((hF.2.1.qi (by decide)).inq).mono (by decide)) (((hF.1.qi (by decide)).inq).mono (by decide))
    rw [decide_eq_true (Eq.refl (Rat.divInt 5 1))] at h
    exact h
  refine And.intro (fun _ => ?_) (fun h => absurd rfl h)
  refine ⟨s.cols.v, hBf9.one (off := 1) rfl rfl, ?_⟩
  refine And.intro (fun _ => ?_) (fun h => absurd (by show (s.cols.n : Int) = 3; rw [hcols]; rfl) h)
  refine ⟨s.lo.v, hBf9.one (off := 2) rfl rfl, ?_⟩
  refine ⟨2, ⟨rfl, by omega, lg.base (by omega)⟩, rl.v, lg.load gl rfl rfl, ?_⟩
  refine dcallR (mk := RatR.v) (Q := fun r' w' => QC 1 w' r' (Rat.divInt (-1) 1)) RatR.inj (fun _ => fun _ _ h e => h.ext e) (fun w' hw hF => num_at (-1) (by decide) (fit1 (by kernel_rfl))) ?_
  intro r5
  refine dcallV (.bool true) (fun w' hw hF => ?_) ?_
  · have h := RSame_ok (H0.hb w') ((((ql0.ext hw).qi (by decide)).inq).mono (by decide)) (((hF.1.qi (by decide)).inq).mono (by decide))
    rw [decide_eq_true (Eq.refl (Rat.divInt (-1) 1))] at h
    exact h
  refine ⟨s.hi.v, hBf9.one (off := 3) rfl rfl, ?_⟩
  refine ⟨2, ⟨rfl, by omega, ug.base (by omega)⟩, ru.v, ug.load gu rfl rfl, ?_⟩
  refine dcallV (.int .i64 0) (fun w' hw hF => ?_) ?_
  · have h := RSign_ok (H0.hb w') ((qu0.ext hw).qi (k := 1) (by decide)).inq.is
    exact h
  refine And.intro (fun _ => ?_) (fun h => absurd rfl h)
  intro w10 hx10 _
  exact ⟨Ext.trans' x9 hx10, rfl⟩
end Go.Proofs.Ytlfdobjdlgebbaa
/-
  ProgramForms, walked. Helpers; no statement of the program is proved here.
-/
set_option maxRecDepth 100000
set_option linter.unusedSimpArgs false
set_option linter.unusedVariables false
namespace Go.Proofs.Ytlfdobjdlgebbaa
open Go Go.Tw Go.RowKit
attribute [local irreducible] LoadAt StoreOk Stored rawVC

theorem QRows.single {k base : Nat} {w0 w : World} {s r : SlR} {rs : List RatR} {qs : List Rat} (ho : w.ownsRow base tRat 4 s.v rs.length (gcs rs)) (hp : PtI k H0 w0 r rs qs) (hx : Ext w0 w) (hb : w0.heap.size ≤ base) : QRows k base w [s] [rs] [qs] := by
  have hgd : Gd H0 base w [s] ([rs].map rq) := by
    refine ⟨rfl, fun i t u h1 h2 => ?_, fun i j t u c h1 h2 _ _ => ?_⟩
    · match i, h1, h2 with
      | 0, h1, h2 => cases h1; cases h2; exact ho
      | i + 1, h1, _ => cases h1
    · match i, j, h1, h2 with
      | 0, 0, _, _ => rfl
      | i + 1, _, h1, _ => cases h1
      | 0, j + 1, _, h2 => cases h2
  refine ⟨hgd, rfl, fun i t u h1 h2 => ?_⟩
  match i, h1, h2 with
  | 0, h1, h2 =>
    cases h1; cases h2
    refine ⟨hp.len, fun j x q h3 h4 => ((hp.at' j x q h3 h4).to (fun b hb' => ?_)).ext hx⟩
    rcases hb' with hb' | ⟨t, ht, hb'⟩
    · exact .inl hb'
    · obtain ⟨i, hi, rfl⟩ := List.getElem_of_mem ht
      exact .inr (Nat.le_trans hb (hgd.lt (List.getElem?_eq_getElem hi) hb').1)
  | i + 1, h1, _ => cases h1
theorem PtI.mono {k m : Nat} {H : Hd} {w : World} {r : SlR} {rs : List RatR} {qs : List Rat} (h : PtI k H w r rs qs) (hk : k ≤ m) : PtI m H w r rs qs := ⟨h.row, h.len, fun j x q h1 h2 => (h.at' j x q h1 h2).mono hk⟩
theorem fullQ_zero (rws : RWS) (qs : List Rat) : fullQ rws qs 0 = qs := by simp [fullQ]
theorem formB_get {rws : RWS} {i : Nat} (h : i < rws.length) : (formB rws rws.length).getD i 0 = (rws.getD i default).2.2 := by
  unfold formB
  rw [List.take_length, List.getD_eq_getElem?_getD, List.getElem?_map, List.getD_eq_getElem?_getD, List.getElem?_eq_getElem h]; rfl
theorem formX_len12 {rws : RWS} {n : Nat} (h : RowsR rws n) (hm : rws.length ≤ 12) : ∀ z ∈ formX rws n rws.length, z.length ≤ 12 := by
  intro z hz
  obtain ⟨j, hj, rfl⟩ := List.getElem_of_mem hz
  obtain ⟨h1, h2⟩ := formX_at h rws.length (Nat.le_refl _)
  have hl := formX_length rws n rws.length
  have e : (formX rws n rws.length)[j] = (formX rws n rws.length).getD j [] := by rw [List.getD_eq_getElem?_getD, List.getElem?_eq_getElem hj]; rfl
  rw [e]
  rcases Nat.lt_or_ge j n with hj' | hj'
  · have := (h1 j hj').1; omega
  · have := h2 (j - n) (by omega)
    rw [show n + (j - n) = j by omega] at this
    rw [this]; show 1 ≤ 12; decide
/-- Of a program and its right vectors: what Form and the law ask. -/
theorem good_len {k l : Nat} {w : World} {p : PrgR} {vr : List VarR} {rr : List RowR} {vs : VS} {rws : RWS} {cost : VL} {RC : Bool} {RR : Nat → Bool} (h : PrgI k l w p vr rr vs rws cost) (hg : Good vs rws RC RR)
    (hrc : RC = true → VC k l w p.cost cost ∧ InR (vs.length : Int).toNat cost) (hrr : ∀ (j : Nat) r x, rr[j]? = some r → rws[j]? = some x → RR j = true → VC k l w r.a x.1 ∧ InR (vs.length : Int).toNat x.1) :
    PrgI k vs.length w p vr rr vs rws cost ∧ RowsR rws vs.length ∧ Cn cost ∧ InR vs.length cost := by
  rw [show (vs.length : Int).toNat = vs.length by omega] at hrc hrr
  have hR : RowsR rws vs.length := by
    intro j y hy
    have hrl := h.rlen
    have hj : j < rr.length := by have := (List.getElem?_eq_some_iff.1 hy).1; omega
    obtain ⟨a, b⟩ := hrr j _ y (List.getElem?_eq_getElem hj) hy (hg.row j y hy).2.2
    exact ⟨a.cn, b⟩
  obtain ⟨c1, c2⟩ := hrc hg.rc
  exact ⟨h.relen (cn_len c1.cn c2) (fun j y hy => cn_len (hR j y hy).1 (hR j y hy).2), hR, c1.cn, c2⟩
theorem ProgramForms_ok {w0 : World} {p : PrgR} {vr : List VarR} {rr : List RowR} (hp : OpPrg 1048576 w0 p vr rr) {xr : SlR} {rx : List RatR} {qs : List Rat} (hx : PtI 1048576 H0 w0 xr rx qs) (hxn : xr.n ≤ 1048576) :
    Calls Try.prog 10 #[p.v, xr.v] w0 fun e w' => ∃ v, e = .returned v ∧ (Ext w0 w' ∧ v = .bool true) := by
  obtain ⟨vs, rws, cost, hP⟩ := hp.prg (by decide)
  obtain ⟨rts, hrts⟩ := hp.rts
  obtain ⟨ct, hct⟩ := hp.cost
  obtain ⟨RC, RR, hRC, hRR, hrc, hrr⟩ := hP.right ⟨by decide, by decide⟩ (by decide) (vs.length : Int)
  have hvn := hP.vars.len
  have hvl := hP.vlen
  have hrn := hP.rows.len
  have hrl := hP.rlen
  have hnv := hp.nv
  have hnr := hp.nr
  have hxl := hx.row.len
  have hql := hx.len
  refine enterC (fun _ => none) ttOk mixed (args := [p.v, xr.v]) Try.func10 rfl (by kernel_rfl) (by kernel_rfl) ?_
  intro b2 w1 hb2
  have x1 := hb2.ext
  have hB1 : Blk w1 b2 tPrg p.cs := hb2.toBlk
  refine ⟨p.v, hB1.agg (sub := p.cs) rfl rfl, ?_⟩
  have hP1 := hP.ext x1
  refine CallS.mono (Form_ok (k := 1048576) (l := 600) hP1 (fun hg => ?_) ⟨by decide, by decide, by decide, by decide⟩ ⟨by omega, by omega⟩ (fun w' hx' => hRC w' (Ext.trans' x1 hx')) (fun j r hj w' hx' => hRR j r hj w' (Ext.trans' x1 hx')) (fun j y hy hR q hq => ?_)) ?_
  · have h1 := good_len hP hg hrc hrr
    have h2 := h1.1.ext x1
    have h3 := hg.nv
    exact h2.relen (by have := h2.cost.len; omega) (fun j y hy => by
      have := cn_len (h1.2.1 j y hy).1 (h1.2.1 j y hy).2; omega)
  · have hj : j < rr.length := by have := (List.getElem?_eq_some_iff.1 hy).1; omega
    have h1 := hrr j _ y (List.getElem?_eq_getElem hj) hy hR
    have h2 := h1.2
    rw [show (vs.length : Int).toNat = vs.length by omega] at h2
    exact inr_within h2 q hq
  rintro _ w2 ⟨hx2, f, e, rfl, hfe⟩
  have x2 := Ext.trans' x1 hx2
  intro b5 w3 hb5
  have st := storeE (T := tt) (ty := tFrm) f hb5.toBlk rfl
  refine ⟨st.1, fun w4 hs4 => ?_⟩
  have hBf4 := (st.2 w4 hs4).1
  have hg4 := (st.2 w4 hs4).2
  have hx24 : Ext w2 w4 := Ext.grownB hb5.ext hg4 (hb5.ge (Ext.rfl w2))
  have x4 := Ext.trans' x2 hx24
  have hB4 := hB1.ext (Ext.trans' hx2 hx24)
  rcases hfe with hfe | hfe
  · refine And.intro (fun _ => ?_) (fun h => absurd (by rw [hfe.2.1]; decide) h)
    refine CallS.mono (awake15_at _) ?_
    rintro _ w' ⟨hx', rfl⟩
    exact ⟨Ext.trans' x4 hx', rfl⟩
  refine And.intro (fun h => absurd hfe.2.1 h) (fun _ => ?_)
  have hgood := hfe.1
  refine hfe.2.2.elim fun s hs => ?_
  have hf := hs.1
  have hcv := hs.2.1
  have hF2 := hs.2.2
  refine ⟨p.v, hB4.agg (sub := p.cs) rfl rfl, ?_⟩
  refine CallS.mono (great15_ok (hp.vars.ext x4) (hp.rows.ext x4) (hct.op.tms.ext x4) (fun j r ts h1 h2 => ⟨(hrts.at' j r ts h1 h2).op.tms.ext x4, Nat.le_trans (hrts.at' j r ts h1 h2).len (by decide)⟩) hrts.len ⟨by omega, by omega, Nat.le_trans hct.len (by decide)⟩) ?_
  rintro _ w5 ⟨hx5, gb, rfl, hgb⟩
  have x5 := Ext.trans' x4 hx5
  cases gb with
  | true =>
    refine CallS.mono (awake15_at _) ?_
    rintro _ w' ⟨hx', rfl⟩
    exact ⟨Ext.trans' x5 hx', rfl⟩
  | false =>
    have hgb' := hgb rfl
    refine ⟨_, (hB4.ext hx5).one (off := 0) rfl rfl, ?_⟩
    refine And.intro (fun _ => ?_) (fun hlen => ?_)
    · refine CallS.mono (awake15_at _) ?_
      rintro _ w' ⟨hx', rfl⟩
      exact ⟨Ext.trans' x5 hx', rfl⟩
    have hqn : qs.length = vs.length := by omega
    have hGL := good_len hP hgood hrc hrr
    have hP8 := hGL.1.short hct.op.tms hrts hgb'.2.2.1 hgb'.2.2.2.1 hgb'.2.2.2.2
    have hRows := hGL.2.1
    have hFit := PrgI.fits hP8
    have hQf := PtI.fit hx
    have hn12 : vs.length ≤ 12 := by omega
    have hm12 : rws.length ≤ 12 := by omega
    intro b34 w6 hb34
    have hx6 := hb34.ext
    have x6 := Ext.trans' x5 hx6
    have ho6 : w6.ownsRow w5.heap.size tRat 4 (.slice (some ⟨b34, 0, none⟩) 0 0) 0 [] := owns_take (cs := []) hb34.toBlk (hb34.ge (Ext.rfl w5)) 0 0 4 rfl (Nat.le_refl _) (by decide)
    have hgl := gcs_length rx
    refine ⟨rfl, w5.heap.size, 0, [], gcs rx, ⟨ho6, by rw [hgl, hxl]; rfl, (hx.row.ext x6).get, gcs_mem_one rx, hx.row.base, by omega, by show (0 + xr.n) * 64 ≤ _; omega, hx6.size⟩, ?_⟩
    intro v7 w7 ho7 hg7 hn7
    refine (slOf ho7).elim fun s7 hs7 => ?_
    have hg7 : w6.grownBy w7 (some b34) := hg7
    have hx57 : Ext w5 w7 := Ext.grownB hx6 hg7 (hb34.ge (Ext.rfl w5))
    have ho7' : w7.ownsRow w5.heap.size tRat 4 s7.v rx.length (gcs rx) := by
      rw [hs7, Nat.zero_add, List.nil_append] at ho7; rw [hxl]; exact ho7
    have hQ7 : QRows 12583100 w5.heap.size w7 [s7] [rx] [fullQ rws qs 0] := by
      rw [fullQ_zero]
      exact QRows.single ho7' (hx.mono (by decide)) (Ext.trans' x5 hx57) x5.size
    have hB7 := (hB4.ext hx5).ext hx57
    refine ⟨_, hB7.one (off := 1) rfl rfl, ?_⟩
    refine ⟨Nat × SlR × List RatR, fun x => [(1, xr.v), (2, .pointer (some ⟨b2, 0, none⟩)), (5, .pointer (some ⟨b5, 0, none⟩)), (7, x.2.1.v), (38, p.rows.v), (39, .int .i64 (p.rows.n : Int)), (40, .int .i64 (x.1 : Int))],
      fun x w' => Ext w5 w' ∧ x.1 ≤ p.rows.n ∧ QRows 12583100 w5.heap.size w' [x.2.1] [x.2.2] [fullQ rws qs x.1], fun x _ => p.rows.n - x.1,
      ⟨(0, s7, rx), ⟨rfl, rfl, rfl, congrArg some hs7, rfl, rfl, rfl, trivial⟩, hx57, Nat.zero_le _, hQ7⟩, ?_⟩
    clear hQ7 ho7' ho7 hg7 hn7 hs7 hx57 hB7
    rintro ⟨i, t, rt⟩ w8 ⟨hx8, hi, hQ⟩
    dsimp only at *
    have x8 := Ext.trans' x5 hx8
    have hB8 := (hB4.ext hx5).ext hx8
    refine And.intro (fun h1 => ?_) (fun h1 => ?_)
    · have hin := ltTo h1
      have hg := gr_getD hP8.rows hin
      have hgx : rws[i]? = some (rws.getD i default) := by rw [List.getD_eq_getElem?_getD, List.getElem?_eq_getElem (by omega)]; rfl
      have hrow := hP8.row i _ _ hg hgx
      have hRi := hRows i _ hgx
      have hSl := slack_fit (i := i) hFit hRows hqn hn12 (by decide) hQf (by omega)
      have hlen12 := cn_len hRi.1 hRi.2
      refine ⟨i, ⟨rfl, hin, hP8.rows.base (by omega)⟩, _, (hP8.rows.ext x8).load hg rfl rfl, ?_⟩
      intro b9 w9 hb9
      have st := storeE (T := tt) (ty := tRow) (rr.getD i default) hb9.toBlk rfl
      refine ⟨st.1, fun w10 hs10 => ?_⟩
      have hB10 := (st.2 w10 hs10).1
      have hx810 : Ext w8 w10 := Ext.grownB hb9.ext (st.2 w10 hs10).2 (hb9.ge (Ext.rfl w8))
      have x10 := Ext.trans' x8 hx810
      have hQ10 := hQ.ext hx810
      have toB : ∀ b, gH H0 [t] b → H0 b ∨ w0.heap.size ≤ b := fun b hb => (hQ.toB b hb).imp_right fun h => Nat.le_trans x5.size h
      have hbI := (hrow.2.2.to toB).ext x10
      have haI := ((hrow.1.inv.to toB).ext x10).mono (show 8 ≤ 1048577 by decide)
      have hxI := (hx.to toB).ext x10
      refine ⟨sq 12, by kernel_rfl, (rr.getD i default).b.v, hB10.agg (sub := rcs (rr.getD i default).b) rfl rfl, (rr.getD i default).a.v, hB10.one (off := 0) rfl rfl, ?_⟩
      refine dcallR (mk := SlR.v) (Q := fun r' w' => CanV 1048577 (gH H0 [t]) w' r' (nrm (ofV qs))) SlR.inj (fun _ => fun _ _ h e => h.ext e) (fun w' hw hF => CallS.mono (OfH_ok (HB.ext hQ10.hb hw) (hxI.ext hw) (by decide) (by omega)) (fun v' w'' h => ⟨h.1, h.2.elim fun r hr => ⟨r, hr.1, hr.2.tight (ofV_fit (by decide) hQf)⟩⟩)) ?_
      intro so
      refine dcallR (mk := RatR.v) (Q := fun r' w' => CanQ (gH H0 [t]) w' r' (dotL (rws.getD i default).1 (nrm (ofV qs)))) RatR.inj (fun _ => CanQ.stable) (fun w' hw hF => CallS.mono (VDot_ok (k := 1048577) (HB.ext hQ10.hb hw) (haI.ext hw) (hF.1.inv (by decide)) (by decide) (by omega) (by have := nrm_len (ofV qs); rw [ofV_length] at this; omega) (.inr hRi.1.ris) (.inr (nrm_cn _).ris) (Nat.le_trans (dK_mono (show (rws.getD i default).1.length ≤ 12 by omega)) (by decide))) (fun v' w'' h => ⟨h.1, h.2.elim fun r hr => ⟨r, hr.1, hr.2.1⟩⟩)) ?_
      intro q1
      refine dcallR (mk := RatR.v) (Q := fun r' w' => CanQ (gH H0 [t]) w' r' (slackQ rws qs i)) RatR.inj (fun _ => CanQ.stable) (fun w' hw hF => RSub_ok (HB.ext hQ10.hb hw) ((hbI.ext hw).mono (by decide)) ((hF.1.inq hSl.1 (by decide)).mono (by decide))) ?_
      intro q2
      intro b53 _
      intro w11 hx11 hF11
      have hQ11 := hQ10.ext hx11
      have hB53 : Blk w11 b53 tRat (rcs q2) := hF11.1.1
      have e1 := hQ11.at' 0 _ _ rfl rfl
      have l1 : rt.length = qs.length + i := by have := e1.1; rw [fullQ_len] at this; exact this
      refine ⟨rfl, w5.heap.size, rt.length, gcs rt, rcs q2, ⟨hQ11.gd.own 0 _ _ rfl rfl, rfl, ?_, Enc.one q2, fun _ => ⟨_, rfl, rfl⟩, by omega, by show (rt.length + 1) * 64 ≤ _; omega, Nat.le_trans hx8.size (Nat.le_trans hx810.size hx11.size)⟩, ?_⟩
      · intro e v he
        exact hB53.cell (i := 0 + e) (v := v) (by rw [Nat.zero_add]; exact he)
      intro v12 w12 ho12 hg12 hn12'
      refine (hQ11.push (i := 0) rfl rfl rfl ho12 hg12 hn12' ((hF11.2.1.inq hSl.2 (by decide)).mono (by decide))).elim fun t' ht' => ?_
      have x512 : Ext w5 w12 := hQ11.grown_ext (i := 0) rfl hg12 (Ext.trans' hx8 (Ext.trans' hx810 hx11)) (Nat.le_refl _)
      intro w13 hx13 _
      refine ⟨((i + 1 : Nat) : Int), sucI i (by omega), (i + 1, t', rt ++ [q2]), ⟨rfl, rfl, rfl, congrArg some ht'.1, rfl, rfl, rfl, trivial⟩, ⟨Ext.trans' x512 hx13, hin, ?_⟩, Nat.sub_lt_sub_left hin (Nat.lt_succ_self i)⟩
      rw [fullQ_succ]
      exact ht'.2.ext hx13
    · have hi' : i = rws.length := by have := Nat.le_antisymm hi (geTo h1); omega
      have hQ : QRows 12583100 w5.heap.size w8 [t] [rt] [fullQ rws qs rws.length] := by rw [← hi']; exact hQ
      have hpt := hQ.pt (i := 0) rfl rfl rfl
      have hptn := hpt.2.1
      rw [fullQ_len] at hptn
      have hP12 := hGL.1.relen (m := 12) (by have := hGL.1.cost.len; omega) (fun j y hy => by have := cn_len (hRows j y hy).1 (hRows j y hy).2; omega)
      refine ⟨p.v, hB8.agg (sub := p.cs) rfl rfl, ?_⟩
      refine CallS.mono (Broken_ok (hP12.ext x8) (hx.ext x8) ⟨by decide, by decide, by decide, by omega⟩ ⟨by omega, by omega⟩) ?_
      intro vb w9 hbk
      have hx9 := hbk.1
      have hvb := hbk.2
      subst hvb
      intro b12 w10 hb12
      have st := storeQ (r := RatR.zero) hb12.toBlk hb12.ext (hb12.ge (Ext.rfl w9)) rfl
      refine ⟨st.1, fun w11 hs11 => ?_⟩
      have h11 := st.2 w11 hs11
      have hx911 : Ext w9 w11 := h11.2.2
      have hx811 := Ext.trans' hx9 hx911
      have x11 := Ext.trans' x8 hx811
      have hx2_11 : Ext w2 w11 := Ext.trans' hx24 (Ext.trans' hx5 (Ext.trans' hx8 hx811))
      have hx4_11 : Ext w4 w11 := Ext.trans' hx5 (Ext.trans' hx8 hx811)
      have hFL := formL_fit (k := 8) hFit hRows hn12
      have pL := vals_pt (K := 137438953472) hF2 (i := 0) (t := s.lo) rfl rfl hF2.vl (fun q hq => (hFL.1 q hq).mono (by decide)) (by decide)
      have pU := vals_pt (K := 137438953472) hF2 (i := 1) (t := s.hi) rfl rfl hF2.vu (fun q hq => (hFL.2 q hq).mono (by decide)) (by decide)
      have pC := vals_pt (K := 200) hF2 (i := 2) (t := s.cost) rfl rfl hF2.vc (fun q hq => (formC_fit hFit q hq).mono (by have := hP8.cost.len; have := cn_len hGL.2.2.1 hGL.2.2.2; omega)) (by decide)
      have pB := vals_pt (K := 137438953472) hF2 (i := 3) (t := s.b) rfl rfl hF2.vb (fun q hq => (formB_fit hFit q hq).mono (by decide)) (by decide)
      have pX := cols_vs (K := 10) (l := 12) hF2 hcv (fun z hz => ⟨formX_len12 hRows hm12 z hz, formX_fit (K := 10) (by decide) (fun y hy t ht => ((hFit.r y hy).1 t ht).mono (by decide)) _ (Nat.le_refl _) z hz⟩) (by decide) (by decide)
      have lC : (formC vs rws cost rws.length).length = vs.length + rws.length := by simp [formC]
      have lL : (formL vs rws rws.length).length = vs.length + rws.length := by simp [formL]
      have lU : (formU vs rws rws.length).length = vs.length + rws.length := by simp [formU]
      have lB : (formB rws rws.length).length = rws.length := by simp [formB]
      have lX := formX_length rws vs.length rws.length
      have fcost : f.cost = s.cost := by rw [hf]; rfl
      have flo : f.lo = s.lo := by rw [hf]; rfl
      have fhi : f.hi = s.hi := by rw [hf]; rfl
      have fb : f.b = s.b := by rw [hf]; rfl
      have fcols : f.cols = s.cols := by rw [hf]; rfl
      rw [← fcost] at pC
      rw [← flo] at pL
      rw [← fhi] at pU
      rw [← fb] at pB
      rw [← fcols] at pX
      have hBf11 := hBf4.ext hx4_11
      have hBp11 := hB8.ext hx811
      have hpt11 := hpt.1.ext hx811
      have pC11 := pC.1.ext hx2_11
      refine ⟨_, hBf11.one (off := 4) rfl rfl, ?_⟩
      refine And.intro (fun h => absurd h (by have := pC.2; omega)) (fun _ => ?_)
      refine ⟨Nat × RatR, fun x => [(1, xr.v), (2, .pointer (some ⟨b2, 0, none⟩)), (5, .pointer (some ⟨b5, 0, none⟩)), (7, t.v), (10, .int .i64 (brokenQ vs rws qs).1), (12, .pointer (some ⟨b12, 0, none⟩)), (70, .int .i64 (t.n : Int)), (71, .int .i64 (x.1 : Int))],
        fun x w' => Ext w9 w' ∧ x.1 ≤ t.n ∧ Blk w' b12 tRat (rcs x.2) ∧ CanQ (fun c => c = b12) w' x.2 (sumN (fun j => getR (formC vs rws cost rws.length) j * (fullQ rws qs rws.length).getD j 0) x.1) ∧ FitQ (sK x.1) (sumN (fun j => getR (formC vs rws cost rws.length) j * (fullQ rws qs rws.length).getD j 0) x.1), fun x _ => t.n - x.1,
        ⟨(0, RatR.zero), ⟨rfl, rfl, rfl, rfl, rfl, rfl, rfl, rfl, trivial⟩, hx911, Nat.zero_le _, h11.1, CanQ.zero _ _, FitQ.zero (by decide)⟩, ?_⟩
      rintro ⟨j, r⟩ w12 ⟨hx12, hj, hB12, hcq, hfq⟩
      dsimp only at *
      have hx812 := Ext.trans' hx9 hx12
      have x12 := Ext.trans' x8 hx812
      have hx4_12 : Ext w4 w12 := Ext.trans' hx5 (Ext.trans' hx8 hx812)
      have hx2_12 : Ext w2 w12 := Ext.trans' hx24 hx4_12
      have hBf12 := hBf4.ext hx4_12
      have hpt12 := hpt.1.ext hx812
      have b12ge := hb12.ge (Ext.rfl w9)
      refine And.intro (fun h2 => ?_) (fun h2 => ?_)
      · have hjn := ltTo h2
        have hC12 := pC.1.ext hx2_12
        have gc := pC.1.get (j := j) (by have := pC.2; omega)
        have gf := hpt.1.get (j := j) (by omega)
        have hHB : HB (fun c => c = b12) w12 := fun c hc => by rw [hc]; exact hB12.lt
        have s28 := (Ext.trans' hx24 (Ext.trans' hx5 (Ext.trans' hx8 hx9))).size
        have s89 := hx9.size
        have qc := ((gc.2.to (H' := fun c => c = b12) (fun c hc => .inr (by rw [hc]; omega))).ext hx2_12).mono (show 200 ≤ 137438953472 by decide)
        have qf := ((gf.2.to (H' := fun c => c = b12) (fun c hc => .inr (by rw [hc]; omega))).ext hx812).mono (show 12583100 ≤ 137438953472 by decide)
        have fm : FitQ (201 + 12583101) (getR (formC vs rws cost rws.length) j * (fullQ rws qs rws.length).getD j 0) := FitQ.mul (InQ.fit gc.2) (InQ.fit gf.2) (by decide)
        have hsk : sK j ≤ sK 24 := by unfold sK; omega
        have h24 : sK 24 = 302001601 := rfl
        refine ⟨sq 13, by kernel_rfl, r.v, loadQ hB12, f.cost.v, hBf12.one (off := 4) rfl rfl, j, ⟨rfl, by have := pC.2; omega, hC12.row.base (by have := pC.2; omega)⟩, _, hC12.row.load gc.1 rfl rfl, j, ⟨rfl, by omega, hpt12.row.base (by omega)⟩, _, hpt12.row.load gf.1 rfl rfl, ?_⟩
        refine dcallR (mk := RatR.v) (Q := fun r' w' => CanQ (fun c => c = b12) w' r' (getR (formC vs rws cost rws.length) j * (fullQ rws qs rws.length).getD j 0)) RatR.inj (fun _ => CanQ.stable) (fun w' hw hF => RMul_ok (HB.ext hHB hw) (qc.ext hw) (qf.ext hw)) ?_
        intro r1
        refine dcallR (mk := RatR.v) (Q := fun r' w' => CanQ (fun c => c = b12) w' r' (sumN (fun j => getR (formC vs rws cost rws.length) j * (fullQ rws qs rws.length).getD j 0) (j + 1))) RatR.inj (fun _ => CanQ.stable) (fun w' hw hF => RAdd_ok (HB.ext hHB hw) (((hcq.ext hw).inq hfq (by omega)).mono (by omega)) ((hF.1.inq fm (by decide)).mono (by decide))) ?_
        intro r2
        intro w13 hx13 hF13
        have st := storeQ (r := r2) (hB12.ext hx13) (Ext.trans' hx12 hx13) b12ge rfl
        refine ⟨st.1, fun w14 hs14 => ?_⟩
        have h14 := st.2 w14 hs14
        intro w15 hx15 _
        refine ⟨((j + 1 : Nat) : Int), sucI j (by omega), (j + 1, r2), ⟨rfl, rfl, rfl, rfl, rfl, rfl, rfl, rfl, trivial⟩, ⟨Ext.trans' h14.2.2 hx15, hjn, h14.1.ext hx15, (hF13.1.far h14.2.1 rfl).ext hx15, ?_⟩, Nat.sub_lt_sub_left hjn (Nat.lt_succ_self j)⟩
        refine (FitQ.add hfq fm).mono ?_
        unfold sK; omega
      · have hj' : j = vs.length + rws.length := by have := Nat.le_antisymm hj (geTo h2); omega
        have hcs := cost_same (rws := rws) hGL.2.2.2 hqn
        rw [← hj'] at hcs
        rw [hcs] at hcq hfq
        have hsk : sK j ≤ sK 24 := by unfold sK; omega
        have h24 : sK 24 = 302001601 := rfl
        have hiff := (holds_iff hRows hqn (fun j y hy => ⟨(hgood.row j y hy).1, (hgood.row j y hy).2.1⟩)).trans (broken_iff (rws := rws) hqn).symm
        have hBp12 := hB8.ext hx812
        have hqI : InQ 137438953472 H0 w12 r (timesQ cost qs cost.length) := (((hcq.to (H' := H0) (fun b hb => hb.elim)).inq hfq (by omega))).mono (by omega)
        have hHo : ∀ w', Ext w12 w' → CallS Try.prog 57 #[f.v, t.v] w' fun v w'' => Ext w' w'' ∧ ∃ b : Bool, v = .bool b ∧ (b = true ↔ ((brokenQ vs rws qs).1 = 0 ∨ (brokenQ vs rws qs).1 = 3)) := fun w' hw => by
          have h := holds_ok (N := vs.length + rws.length) (M := rws.length) (pL.1.ext (Ext.trans' hx2_12 hw)) (pU.1.ext (Ext.trans' hx2_12 hw)) (pB.1.ext (Ext.trans' hx2_12 hw)) (pX.1.extI (Ext.trans' hx2_12 hw)) (hpt12.ext hw) ⟨lX, lL, lU, by rw [fullQ_len]; omega, lB⟩ (by omega) (by omega) (fun i hi => by rw [eqn_holds hRows hqn hi, formB_get hi])
          exact CallS.mono h (fun v w'' hh => ⟨hh.1, hh.2.elim fun b hb => ⟨b, hb.1, hb.2.trans hiff⟩⟩)
        by_cases hk : (brokenQ vs rws qs).1 = 0 ∨ (brokenQ vs rws qs).1 = 3
        · refine ⟨sq 21, by kernel_rfl, f.v, hBf12.agg (sub := f.cs) rfl rfl, ?_⟩
          refine dcallV (.bool true) (fun w' hw hF => CallS.mono (hHo w' hw) (fun v w'' hh => ⟨hh.1, hh.2.elim fun b hb => by rw [hb.1, hb.2.2 hk]⟩)) ?_
          refine And.intro (fun h0 => ?_) (fun h0 => ?_)
          · refine And.intro (fun _ => ?_) (fun h => absurd rfl h)
            refine ⟨r.v, loadQ hB12, p.v, hBp12.agg (sub := p.cs) rfl rfl, ?_⟩
            refine dcallR (mk := RatR.v) (Q := fun r' w' => QC (pK 1048576 12) w' r' (timesQ cost qs cost.length)) RatR.inj (fun _ => fun _ _ h e => h.ext e) (fun w' hw hF => Value_ok (hP12.ext (Ext.trans' x12 hw)) (hx.ext (Ext.trans' x12 hw)) ⟨by decide, by decide, by decide, by omega⟩) ?_
            intro rv
            refine dcallV (.bool true) (fun w' hw hF => by
              have h := RSame_ok (H0.hb w') (hqI.ext hw) (((hF.1.qi (by decide)).inq).mono (by decide))
              rw [decide_eq_true (Eq.refl (timesQ cost qs cost.length))] at h
              exact h) ?_
            refine dcallV (.bool true) (fun w' hw hF => awake15_at w') ?_
            intro w13 hx13 _
            exact ⟨Ext.trans' x12 hx13, rfl⟩
          · refine And.intro (fun h3 => ?_) (fun h3 => ?_)
            · refine And.intro (fun _ => ?_) (fun h => absurd rfl h)
              refine ⟨r.v, loadQ hB12, p.v, hBp12.agg (sub := p.cs) rfl rfl, ?_⟩
              refine dcallR (mk := RatR.v) (Q := fun r' w' => QC (pK 1048576 12) w' r' (timesQ cost qs cost.length)) RatR.inj (fun _ => fun _ _ h e => h.ext e) (fun w' hw hF => Value_ok (hP12.ext (Ext.trans' x12 hw)) (hx.ext (Ext.trans' x12 hw)) ⟨by decide, by decide, by decide, by omega⟩) ?_
              intro rv
              refine dcallV (.bool true) (fun w' hw hF => by
                have h := RSame_ok (H0.hb w') (hqI.ext hw) (((hF.1.qi (by decide)).inq).mono (by decide))
                rw [decide_eq_true (Eq.refl (timesQ cost qs cost.length))] at h
                exact h) ?_
              refine dcallV (.bool true) (fun w' hw hF => awake15_at w') ?_
              intro w13 hx13 _
              exact ⟨Ext.trans' x12 hx13, rfl⟩
            · exact absurd hk (fun h => h.elim h0 h3)
        · refine ⟨sq 21, by kernel_rfl, f.v, hBf12.agg (sub := f.cs) rfl rfl, ?_⟩
          refine dcallV (.bool false) (fun w' hw hF => CallS.mono (hHo w' hw) (fun v w'' hh => ⟨hh.1, hh.2.elim fun b hb => by
            cases b with
            | false => exact hb.1
            | true => exact absurd (hb.2.1 rfl) hk⟩)) ?_
          refine And.intro (fun h0 => absurd (Or.inl h0) hk) (fun h0 => ?_)
          refine And.intro (fun h3 => absurd (Or.inr h3) hk) (fun h3 => ?_)
          refine And.intro (fun _ => ?_) (fun h => absurd rfl h)
          refine ⟨r.v, loadQ hB12, p.v, hBp12.agg (sub := p.cs) rfl rfl, ?_⟩
          refine dcallR (mk := RatR.v) (Q := fun r' w' => QC (pK 1048576 12) w' r' (timesQ cost qs cost.length)) RatR.inj (fun _ => fun _ _ h e => h.ext e) (fun w' hw hF => Value_ok (hP12.ext (Ext.trans' x12 hw)) (hx.ext (Ext.trans' x12 hw)) ⟨by decide, by decide, by decide, by omega⟩) ?_
          intro rv
          refine dcallV (.bool true) (fun w' hw hF => by
            have h := RSame_ok (H0.hb w') (hqI.ext hw) (((hF.1.qi (by decide)).inq).mono (by decide))
            rw [decide_eq_true (Eq.refl (timesQ cost qs cost.length))] at h
            exact h) ?_
          refine dcallV (.bool true) (fun w' hw hF => awake15_at w') ?_
          intro w13 hx13 _
          exact ⟨Ext.trans' x12 hx13, rfl⟩
end Go.Proofs.Ytlfdobjdlgebbaa
/-
  What a row asks behind a call that makes new memory alone. Helpers; no statement of the program is proved here.
-/
set_option maxRecDepth 100000
namespace Go.Proofs.Ytlfdobjdlgebbaa
open Go Go.Tw Go.ChangeShapes Go.WideShapes Go.ChangeAt Go.RowKit

theorem own0 : ownKnob Try.prog.godebug = none := by kernel_rfl
theorem kids0 : Kids Try.prog (fun t => t < Try.prog.types.size) := kids_rows (by kernel_rfl) (by kernel_rfl)
theorem full0 : ∀ t e, t < Try.prog.types.size → Try.prog.underlying t = some (.slice e) → 0 < Try.prog.cellsOf e := slices_full_of _ (by kernel_rfl)
theorem trodAll_ext {H : Type} {enc : TypeId × Value → H} {W W' : World} {sp : Nat → Bool} (hx : Ext W W') : ∀ {ts : List TypeId} {vs : List Value} {ds : List (DataW H)} {ps : List MemPlace}, (∀ p ∈ ps, p.block < W.heap.size) →
    DataW.TrodAll enc Try.prog W 0 sp true ts vs ds ps → DataW.TrodAll enc Try.prog W' 0 sp true ts vs ds ps
  | [], [], [], _, _, h => h
  | _ :: _, _ :: _, _ :: _, _, hl, ⟨p, q, ⟨n, h1⟩, h2, e⟩ =>
    ⟨p, q, ⟨n, DataW.trod_carry n _ _ _ h1 fun x hx' => Below.same hx (hl x (by rw [e]; exact List.mem_append_left _ hx'))⟩, trodAll_ext hx (fun x hx' => hl x (by rw [e]; exact List.mem_append_right _ hx')) h2, e⟩
/-- What the row asks behind a call that made new memory alone. -/
theorem post_ext {H : Type} {enc : TypeId × Value → H} {f : Func} {s : ChangeSpec} {apart fresh handsOn again : Bool} {W W' : World} {args : Array Value} {v : Value} {ds : List (DataW H)} {before : List MemPlace}
    (hvn : s.vars = []) (hW : DataW.Whole enc Try.prog f.params.toList s.vars apart W args.toList ds [] before) (hx : Ext W W') (hlt : ∀ t ∈ f.params.toList, t < Try.prog.types.size)
    (hA : DataW.TrodAll enc Try.prog W 0 (fun _ => true) true f.params.toList args.toList ds before)
    (hres : ∀ (b : Nat) (sp : Nat → Bool) (hd : Bool), DataW.TrodAll enc Try.prog W' b sp hd f.resultTypes.toList (v.resultList f.resultTypes.size) (s.fn H (ds ++ [])).results [])
    (hargs : (s.fn H (ds ++ [])).args = ds) (hvars : (s.fn H (ds ++ [])).vars = [])
    (hok : ∀ (j : Nat) (t : TypeId) (r : Value), f.resultTypes[j]? = some t → (v.resultList f.resultTypes.size)[j]? = some r → Value.okWide Try.prog W' .any 0 t r) :
    s.post enc Try.prog f apart fresh handsOn again W args v W' := by
  have hl : ∀ p ∈ before, p.block < W.heap.size := fun p hp => hW.lt p hp
  have hold : ∀ p ∈ before, (fun b => decide (b < W.heap.size)) p.block = true := fun p hp => by simpa using hl p hp
  have ha : ∀ sp : Nat → Bool, (∀ p ∈ before, sp p.block = true) → DataW.TrodAll enc Try.prog W' 0 sp true f.params.toList args.toList (s.fn H (ds ++ [])).args before := fun sp hsp => by
    rw [hargs]
    exact trodAll_ext hx hl (DataW.TrodAll.respare (T := fun t => t < Try.prog.types.size) kids0 full0 hlt hA hsp)
  have hv : ∀ sp : Nat → Bool, DataW.TrodVars enc Try.prog W' sp s.vars (s.fn H (ds ++ [])).vars [] := fun sp => by
    rw [hvars, hvn]; rfl
  refine ⟨ds, [], before, [], before, [], hW, hres _ _ _, ha _ hold, hv _, Below.frame hx _, fun _ => ?_⟩
  obtain ⟨_, _, _, _, _, hz, hn⟩ := hW
  refine ⟨hok, _, _, ([] ++ before) ++ [], ⟨[] ++ before, [], trodAll_append (ha _ (fun _ _ => rfl)) (hres _ _ _), hv _, rfl, ?_, ?_⟩, ?_⟩
  · intro b off hp
    have hp : MemPlace.cell b off ∈ before := by simpa using hp
    rw [Below.frozen hx (p := ⟨b, off, none⟩) (hl _ hp)]
    exact hz b off hp
  · intro hap
    have := hn hap
    simpa using this
  · intro p hp _
    simpa using hp
end Go.Proofs.Ytlfdobjdlgebbaa
/-
  What a row narrowed by its bulk hands over: vectors and programs. Helpers; no statement of the program is proved here.
-/
set_option maxRecDepth 100000
namespace Go.Proofs.Ytlfdobjdlgebbaa
open Go Go.Tw Go.ChangeShapes Go.WideShapes Go.ChangeAt Go.RowKit

section
variable {H : Type} {enc : TypeId × Value → H} {W : World} {base B : Nat} {sp : Nat → Bool} {held : Bool} {r : Reach} {b0 : Nat} {v : Value} {d : DataW H} {p : List MemPlace}
theorem openVB {t : Nat} (ht : Try.prog.underlying t = some (.slice 77)) (hv : Value.okWide Try.prog W r b0 t v) (h : DataW.Trod enc Try.prog W base sp held t v d p) (hB : Rows.uptoBulk d ≤ B) : ∃ (s : SlR) (ts : List TmR), v = s.v ∧ OpVB B W s ts := by
  obtain ⟨a, n, c, rfl⟩ := okWide_slice ht hv
  obtain ⟨fuel, hf⟩ := h
  obtain ⟨s, ts, e, ho⟩ := opVecB ht hf hB
  exact ⟨s, ts, (List.cons.inj e).1, ho⟩
theorem openRB {t : Nat} (hB1 : B ≤ 1099511627776) (ht : Try.prog.underlying t = some (.slice 33)) (hv : Value.okWide Try.prog W r b0 t v) (h : DataW.Trod enc Try.prog W base sp held t v d p) (hB : Rows.uptoBulk d ≤ B) : ∃ (s : SlR) (rs : List RatR) (qs : List Rat), v = s.v ∧ PtI B H0 W s rs qs ∧ s.n ≤ B := by
  obtain ⟨a, n, c, rfl⟩ := okWide_slice ht hv
  obtain ⟨fuel, hf⟩ := h
  obtain ⟨s, rs, e, hg, ha, _, _, hn⟩ := opGrB (α := RatR) (B := B) (Q := fun r => OpQ W r ∧ shQ r B) ht (by kernel_rfl) (fun h hB => opRatB h hB) hf hB
  have hone : ∀ i, i < rs.length → ∃ q : Rat, ∃ x, rs[i]? = some x ∧ InQ B H0 W x q := by
    intro i hi
    obtain ⟨h1, h2⟩ := ha _ (List.getElem_mem hi)
    obtain ⟨q, hq⟩ := h1.inq hB1 h2
    exact ⟨q, _, List.getElem?_eq_getElem hi, hq⟩
  obtain ⟨qs, q1, q2⟩ := listOf rs.length hone
  refine ⟨s, rs, qs, (List.cons.inj e).1, ⟨hg, q1.symm, fun j x q h1 h2 => ?_⟩, hn⟩
  obtain ⟨x', e', hq⟩ := q2 j q h2
  rw [h1] at e'; cases e'; exact hq
theorem openPB (hv : Value.okWide Try.prog W r b0 27 v) (h : DataW.Trod enc Try.prog W base sp held 27 v d p) (hB : Rows.uptoBulk d ≤ B) : ∃ (s : PrgR) (vr : List VarR) (rr : List RowR), v = s.v ∧ OpPrg B W s vr rr := by
  obtain ⟨cs, rfl, _⟩ := okWide_struct (t := 27) rfl hv
  obtain ⟨fuel, hf⟩ := h
  obtain ⟨s, vr, rr, e, ho⟩ := opPrg hf hB
  refine ⟨s, vr, rr, ?_, ho⟩
  have e : cs.toList = s.cs := e
  show Value.agg cs = Value.agg s.cs.toArray
  rw [← e]
end
theorem small_all {H : Type} {ds : List (DataW H)} (h : Rows.uptoSmall H ds = true) : Rows.uptoBulkAll ds ≤ 1048576 := of_decide_eq_true h
end Go.Proofs.Ytlfdobjdlgebbaa
