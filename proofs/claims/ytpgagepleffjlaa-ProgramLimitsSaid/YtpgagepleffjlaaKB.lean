/-
  Contracts of the layer program: the span of a vector. Helpers; no statement of the program is proved here.
-/
import Derived.Test.YtpgagepleffjlaaKA
set_option maxRecDepth 100000
set_option linter.unusedSimpArgs false
set_option linter.unusedVariables false
namespace Go.Proofs.Ytpgagepleffjlaa
open Go Go.Tw Go.RowKit
attribute [local irreducible] LoadAt StoreOk Stored rawVC

theorem _root_.Go.Tw.Words.noInt {w : World} {a : Option Addr} {n b t : Nat} {L : List Nat} {cs : List Value} (h : Words w a n L) (hb : Blk w b t cs) (hc : ∀ v ∈ cs, ∀ x, v ≠ .int .u64 x) (hn : 0 < n) : Tw.blk a ≠ b := by
  intro e
  have hl := h.len
  have h0 := h.get 0 _ (List.getElem?_eq_getElem (by omega))
  unfold Blk at hb
  have e2 : (addrAt a 0).block = b := e
  simp only [World.cell?, e2, hb] at h0
  split at h0
  · cases h0
  · have := List.mem_of_getElem? (l := cs) (by simpa using h0)
    exact hc _ this _ rfl
theorem _root_.Go.Tw.CanI.with {H : Hd} {w : World} {r : IntR} {z : Int} {b t : Nat} {cs : List Value} (h : CanI H w r z) (hb : Blk w b t cs) (hc : ∀ v ∈ cs, ∀ x, v ≠ .int .u64 x) : CanI (fun c => H c ∨ c = b) w r z :=
  ⟨h.neg, h.words, h.nc, h.cm, fun hn h' => h'.elim (h.av hn) (h.words.noInt hb hc hn)⟩
/-- No digits lie in the cell of a fraction. -/
theorem _root_.Go.Tw.CanQ.with {H : Hd} {w : World} {r s : RatR} {q : Rat} {b t : Nat} (h : CanQ H w r q) (hb : Blk w b t (rcs s)) : CanQ (fun c => H c ∨ c = b) w r q := by
  have hc : ∀ v ∈ rcs s, ∀ x, v ≠ .int .u64 x := by
    intro v hv x e
    subst e
    simp [rcs] at hv
  exact ⟨h.num.with hb hc, h.den.with hb hc⟩
/-- .. nor in that of a term. -/
theorem _root_.Go.Tw.CanQ.withT {H : Hd} {w : World} {r : RatR} {t : TmR} {q : Rat} {b t' : Nat} (h : CanQ H w r q) (hb : Blk w b t' (tcs [t])) : CanQ (fun c => H c ∨ c = b) w r q := by
  have hc : ∀ v ∈ tcs [t], ∀ x, v ≠ .int .u64 x := by
    intro v hv x e
    subst e
    rw [tcs_one] at hv
    simp [TmR.cs] at hv
  exact ⟨h.num.with hb hc, h.den.with hb hc⟩
/-- Variables that come in. -/
structure VarsI (k : Nat) (H : Hd) (w : World) (s : SlR) (vr : List VarR) (vs : VS) : Prop where
  row : Gr w s.a s.n vr
  len : vr.length = vs.length
  at' : ∀ (j : Nat) v x, vr[j]? = some v → vs[j]? = some x → InQ k H w v.lo x.1 ∧ InQ k H w v.hi x.2.1 ∧ v.int = x.2.2
theorem VarsI.ext {k : Nat} {H : Hd} {w w' : World} {s : SlR} {vr : List VarR} {vs : VS} (h : VarsI k H w s vr vs) (e : Ext w w') : VarsI k H w' s vr vs := ⟨h.row.ext e, h.len, fun j v x h1 h2 => ⟨(h.at' j v x h1 h2).1.ext e, (h.at' j v x h1 h2).2.1.ext e, (h.at' j v x h1 h2).2.2⟩⟩
theorem VarsI.to {k : Nat} {H H' : Hd} {w : World} {s : SlR} {vr : List VarR} {vs : VS} (h : VarsI k H w s vr vs) (hH : ∀ b, H' b → H b ∨ w.heap.size ≤ b) : VarsI k H' w s vr vs := ⟨h.row, h.len, fun j v x h1 h2 => ⟨(h.at' j v x h1 h2).1.to hH, (h.at' j v x h1 h2).2.1.to hH, (h.at' j v x h1 h2).2.2⟩⟩
theorem PrgI.vs {k l : Nat} {w : World} {p : PrgR} {vr : List VarR} {rr : List RowR} {vs : VS} {rws : RWS} {cost : VL} (h : PrgI k l w p vr rr vs rws cost) : VarsI k H0 w p.vars vr vs := ⟨h.vars, h.vlen, h.var⟩
def minQ (p q : Rat) : Rat := if q < p then q else p
def maxQ (p q : Rat) : Rat := if p < q then q else p
/-- The least and the greatest that a vector can tell: its first i terms. -/
def spanQ (vs : VS) (xs : VL) (i : Nat) : Rat × Rat :=
  match i with
  | 0 => (0, 0)
  | i + 1 =>
    if 0 ≤ pl xs i ∧ pl xs i < (vs.length : Int) then
      ((spanQ vs xs i).1 + minQ (xl xs i * (vs.getD (pl xs i).toNat default).1) (xl xs i * (vs.getD (pl xs i).toNat default).2.1), (spanQ vs xs i).2 + maxQ (xl xs i * (vs.getD (pl xs i).toNat default).1) (xl xs i * (vs.getD (pl xs i).toNat default).2.1))
    else spanQ vs xs i
theorem fit_min {k : Nat} {p q : Rat} (h : FitQ k p) (h' : FitQ k q) : FitQ k (minQ p q) := by unfold minQ; split <;> assumption
theorem fit_max {k : Nat} {p q : Rat} (h : FitQ k p) (h' : FitQ k q) : FitQ k (maxQ p q) := by unfold maxQ; split <;> assumption
structure SpI (k : Nat) (H : Hd) (w w5 : World) (b4 b5 b6 b7 : Nat) (vs : VS) (xs : VL) (i : Nat) (rl rh : RatR) (w' : World) : Prop where
  ext : Ext w w'
  sz : w5.heap.size ≤ w'.heap.size
  c4 : Blk w' b4 33 (rcs RatR.zero)
  c5 : Blk w' b5 33 (rcs RatR.zero)
  c6 : Blk w' b6 33 (rcs rl)
  c7 : Blk w' b7 33 (rcs rh)
  ql : CanQ (upH H w w5) w' rl (spanQ vs xs i).1
  qh : CanQ (upH H w w5) w' rh (spanQ vs xs i).2
  fl : FitQ (pK k i) (spanQ vs xs i).1
  fh : FitQ (pK k i) (spanQ vs xs i).2
theorem SpI.go {k : Nat} {H : Hd} {w w5 : World} {b4 b5 b6 b7 : Nat} {vs : VS} {xs : VL} {i : Nat} {rl rh : RatR} {w' w'' : World} (h : SpI k H w w5 b4 b5 b6 b7 vs xs i rl rh w') (e : Ext w' w'') : SpI k H w w5 b4 b5 b6 b7 vs xs i rl rh w'' :=
  ⟨Ext.trans' h.ext e, Nat.le_trans h.sz e.size, h.c4.ext e, h.c5.ext e, h.c6.ext e, h.c7.ext e, h.ql.ext e, h.qh.ext e, h.fl, h.fh⟩
theorem Span_ok {k l : Nat} {H : Hd} {w : World} {p : PrgR} {vr : List VarR} {vs : VS} {rx : SlR} {xs : VL} (hH : HB H w) (hv : VarsI k H w p.vars vr vs) (hx : InV k H w rx xs) (hl : xs.length ≤ l) (hk : k ≤ 16777216 ∧ l ≤ 65536 ∧ pK k l ≤ 34359738368 ∧ p.vars.n ≤ 1099511627776) :
    CallS Try.prog 50 #[p.v, rx.v] w fun v w' => Ext w w' ∧ ∃ s t : RatR, v = .tuple #[s.v, t.v] ∧ (CanQ H w' s (spanQ vs xs xs.length).1 ∧ FitQ (pK k l) (spanQ vs xs xs.length).1) ∧ (CanQ H w' t (spanQ vs xs xs.length).2 ∧ FitQ (pK k l) (spanQ vs xs xs.length).2) := by
  obtain ⟨hk1, hl1, hK, hn40⟩ := hk
  have hlen := hx.len
  have hvl := hv.row.len
  have hvn := hv.len
  obtain ⟨⟨ts, hT, hI⟩, _, _, _⟩ := hx
  refine enter ttOk mixed (args := [p.v, rx.v]) Try.func50 rfl (by kernel_rfl) (by kernel_rfl) rfl ?_
  intro b2 w1 hb2 b4 w2 hb4 b5 w3 hb5 b6 w4 hb6 b7 w5 hb7
  have x1 := hb2.ext
  have x2 := hb4.extFrom x1
  have x3 := hb5.extFrom x2
  have x4 := hb6.extFrom x3
  have x5 := hb7.extFrom x4
  have hB2 : Blk w5 b2 tPrg p.cs := hb2.toBlk.ext (Ext.trans' (Ext.trans' (Ext.trans' hb4.ext hb5.ext) hb6.ext) hb7.ext)
  have l4 := hb4.lt
  have l5 := hb5.lt
  have l6 := hb6.lt
  have n5 := hb5.isNew
  have n6 := hb6.isNew
  have n7 := hb7.isNew
  have s45 := hb5.ext.size
  have s56 := hb6.ext.size
  have n26 : b2 ≠ b6 := by have := hb2.lt; have := hb4.ext.size; omega
  have n27 : b2 ≠ b7 := by have := hb2.lt; have := hb4.ext.size; omega
  have ne45 : b4 ≠ b5 := by omega
  have ne46 : b4 ≠ b6 := by omega
  have ne47 : b4 ≠ b7 := by omega
  have ne56 : b5 ≠ b6 := by omega
  have ne57 : b5 ≠ b7 := by omega
  have ne67 : b6 ≠ b7 := by omega
  have u4 : upH H w w5 b4 := hb4.inUp x1 (Ext.trans' (Ext.trans' hb5.ext hb6.ext) hb7.ext)
  have u5 : upH H w w5 b5 := hb5.inUp x2 (Ext.trans' hb6.ext hb7.ext)
  have u6 : upH H w w5 b6 := hb6.inUp x3 hb7.ext
  have u7 : upH H w w5 b7 := hb7.inUp x4 (Ext.rfl w5)
  have g4 := hb4.ge x1
  have g5 := hb5.ge x2
  have g6 := hb6.ge x3
  have g7 := hb7.ge x4
  refine ⟨Nat × RatR × RatR, fun x => [(2, .pointer (some ⟨b2, 0, none⟩)), (4, .pointer (some ⟨b4, 0, none⟩)), (5, .pointer (some ⟨b5, 0, none⟩)), (6, .pointer (some ⟨b6, 0, none⟩)), (7, .pointer (some ⟨b7, 0, none⟩)), (13, rx.v), (14, .int .i64 (rx.n : Int)), (15, .int .i64 (x.1 : Int))],
    fun x w' => SpI k H w w5 b4 b5 b6 b7 vs xs x.1 x.2.1 x.2.2 w' ∧ Blk w' b2 tPrg p.cs ∧ x.1 ≤ rx.n, fun x _ => rx.n - x.1,
    ⟨(0, RatR.zero, RatR.zero), ⟨rfl, rfl, rfl, rfl, rfl, rfl, rfl, rfl, trivial⟩, ⟨x5, Nat.le_refl _, hb4.toBlk.ext (Ext.trans' (Ext.trans' hb5.ext hb6.ext) hb7.ext), hb5.toBlk.ext (Ext.trans' hb6.ext hb7.ext), hb6.toBlk.ext hb7.ext, hb7.toBlk, CanQ.zero _ _, CanQ.zero _ _, FitQ.zero (Nat.le_add_right _ _), FitQ.zero (Nat.le_add_right _ _)⟩, hB2, Nat.zero_le _⟩, ?_⟩
  clear hB2 l4 l5 l6 n5 n6 n7 s45 s56 x1 x2 x3 x4
  rintro ⟨i, rl, rh⟩ w6 ⟨hS, hB2, hi⟩
  dsimp only at *
  refine And.intro (fun h1 => ?_) (fun h1 => ?_)
  · have hin := ltTo h1
    obtain ⟨t, ht, hat, hq⟩ := hI.get (vget (ys := xs) (j := i) (by omega))
    refine ⟨i, ⟨rfl, hin, hT.base (by omega)⟩, t.v, (hT.ext hS.ext).load (ty := tT) ht rfl rfl, ?_⟩
    intro b9 w7 hb9
    have hs := storeTmB (w' := w7) (t := t) hb9.toBlk rfl
    refine ⟨hs.1, fun w8 hs8 => ?_⟩
    have h8 := (storeTmB (t := t) hb9.toBlk rfl).2 hs8
    have hx68 : Ext w6 w8 := Ext.grownB hb9.ext h8.2 (hb9.ge (Ext.rfl w6))
    have hS8 := hS.go hx68
    have hB28 := hB2.ext hx68
    have hB := h8.1
    have skip : ¬ (0 ≤ pl xs i ∧ pl xs i < (vs.length : Int)) → SpI k H w w5 b4 b5 b6 b7 vs xs (i + 1) rl rh w8 := by
      intro hno
      have e : spanQ vs xs (i + 1) = spanQ vs xs i := by simp only [spanQ]; rw [if_neg hno]
      exact ⟨hS8.ext, hS8.sz, hS8.c4, hS8.c5, hS8.c6, hS8.c7, by rw [e]; exact hS8.ql, by rw [e]; exact hS8.qh, by rw [e]; exact hS8.fl.mono (pK_mono (Nat.le_succ i)), by rw [e]; exact hS8.fh.mono (pK_mono (Nat.le_succ i))⟩
    refine ⟨_, hB.one (off := 0) rfl rfl, ?_⟩
    refine And.intro (fun h2 => ?_) (fun h2 => ?_)
    · exact ⟨((i + 1 : Nat) : Int), sucI i (by omega), (i + 1, rl, rh), ⟨rfl, rfl, rfl, rfl, rfl, rfl, rfl, rfl, trivial⟩, ⟨skip (fun h => by omega), hB28, hin⟩, Nat.sub_lt_sub_left hin (Nat.lt_succ_self i)⟩
    refine ⟨_, hB.one (off := 0) rfl rfl, _, hB28.one (off := 0) rfl rfl, ?_⟩
    refine And.intro (fun h3 => ?_) (fun h3 => ?_)
    · exact ⟨((i + 1 : Nat) : Int), sucI i (by omega), (i + 1, rl, rh), ⟨rfl, rfl, rfl, rfl, rfl, rfl, rfl, rfl, trivial⟩, ⟨skip (fun h => by omega), hB28, hin⟩, Nat.sub_lt_sub_left hin (Nat.lt_succ_self i)⟩
    refine (show ∃ q : Nat, t.at' = (q : Int) from ⟨t.at'.toNat, by omega⟩).elim fun q hq' => ?_
    have hqn : q < p.vars.n := by omega
    have hat2 : pl xs i = (q : Int) := hat.symm.trans hq'
    have hg := gr_getD hv.row hqn
    have hgx : vs[q]? = some (vs.getD q default) := by rw [List.getD_eq_getElem?_getD, List.getElem?_eq_getElem (by omega)]; rfl
    generalize vr.getD q default = v at hg
    have hva := hv.at' q v _ hg hgx
    have hcond : 0 ≤ pl xs i ∧ pl xs i < (vs.length : Int) := by omega
    have e : spanQ vs xs (i + 1) = ((spanQ vs xs i).1 + minQ (xl xs i * (vs.getD q default).1) (xl xs i * (vs.getD q default).2.1), (spanQ vs xs i).2 + maxQ (xl xs i * (vs.getD q default).1) (xl xs i * (vs.getD q default).2.1)) := by
      simp only [spanQ]; rw [if_pos hcond, hat2, Int.toNat_natCast]
    generalize (vs.getD q default) = y at hva e
    refine ⟨_, hB28.one (off := 0) rfl rfl, _, hB.one (off := 0) rfl rfl, q, ⟨hq', hqn, (hv.row.ext hS8.ext).base (by omega)⟩, v.v, (hv.row.ext hS8.ext).load hg rfl rfl, ?_⟩
    intro b10 w9 hb10
    have st := storeE (T := tt) (ty := tVar) v hb10.toBlk rfl
    refine ⟨st.1, fun w10 hs10 => ?_⟩
    obtain ⟨hB10, hg10⟩ := st.2 w10 hs10
    have hx810 : Ext w8 w10 := Ext.grownB hb10.ext hg10 (hb10.ge (Ext.rfl w8))
    have hS10 := hS8.go hx810
    have hB210 := hB28.ext hx810
    have hBt := hB.ext hx810
    have hHB : HB (upH H w w5) w10 := fun b hb => hb.elim (fun h => Nat.lt_of_lt_of_le (hH b h) hS10.ext.size) (fun h => Nat.lt_of_lt_of_le h.2 hS10.sz)
    have hupTo : ∀ b, upH H w w5 b → H b ∨ w.heap.size ≤ b := fun b hb => hb.elim .inl (fun h => .inr h.1)
    have ilo := (hva.1.to hupTo).ext hS10.ext
    have ihi := (hva.2.1.to hupTo).ext hS10.ext
    have iq := (hq.to hupTo).ext hS10.ext
    have hfl : FitQ (k + 1 + (k + 1)) (xl xs i * y.1) := FitQ.mul iq.fit ilo.fit (by omega)
    have hfh : FitQ (k + 1 + (k + 1)) (xl xs i * y.2.1) := FitQ.mul iq.fit ihi.fit (by omega)
    have hKi : pK k i ≤ pK k l := pK_mono (by omega)
    refine ⟨sq 14, by kernel_rfl, t.x.v, hBt.agg (sub := rcs t.x) rfl rfl, v.lo.v, hB10.agg (sub := rcs v.lo) rfl rfl, ?_⟩
    refine dcallR (mk := RatR.v) (Q := fun r' w' => CanQ (upH H w w5) w' r' (xl xs i * y.1)) RatR.inj (fun _ => CanQ.stable) (fun w' hw hF => RMul_ok (HB.ext hHB hw) ((iq.ext hw).mono (by omega)) ((ilo.ext hw).mono (by omega))) ?_
    intro rx1
    refine ⟨t.x.v, hBt.agg (sub := rcs t.x) rfl rfl, v.hi.v, hB10.agg (sub := rcs v.hi) rfl rfl, ?_⟩
    refine dcallR (mk := RatR.v) (Q := fun r' w' => CanQ (upH H w w5) w' r' (xl xs i * y.2.1)) RatR.inj (fun _ => CanQ.stable) (fun w' hw hF => RMul_ok (HB.ext hHB hw) ((iq.ext hw).mono (by omega)) ((ihi.ext hw).mono (by omega))) ?_
    intro rx2
    intro b11 _ b12 hb12 w11 hx11 hF11
    have hB11 : Blk w11 b11 33 (rcs RatR.zero) := hF11.2.1.1
    have hB12 : Blk w11 b12 33 (rcs RatR.zero) := hF11.1.1
    have ne : b12 ≠ b11 := fun h => hb12.1 (.inl h)
    have q1 := (hF11.2.2.2.1.with hB11).with hB12
    have q2 := (hF11.2.2.1.with hB11).with hB12
    have s1 := storeQ (r := rx1) hB11 hx11 hF11.2.1.2 rfl
    refine ⟨s1.1, fun w12 hs12 => ?_⟩
    obtain ⟨hB11a, hg12, hx12⟩ := s1.2 w12 hs12
    intro w13 hx13 _
    have s2 := storeQ (r := rx2) ((Blk.grownN hB12 hg12 ne).ext hx13) (Ext.trans' hx12 hx13) hF11.1.2 rfl
    refine ⟨s2.1, fun w14 hs14 => ?_⟩
    obtain ⟨hB12b, hg14, hx14⟩ := s2.2 w14 hs14
    intro w15 hx15 _
    have q1' := ((((q1.far hg12 (.inl (.inr rfl))).ext hx13).far hg14 (.inr rfl)).ext hx15).to (H' := upH H w w5) fun c hc => .inl (.inl (.inl hc))
    have q2' := ((((q2.far hg12 (.inl (.inr rfl))).ext hx13).far hg14 (.inr rfl)).ext hx15).to (H' := upH H w w5) fun c hc => .inl (.inl (.inl hc))
    have hB11b := (Blk.grownN (hB11a.ext hx13) hg14 ne.symm).ext hx15
    have hB12c := hB12b.ext hx15
    have hx1015 : Ext w10 w15 := Ext.trans' hx14 hx15
    have hS15 := hS10.go hx1015
    have hHB15 := HB.ext hHB hx1015
    have hml : FitQ (k + 1 + (k + 1)) (minQ (xl xs i * y.1) (xl xs i * y.2.1)) := fit_min hfl hfh
    have hmh : FitQ (k + 1 + (k + 1)) (maxQ (xl xs i * y.1) (xl xs i * y.2.1)) := fit_max hfl hfh
    have hK2 : pK k i ≤ 137438953472 := by omega
    have hK3 : pK k i + (k + 1 + (k + 1)) + 1 ≤ pK k (i + 1) := by unfold pK; rw [Nat.add_mul]; omega
    refine ⟨sq 12, by kernel_rfl, rl.v, loadQ hS15.c6, rx1.v, loadQ hB11b, rx2.v, loadQ hB12c, ?_⟩
    refine dcallR (mk := RatR.v) (Q := fun r' w' => CanQ (upH H w w5) w' r' (minQ (xl xs i * y.1) (xl xs i * y.2.1))) RatR.inj (fun _ => CanQ.stable) (fun w' hw hF => RMin_ok (HB.ext hHB15 hw) ((q1'.ext hw).inq (hfl.mono (by omega)) (by omega)) ((q2'.ext hw).inq (hfh.mono (by omega)) (by omega))) ?_
    intro rm
    refine dcallR (mk := RatR.v) (Q := fun r' w' => CanQ (upH H w w5) w' r' ((spanQ vs xs i).1 + minQ (xl xs i * y.1) (xl xs i * y.2.1))) RatR.inj (fun _ => CanQ.stable) (fun w' hw hF => RAdd_ok (HB.ext hHB15 hw) ((hS15.ql.ext hw).inq (hS15.fl.mono hK2) (by omega)) (hF.1.inq (hml.mono (by omega)) (by omega))) ?_
    intro rl'
    refine ⟨rh.v, loadQ hS15.c7, rx1.v, loadQ hB11b, rx2.v, loadQ hB12c, ?_⟩
    refine dcallR (mk := RatR.v) (Q := fun r' w' => CanQ (upH H w w5) w' r' (maxQ (xl xs i * y.1) (xl xs i * y.2.1))) RatR.inj (fun _ => CanQ.stable) (fun w' hw hF => RMax_ok (HB.ext hHB15 hw) ((q1'.ext hw).inq (hfl.mono (by omega)) (by omega)) ((q2'.ext hw).inq (hfh.mono (by omega)) (by omega))) ?_
    intro rM
    refine dcallR (mk := RatR.v) (Q := fun r' w' => CanQ (upH H w w5) w' r' ((spanQ vs xs i).2 + maxQ (xl xs i * y.1) (xl xs i * y.2.1))) RatR.inj (fun _ => CanQ.stable) (fun w' hw hF => RAdd_ok (HB.ext hHB15 hw) ((hS15.qh.ext hw).inq (hS15.fh.mono hK2) (by omega)) (hF.1.inq (hmh.mono (by omega)) (by omega))) ?_
    intro rh' w16 hx16 hF16
    have hS16 := hS15.go hx16
    have s6 := storeQ (r := rl') hS16.c6 hS16.ext g6 rfl
    refine ⟨s6.1, fun w17 hs17 => ?_⟩
    obtain ⟨hB6a, hg17, hx17⟩ := s6.2 w17 hs17
    intro w18 hx18 _
    have s7 := storeQ (r := rh') ((Blk.grownN hS16.c7 hg17 ne67.symm).ext hx18) (Ext.trans' hx17 hx18) g7 rfl
    refine ⟨s7.1, fun w19 hs19 => ?_⟩
    obtain ⟨hB7a, hg19, hx19⟩ := s7.2 w19 hs19
    intro w20 hx20 _
    refine ⟨((i + 1 : Nat) : Int), sucI i (by omega), (i + 1, rl', rh'), ⟨rfl, rfl, rfl, rfl, rfl, rfl, rfl, rfl, trivial⟩, ⟨⟨Ext.trans' hx19 hx20, ?_, ?_, ?_, ?_, hB7a.ext hx20, ?_, ?_, ?_, ?_⟩, ?_, hin⟩, Nat.sub_lt_sub_left hin (Nat.lt_succ_self i)⟩
    · exact Nat.le_trans hS16.sz (Nat.le_trans hg17.size (Nat.le_trans hx18.size (Nat.le_trans hg19.size hx20.size)))
    · exact (Blk.grownN ((Blk.grownN hS16.c4 hg17 ne46).ext hx18) hg19 ne47).ext hx20
    · exact (Blk.grownN ((Blk.grownN hS16.c5 hg17 ne56).ext hx18) hg19 ne57).ext hx20
    · exact (Blk.grownN (hB6a.ext hx18) hg19 ne67).ext hx20
    · rw [e]; exact (((hF16.2.2.1.far hg17 u6).ext hx18).far hg19 u7).ext hx20
    · rw [e]; exact (((hF16.1.far hg17 u6).ext hx18).far hg19 u7).ext hx20
    · rw [e]; exact (FitQ.add hS16.fl hml).mono hK3
    · rw [e]; exact (FitQ.add hS16.fh hmh).mono hK3
    · exact (Blk.grownN ((Blk.grownN ((hB210.ext hx1015).ext hx16) hg17 n26).ext hx18) hg19 n27).ext hx20
  · have hi' : i = rx.n := Nat.le_antisymm hi (geTo h1)
    have hix : i = xs.length := by omega
    refine ⟨sqK 4 [1, 2], by kernel_rfl, rl.v, loadQ hS.c6, rh.v, fun w' hw _ => loadQ (hS.c7.ext hw), ?_⟩
    intro w7 hx7 hF7
    have hS7 := hS.go hx7
    have h7 : Blk w7 b7 33 (rcs rh) := hS7.c7
    have s4 := storeQ (r := rl) hS7.c4 hS7.ext g4 rfl
    refine ⟨s4.1, fun w8 hs8 => ?_⟩
    obtain ⟨h84, hg8, hx8⟩ := s4.2 w8 hs8
    refine ⟨⟨⟨fun c hc hlt => hg8.block c hlt (fun e => Nat.lt_irrefl c (Nat.lt_of_lt_of_le (by cases e; exact hS.c4.lt) hc)), hg8.size⟩, loadQ (Blk.grownN h7 hg8 ne47.symm), trivial⟩, ?_⟩
    intro w9 hx9 hF9
    have s5 := storeQ (r := rh) ((Blk.grownN hS7.c5 hg8 ne45.symm).ext hx9) (Ext.trans' hx8 hx9) g5 rfl
    refine ⟨s5.1, fun w10 hs10 => ?_⟩
    obtain ⟨h105, hg10, hx10⟩ := s5.2 w10 hs10
    intro w11 hx11 _
    refine ⟨rl.v, loadQ ((Blk.grownN (h84.ext hx9) hg10 ne45).ext hx11), rh.v, loadQ (h105.ext hx11), ?_⟩
    have ql := ((((hS7.ql.far hg8 u4).ext hx9).far hg10 u5).ext hx11).less
    have qh := ((((hS7.qh.far hg8 u4).ext hx9).far hg10 u5).ext hx11).less
    have fl := hS7.fl
    have fh := hS7.fh
    have hKl : pK k i ≤ pK k l := pK_mono (by omega)
    rw [hix] at ql qh fl fh hKl
    exact ⟨Ext.trans' hx10 hx11, rl, rh, rfl, ⟨ql, fl.mono hKl⟩, qh, fh.mono hKl⟩
end Go.Proofs.Ytpgagepleffjlaa
/-
  A form that is being built: its rows side by side. Helpers; no statement of the program is proved here.
-/
set_option maxRecDepth 100000
set_option linter.unusedSimpArgs false
set_option linter.unusedVariables false
namespace Go.Proofs.Ytpgagepleffjlaa
open Go Go.Tw Go.RowKit
attribute [local irreducible] LoadAt StoreOk Stored rawVC

abbrev tRat : Nat := 33
abbrev tFrm : Nat := 39
abbrev tRats : Nat := 37
/-- What has been built of a form. -/
structure FS where
  lo : SlR
  hi : SlR
  cost : SlR
  b : SlR
  cols : SlR
  cs : List SlR
  cv : List SlR
  los : List RatR
  his : List RatR
  costs : List RatR
  bs : List RatR
  ts : List (List TmR)
def rq (rs : List RatR) : Ro := ⟨tRat, 4, rs.length, gcs rs⟩
def rt (ts : List TmR) : Ro := ⟨tT, 5, ts.length, tcs ts⟩
def rv (cs : List SlR) : Ro := ⟨tV, 1, cs.length, svs cs⟩
def FS.ss (s : FS) : List SlR := s.lo :: s.hi :: s.cost :: s.b :: s.cols :: s.cs
def FS.rs (s : FS) : List Ro := rq s.los :: rq s.his :: rq s.costs :: rq s.bs :: rv s.cv :: s.ts.map rt
def FS.form (s : FS) (m : Int) : FormR := ⟨m, s.cols, s.lo, s.hi, s.cost, s.b⟩
/-- Fractions say numbers. -/
structure Vals (HH : Hd) (w : World) (rs : List RatR) (qs : List Rat) : Prop where
  len : rs.length = qs.length
  at' : ∀ (j : Nat) r q, rs[j]? = some r → qs[j]? = some q → CanQ HH w r q
theorem Vals.map {HH HH' : Hd} {w w' : World} {rs : List RatR} {qs : List Rat} (h : Vals HH w rs qs) (f : ∀ {r q}, CanQ HH w r q → CanQ HH' w' r q) : Vals HH' w' rs qs := ⟨h.len, fun j r q h1 h2 => f (h.at' j r q h1 h2)⟩
theorem Vals.nil (HH : Hd) (w : World) : Vals HH w [] [] := ⟨rfl, fun j r q h => by simp at h⟩
theorem Vals.push {HH : Hd} {w : World} {rs : List RatR} {qs : List Rat} (h : Vals HH w rs qs) {r : RatR} {q : Rat} (hq : CanQ HH w r q) : Vals HH w (rs ++ [r]) (qs ++ [q]) := by
  have hl := h.len
  refine ⟨by simp [hl], fun j s p h1 h2 => ?_⟩
  rcases Nat.lt_or_ge j rs.length with hj | hj
  · rw [List.getElem?_append_left hj] at h1
    rw [List.getElem?_append_left (by omega)] at h2
    exact h.at' j s p h1 h2
  · rw [List.getElem?_append_right hj] at h1
    rw [List.getElem?_append_right (by omega), ← hl] at h2
    rcases Nat.eq_zero_or_pos (j - rs.length) with h0 | h0
    · rw [h0] at h1 h2
      cases h1; cases h2; exact hq
    · rw [List.getElem?_eq_none (by simp; omega)] at h1; cases h1
structure FI (k : Nat) (H : Hd) (base : Nat) (w : World) (s : FS) (L U C B : List Rat) (X : List VL) : Prop where
  hb : HB H w
  gd : Gd H base w s.ss s.rs
  no : ∀ c, H c → ∀ t ∈ s.ss, t.v.ownBlock ≠ some c
  vl : Vals (gH H s.ss) w s.los L
  vu : Vals (gH H s.ss) w s.his U
  vc : Vals (gH H s.ss) w s.costs C
  vb : Vals (gH H s.ss) w s.bs B
  xl : s.ts.length = X.length
  vx : ∀ (j : Nat) t z, s.ts[j]? = some t → X[j]? = some z → TsCan k (gH H s.ss) w t z
/-- What is kept while the rows grow and the form's cell is written. -/
structure KH (base : Nat) (H : Hd) (b5 : Nat) (w w' : World) : Prop where
  os : w'.os = w.os
  tape : w'.tape = w.tape
  output : w'.output = w.output
  blk : ∀ c, c < w.heap.size → (c < base ∨ H c) → c ≠ b5 → w'.heap[c]? = w.heap[c]?
  size : w.heap.size ≤ w'.heap.size
section
variable {k base b5 : Nat} {H H' : Hd} {w w' w'' : World} {s : FS} {L U C B : List Rat} {X : List VL}
theorem KH.rfl (w : World) : KH base H b5 w w := ⟨Eq.refl _, Eq.refl _, Eq.refl _, fun _ _ _ _ => Eq.refl _, Nat.le_refl _⟩
theorem KH.ofExt (x : Ext w w') : KH base H b5 w w' := ⟨x.os, x.tape, x.output, fun c hc _ _ => x.block c hc, x.size⟩
theorem KH.trans (h : KH base H b5 w w') (h' : KH base H b5 w' w'') : KH base H b5 w w'' := ⟨h'.os.trans h.os, h'.tape.trans h.tape, h'.output.trans h.output, fun c hc h1 h2 => by rw [h'.blk c (Nat.lt_of_lt_of_le hc h.size) h1 h2, h.blk c hc h1 h2], Nat.le_trans h.size h'.size⟩
theorem KH.mono (h : KH base H b5 w w') (hH : ∀ c, H' c → H c) : KH base H' b5 w w' := ⟨h.os, h.tape, h.output, fun c hc h1 h2 => h.blk c hc (h1.imp_right (hH c)) h2, h.size⟩
/-- .. also of what was made since. -/
theorem KH.monoN (h : KH base H b5 w w') (hH : ∀ c, H' c → H c ∨ w.heap.size ≤ c) : KH base H' b5 w w' := ⟨h.os, h.tape, h.output, fun c hc h1 h2 => h.blk c hc (h1.imp_right fun h' => (hH c h').elim id fun h' => absurd hc (Nat.not_lt.2 h')) h2, h.size⟩
theorem KH.at5 (hg : w.grownBy w' (some b5)) : KH base H b5 w w' := ⟨hg.os, hg.tape, hg.output, fun c hc _ h2 => hg.block c hc (fun e => h2 (Option.some.inj e)), hg.size⟩
theorem KH.ext {w0 : World} (hx : Ext w0 w) (hb : w0.heap.size ≤ base) (h5 : w0.heap.size ≤ b5) (h : KH base H b5 w w') : Ext w0 w' :=
  ⟨h.os.trans hx.os, h.tape.trans hx.tape, h.output.trans hx.output, Nat.le_trans hx.size h.size, fun c hc => by rw [h.blk c (Nat.lt_of_lt_of_le hc hx.size) (.inl (Nat.lt_of_lt_of_le hc hb)) (by omega)]; exact hx.block c hc⟩
theorem _root_.Go.Tw.Blk.kh {c t : Nat} {cs : List Value} (hb : Blk w c t cs) (h : KH base H b5 w w') (hc : c < base ∨ H c) (h5 : c ≠ b5) : Blk w' c t cs := by
  have := hb.lt
  unfold Blk at *
  rw [h.blk c this hc h5]; exact hb
theorem FI.ext (h : FI k H base w s L U C B X) (x : Ext w w') : FI k H base w' s L U C B X :=
  ⟨h.hb.ext x, h.gd.ext x, h.no, h.vl.map fun h => h.ext x, h.vu.map fun h => h.ext x, h.vc.map fun h => h.ext x, h.vb.map fun h => h.ext x, h.xl, fun j t z h1 h2 => (h.vx j t z h1 h2).map (Nat.le_refl _) fun h => h.ext x⟩
theorem gH_to (hH : ∀ b, H' b → H b ∨ w.heap.size ≤ b) : ∀ b, gH H' s.ss b → gH H s.ss b ∨ w.heap.size ≤ b := fun b hb => hb.elim (fun h => (hH b h).imp_left .inl) fun h => .inl (.inr h)
/-- More blocks, or fewer, that are kept apart. -/
theorem FI.to (h : FI k H base w s L U C B X) (hB : HB H' w') (hH : ∀ b, H' b → H b ∨ w.heap.size ≤ b) (x : Ext w w') : FI k H' base w' s L U C B X := by
  have f : ∀ {r q}, CanQ (gH H s.ss) w r q → CanQ (gH H' s.ss) w' r q := fun h => (h.to (gH_to hH)).ext x
  have hg : Gd H' base w s.ss s.rs := ⟨h.gd.len, h.gd.own, h.gd.apart⟩
  refine ⟨hB, hg.ext x, ?_, h.vl.map f, h.vu.map f, h.vc.map f, h.vb.map f, h.xl, fun j t z h1 h2 => (h.vx j t z h1 h2).map (Nat.le_refl _) f⟩
  intro c hc t ht e
  rcases hH c hc with h1 | h1
  · exact h.no c h1 t ht e
  · obtain ⟨i, hi, rfl⟩ := List.getElem_of_mem ht
    have := (h.gd.lt (List.getElem?_eq_getElem hi) e).2
    omega
theorem FI.hbs (h : FI k H base w s L U C B X) : HB (gH H s.ss) w := h.gd.hb h.hb
theorem no_set (h : FI k H base w s L U C B X) {i : Nat} {t s' : SlR} (hi : s.ss[i]? = some t) (hn : rowNew w t.v s'.v) : ∀ c, H c → ∀ u ∈ s.ss.set i s', u.v.ownBlock ≠ some c := by
  intro c hc u hu e
  rcases List.mem_or_eq_of_mem_set hu with hu | rfl
  · exact h.no c hc u hu e
  · rcases hn with hn | hn
    · exact h.no c hc t (List.mem_of_getElem? hi) (by rw [← hn]; exact e)
    · have := hn c e; have := h.hb c hc; omega
theorem KH.row (h : FI k H base w s L U C B X) {i : Nat} {t : SlR} (hi : s.ss[i]? = some t) (hg : w.grownBy w' t.v.ownBlock) : KH base H b5 w w' :=
  ⟨hg.os, hg.tape, hg.output, fun c hc h1 _ => hg.block c hc fun e => h1.elim (fun h2 => by have := (h.gd.lt hi e.symm).1; omega) (fun h2 => h.no c h2 t (List.mem_of_getElem? hi) e.symm), hg.size⟩
theorem slOf {e sz n : Nat} {v : Value} {xs : List Value} (h : w.ownsRow base e sz v n xs) : ∃ s' : SlR, v = s'.v := by
  rcases h.2 with ⟨rfl, _⟩ | ⟨g, cap, cur, rfl, _⟩
  · exact ⟨⟨none, 0, 0⟩, Eq.refl _⟩
  · exact ⟨⟨_, _, _⟩, Eq.refl _⟩
theorem hbGrow (h : HB H w) (hs : w.heap.size ≤ w'.heap.size) : HB H w' := fun b hb => Nat.lt_of_lt_of_le (h b hb) hs
theorem FI.pushLo (h : FI k H base w s L U C B X) {v' : Value} {r : RatR} {q : Rat} (ho : w'.ownsRow base tRat 4 v' (s.los.length + 1) (gcs s.los ++ rcs r)) (hg : w.grownBy w' s.lo.v.ownBlock) (hn : rowNew w s.lo.v v') (hq : CanQ (gH H s.ss) w r q) :
    ∃ s' : SlR, v' = s'.v ∧ FI k H base w' { s with lo := s', los := s.los ++ [r] } (L ++ [q]) U C B X := by
  obtain ⟨s', rfl⟩ := slOf ho
  have hi : s.ss[0]? = some s.lo := Eq.refl _
  have f : ∀ {r q}, CanQ (gH H s.ss) w r q → CanQ (gH H (s.ss.set 0 s')) w' r q := fun h => canQ_set hi hg hn h
  have ho' : w'.ownsRow base (rq (s.los ++ [r])).e (rq (s.los ++ [r])).sz s'.v (rq (s.los ++ [r])).n (rq (s.los ++ [r])).cs := by
    show w'.ownsRow base tRat 4 s'.v (s.los ++ [r]).length (gcs (s.los ++ [r]))
    rw [gcs_append, gcs_one, List.length_append]; exact ho
  exact ⟨s', Eq.refl _, ⟨hbGrow h.hb hg.size, h.gd.set hi ho' hg hn, no_set h hi hn, (h.vl.map f).push (f hq), h.vu.map f, h.vc.map f, h.vb.map f, h.xl, fun j t z h1 h2 => (h.vx j t z h1 h2).map (Nat.le_refl _) f⟩⟩
theorem FI.pushHi (h : FI k H base w s L U C B X) {v' : Value} {r : RatR} {q : Rat} (ho : w'.ownsRow base tRat 4 v' (s.his.length + 1) (gcs s.his ++ rcs r)) (hg : w.grownBy w' s.hi.v.ownBlock) (hn : rowNew w s.hi.v v') (hq : CanQ (gH H s.ss) w r q) :
    ∃ s' : SlR, v' = s'.v ∧ FI k H base w' { s with hi := s', his := s.his ++ [r] } L (U ++ [q]) C B X := by
  obtain ⟨s', rfl⟩ := slOf ho
  have hi : s.ss[1]? = some s.hi := Eq.refl _
  have f : ∀ {r q}, CanQ (gH H s.ss) w r q → CanQ (gH H (s.ss.set 1 s')) w' r q := fun h => canQ_set hi hg hn h
  have ho' : w'.ownsRow base (rq (s.his ++ [r])).e (rq (s.his ++ [r])).sz s'.v (rq (s.his ++ [r])).n (rq (s.his ++ [r])).cs := by
    show w'.ownsRow base tRat 4 s'.v (s.his ++ [r]).length (gcs (s.his ++ [r]))
    rw [gcs_append, gcs_one, List.length_append]; exact ho
  exact ⟨s', Eq.refl _, ⟨hbGrow h.hb hg.size, h.gd.set hi ho' hg hn, no_set h hi hn, h.vl.map f, (h.vu.map f).push (f hq), h.vc.map f, h.vb.map f, h.xl, fun j t z h1 h2 => (h.vx j t z h1 h2).map (Nat.le_refl _) f⟩⟩
theorem FI.pushCost (h : FI k H base w s L U C B X) {v' : Value} {r : RatR} {q : Rat} (ho : w'.ownsRow base tRat 4 v' (s.costs.length + 1) (gcs s.costs ++ rcs r)) (hg : w.grownBy w' s.cost.v.ownBlock) (hn : rowNew w s.cost.v v') (hq : CanQ (gH H s.ss) w r q) :
    ∃ s' : SlR, v' = s'.v ∧ FI k H base w' { s with cost := s', costs := s.costs ++ [r] } L U (C ++ [q]) B X := by
  obtain ⟨s', rfl⟩ := slOf ho
  have hi : s.ss[2]? = some s.cost := Eq.refl _
  have f : ∀ {r q}, CanQ (gH H s.ss) w r q → CanQ (gH H (s.ss.set 2 s')) w' r q := fun h => canQ_set hi hg hn h
  have ho' : w'.ownsRow base (rq (s.costs ++ [r])).e (rq (s.costs ++ [r])).sz s'.v (rq (s.costs ++ [r])).n (rq (s.costs ++ [r])).cs := by
    show w'.ownsRow base tRat 4 s'.v (s.costs ++ [r]).length (gcs (s.costs ++ [r]))
    rw [gcs_append, gcs_one, List.length_append]; exact ho
  exact ⟨s', Eq.refl _, ⟨hbGrow h.hb hg.size, h.gd.set hi ho' hg hn, no_set h hi hn, h.vl.map f, h.vu.map f, (h.vc.map f).push (f hq), h.vb.map f, h.xl, fun j t z h1 h2 => (h.vx j t z h1 h2).map (Nat.le_refl _) f⟩⟩
theorem FI.pushB (h : FI k H base w s L U C B X) {v' : Value} {r : RatR} {q : Rat} (ho : w'.ownsRow base tRat 4 v' (s.bs.length + 1) (gcs s.bs ++ rcs r)) (hg : w.grownBy w' s.b.v.ownBlock) (hn : rowNew w s.b.v v') (hq : CanQ (gH H s.ss) w r q) :
    ∃ s' : SlR, v' = s'.v ∧ FI k H base w' { s with b := s', bs := s.bs ++ [r] } L U C (B ++ [q]) X := by
  obtain ⟨s', rfl⟩ := slOf ho
  have hi : s.ss[3]? = some s.b := Eq.refl _
  have f : ∀ {r q}, CanQ (gH H s.ss) w r q → CanQ (gH H (s.ss.set 3 s')) w' r q := fun h => canQ_set hi hg hn h
  have ho' : w'.ownsRow base (rq (s.bs ++ [r])).e (rq (s.bs ++ [r])).sz s'.v (rq (s.bs ++ [r])).n (rq (s.bs ++ [r])).cs := by
    show w'.ownsRow base tRat 4 s'.v (s.bs ++ [r]).length (gcs (s.bs ++ [r]))
    rw [gcs_append, gcs_one, List.length_append]; exact ho
  exact ⟨s', Eq.refl _, ⟨hbGrow h.hb hg.size, h.gd.set hi ho' hg hn, no_set h hi hn, h.vl.map f, h.vu.map f, h.vc.map f, (h.vb.map f).push (f hq), h.xl, fun j t z h1 h2 => (h.vx j t z h1 h2).map (Nat.le_refl _) f⟩⟩
/-- A cell that the rows keep away from is written. -/
theorem FI.at' {c : Nat} (h : FI k H base w s L U C B X) (hg : w.grownBy w' (some c)) (hc : H c) : FI k H base w' s L U C B X := by
  have f : ∀ {r q}, CanQ (gH H s.ss) w r q → CanQ (gH H s.ss) w' r q := fun h => h.grow hg (fun b e => by cases e; exact .inl hc)
  refine ⟨hbGrow h.hb hg.size, ⟨h.gd.len, fun i t r h1 h2 => (h.gd.own i t r h1 h2).kept hg ?_, h.gd.apart⟩, h.no, h.vl.map f, h.vu.map f, h.vc.map f, h.vb.map f, h.xl, fun j t z h1 h2 => (h.vx j t z h1 h2).map (Nat.le_refl _) f⟩
  have := h.no c hc t (List.mem_of_getElem? h1)
  cases hv : t.v.ownBlock with
  | none => exact .inl (Eq.refl _)
  | some b => exact .inr fun e => this (by rw [hv]; exact e)
/-- What a row's growing keeps. -/
theorem FI.blk {c t : Nat} {cs : List Value} (h : FI k H base w s L U C B X) {i : Nat} {u : SlR} (hi : s.ss[i]? = some u) (hg : w.grownBy w' u.v.ownBlock) (hb : Blk w c t cs) (hc : c < base ∨ H c) : Blk w' c t cs :=
  Blk.kh (b5 := w.heap.size) hb (KH.row h hi hg) hc (Nat.ne_of_lt hb.lt)
/-- What was made behind a world that has the row is kept. -/
theorem FI.new {w0 : World} (h0 : Gd H base w0 s.ss s.rs) {i : Nat} {u : SlR} (hi : s.ss[i]? = some u) (hg : w.grownBy w' u.v.ownBlock) : KeptNew w0 w w' :=
  ⟨fun c h1 h2 => hg.block c h2 (fun e => by have := (h0.lt hi e.symm).2; omega), hg.size⟩
/-- A slice stored in the form's cell. -/
theorem storeF {b : Nat} {f : FormR} {i : Nat} {v : SlR} (hb : Blk w b tFrm f.cs) (hi : i + 1 < 6) :
    StoreOk tt w tRats ⟨b, i + 1, none⟩ v.v ∧ ∀ w', Stored w w' ⟨b, i + 1, none⟩ v.v.cells.toList → Blk w' b tFrm (f.cs.set (i + 1) v.v) ∧ w.grownBy w' (some b) := by
  refine ⟨storeOk (Eq.refl _) (Eq.refl _) hb (by show i + 1 + 1 ≤ 6; omega), fun w' hs => ⟨?_, (Stored.grown hs).1⟩⟩
  have := Stored.blk hs hb
  rw [show v.v.cells.toList = [v.v] from Eq.refl _, splice_one] at this
  exact this
/-- A term more in a column. -/
theorem FI.pushTerm (h : FI k H base w s L U C B X) {p : Nat} {u : SlR} {ts0 : List TmR} {z : VL} (hu : s.cs[p]? = some u) (ht : s.ts[p]? = some ts0) (hz : X[p]? = some z) {v' : Value} {tm : TmR} {q : Int × Rat}
    (ho : w'.ownsRow base tT 5 v' (ts0.length + 1) (tcs ts0 ++ tm.cs)) (hg : w.grownBy w' u.v.ownBlock) (hn : rowNew w u.v v') (hat : tm.at' = q.1) (hq : CanQ (gH H s.ss) w tm.x q.2) (hf : FitQ k q.2) :
    ∃ s' : SlR, v' = s'.v ∧ FI k H base w' { s with cs := s.cs.set p s', ts := s.ts.set p (ts0 ++ [tm]) } L U C B (X.set p (z ++ [q])) := by
  obtain ⟨s', rfl⟩ := slOf ho
  have hi : s.ss[p + 5]? = some u := hu
  have f : ∀ {r q}, CanQ (gH H s.ss) w r q → CanQ (gH H (s.ss.set (p + 5) s')) w' r q := fun h => canQ_set hi hg hn h
  have ho' : w'.ownsRow base (rt (ts0 ++ [tm])).e (rt (ts0 ++ [tm])).sz s'.v (rt (ts0 ++ [tm])).n (rt (ts0 ++ [tm])).cs := by
    show w'.ownsRow base tT 5 s'.v (ts0 ++ [tm]).length (tcs (ts0 ++ [tm]))
    rw [tcs_append, tcs_one, List.length_append]; exact ho
  have hgd := h.gd.set hi ho' hg hn
  have e : s.rs.set (p + 5) (rt (ts0 ++ [tm])) = (FS.rs { s with cs := s.cs.set p s', ts := s.ts.set p (ts0 ++ [tm]) }) := by
    show rq s.los :: rq s.his :: rq s.costs :: rq s.bs :: rv s.cv :: (s.ts.map rt).set p (rt (ts0 ++ [tm])) = rq s.los :: rq s.his :: rq s.costs :: rq s.bs :: rv s.cv :: (s.ts.set p (ts0 ++ [tm])).map rt
    rw [List.map_set]
  rw [e] at hgd
  refine ⟨s', Eq.refl _, ⟨hbGrow h.hb hg.size, hgd, no_set h hi hn, h.vl.map f, h.vu.map f, h.vc.map f, h.vb.map f, ?_, ?_⟩⟩
  · show (s.ts.set p (ts0 ++ [tm])).length = (X.set p (z ++ [q])).length
    rw [List.length_set, List.length_set]; exact h.xl
  · intro j t y h1 h2
    have h1 : (s.ts.set p (ts0 ++ [tm]))[j]? = some t := h1
    have hpt : p < s.ts.length := (List.getElem?_eq_some_iff.1 ht).1
    have hpx : p < X.length := (List.getElem?_eq_some_iff.1 hz).1
    by_cases hj : p = j
    · subst hj
      rw [List.getElem?_set_self hpt] at h1
      rw [List.getElem?_set_self hpx] at h2
      cases h1; cases h2
      exact ((h.vx p _ _ ht hz).map (Nat.le_refl _) f).snoc hat (f hq) hf
    · rw [List.getElem?_set_ne hj] at h1 h2
      exact (h.vx j t y h1 h2).map (Nat.le_refl _) f
/-- A column more, not in the matrix yet. -/
theorem FI.newCol (h : FI k H base w s L U C B X) {u : SlR} {tm : TmR} {q : Int × Rat} (ho : w'.ownsRow base tT 5 u.v 1 (tcs [tm])) (hx : Ext w w') (hn : ∀ c, u.v.ownBlock = some c → w.heap.size ≤ c) (hat : tm.at' = q.1) (hq : CanQ (gH H (s.ss ++ [u])) w' tm.x q.2) (hf : FitQ k q.2) :
    FI k H base w' { s with cs := s.cs ++ [u], ts := s.ts ++ [[tm]] } L U C B (X ++ [[q]]) := by
  have f : ∀ {r q}, CanQ (gH H s.ss) w r q → CanQ (gH H (s.ss ++ [u])) w' r q := fun h => (h.to (gH_push hn)).ext hx
  have hgd := h.gd.push (r := rt [tm]) ho hx hn
  have e : s.rs ++ [rt [tm]] = (FS.rs { s with cs := s.cs ++ [u], ts := s.ts ++ [[tm]] }) := by
    show rq s.los :: rq s.his :: rq s.costs :: rq s.bs :: rv s.cv :: (s.ts.map rt ++ [rt [tm]]) = rq s.los :: rq s.his :: rq s.costs :: rq s.bs :: rv s.cv :: (s.ts ++ [[tm]]).map rt
    rw [List.map_append]; rfl
  rw [e] at hgd
  have hl := h.xl
  refine ⟨h.hb.ext hx, hgd, ?_, h.vl.map f, h.vu.map f, h.vc.map f, h.vb.map f, ?_, ?_⟩
  · intro c hc t ht e2
    have ht : t ∈ s.ss ++ [u] := ht
    rw [List.mem_append, List.mem_singleton] at ht
    rcases ht with ht | ht
    · exact h.no c hc t ht e2
    · subst ht
      have := hn c e2; have := h.hb c hc; omega
  · show (s.ts ++ [[tm]]).length = (X ++ [[q]]).length
    simp [hl]
  · intro j t y h1 h2
    have h1 : (s.ts ++ [[tm]])[j]? = some t := h1
    rcases Nat.lt_or_ge j s.ts.length with hj | hj
    · rw [List.getElem?_append_left hj] at h1
      rw [List.getElem?_append_left (by omega)] at h2
      exact (h.vx j t y h1 h2).map (Nat.le_refl _) f
    · rw [List.getElem?_append_right hj] at h1
      rw [List.getElem?_append_right (by omega), ← hl] at h2
      rcases Nat.eq_zero_or_pos (j - s.ts.length) with h0 | h0
      · rw [h0] at h1 h2
        cases h1; cases h2
        exact .cons hat hq hf .nil
      · rw [List.getElem?_eq_none (by simp; omega)] at h1; cases h1
/-- .. and put into the matrix. -/
theorem FI.pushCv (h : FI k H base w s L U C B X) {v' : Value} {u : SlR} (ho : w'.ownsRow base tV 1 v' (s.cv.length + 1) (svs s.cv ++ [u.v])) (hg : w.grownBy w' s.cols.v.ownBlock) (hn : rowNew w s.cols.v v') :
    ∃ s' : SlR, v' = s'.v ∧ FI k H base w' { s with cols := s', cv := s.cv ++ [u] } L U C B X := by
  obtain ⟨s', rfl⟩ := slOf ho
  have hi : s.ss[4]? = some s.cols := Eq.refl _
  have f : ∀ {r q}, CanQ (gH H s.ss) w r q → CanQ (gH H (s.ss.set 4 s')) w' r q := fun h => canQ_set hi hg hn h
  have ho' : w'.ownsRow base (rv (s.cv ++ [u])).e (rv (s.cv ++ [u])).sz s'.v (rv (s.cv ++ [u])).n (rv (s.cv ++ [u])).cs := by
    show w'.ownsRow base tV 1 s'.v (s.cv ++ [u]).length (svs (s.cv ++ [u]))
    rw [svs_append, List.length_append]; exact ho
  exact ⟨s', Eq.refl _, ⟨hbGrow h.hb hg.size, h.gd.set hi ho' hg hn, no_set h hi hn, h.vl.map f, h.vu.map f, h.vc.map f, h.vb.map f, h.xl, fun j t z h1 h2 => (h.vx j t z h1 h2).map (Nat.le_refl _) f⟩⟩
/-- A column written in the matrix. -/
theorem FI.setCv (h : FI k H base w s L U C B X) {p : Nat} (hp : p < s.cv.length) (v : SlR) :
    StoreOk tt w tV (addrAt s.cols.a (p * 1)) v.v ∧ ∀ w', Stored w w' (addrAt s.cols.a (p * 1)) v.v.cells.toList → w.grownBy w' s.cols.v.ownBlock ∧ FI k H base w' { s with cv := s.cv.set p v } L U C B X := by
  have ho : w.ownsRow base tV 1 s.cols.v s.cv.length (svs s.cv) := h.gd.own 4 _ _ (Eq.refl _) (Eq.refl _)
  obtain ⟨g, cap, R, e, hb, hB, hnc, hcm, hl, hl2⟩ := owns_blk1 ho (Nat.lt_of_le_of_lt (Nat.zero_le _) hp)
  have e' : s.cols = ⟨some ⟨g, 0, none⟩, s.cv.length, cap⟩ := SlR.inj e
  have hp' : p < (svs s.cv).length := by rw [hl]; exact hp
  have hob : s.cols.v.ownBlock = some g := by rw [e]; rfl
  have ea : s.cols.a = some ⟨g, 0, none⟩ := by rw [e']
  rw [ea]
  refine ⟨storeOne (Eq.refl _) (Eq.refl _) hB hp', fun w' hs => ?_⟩
  obtain ⟨hB', hg⟩ := storedOne hs (Eq.refl _) (Eq.refl _) hB hp'
  have hg2 : w.grownBy w' s.cols.v.ownBlock := by rw [hob]; exact hg
  refine ⟨hg2, ?_⟩
  have hi : s.ss[4]? = some s.cols := Eq.refl _
  have hn : rowNew w s.cols.v s.cols.v := .inl (Eq.refl _)
  have f : ∀ {r q}, CanQ (gH H s.ss) w r q → CanQ (gH H (s.ss.set 4 s.cols)) w' r q := fun h => canQ_set hi hg2 hn h
  have ho' : w'.ownsRow base (rv (s.cv.set p v)).e (rv (s.cv.set p v)).sz s.cols.v (rv (s.cv.set p v)).n (rv (s.cv.set p v)).cs := by
    show w'.ownsRow base tV 1 s.cols.v (s.cv.set p v).length (svs (s.cv.set p v))
    rw [e, List.length_set, ← svs_set]
    exact owns_of_blk1 hB' hb (by rw [List.length_set]; exact hl) hnc hcm (by rw [List.length_append, List.length_set, ← List.length_append]; exact hl2)
  exact ⟨hbGrow h.hb hg.size, h.gd.set hi ho' hg2 hn, no_set h hi hn, h.vl.map f, h.vu.map f, h.vc.map f, h.vb.map f, h.xl, fun j t z h1 h2 => (h.vx j t z h1 h2).map (Nat.le_refl _) f⟩
theorem FI.getCv (h : FI k H base w s L U C B X) : s.cols.n = s.cv.length ∧ Ones w s.cols.a s.cv.length (svs s.cv) := by
  obtain ⟨a, c, e, ho, _⟩ := owns_ones (h.gd.own 4 s.cols (rv s.cv) (Eq.refl _) (Eq.refl _))
  have e' : s.cols = ⟨a, s.cv.length, c⟩ := SlR.inj e
  have ea : s.cols.a = a := by rw [e']
  rw [ea]
  exact ⟨by rw [e'], ho⟩
end
end Go.Proofs.Ytpgagepleffjlaa
/-
  Contracts of the layer program: one more variable of a form. Helpers; no statement of the program is proved here.
-/
set_option maxRecDepth 100000
set_option linter.unusedSimpArgs false
set_option linter.unusedVariables false
namespace Go.Proofs.Ytpgagepleffjlaa
open Go Go.Tw Go.RowKit
attribute [local irreducible] LoadAt StoreOk Stored rawVC

section
variable {k K base fb : Nat} {H : Hd} {w : World} {s : FS} {L U C B : List Rat} {X : List VL}
theorem Side_ok {m : Int} {rl rh rc : RatR} {ql qh qc : Rat} (hF : FI k H base w s L U C B X) (hB : Blk w fb tFrm (s.form m).cs) (hf : H fb) (hbase : base ≤ w.heap.size)
    (hl : InQ K (gH H s.ss) w rl ql) (hh : InQ K (gH H s.ss) w rh qh) (hc : CanQ (gH H s.ss) w rc qc) (hn : s.los.length < 1048576 ∧ s.his.length < 1048576 ∧ s.costs.length < 1048576) :
    CallS Try.prog 48 #[rl.v, rh.v, rc.v, .pointer (some ⟨fb, 0, none⟩)] w fun v w' => v = .tuple #[] ∧ KH base H fb w w' ∧
      ∃ s' : FS, Blk w' fb tFrm (s'.form m).cs ∧ FI k H base w' s' (L ++ [ql]) (U ++ [qh]) (C ++ [qc]) B X ∧ (s'.b = s.b ∧ s'.bs = s.bs) ∧ (s'.cols = s.cols ∧ s'.cs = s.cs ∧ s'.cv = s.cv ∧ s'.ts = s.ts) := by
  obtain ⟨hn1, hn2, hn3⟩ := hn
  refine enter ttOk mixed (args := [rl.v, rh.v, rc.v, .pointer (some ⟨fb, 0, none⟩)]) Try.func48 rfl (by kernel_rfl) (by kernel_rfl) rfl ?_
  intro b4 w1 hb4 b5 w2 hb5 b6 w3 hb6
  have x1 := hb4.ext
  have x2 := hb5.extFrom x1
  have x3 := hb6.extFrom x2
  have hB4 : Blk w3 b4 tRat (rcs rl) := hb4.toBlk.ext (Ext.trans' hb5.ext hb6.ext)
  have hB5 : Blk w3 b5 tRat (rcs rh) := hb5.toBlk.ext hb6.ext
  have hB6 : Blk w3 b6 tRat (rcs rc) := hb6.toBlk
  have hF3 : FI k (upH H w w3) base w3 s L U C B X := hF.to (hF.hb.up x3) upTo x3
  have hB3 := hB.ext x3
  have u5 : upH H w w3 b5 := hb5.inUp x1 hb6.ext
  have u6 : upH H w w3 b6 := hb6.inUp x2 (Ext.rfl w3)
  have uf : upH H w w3 fb := .inl hf
  have toU : ∀ b, gH (upH H w w3) s.ss b → gH H s.ss b ∨ w.heap.size ≤ b := gH_to upTo
  have hl3 := (hl.to toU).ext x3
  have hh3 := (hh.to toU).ext x3
  have hc3 := (hc.to toU).ext x3
  have i0 : s.ss[0]? = some s.lo := rfl
  have i1 : s.ss[1]? = some s.hi := rfl
  have i2 : s.ss[2]? = some s.cost := rfl
  refine ⟨[(0, false), (1, false), (2, false), (6, false), (7, true), (8, true), (12, false), (13, true), (14, true), (3, false), (4, false), (5, true), (9, false), (10, false), (11, true), (15, false), (16, true), (17, false), (18, false), (19, false), (20, false), (21, false), (22, false)], by kernel_rfl, ?_⟩
  refine ⟨s.lo.v, hB3.one (off := 2) rfl rfl, rl.v, loadQ hB4, s.hi.v, fun w' hw _ => (hB3.ext hw).one (off := 3) rfl rfl, rh.v, fun w' hw _ => loadQ (hB5.ext hw), s.cost.v, fun w' hw _ => (hB3.ext hw).one (off := 4) rfl rfl, rc.v, fun w' hw _ => loadQ (hB6.ext hw), ?_⟩
  refine dcallR (mk := RatR.v) (Q := fun r' w' => CanQ (gH (upH H w w3) s.ss) w' r' ql) RatR.inj (fun _ => CanQ.stable) (fun w' hw hF => Norm_ok (HB.ext hF3.hbs hw) (hl3.ext hw).is) ?_
  intro r1
  intro b11 _
  intro w7 hx7 hF7
  have hF7' := hF3.ext hx7
  have hB11 : Blk w7 b11 tRat (rcs r1) := hF7.1.1
  refine ⟨rfl, base, s.los.length, gcs s.los, rcs r1, ⟨hF7'.gd.own 0 _ _ rfl rfl, rfl, ?_, ?_, fun _ => ⟨_, rfl, rfl⟩, by omega, by show (s.los.length + 1) * 64 ≤ _; omega, Nat.le_trans hbase (Nat.le_trans x3.size hx7.size)⟩, ?_⟩
  · intro q v hq
    exact hB11.cell (i := 0 + q) (v := v) (by rw [Nat.zero_add]; exact hq)
  · exact Enc.one r1
  intro v8 w8 ho8 hg8 hn8
  obtain ⟨lo', rfl, hF8⟩ := hF7'.pushLo ho8 hg8 hn8 hF7.2.1
  have k38 : KeptNew w3 w7 w8 := FI.new hF3.gd i0 hg8
  have hB8 := hF7'.blk i0 hg8 (hB3.ext hx7) (.inr uf)
  have hB58 := hF7'.blk i0 hg8 (hB5.ext hx7) (.inr u5)
  have hB68 := hF7'.blk i0 hg8 (hB6.ext hx7) (.inr u6)
  refine ⟨⟨k38, ⟨?_, hF7.1.2⟩, hF7.2.1.grow hg8 (fun b e => .inr ⟨s.lo, List.mem_of_getElem? i0, e⟩), loadQ hB68, hB8.one (off := 4) rfl rfl, loadQ hB58, hB8.one (off := 3) rfl rfl, trivial⟩, ?_⟩
  · show w8.heap[b11]? = _
    rw [k38.blk b11 hF7.1.2 hB11.lt]; exact hF7.1.1
  have hh8 := inQ_set i0 hg8 hn8 (hh3.ext hx7)
  refine dcallR (mk := RatR.v) (Q := fun r' w' => CanQ (gH (upH H w w3) (s.ss.set 0 lo')) w' r' qh) RatR.inj (fun _ => CanQ.stable) (fun w' hw hF => Norm_ok (HB.ext hF8.hbs hw) (hh8.ext hw).is) ?_
  intro r2
  intro b17 _
  intro w9 hx9 hF9
  have hF9' := hF8.ext hx9
  have hB17 : Blk w9 b17 tRat (rcs r2) := hF9.1.1
  have hB11' : Blk w9 b11 tRat (rcs r1) := hF9.2.2.1.1
  refine ⟨rfl, base, s.his.length, gcs s.his, rcs r2, ⟨hF9'.gd.own 1 _ _ rfl rfl, rfl, ?_, ?_, fun _ => ⟨_, rfl, rfl⟩, by omega, by show (s.his.length + 1) * 64 ≤ _; omega, Nat.le_trans hbase (Nat.le_trans (Nat.le_trans x3.size hx7.size) (Nat.le_trans hg8.size hx9.size))⟩, ?_⟩
  · intro q v hq
    exact hB17.cell (i := 0 + q) (v := v) (by rw [Nat.zero_add]; exact hq)
  · exact Enc.one r2
  intro v10 w10 ho10 hg10 hn10
  obtain ⟨hi', rfl, hF10⟩ := hF9'.pushHi ho10 hg10 hn10 hF9.2.1
  have k10 : KeptNew w3 w9 w10 := FI.new hF3.gd i1 hg10
  have j1 : (s.ss.set 0 lo')[1]? = some s.hi := rfl
  have hB10 := hF9'.blk j1 hg10 (hB8.ext hx9) (.inr uf)
  have hB510 := hF9'.blk j1 hg10 (hB58.ext hx9) (.inr u5)
  have hB610 := hF9'.blk j1 hg10 (hB68.ext hx9) (.inr u6)
  have g1 : ∀ b, s.hi.v.ownBlock = some b → gH (upH H w w3) s.ss b := fun b e => .inr ⟨s.hi, List.mem_of_getElem? i1, e⟩
  have g1' : ∀ b, s.hi.v.ownBlock = some b → gH (upH H w w3) (s.ss.set 0 lo') b := fun b e => .inr ⟨s.hi, List.mem_of_getElem? j1, e⟩
  refine ⟨⟨k10, ⟨?_, hF9.1.2⟩, hF9.2.1.grow hg10 g1', ⟨?_, hF9.2.2.1.2⟩, hF9.2.2.2.1.grow hg10 g1, loadQ hB610, hB10.one (off := 4) rfl rfl, loadQ hB510, hB10.one (off := 3) rfl rfl, trivial⟩, ?_⟩
  · show w10.heap[b17]? = _
    rw [k10.blk b17 hF9.1.2 hB17.lt]; exact hF9.1.1
  · show w10.heap[b11]? = _
    rw [k10.blk b11 hF9.2.2.1.2 hB11'.lt]; exact hF9.2.2.1.1
  intro b22 _
  intro w11 hx11 hF11
  have hF11' := hF10.ext hx11
  have hB22 : Blk w11 b22 tRat (rcs rc) := hF11.1.1
  have hB17' : Blk w11 b17 tRat (rcs r2) := hF11.2.1.1
  have hB11'' : Blk w11 b11 tRat (rcs r1) := hF11.2.2.2.1.1
  have hc11 := (canQ_set j1 hg10 hn10 ((canQ_set i0 hg8 hn8 (hc3.ext hx7)).ext hx9)).ext hx11
  have hsz : base ≤ w11.heap.size := Nat.le_trans hbase (Nat.le_trans (Nat.le_trans x3.size hx7.size) (Nat.le_trans (Nat.le_trans hg8.size hx9.size) (Nat.le_trans hg10.size hx11.size)))
  refine ⟨rfl, base, s.costs.length, gcs s.costs, rcs rc, ⟨hF11'.gd.own 2 _ _ rfl rfl, rfl, ?_, ?_, fun _ => ⟨_, rfl, rfl⟩, by omega, by show (s.costs.length + 1) * 64 ≤ _; omega, hsz⟩, ?_⟩
  · intro q v hq
    exact hB22.cell (i := 0 + q) (v := v) (by rw [Nat.zero_add]; exact hq)
  · exact Enc.one rc
  intro v12 w12 ho12 hg12 hn12
  obtain ⟨cost', rfl, hF12⟩ := hF11'.pushCost ho12 hg12 hn12 hc11
  have k12 : KeptNew w3 w11 w12 := FI.new hF3.gd i2 hg12
  have j2 : ((s.ss.set 0 lo').set 1 hi')[2]? = some s.cost := rfl
  have hB12 := hF11'.blk j2 hg12 (hB10.ext hx11) (.inr uf)
  have hB512 := hF11'.blk j2 hg12 (hB510.ext hx11) (.inr u5)
  have hB612 := hF11'.blk j2 hg12 (hB610.ext hx11) (.inr u6)
  refine ⟨⟨k12, ⟨?_, hF11.1.2⟩, ⟨?_, hF11.2.1.2⟩, hF11.2.2.1.grow hg12 (fun b e => .inr ⟨s.cost, List.mem_of_getElem? (i := 2) rfl, e⟩), ⟨?_, hF11.2.2.2.1.2⟩, hF11.2.2.2.2.1.grow hg12 (fun b e => .inr ⟨s.cost, List.mem_of_getElem? i2, e⟩), loadQ hB612, hB12.one (off := 4) rfl rfl, loadQ hB512, hB12.one (off := 3) rfl rfl, trivial⟩, ?_⟩
  · show w12.heap[b22]? = _
    rw [k12.blk b22 hF11.1.2 hB22.lt]; exact hF11.1.1
  · show w12.heap[b17]? = _
    rw [k12.blk b17 hF11.2.1.2 hB17'.lt]; exact hF11.2.1.1
  · show w12.heap[b11]? = _
    rw [k12.blk b11 hF11.2.2.2.1.2 hB11''.lt]; exact hF11.2.2.2.1.1
  intro w13 hx13 _
  have s1 := storeF (i := 1) (v := lo') (hB12.ext hx13) (by decide)
  refine ⟨s1.1, fun w14 hs14 => ?_⟩
  obtain ⟨hB14, hg14⟩ := s1.2 w14 hs14
  intro w15 hx15 _
  have s2 := storeF (f := ⟨m, s.cols, lo', s.hi, s.cost, s.b⟩) (i := 2) (v := hi') (hB14.ext hx15) (by decide)
  refine ⟨s2.1, fun w16 hs16 => ?_⟩
  obtain ⟨hB16, hg16⟩ := s2.2 w16 hs16
  intro w17 hx17 _
  have s3 := storeF (f := ⟨m, s.cols, lo', hi', s.cost, s.b⟩) (i := 3) (v := cost') (hB16.ext hx17) (by decide)
  refine ⟨s3.1, fun w18 hs18 => ?_⟩
  obtain ⟨hB18, hg18⟩ := s3.2 w18 hs18
  intro w19 hx19 _
  have hE := ((((((hF12.ext hx13).at' hg14 uf).ext hx15).at' hg16 uf).ext hx17).at' hg18 uf).ext hx19
  have hs19 : w.heap.size ≤ w19.heap.size := by
    have a1 := x3.size; have a2 := hx7.size; have a3 := hg8.size; have a4 := hx9.size; have a5 := hg10.size; have a6 := hx11.size; have a7 := hg12.size; have a8 := hx13.size
    have a9 := hg14.size; have c1 := hx15.size; have c2 := hg16.size; have c3 := hx17.size; have c4 := hg18.size; have c5 := hx19.size
    omega
  have kh3 : KH base (upH H w w3) fb w3 w19 :=
    (KH.ofExt hx7).trans <| (KH.row hF7' i0 hg8).trans <| (KH.ofExt hx9).trans <| (KH.row hF9' j1 hg10).trans <| (KH.ofExt hx11).trans <| (KH.row hF11' j2 hg12).trans <| (KH.ofExt hx13).trans <| (KH.at5 hg14).trans <| (KH.ofExt hx15).trans <| (KH.at5 hg16).trans <| (KH.ofExt hx17).trans <| (KH.at5 hg18).trans (KH.ofExt hx19)
  refine ⟨rfl, (KH.ofExt x3).trans (kh3.mono fun c hc => .inl hc), _, ?_, hE.to (hbGrow hF.hb hs19) (fun b hb => .inl (.inl hb)) (Ext.rfl w19), ⟨rfl, rfl⟩, rfl, rfl, rfl, rfl⟩
  exact hB18.ext hx19
end
end Go.Proofs.Ytpgagepleffjlaa
