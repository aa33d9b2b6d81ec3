/-
  Contracts of the layer sparse: something else at a place, second part. Helpers; no statement of the program is proved here.
-/
import Derived.Test.YtlfdobjdlgebbaaK8
import Derived.ProofKit
import Derived.Deep.Slices
import Derived.Deep.Fields
import Derived.ReadAgain
import Derived.MapKept
set_option maxRecDepth 100000
set_option linter.unusedSimpArgs false
set_option linter.unusedVariables false
namespace Go.Proofs.Ytlfdobjdlgebbaa
open Go Go.Tw Go.RowKit
attribute [local irreducible] LoadAt StoreOk Stored rawVC

def keepF (p : Int) (t : TmR) : Bool := !decide (t.at' = p)
structure DelI (ts vs : List TmR) (p : Int) (i j : Nat) : Prop where
  len : vs.length = ts.length
  ij : i < j
  jn : j ≤ ts.length
  pre : vs.take i = (ts.take j).filter (keepF p)
  post : vs.drop j = ts.drop j
theorem filter_all {ts : List TmR} {p : Int} (h : ∀ t ∈ ts, t.at' ≠ p) : ts.filter (keepF p) = ts := by
  rw [List.filter_eq_self]
  intro t ht
  simp [keepF, h t ht]
theorem take_succD {ts : List TmR} {j : Nat} (h : j < ts.length) : ts.take (j + 1) = ts.take j ++ [ts.getD j default] := by
  rw [List.take_succ_eq_append_getElem h, List.getD_eq_getElem?_getD, List.getElem?_eq_getElem h]; rfl
theorem DelI.first {ts : List TmR} {p : Int} {i : Nat} (hi : i < ts.length) (h1 : ky ts i = p) (h2 : ∀ j, j < i → ky ts j ≠ p) : DelI ts ts p i (i + 1) := by
  refine ⟨rfl, Nat.lt_succ_self i, hi, ?_, rfl⟩
  rw [take_succD hi, List.filter_append, filter_all]
  · have : keepF p (ts.getD i default) = false := by
      have h1 : (ts.getD i default).at' = p := h1
      simp only [keepF, h1, decide_true, Bool.not_true]
    simp only [List.filter_cons, this, List.filter_nil, Bool.false_eq_true, if_false, List.append_nil]
  · intro t ht
    obtain ⟨j, hj, rfl⟩ := List.getElem_of_mem ht
    rw [List.length_take] at hj
    have := h2 j (by omega)
    unfold ky at this
    rw [List.getD_eq_getElem?_getD, List.getElem?_eq_getElem (by omega)] at this
    rw [List.getElem_take]; exact this
theorem DelI.at {ts vs : List TmR} {p : Int} {i j : Nat} (h : DelI ts vs p i j) (hj : j < ts.length) : vs.getD j default = ts.getD j default := by
  have h1 := congrArg (fun l => l[0]?) h.post
  simp only [List.getElem?_drop, Nat.add_zero] at h1
  rw [List.getD_eq_getElem?_getD, List.getD_eq_getElem?_getD, h1]
theorem DelI.drop1 {ts vs : List TmR} {p : Int} {i j : Nat} (h : DelI ts vs p i j) : vs.drop (j + 1) = ts.drop (j + 1) := by
  have := congrArg (List.drop 1) h.post
  rw [List.drop_drop, List.drop_drop] at this
  exact this
theorem DelI.skip {ts vs : List TmR} {p : Int} {i j : Nat} (h : DelI ts vs p i j) (hj : j < ts.length) (hm : (ts.getD j default).at' = p) : DelI ts vs p i (j + 1) := by
  refine ⟨h.len, Nat.lt_succ_of_lt h.ij, hj, ?_, h.drop1⟩
  have : keepF p (ts.getD j default) = false := by simp only [keepF, hm, decide_true, Bool.not_true]
  rw [take_succD hj, List.filter_append, ← h.pre]
  simp only [List.filter_cons, this, List.filter_nil, Bool.false_eq_true, if_false, List.append_nil]
theorem DelI.keep {ts vs : List TmR} {p : Int} {i j : Nat} (h : DelI ts vs p i j) (hj : j < ts.length) (hm : ¬ (ts.getD j default).at' = p) : DelI ts (vs.set i (ts.getD j default)) p (i + 1) (j + 1) := by
  have hl := h.len
  have hij := h.ij
  refine ⟨by rw [List.length_set]; exact hl, Nat.succ_lt_succ hij, hj, ?_, ?_⟩
  · have : keepF p (ts.getD j default) = true := by simp only [keepF, hm, decide_false, Bool.not_false]
    have hs : i < (vs.set i (ts.getD j default)).length := by rw [List.length_set]; omega
    rw [take_succD hj, List.filter_append, ← h.pre, take_succD hs]
    congr 1
    · apply List.ext_getElem?
      intro q
      rw [List.getElem?_take, List.getElem?_take]
      split
      · rw [List.getElem?_set_ne (by omega)]
      · rfl
    · simp only [List.filter_cons, this, List.filter_nil, if_true]
      rw [List.getD_eq_getElem?_getD, List.getElem?_set_self (by omega)]; rfl
  · rw [← h.drop1]
    apply List.ext_getElem?
    intro q
    rw [List.getElem?_drop, List.getElem?_drop, List.getElem?_set_ne (by omega)]
theorem Wr.fresh {a b c : World} {i j : Nat} (h : a.grownBy b (some i)) (k : b.grownBy c (some j)) (hj : a.heap.size ≤ j) : a.grownBy c (some i) :=
  ⟨k.os.trans h.os, k.tape.trans h.tape, k.output.trans h.output, Nat.le_trans h.size k.size, fun q hq hn => (k.block q (Nat.lt_of_lt_of_le hq h.size) (fun e => by have := Option.some.inj e; omega)).trans (h.block q hq hn)⟩
/-- Of none. -/
theorem DelNil_ok {w : World} {a : Option Addr} {c b : Nat} {p : Int} (hb : Blk w b 3 [.int .i64 p]) :
    CallS Try.prog 85 #[.slice a 0 c, pV b] w fun v w' => Ext w w' ∧ v = .slice a 0 c := by
  refine enter ttOk mixed (args := [.slice a 0 c, pV b]) Try.func85 rfl (by kernel_rfl) (by kernel_rfl) rfl ?_
  refine CallS.mono (IndexF_ok (Tms.nil w a) hb (Nat.zero_le _)) ?_
  rintro _ w2 ⟨hx2, z, rfl, hz⟩
  rcases hz with ⟨rfl, _⟩ | ⟨i, _, hi, _⟩
  · refine And.intro (fun h => ?_) (fun h => ?_)
    · exact ⟨hx2, rfl⟩
    · exact absurd rfl h
  · exact absurd hi (Nat.not_lt_zero i)
theorem Del_ok {w : World} {g n cap b : Nat} {p : Int} {ts : List TmR} {R : List Value} (hB : Blk w g tT (tcs ts ++ R)) (hn : ts.length = n) (hn0 : 0 < n) (hcap : n ≤ cap) (hlen : (tcs ts ++ R).length = cap * 5) (hb : Blk w b 3 [.int .i64 p]) (hbg : b ≠ g) (hn40 : n ≤ 1099511627776) :
    CallS Try.prog 85 #[.slice (some ⟨g, 0, none⟩) n cap, pV b] w fun v w' => w.grownBy w' (some g) ∧ ∃ (m : Nat) (R' : List Value), v = .slice (some ⟨g, 0, none⟩) m cap ∧ m ≤ cap ∧ (ts.filter (keepF p)).length = m ∧ Blk w' g tT (tcs (ts.filter (keepF p)) ++ R') ∧ (tcs (ts.filter (keepF p)) ++ R').length = cap * 5 := by
  have hT := Tms.blk hB
  rw [hn] at hT
  have hgl := hB.lt
  have hbl := hb.lt
  refine enter ttOk mixed (args := [.slice (some ⟨g, 0, none⟩) n cap, pV b]) Try.func85 rfl (by kernel_rfl) (by kernel_rfl) rfl ?_
  refine CallS.mono (IndexF_ok hT hb hn40) ?_
  rintro _ w2 ⟨hx2, z, rfl, hz⟩
  rcases hz with ⟨rfl, hall⟩ | ⟨i0, rfl, hi0, hk1, hk2⟩
  · refine And.intro (fun h => ?_) (fun h => ?_)
    · rw [filter_all hall]
      exact ⟨Wr.ext (Wr.refl _ _) hx2, n, R, rfl, hcap, hn, hB.ext hx2, hlen⟩
    · exact absurd rfl h
  · refine And.intro (fun h => ?_) (fun h => ?_)
    · exfalso; omega
    have hF := DelI.first hi0 hk1 hk2
    refine ⟨((i0 + 1 : Nat) : Int), sucI i0 (by omega), ?_⟩
    refine ⟨Nat × Nat × List TmR, fun x => [(0, .slice (some ⟨g, 0, none⟩) n cap), (1, pV b), (5, .int .i64 (x.1 : Int)), (6, .int .i64 (x.2.1 : Int))],
      fun x w' => w.grownBy w' (some g) ∧ Blk w' g tT (tcs x.2.2 ++ R) ∧ Blk w' b 3 [.int .i64 p] ∧ DelI ts x.2.2 p x.1 x.2.1, fun x _ => n - x.2.1,
      ⟨(i0, i0 + 1, ts), ⟨rfl, rfl, rfl, rfl, trivial⟩, Wr.ext (Wr.refl _ _) hx2, hB.ext hx2, hb.ext hx2, hF⟩, ?_⟩
    clear hF hk1 hk2 hi0 hx2
    rintro ⟨i, j, vs⟩ w3 ⟨hg3, hB3, hb3, hI⟩
    dsimp only at *
    have hvl : vs.length = n := by rw [hI.len, hn]
    have hij := hI.ij
    refine And.intro (fun h1 => ?_) (fun h1 => ?_)
    · have hjn := ltTo h1
      have hjt : j < ts.length := by omega
      have hT3 := Tms.blk hB3
      rw [hvl] at hT3
      have hat := hI.at hjt
      generalize htj : ts.getD j default = t at *
      have hld := hT3.load (ty := tT) (T := tt) (sz := 5) (getD_some (show j < vs.length by omega)) rfl rfl
      rw [hat] at hld
      refine ⟨j, ⟨rfl, hjn, ⟨_, rfl, rfl⟩⟩, t.v, hld, ?_⟩
      intro b7 w4 hb7
      have hst := fun w' => storeTmB (w' := w') (t := t) hb7.toBlk rfl
      refine ⟨(hst w4).1, fun w5 hs5 => ?_⟩
      have h5 := (hst w5).2 hs5
      have n7 := hb7.isNew
      have s3 := hg3.size
      have hg5 := Wr.fresh (Wr.ext hg3 hb7.ext) h5.2 (by omega)
      have hB5 := Blk.grownN (hB3.ext hb7.ext) h5.2 (by omega)
      have hb5 := Blk.grownN (hb3.ext hb7.ext) h5.2 (by omega)
      have l7 : LoadAt tt w5 tT ⟨b7, 0, none⟩ t.v := h5.1.agg (sub := t.cs) rfl rfl
      refine ⟨t.v, l7, ?_⟩
      refine CallS.mono (PutC_ok t hb5) ?_
      rintro _ w6 ⟨hx6, rfl⟩
      have hjs := sucI j (by omega)
      by_cases hc : t.at' = p
      · rw [decide_eq_true hc]
        exact ⟨((j + 1 : Nat) : Int), hjs, (i, j + 1, vs), ⟨rfl, rfl, rfl, rfl, trivial⟩, ⟨Wr.ext hg5 hx6, hB5.ext hx6, hb5.ext hx6, hI.skip hjt (by rw [htj]; exact hc)⟩, Nat.sub_lt_sub_left hjn (Nat.lt_succ_self j)⟩
      · rw [decide_eq_false hc]
        have hiv : i < vs.length := by omega
        refine ⟨t.v, l7.ext hx6, i, ⟨rfl, by omega, ⟨_, rfl, rfl⟩⟩, storeTm rfl rfl (hB5.ext hx6) hiv, ?_⟩
        intro w7 hs7
        have hS := storedTm hs7 rfl (hB5.ext hx6) hiv
        have hkp := hI.keep hjt (by rw [htj]; exact hc)
        rw [htj] at hkp
        exact ⟨((i + 1 : Nat) : Int), sucI i (by omega), ((j + 1 : Nat) : Int), hjs, (i + 1, j + 1, vs.set i t), ⟨rfl, rfl, rfl, rfl, trivial⟩, ⟨Wr.trans (Wr.ext hg5 hx6) hS.2, hS.1, Blk.grownN (hb5.ext hx6) hS.2 hbg, hkp⟩, Nat.sub_lt_sub_left hjn (Nat.lt_succ_self j)⟩
    · have e9 : j = ts.length := Nat.le_antisymm hI.jn (by have := geTo h1; omega)
      have hpre := hI.pre
      rw [e9, List.take_of_length_le (Nat.le_refl _)] at hpre
      have hin : i < n := by omega
      have hcapi : ¬ cap = i := by omega
      refine ⟨i, n, ⟨rfl, rfl, Nat.le_of_lt hin, hcap⟩, ?_⟩
      have hsub : subA (some ⟨g, 0, none⟩) cap i 5 = some ⟨g, i * 5, none⟩ := by
        unfold subA; rw [if_neg hcapi]; simp only [Option.map_some, Addr.add, Nat.zero_add]; split <;> simp_all
      have hlr : (tcs vs ++ R).length = cap * 5 := by
        rw [List.length_append, tcs_length] at hlen ⊢
        rw [hI.len]; exact hlen
      refine raw_clear ttOk rfl rfl rfl rfl rfl rfl rfl (fun h => by exfalso; omega) (fun _ => ⟨⟨g, i * 5, none⟩, hsub, fun q hq => ?_, fun w4 hs4 => ?_⟩)
      · have hq : q < (n - i) * 5 := hq
        rw [Addr.add_lit]
        exact ⟨⟨_, hB3.cell (List.getElem?_eq_getElem (by omega))⟩, hB3.free _⟩
      · have hB4 := Stored.blk hs4 hB3
        have hg4 := (Stored.grown hs4).1
        have e1 : tcs vs ++ R = tcs (vs.take i) ++ (tcs (vs.drop i) ++ R) := by
          rw [← List.append_assoc, ← tcs_append, List.take_append_drop]
        have e2 : (tcs (vs.take i)).length = i * 5 := by rw [tcs_length, List.length_take]; congr 1; omega
        have e3 : splice (tcs vs ++ R) (i * 5) (rep (n - i) (tyAt tt tT).zero) = tcs (vs.take i) ++ splice (tcs (vs.drop i) ++ R) 0 (rep (n - i) (tyAt tt tT).zero) := by
          rw [e1]
          have := splice_append (tcs (vs.take i)) (tcs (vs.drop i) ++ R) (rep (n - i) (tyAt tt tT).zero) 0
          rw [e2, Nat.add_zero] at this
          exact this
        have hB4 : Blk w4 g tT (splice (tcs vs ++ R) (i * 5) (rep (n - i) (tyAt tt tT).zero)) := hB4
        have hlen4 := splice_length (tcs vs ++ R) (i * 5) (rep (n - i) (tyAt tt tT).zero)
        rw [e3] at hB4 hlen4
        rw [hpre] at hB4 hlen4 e2
        refine ⟨0, i, ⟨rfl, rfl, Nat.zero_le _, by omega⟩, ?_⟩
        refine ⟨Wr.trans hg3 hg4, i, _, ?_, by omega, ?_, hB4, by rw [hlen4]; exact hlr⟩
        · show Value.slice (subA (some ⟨g, 0, none⟩) cap 0 5) (i - 0) (cap - 0) = _
          rw [subA_zero]; rfl
        · rw [← hpre, List.length_take]; omega
end Go.Proofs.Ytlfdobjdlgebbaa
/-
  Contracts of the layer sparse: something else at a place, the whole. Helpers; no statement of the program is proved here.
-/
set_option maxRecDepth 100000
set_option linter.unusedSimpArgs false
set_option linter.unusedVariables false
namespace Go.Proofs.Ytlfdobjdlgebbaa
open Go Go.Tw Go.RowKit
attribute [local irreducible] LoadAt StoreOk Stored rawVC

theorem owns_ext {w w' : World} {base e sz n : Nat} {v : Value} {xs : List Value} (h1 : w.ownsRow base e sz v n xs) (x : Ext w w') : w'.ownsRow base e sz v n xs := by
  obtain ⟨hl, h⟩ := h1
  refine ⟨hl, ?_⟩
  rcases h with h | ⟨g, cap, cur, he, hg, hb, h⟩
  · exact .inl h
  · refine .inr ⟨g, cap, cur, he, hg, ?_, h⟩
    have hlt : g < w.heap.size := by
      rcases Nat.lt_or_ge g w.heap.size with h' | h'
      · exact h'
      · rw [Array.getElem?_eq_none h'] at hb; cases hb
    rw [x.block g hlt]; exact hb
theorem owns_in {w : World} {base e sz n : Nat} {v : Value} {xs : List Value} (h1 : w.ownsRow base e sz v n xs) {b : Nat} (hb : v.ownBlock = some b) : base ≤ b ∧ b < w.heap.size := by
  rcases h1.2 with ⟨he, _⟩ | ⟨g, cap, cur, he, hg, hb', h⟩
  · rw [he] at hb; cases hb
  · rw [he] at hb
    simp only [Value.ownBlock, Option.some.injEq] at hb
    subst hb
    refine ⟨hg, ?_⟩
    rcases Nat.lt_or_ge g w.heap.size with h' | h'
    · exact h'
    · rw [Array.getElem?_eq_none h'] at hb'; cases hb'
theorem DelOwn_ok {w : World} {base n b : Nat} {v : Value} {p : Int} {ts : List TmR} (ho : w.ownsRow base tT 5 v n (tcs ts)) (hb : Blk w b 3 [.int .i64 p]) (hbg : b < base) (hn40 : n ≤ 1099511627776) :
    CallS Try.prog 85 #[v, pV b] w fun v' w' => w.grownBy w' v.ownBlock ∧ v'.ownBlock = v.ownBlock ∧ ∃ m, m = (ts.filter (keepF p)).length ∧ w'.ownsRow base tT 5 v' m (tcs (ts.filter (keepF p))) := by
  rcases Nat.eq_zero_or_pos n with h0 | h0
  · subst h0
    have hts : ts = [] := by
      have := ho.1
      rw [tcs_length] at this
      exact List.eq_nil_of_length_eq_zero (by omega)
    subst hts
    obtain ⟨a, c, rfl, hc⟩ := owns_zero5 ho
    refine CallS.mono (DelNil_ok hb) ?_
    rintro _ w2 ⟨hx2, rfl⟩
    exact ⟨⟨hx2.os, hx2.tape, hx2.output, hx2.size, fun i hi _ => hx2.block i hi⟩, rfl, 0, rfl, owns_ext ho hx2⟩
  · obtain ⟨g, cap, R, rfl, hge, hB, hnc, hcm, htl, hlen⟩ := owns_cap ho h0
    refine CallS.mono (Del_ok hB htl h0 hnc hlen hb (by omega) hn40) ?_
    rintro _ w2 ⟨hg2, m, R', rfl, hmc, hfl, hB', hl'⟩
    exact ⟨hg2, rfl, m, hfl.symm, owns_of_blk hB' hge hfl hmc hcm hl'⟩
def putV (xs : VL) (p : Int) (q : Rat) : VL := xs.filter (fun t => !decide (t.1 = p)) ++ [(p, q)]
theorem Put_ok {k : Nat} {H : Hd} {w : World} {r : SlR} {x : RatR} {xs : VL} {p : Int} {q : Rat} (hH : HB H w) (hx : InV k H w r xs) (hq : InQ k H w x q) (hk : k ≤ 1073741824) (hn : (putV xs p q).length ≤ 21) (hxl : xs.length ≤ 65536) :
    CallS Try.prog 31 #[r.v, .int .i64 p, x.v] w fun v w' => Ext w w' ∧ ∃ s : SlR, v = s.v ∧ CanV (nK k) H w' s (nrm (putV xs p q)) := by
  have hrn := hx.len
  obtain ⟨⟨ts, hT, hI⟩, hnc, hcm, hav⟩ := hx
  refine enter ttOk mixed (args := [r.v, .int .i64 p, x.v]) Try.func31 rfl (by kernel_rfl) (by kernel_rfl) rfl ?_
  intro b4 w1 hb4 b5 w2 hb5
  have hx2 : Ext w w2 := hb5.extFrom hb4.ext
  refine CallS.mono (cloneV_own (hT.ext hx2) (by omega)) ?_
  rintro v3 w3 ⟨hx3, ho3⟩
  have hP3 : Blk w3 b4 3 [.int .i64 p] := (hb4.toBlk.ext hb5.ext).ext hx3
  have hX3 : Blk w3 b5 33 (rcs x) := hb5.toBlk.ext hx3
  have h4lt := hb4.lt
  have h5lt := hb5.lt
  have hs12 := hb5.ext.size
  have hs02 := hx2.size
  refine CallS.mono (DelOwn_ok ho3 hP3 (by omega) (by omega)) ?_
  rintro v4 w4 ⟨hg4, hob, m, hm, ho4⟩
  have hown : ∀ b, v3.ownBlock = some b → w2.heap.size ≤ b := fun b hb => (owns_in ho3 hb).1
  have hx4 : Ext w w4 := Ext.grown (Ext.trans' hx2 hx3) hg4 (fun b hb => Nat.le_trans hs02 (hown b hb))
  have hP4 : Blk w4 b4 3 [.int .i64 p] := Blk.grown hP3 hg4 (by intro e; have := hown b4 e.symm; omega)
  have hX4 : Blk w4 b5 33 (rcs x) := Blk.grown hX3 hg4 (by intro e; have := hown b5 e.symm; omega)
  refine ⟨_, hP4.one (off := 0) rfl rfl, x.v, loadQ hX4, ?_⟩
  intro b6 w5 hb6
  have hb6 : New w4 w5 b6 tT (tcs [⟨p, x⟩]) := hb6
  have hx45 := hb6.ext
  have hml : m ≤ 20 := by
    have h1 := (hI.filter p).length
    unfold putV at hn
    rw [List.length_append, List.length_singleton, ← h1] at hn
    have : (ts.filter (keepF p)).length = (ts.filter fun t => !decide (t.at' = p)).length := rfl
    omega
  refine ⟨rfl, w2.heap.size, m, tcs (ts.filter (keepF p)), tcs [⟨p, x⟩], ⟨owns_ext ho4 hx45, rfl, ?_, tcs_mem_one _, fun _ => ⟨_, rfl, rfl⟩, by omega, by show (m + 1) * 72 ≤ _; omega, by have := hx3.size; have := hg4.size; have := hx45.size; omega⟩, ?_⟩
  · intro j v hj
    have := hb6.toBlk.cell (i := 0 + j) (v := v) (by rw [Nat.zero_add]; exact hj)
    exact this
  intro v' w6 ho6 hg6 hn6
  have ho6 : w6.ownsRow w2.heap.size tT 5 v' (m + 1) (tcs (ts.filter (keepF p) ++ [⟨p, x⟩])) := by rw [tcs_append]; exact ho6
  have hown6 : ∀ b, v4.ownBlock = some b → w2.heap.size ≤ b := fun b hb => hown b (hob ▸ hb)
  have hx6 : Ext w w6 := Ext.grown (Ext.trans' hx4 hx45) hg6 (fun b hb => Nat.le_trans hs02 (hown6 b hb))
  have hto : ∀ b, (H b ∨ w2.heap.size ≤ b) → H b ∨ w.heap.size ≤ b := fun b hb => hb.imp_right fun h => Nat.le_trans hs02 h
  have up : ∀ {y : RatR} {z : Rat}, InQ k H w y z → InQ k H w6 y z := by
    intro y z h
    have h1 := ((h.to (H' := fun b => H b ∨ w2.heap.size ≤ b) hto).ext hx2).ext hx3
    have h2 := (h1.grow hg4 (fun b hb => .inr (hown b hb))).ext hx45
    exact (h2.grow hg6 (fun b hb => .inr (hown6 b hb))).to (fun b hb => .inl (.inl hb))
  have hv : ∃ s : SlR, v' = s.v ∧ s.n = m + 1 := by
    rcases ho6.2 with ⟨rfl, h0⟩ | ⟨g, cap, cur, rfl, _⟩
    · omega
    · exact ⟨⟨_, _, _⟩, rfl, rfl⟩
  obtain ⟨s, rfl, hs⟩ := hv
  obtain ⟨c1, c2, c3, c4⟩ := owns_tms ho6 hs
  have hin : InV k H w6 s (putV xs p q) := by
    refine ⟨⟨ts.filter (keepF p) ++ [⟨p, x⟩], c1, ?_⟩, c2, c3, fun h0 hb => ?_⟩
    · exact TsIn.append ((hI.filter p).map up) (.cons rfl (up hq) .nil)
    · have := hH _ hb
      have := c4 h0
      omega
  refine CallS.mono (VNorm_ok (HB.ext hH hx6) hin hk hn) ?_
  rintro _ w7 ⟨hx7, s', rfl, hs'⟩
  exact ⟨Ext.trans' hx6 hx7, s', rfl, hs'⟩
end Go.Proofs.Ytlfdobjdlgebbaa
/-
  Contracts of the watch's own helpers: whether words, whole numbers, fractions, vectors are the same. Helpers; no statement of the program is proved here.
-/
set_option maxRecDepth 100000
set_option linter.unusedSimpArgs false
set_option linter.unusedVariables false
namespace Go.Proofs.Ytlfdobjdlgebbaa
open Go Go.Tw Go.RowKit
attribute [local irreducible] LoadAt StoreOk Stored rawVC

theorem take_same {α : Type} {L M : List α} {i : Nat} (h : L.take i = M.take i) (h1 : L[i]? = M[i]?) : L.take (i + 1) = M.take (i + 1) := by
  rw [List.take_add_one, List.take_add_one, h, h1]
theorem SameWords_ok {w : World} {a b : Option Addr} {n c m d : Nat} {L M : List Nat} (hL : Words w a n L) (hM : Words w b m M) (hn : n ≤ 1099511627776) :
    CallS Try.prog 131 #[.slice a n c, .slice b m d] w fun v w' => Ext w w' ∧ v = .bool (decide (L = M)) := by
  have hl := hL.len
  have hm := hM.len
  refine enter ttOk mixed (args := [.slice a n c, .slice b m d]) Try.func131 rfl (by kernel_rfl) (by kernel_rfl) rfl ?_
  refine And.intro (fun h1 => ?_) (fun h1 => ?_)
  · have : ¬ L = M := fun h => h1 (by rw [← hl, ← hm, h])
    exact ⟨Ext.rfl w, by rw [decide_eq_false this]; rfl⟩
  · have hnm : n = m := by omega
    refine ⟨Nat, fun x => [(0, .slice a n c), (1, .slice b m d), (5, .int .i64 (x : Int))], fun x w' => Ext w w' ∧ x ≤ n ∧ L.take x = M.take x, fun x _ => n - x, ⟨0, ⟨rfl, rfl, rfl, trivial⟩, Ext.rfl w, Nat.zero_le _, rfl⟩, ?_⟩
    rintro i w1 ⟨hx1, hi, he⟩
    dsimp only at *
    refine And.intro (fun h2 => ?_) (fun h2 => ?_)
    · have hin := ltTo h2
      have gL := hL.getD hin
      have gM := hM.getD (j := i) (by omega)
      refine ⟨sq 9, by kernel_rfl, i, ⟨rfl, hin, hL.base (by omega)⟩, _, (hL.ext hx1).load rfl rfl gL, i, ⟨rfl, by omega, hM.base (by omega)⟩, _, (hM.ext hx1).load rfl rfl gM, fun h3 => ?_, fun h3 => ?_⟩
      · intro w2 hx2 _
        have : ¬ L = M := fun h => h3 (by rw [h])
        exact ⟨Ext.trans' hx1 hx2, by rw [decide_eq_false this]; rfl⟩
      · intro w2 hx2 _
        have e : L.getD i 0 = M.getD i 0 := by omega
        exact ⟨((i + 1 : Nat) : Int), sucI i (by omega), i + 1, ⟨rfl, rfl, rfl, trivial⟩, ⟨Ext.trans' hx1 hx2, hin, take_same he (by rw [gL, gM, e])⟩, Nat.sub_lt_sub_left hin (Nat.lt_succ_self i)⟩
    · have e : i = n := Nat.le_antisymm hi (geTo h2)
      have : L = M := by
        rw [List.take_of_length_le (by omega), List.take_of_length_le (by omega)] at he
        exact he
      exact ⟨hx1, by rw [decide_eq_true this]; rfl⟩
theorem canI_n40 {H : Hd} {w : World} {r : IntR} {z : Int} (h : CanI H w r z) {k : Nat} (hf : Fit k z) : r.n ≤ k := by
  rw [← h.words.len]; exact hf.len
theorem SameInt_ok {H : Hd} {w : World} {rx ry : IntR} {x y : Int} (hx : CanI H w rx x) (hy : CanI H w ry y) (hf : Fit 1099511627776 x) :
    CallS Try.prog 104 #[rx.v, ry.v] w fun v w' => Ext w w' ∧ v = .bool (decide (x = y)) := by
  have hxn := canI_n40 hx hf
  refine enter ttOk mixed (args := [rx.v, ry.v]) Try.func104 rfl (by kernel_rfl) (by kernel_rfl) rfl ?_
  intro b1 w1 hb1 b2 w2 hb2
  have hx2 : Ext w w2 := hb2.extFrom hb1.ext
  have hB1 : Blk w2 b1 31 [.bool rx.neg, .slice rx.a rx.n rx.c] := hb1.toBlk.ext hb2.ext
  have hB2 : Blk w2 b2 31 [.bool ry.neg, .slice ry.a ry.n ry.c] := hb2.toBlk
  refine ⟨_, hB1.one (off := 0) rfl rfl, _, hB2.one (off := 0) rfl rfl, ?_⟩
  refine And.intro (fun h1 => ?_) (fun h1 => ?_)
  · refine ⟨_, hB1.one (off := 1) rfl rfl, _, hB2.one (off := 1) rfl rfl, ?_⟩
    refine CallS.mono (SameWords_ok (hx.words.ext hx2) (hy.words.ext hx2) hxn) ?_
    rintro _ w3 ⟨hx3, rfl⟩
    refine ⟨Ext.trans' hx2 hx3, ?_⟩
    have : (dig x.natAbs = dig y.natAbs) ↔ x = y := by
      constructor
      · intro h
        have h4 := dig_inj h
        have h5 := hx.neg
        have h6 := hy.neg
        rw [h1, h6] at h5
        have h5 := decide_eq_decide.1 h5
        omega
      · intro h; rw [h]
    rw [decide_eq_decide.2 this]; rfl
  · have : ¬ x = y := fun h => h1 (by rw [hx.neg, hy.neg, h])
    exact ⟨hx2, by rw [decide_eq_false this]; rfl⟩
theorem SameRat_ok {H : Hd} {w : World} {rx ry : RatR} {x y : Rat} (hx : CanQ H w rx x) (hy : CanQ H w ry y) (hf : FitQ 1099511627776 x) :
    CallS Try.prog 73 #[rx.v, ry.v] w fun v w' => Ext w w' ∧ v = .bool (decide (x = y)) := by
  refine enter ttOk mixed (args := [rx.v, ry.v]) Try.func73 rfl (by kernel_rfl) (by kernel_rfl) rfl ?_
  intro b1 w1 hb1 b2 w2 hb2
  have hx2 : Ext w w2 := hb2.extFrom hb1.ext
  have hB1 : Blk w2 b1 33 (rcs rx) := hb1.toBlk.ext hb2.ext
  have hB2 : Blk w2 b2 33 (rcs ry) := hb2.toBlk
  refine ⟨rx.num.v, loadQn hB1, ry.num.v, loadQn hB2, ?_⟩
  refine CallS.mono (SameInt_ok (hx.num.ext hx2) (hy.num.ext hx2) hf.num) ?_
  rintro _ w3 ⟨hx3, rfl⟩
  have hden : denC x = denC y ↔ x.den = y.den := by
    have := x.den_nz
    have := y.den_nz
    unfold denC
    constructor
    · intro h
      split at h <;> split at h <;> omega
    · intro h; rw [h]
  by_cases h1 : x.num = y.num
  · rw [decide_eq_true h1]
    refine ⟨rx.den.v, (hB1.ext hx3).agg (sub := [.bool rx.den.neg, .slice rx.den.a rx.den.n rx.den.c]) rfl rfl, ry.den.v, (hB2.ext hx3).agg (sub := [.bool ry.den.neg, .slice ry.den.a ry.den.n ry.den.c]) rfl rfl, ?_⟩
    have hfd : Fit 1099511627776 (denC x) := by
      unfold denC
      split
      · exact Fit.zero _
      · exact hf.den
    refine CallS.mono (SameInt_ok ((hx.den.ext hx2).ext hx3) ((hy.den.ext hx2).ext hx3) hfd) ?_
    rintro _ w4 ⟨hx4, rfl⟩
    have : (denC x = denC y) ↔ x = y := by
      rw [hden]
      constructor
      · intro h; exact Rat.ext h1 h
      · intro h; rw [h]
    exact ⟨Ext.trans' (Ext.trans' hx2 hx3) hx4, by rw [decide_eq_decide.2 this]; rfl⟩
  · rw [decide_eq_false h1]
    have : ¬ x = y := fun h => h1 (by rw [h])
    exact ⟨Ext.trans' hx2 hx3, by rw [decide_eq_false this]; rfl⟩
end Go.Proofs.Ytlfdobjdlgebbaa
/-
  Contracts of the watch's own helpers: whether vectors are the same. Helpers; no statement of the program is proved here.
-/
set_option maxRecDepth 100000
set_option linter.unusedSimpArgs false
set_option linter.unusedVariables false
namespace Go.Proofs.Ytlfdobjdlgebbaa
open Go Go.Tw Go.RowKit
attribute [local irreducible] LoadAt StoreOk Stored rawVC

theorem tsCan_get {k : Nat} {H : Hd} {w : World} {ts : List TmR} {xs : VL} (h : TsCan k H w ts xs) {j : Nat} {p : Int × Rat} (hj : xs[j]? = some p) : ∃ t, ts[j]? = some t ∧ t.at' = p.1 ∧ CanQ H w t.x p.2 ∧ FitQ k p.2 := by
  induction h generalizing j with
  | nil => simp at hj
  | cons h1 h2 h3 _ ih =>
    cases j with
    | zero =>
      simp only [List.getElem?_cons_zero, Option.some.injEq] at hj ⊢
      subst hj
      exact ⟨_, rfl, h1, h2, h3⟩
    | succ j =>
      simp only [List.getElem?_cons_succ] at hj ⊢
      exact ih hj
theorem SameVec_ok {k k' : Nat} {H : Hd} {w : World} {rx ry : SlR} {xs ys : VL} (hx : CanV k H w rx xs) (hy : CanV k' H w ry ys) (hk : k ≤ 1099511627776) (hxl : xs.length ≤ 1099511627776) :
    CallS Try.prog 20 #[rx.v, ry.v] w fun v w' => Ext w w' ∧ v = .bool (decide (xs = ys)) := by
  have hl := hx.len
  have hm := hy.len
  obtain ⟨⟨ts, hT, hI⟩, hnc, hcm, hav⟩ := hx
  obtain ⟨⟨us, hU, hJ⟩, hnc', hcm', hav'⟩ := hy
  refine enter ttOk mixed (args := [rx.v, ry.v]) Try.func20 rfl (by kernel_rfl) (by kernel_rfl) rfl ?_
  refine And.intro (fun h1 => ?_) (fun h1 => ?_)
  · have : ¬ xs = ys := fun h => h1 (by rw [hl, hm, h])
    exact ⟨Ext.rfl w, by rw [decide_eq_false this]; rfl⟩
  · have hnm : rx.n = ry.n := by omega
    refine ⟨Nat, fun x => [(0, rx.v), (1, ry.v), (5, .int .i64 (x : Int))], fun x w' => Ext w w' ∧ x ≤ rx.n ∧ xs.take x = ys.take x, fun x _ => rx.n - x, ⟨0, ⟨rfl, rfl, rfl, trivial⟩, Ext.rfl w, Nat.zero_le _, rfl⟩, ?_⟩
    rintro i w1 ⟨hx1, hi, he⟩
    dsimp only at *
    refine And.intro (fun h2 => ?_) (fun h2 => ?_)
    · have hin := ltTo h2
      have hjn : i < ry.n := by omega
      have g1 := vget (ys := xs) (j := i) (by omega)
      have g2 := vget (ys := ys) (j := i) (by omega)
      refine (tsCan_get hI g1).elim fun t dt => ?_
      refine (tsCan_get hJ g2).elim fun u du => ?_
      have l1 := (hT.ext hx1).loadAt (T := tt) (ty := 3) (sz := 5) dt.1 rfl rfl
      have l2 := (hU.ext hx1).loadAt (T := tt) (ty := 3) (sz := 5) du.1 rfl rfl
      have x1 := (hT.ext hx1).loadX (T := tt) (ty := 33) (sz := 5) dt.1 rfl rfl
      have x2 := (hU.ext hx1).loadX (T := tt) (ty := 33) (sz := 5) du.1 rfl rfl
      refine ⟨sq 25, by kernel_rfl, i, ⟨rfl, hin, hT.base (by omega)⟩, _, l1, i, ⟨rfl, hjn, hU.base (by omega)⟩, _, l2, fun h3 => ?_, fun h3 => ?_⟩
      · intro w2 hx2 _
        have : ¬ xs = ys := fun h => h3 (by rw [dt.2.1, du.2.1, h])
        exact ⟨Ext.trans' hx1 hx2, by rw [decide_eq_false this]; rfl⟩
      · refine ⟨i, ⟨rfl, hin, hT.base (by omega)⟩, t.x.v, x1, i, ⟨rfl, hjn, hU.base (by omega)⟩, u.x.v, x2, ?_⟩
        have hc : ∀ w', Ext w1 w' → True → CallS Try.prog 73 #[t.x.v, u.x.v] w' fun v w'' => Ext w' w'' ∧ v = .bool (decide (xl xs i = xl ys i)) := fun w' hw _ => SameRat_ok ((dt.2.2.1.ext hx1).ext hw) ((du.2.2.1.ext hx1).ext hw) (dt.2.2.2.mono hk)
        by_cases h4 : xl xs i = xl ys i
        · rw [decide_eq_true h4] at hc
          refine dcallV (.bool true) hc ?_
          intro w2 hx2 _
          have e : xs[i]? = ys[i]? := by
            rw [g1, g2]
            have : pl xs i = pl ys i := by have := dt.2.1; have := du.2.1; omega
            rw [this, h4]
          exact ⟨((i + 1 : Nat) : Int), sucI i (by omega), i + 1, ⟨rfl, rfl, rfl, trivial⟩, ⟨Ext.trans' hx1 hx2, hin, take_same he e⟩, Nat.sub_lt_sub_left hin (Nat.lt_succ_self i)⟩
        · rw [decide_eq_false h4] at hc
          refine dcallV (.bool false) hc ?_
          intro w2 hx2 _
          have : ¬ xs = ys := fun h => h4 (by rw [h])
          exact ⟨Ext.trans' hx1 hx2, by rw [decide_eq_false this]; rfl⟩
    · have e : i = rx.n := Nat.le_antisymm hi (geTo h2)
      have : xs = ys := by
        rw [List.take_of_length_le (by omega), List.take_of_length_le (by omega)] at he
        exact he
      exact ⟨hx1, by rw [decide_eq_true this]; rfl⟩
end Go.Proofs.Ytlfdobjdlgebbaa
/-
  Contracts of the watch's own helpers: whether fractions and vectors are short. Helpers; no statement of the program is proved here.
-/
set_option maxRecDepth 100000
set_option linter.unusedSimpArgs false
set_option linter.unusedVariables false
namespace Go.Proofs.Ytlfdobjdlgebbaa
open Go Go.Tw Go.RowKit
attribute [local irreducible] LoadAt StoreOk Stored rawVC

def shQ (r : RatR) (m : Nat) : Prop := r.num.n ≤ m ∧ r.den.n ≤ m
instance (r : RatR) (m : Nat) : Decidable (shQ r m) := inferInstanceAs (Decidable (_ ∧ _))
theorem ShortRat_ok {w : World} (r : RatR) (m : Nat) :
    CallS Try.prog 18 #[r.v, .int .i64 (m : Int)] w fun v w' => Ext w w' ∧ v = .bool (decide (shQ r m)) := by
  refine enter ttOk mixed (args := [r.v, .int .i64 (m : Int)]) Try.func18 rfl (by kernel_rfl) (by kernel_rfl) rfl ?_
  intro b1 w1 hb1
  have hB : Blk w1 b1 33 (rcs r) := hb1.toBlk
  refine ⟨_, hB.one (off := 1) rfl rfl, ?_⟩
  refine And.intro (fun h1 => ?_) (fun h1 => ?_)
  · refine ⟨_, hB.one (off := 3) rfl rfl, ?_⟩
    refine And.intro (fun h2 => ?_) (fun h2 => ?_)
    · exact ⟨hb1.ext, by rw [decide_eq_true (show shQ r m from ⟨by omega, by omega⟩)]; rfl⟩
    · exact ⟨hb1.ext, by rw [decide_eq_false (show ¬ shQ r m from fun h => h2 (by have := h.2; omega))]; rfl⟩
  · exact ⟨hb1.ext, by rw [decide_eq_false (show ¬ shQ r m from fun h => h1 (by have := h.1; omega))]; rfl⟩
def shV (n : Nat) (ts : List TmR) (l m : Nat) : Prop := n ≤ l ∧ ∀ t ∈ ts, shQ t.x m
instance (n : Nat) (ts : List TmR) (l m : Nat) : Decidable (shV n ts l m) := inferInstanceAs (Decidable (_ ∧ _))
theorem ShortVec_ok {w : World} {a : Option Addr} {n c : Nat} {ts : List TmR} (hT : Tms w a n ts) (l m : Nat) (hl : l ≤ 1099511627776) :
    CallS Try.prog 17 #[.slice a n c, .int .i64 (l : Int), .int .i64 (m : Int)] w fun v w' => Ext w w' ∧ v = .bool (decide (shV n ts l m)) := by
  have hlen := hT.len
  refine enter ttOk mixed (args := [.slice a n c, .int .i64 (l : Int), .int .i64 (m : Int)]) Try.func17 rfl (by kernel_rfl) (by kernel_rfl) rfl ?_
  refine And.intro (fun h1 => ?_) (fun h1 => ?_)
  · exact ⟨Ext.rfl w, by rw [decide_eq_false (show ¬ shV n ts l m from fun h => by have := h.1; omega)]; rfl⟩
  · refine ⟨Nat, fun x => [(0, .slice a n c), (2, .int .i64 (m : Int)), (7, .int .i64 (x : Int))], fun x w' => Ext w w' ∧ x ≤ n ∧ ∀ t ∈ ts.take x, shQ t.x m, fun x _ => n - x, ⟨0, ⟨rfl, rfl, rfl, trivial⟩, Ext.rfl w, Nat.zero_le _, fun t h => by simp at h⟩, ?_⟩
    rintro i w1 ⟨hx1, hi, hs⟩
    dsimp only at *
    refine And.intro (fun h2 => ?_) (fun h2 => ?_)
    · have hin := ltTo h2
      have hg := getD_some (ts := ts) (j := i) (by omega)
      refine ⟨i, ⟨rfl, hin, hT.base (by omega)⟩, _, (hT.ext hx1).loadX (T := tt) (ty := 33) (sz := 5) hg rfl rfl, ?_⟩
      refine CallS.mono (ShortRat_ok _ m) ?_
      rintro _ w2 ⟨hx2, rfl⟩
      by_cases hc : shQ (ts.getD i default).x m
      · rw [decide_eq_true hc]
        refine ⟨((i + 1 : Nat) : Int), sucI i (by omega), i + 1, ⟨rfl, rfl, rfl, trivial⟩, ⟨Ext.trans' hx1 hx2, hin, fun t ht => ?_⟩, Nat.sub_lt_sub_left hin (Nat.lt_succ_self i)⟩
        rw [take_succD (by omega), List.mem_append] at ht
        rcases ht with ht | ht
        · exact hs t ht
        · rw [List.mem_singleton] at ht; rw [ht]; exact hc
      · rw [decide_eq_false hc]
        exact ⟨Ext.trans' hx1 hx2, by rw [decide_eq_false (show ¬ shV n ts l m from fun h => hc (h.2 _ (List.mem_of_getElem? hg)))]; rfl⟩
    · have e : i = n := Nat.le_antisymm hi (geTo h2)
      rw [List.take_of_length_le (by omega)] at hs
      exact ⟨hx1, by rw [decide_eq_true (show shV n ts l m from ⟨by omega, hs⟩)]; rfl⟩
/-! ### what comes in -/
structure OpQ (w : World) (r : RatR) : Prop where
  num : ∃ L, Words w r.num.a r.num.n L
  den : ∃ L, Words w r.den.a r.den.n L
  nc : r.num.n ≤ r.num.c
  cm : r.num.c ≤ 9223372036854775807
  nc' : r.den.n ≤ r.den.c
  cm' : r.den.c ≤ 9223372036854775807
structure OpV (w : World) (r : SlR) (ts : List TmR) : Prop where
  tms : Tms w r.a r.n ts
  all : ∀ t ∈ ts, OpQ w t.x
  nc : r.n ≤ r.c
  cm : r.c ≤ 9223372036854775807
def H0 : Hd := fun _ => False
theorem H0.hb (w : World) : HB H0 w := fun b h => h.elim
theorem H0.av (a : Option Addr) (n : Nat) : Av H0 a n := fun _ h => h.elim
theorem OpQ.inq {w : World} {r : RatR} (h : OpQ w r) {m : Nat} (hm : m ≤ 1099511627776) (hs : shQ r m) : ∃ q, InQ m H0 w r q := by
  obtain ⟨⟨L, hL⟩, ⟨M, hM⟩, h1, h2, h3, h4⟩ := h
  exact ⟨_, ⟨⟨_, _, ⟨⟨L, hL, rfl⟩, h1, h2, Nat.le_trans hs.1 hm, H0.av _ _⟩, ⟨⟨M, hM, rfl⟩, h3, h4, Nat.le_trans hs.2 hm, H0.av _ _⟩, rfl⟩, hs.1, hs.2⟩⟩
theorem OpV.inv {w : World} {r : SlR} {ts : List TmR} (h : OpV w r ts) {l m : Nat} (hm : m ≤ 1099511627776) (hs : shV r.n ts l m) : ∃ xs, InV m H0 w r xs ∧ xs.length ≤ l := by
  have : ∀ us : List TmR, (∀ t ∈ us, OpQ w t.x ∧ shQ t.x m) → ∃ xs, TsIn m H0 w us xs := by
    intro us
    induction us with
    | nil => exact fun _ => ⟨[], .nil⟩
    | cons t us ih =>
      intro hu
      obtain ⟨xs, hxs⟩ := ih fun t ht => hu t (by simp [ht])
      have h0 := hu t (by simp)
      obtain ⟨q, hq⟩ := h0.1.inq hm h0.2
      exact ⟨(t.at', q) :: xs, .cons rfl hq hxs⟩
  obtain ⟨xs, hxs⟩ := this ts fun t ht => ⟨h.all t ht, hs.2 t ht⟩
  have hv : InV m H0 w r xs := ⟨⟨ts, h.tms, hxs⟩, h.nc, h.cm, H0.av _ _⟩
  exact ⟨xs, hv, by have := hv.len; have := hs.1; omega⟩
end Go.Proofs.Ytlfdobjdlgebbaa
/-
  What comes in, opened: whole numbers, fractions, vectors. Helpers; no statement of the program is proved here.
-/
set_option maxRecDepth 100000
set_option linter.unusedSimpArgs false
set_option linter.unusedVariables false
namespace Go.Proofs.Ytlfdobjdlgebbaa
open Go Go.Tw Go.RowKit Go.ChangeShapes Go.WideShapes Go.Deep
theorem listOf {α : Type} [Inhabited α] (n : Nat) {P : Nat → α → Prop} (h : ∀ i, i < n → ∃ z, P i z) : ∃ L : List α, L.length = n ∧ ∀ i z, L[i]? = some z → P i z := by
  induction n with
  | zero => exact ⟨[], rfl, fun i z h => by simp at h⟩
  | succ n ih =>
    obtain ⟨L, h1, h2⟩ := ih fun i hi => h i (Nat.lt_succ_of_lt hi)
    obtain ⟨z, hz⟩ := h n (Nat.lt_succ_self n)
    refine ⟨L ++ [z], by simp [h1], fun i y hy => ?_⟩
    rcases Nat.lt_or_ge i n with hi | hi
    · rw [List.getElem?_append_left (by omega)] at hy
      exact h2 i y hy
    · rw [List.getElem?_append_right (by omega)] at hy
      have : i - L.length = 0 := by
        rcases Nat.eq_zero_or_pos (i - L.length) with h0 | h0
        · exact h0
        · rw [List.getElem?_eq_none (by simp; omega)] at hy; cases hy
      rw [this] at hy
      simp only [List.getElem?_cons_zero, Option.some.injEq] at hy
      subst hy
      have : i = n := by omega
      rw [this]; exact hz
theorem cells1 {w : World} {base : Nat} {a : Addr} {n : Nat} {cs : List Value} (h : w.cells? base a n = some cs) : cs.length = n ∧ ∀ j, j < n → w.cell? (a.add j) = cs[j]? := (World.cells?_some h).2
theorem add_add' (a : Addr) (i j : Nat) : (a.add i).add j = a.add (i + j) :=
  Go.Deep.add_add a i j
section
variable {H : Type} {enc : TypeId × Value → H} {w : World} {base : Nat} {sp : Nat → Bool} {held : Bool} {fuel : Nat} {cs : List Value} {x : DataW H × List MemPlace}
theorem opWords (h : DataW.trod enc Try.prog w base sp held fuel 29 cs = some x) : ∃ a n c L, cs = [.slice a n c] ∧ Words w a n L ∧ n ≤ c ∧ c ≤ 9223372036854775807 := by
  rcases open_slice (t := 29) (e := 88) rfl h with ⟨rfl, _⟩ | ⟨a, len, cap, m, n, D, Pl, rfl, hb, hl, hm, hmm, hx, hi⟩
  · exact ⟨none, 0, 0, [], rfl, Words.nil w, Nat.le_refl _, by omega⟩
  · have hlm : len ≤ m := by rw [hmm]; split <;> omega
    have hone : ∀ i, i < len → ∃ z : Nat, z < 18446744073709551616 ∧ w.cell? (a.add i) = some (.int .u64 (z : Int)) := by
      intro i hil
      obtain ⟨cs', hc, ht⟩ := hi i (by omega)
      obtain ⟨z, rfl, _, hw⟩ := DataW.trod_int (k := .u64) rfl ht
      have hb : 0 ≤ z ∧ z ≤ 18446744073709551615 := by
        simp [Lit.wf, IntKind.min, IntKind.max, IntKind.signed, IntKind.bits] at hw
        omega
      have hcc := (cells1 hc).2 0 (by decide)
      refine ⟨z.toNat, by omega, ?_⟩
      rw [Int.toNat_of_nonneg hb.1]
      have e : (a.add (i * Try.prog.cellsOf 88)).add 0 = a.add i := by
        have : Try.prog.cellsOf 88 = 1 := by kernel_rfl
        rw [this, Nat.mul_one, add_add', Nat.add_zero]
      rw [e] at hcc
      exact hcc
    obtain ⟨L, hL, hP⟩ := listOf len hone
    have hsp : 0 < len → a.spot = none := by
      intro h0
      obtain ⟨z, _, hz⟩ := hone 0 h0
      have := World.cell?_spot hz
      cases a; simpa [Addr.add] using this
    refine ⟨some a, len, cap, L, rfl, ⟨hL, fun h0 => ⟨a, rfl, hsp h0⟩, fun j z hz => ?_, fun z hz => ?_⟩, hl, by unfold maxLen at hm; exact hm⟩
    · have hj : j < len := by
        rcases Nat.lt_or_ge j len with h' | h'
        · exact h'
        · rw [List.getElem?_eq_none (by omega)] at hz; cases hz
      rw [← add_eq_addrAt (hsp (by omega)) j]
      exact (hP j z hz).2
    · obtain ⟨j, hj, rfl⟩ := List.getElem_of_mem hz
      exact (hP j _ (List.getElem?_eq_getElem hj)).1
theorem opInt (h : DataW.trod enc Try.prog w base sp held fuel 31 cs = some x) : ∃ r : IntR, cs = [.bool r.neg, .slice r.a r.n r.c] ∧ (∃ L, Words w r.a r.n L) ∧ r.n ≤ r.c ∧ r.c ≤ 9223372036854775807 := by
  obtain ⟨y0, y1, n, rfl, hl, h0, h1⟩ := trod_struct2 (t := 31) rfl h
  obtain ⟨b, hb, _⟩ := DataW.trod_bool rfl h0
  obtain ⟨a, m, c, L, hs, hw, h2, h3⟩ := opWords h1
  have hl : cs.length = 2 := hl.trans (by kernel_rfl)
  match cs, hl with
  | [c0, c1], _ =>
    have k0 : c0 = Value.bool b := (List.cons.inj (show [c0] = [Value.bool b] from hb)).1
    have k1 : c1 = Value.slice a m c := (List.cons.inj (show [c1] = [Value.slice a m c] from hs)).1
    rw [k0, k1]
    exact ⟨⟨b, a, m, c⟩, rfl, ⟨L, hw⟩, h2, h3⟩
theorem opRat (h : DataW.trod enc Try.prog w base sp held fuel 33 cs = some x) : ∃ r : RatR, cs = rcs r ∧ OpQ w r := by
  obtain ⟨y0, y1, n, rfl, hl, h0, h1⟩ := trod_struct2 (t := 33) rfl h
  obtain ⟨r0, e0, w0, a0, b0⟩ := opInt h0
  obtain ⟨r1, e1, w1, a1, b1⟩ := opInt h1
  have hl : cs.length = 4 := hl.trans (by kernel_rfl)
  match cs, hl with
  | [c0, c1, c2, c3], _ =>
    have k0 : [c0, c1] = [Value.bool r0.neg, Value.slice r0.a r0.n r0.c] := e0
    have k1 : [c2, c3] = [Value.bool r1.neg, Value.slice r1.a r1.n r1.c] := e1
    have k2 : [c0, c1, c2, c3] = [c0, c1] ++ [c2, c3] := rfl
    rw [k2, k0, k1]
    exact ⟨⟨r0, r1⟩, rfl, w0, w1, a0, b0, a1, b1⟩
theorem opTm (h : DataW.trod enc Try.prog w base sp held fuel 77 cs = some x) : ∃ t : TmR, cs = t.cs ∧ OpQ w t.x := by
  obtain ⟨y0, y1, n, rfl, hl, h0, h1⟩ := trod_struct2 (t := 77) rfl h
  obtain ⟨z, e0, _, _⟩ := DataW.trod_int (k := .i64) rfl h0
  obtain ⟨r1, e1, w1⟩ := opRat h1
  have hl : cs.length = 5 := hl.trans (by kernel_rfl)
  match cs, hl with
  | [c0, c1, c2, c3, c4], _ =>
    have k0 : c0 = Value.int .i64 z := (List.cons.inj (show [c0] = [Value.int .i64 z] from e0)).1
    have k1 : [c1, c2, c3, c4] = rcs r1 := e1
    rw [k0, k1]
    exact ⟨⟨z, r1⟩, rfl, w1⟩
theorem opVec {t : Nat} (ht : Try.prog.underlying t = some (.slice 77)) (h : DataW.trod enc Try.prog w base sp held fuel t cs = some x) : ∃ (r : SlR) (ts : List TmR), cs = [r.v] ∧ OpV w r ts := by
  rcases open_slice ht h with ⟨rfl, _⟩ | ⟨a, len, cap, m, n, D, Pl, rfl, hb, hl, hm, hmm, hx, hi⟩
  · exact ⟨⟨none, 0, 0⟩, [], rfl, Tms.nil w none, fun t h => by simp at h, Nat.le_refl _, by show 0 ≤ _; omega⟩
  · have hlm : len ≤ m := by rw [hmm]; split <;> omega
    have h5 : Try.prog.cellsOf 77 = 5 := by kernel_rfl
    have hone : ∀ i, i < len → ∃ t : TmR, OpQ w t.x ∧ ∀ j v, t.cs[j]? = some v → w.cell? (a.add (i * 5 + j)) = some v := by
      intro i hil
      obtain ⟨cs', hc, ht⟩ := hi i (by omega)
      obtain ⟨t, rfl, hq⟩ := opTm ht
      refine ⟨t, hq, fun j v hj => ?_⟩
      have hj5 : j < 5 := by
        rcases Nat.lt_or_ge j 5 with h' | h'
        · exact h'
        · rw [List.getElem?_eq_none (by exact h')] at hj; cases hj
      have := (cells1 hc).2 j (by rw [h5]; exact hj5)
      rw [h5, add_add', hj] at this
      exact this
    obtain ⟨ts, hL, hP⟩ := listOf len hone
    have hsp : 0 < len → a.spot = none := by
      intro h0
      obtain ⟨t, _, hz⟩ := hone 0 h0
      have := World.cell?_spot (hz 0 _ rfl)
      cases a; simpa [Addr.add] using this
    refine ⟨⟨some a, len, cap⟩, ts, rfl, ⟨hL, fun h0 => ⟨a, rfl, hsp h0⟩, fun i v hv => ?_⟩, fun t ht => ?_, hl, by unfold maxLen at hm; exact hm⟩
    · obtain ⟨t, h1, h2⟩ := tcs_at hv
      have hj : i / 5 < len := by
        rcases Nat.lt_or_ge (i / 5) len with h' | h'
        · exact h'
        · rw [List.getElem?_eq_none (by omega)] at h1; cases h1
      have := (hP _ t h1).2 _ v h2
      rw [Nat.div_add_mod'] at this
      show w.cell? (addrAt (some a) i) = _
      rw [← add_eq_addrAt (hsp (by omega)) i]
      exact this
    · obtain ⟨j, hj, rfl⟩ := List.getElem_of_mem ht
      exact (hP j _ (List.getElem?_eq_getElem hj)).1
end
end Go.Proofs.Ytlfdobjdlgebbaa
/-
  The contracts of the layer sparse, put for what a watch asks: nothing hidden, lengths known. Helpers; no statement of the program is proved here.
-/
set_option maxRecDepth 100000
set_option linter.unusedSimpArgs false
set_option linter.unusedVariables false
namespace Go.Proofs.Ytlfdobjdlgebbaa
open Go Go.Tw Go.RowKit
attribute [local irreducible] LoadAt StoreOk Stored rawVC

structure VI (k l : Nat) (w : World) (r : SlR) (xs : VL) : Prop where
  inv : InV k H0 w r xs
  len : xs.length ≤ l
  ok : Ok21 xs
structure VC (k l : Nat) (w : World) (r : SlR) (xs : VL) : Prop where
  can : CanV k H0 w r xs
  cn : Cn xs
  len : xs.length ≤ l
structure QC (k : Nat) (w : World) (r : RatR) (q : Rat) : Prop where
  can : CanQ H0 w r q
  fit : FitQ k q
structure QI (k : Nat) (w : World) (r : RatR) (q : Rat) : Prop where
  inq : InQ k H0 w r q
section
variable {k l m k1 k2 : Nat} {w w' : World} {r rx ry rz : SlR} {xs ys zs : VL} {x y : RatR} {p q : Rat}
theorem VI.ext (h : VI k l w r xs) (e : Ext w w') : VI k l w' r xs := ⟨h.inv.ext e, h.len, h.ok⟩
theorem VC.ext (h : VC k l w r xs) (e : Ext w w') : VC k l w' r xs := ⟨h.can.ext e, h.cn, h.len⟩
theorem QC.ext (h : QC k w x q) (e : Ext w w') : QC k w' x q := ⟨h.can.ext e, h.fit⟩
theorem QI.ext (h : QI k w x q) (e : Ext w w') : QI k w' x q := ⟨h.inq.ext e⟩
theorem VC.stable : Stable (fun w => VC k l w r xs) := fun _ _ h e => h.ext e
theorem QC.stable : Stable (fun w => QC k w x q) := fun _ _ h e => h.ext e
theorem VC.vi (h : VC k l w r xs) (hk : k ≤ 1099511627776) : VI k l w r xs := ⟨h.can.inv hk, h.len, .inr h.cn.ris⟩
theorem QC.qi (h : QC k w x q) (hk : k ≤ 1099511627776) : QI k w x q := ⟨h.can.inq h.fit hk⟩
theorem VI.mono (h : VI k1 l w r xs) (hk : k1 ≤ k) : VI k l w r xs := ⟨h.inv.mono hk, h.len, h.ok⟩
theorem QI.mono (h : QI k1 w x q) (hk : k1 ≤ k) : QI k w x q := ⟨h.inq.mono hk⟩
theorem axp_len (ys : VL) (a : Rat) (xs : VL) : (axp ys a xs).length ≤ ys.length + xs.length := by
  have := nrm_len (ys ++ smul a xs)
  simp only [List.length_append, smul, List.length_map] at this
  exact this
abbrev Vok (k1 k2 k l m : Nat) : Prop := k1 ≤ k ∧ k2 ≤ k ∧ 1 ≤ k ∧ k ≤ 16777216 ∧ l ≤ 65536 ∧ m ≤ 65536
theorem add_at (k : Nat) (hx : VI k1 l w rx xs) (hy : VI k2 m w ry ys) (h : Vok k1 k2 k l m) :
    CallS Try.prog 21 #[rx.v, ry.v] w fun v w' => Ext w w' ∧ ∃ s : SlR, v = s.v ∧ VC (aK k) (l + m) w' s (axp xs 1 ys) := by
  obtain ⟨h1, h2, h3, h4, h5, h6⟩ := h
  have := hx.len
  have := hy.len
  refine CallS.mono (VAdd_ok (H0.hb w) (hx.mono h1).inv (hy.mono h2).inv h4 h3 (by omega) (by omega) hx.ok hy.ok) ?_
  rintro _ w2 ⟨hx2, s, rfl, hs⟩
  exact ⟨hx2, s, rfl, hs, nrm_cn _, Nat.le_trans (axp_len _ _ _) (by omega)⟩
theorem axpy_at (k : Nat) {k3 : Nat} (hy : VI k1 l w ry ys) (ha : QI k3 w x q) (hx : VI k2 m w rx xs) (h : Vok k1 k2 k l m ∧ k3 ≤ k) :
    CallS Try.prog 22 #[ry.v, x.v, rx.v] w fun v w' => Ext w w' ∧ ∃ s : SlR, v = s.v ∧ VC (aK k) (l + m) w' s (axp ys q xs) := by
  obtain ⟨⟨h1, h2, h3, h4, h5, h6⟩, h7⟩ := h
  have := hx.len
  have := hy.len
  refine CallS.mono (Axpy_ok (H0.hb w) (hy.mono h1).inv (ha.mono h7).inq (hx.mono h2).inv h4 (by omega) (by omega) hx.ok hy.ok) ?_
  rintro _ w2 ⟨hx2, s, rfl, hs⟩
  exact ⟨hx2, s, rfl, hs, nrm_cn _, Nat.le_trans (axp_len _ _ _) (by omega)⟩
theorem scale_at (k : Nat) (ha : QI k2 w x q) (hx : VI k1 l w rx xs) (h : Vok k1 k2 k l l) :
    CallS Try.prog 25 #[x.v, rx.v] w fun v w' => Ext w w' ∧ ∃ s : SlR, v = s.v ∧ VC (aK k) l w' s (axp [] q xs) := by
  obtain ⟨h1, h2, h3, h4, h5, h6⟩ := h
  have := hx.len
  refine CallS.mono (VScale_ok (H0.hb w) (ha.mono h2).inq (hx.mono h1).inv h4 (by omega) hx.ok) ?_
  rintro _ w2 ⟨hx2, s, rfl, hs⟩
  exact ⟨hx2, s, rfl, hs, nrm_cn _, Nat.le_trans (axp_len _ _ _) (by simp; omega)⟩
theorem norm_at (hx : VI k l w rx xs) (h : k ≤ 1073741824 ∧ l ≤ 21) :
    CallS Try.prog 24 #[rx.v] w fun v w' => Ext w w' ∧ ∃ s : SlR, v = s.v ∧ VC (nK k) l w' s (nrm xs) := by
  have := hx.len
  refine CallS.mono (VNorm_ok (H0.hb w) hx.inv h.1 (by omega)) ?_
  rintro _ w2 ⟨hx2, s, rfl, hs⟩
  exact ⟨hx2, s, rfl, hs, nrm_cn _, Nat.le_trans (nrm_len _) hx.len⟩
theorem normR_at (hx : VI k l w rx xs) (h : k ≤ 1073741824 ∧ l ≤ 65536) :
    CallS Try.prog 24 #[rx.v] w fun v w' => Ext w w' ∧ ∃ s : SlR, v = s.v ∧ VC (nK k) l w' s (nrm xs) := by
  have := hx.len
  refine CallS.mono (VNormR_ok (H0.hb w) hx.inv h.1 (by omega) hx.ok) ?_
  rintro _ w2 ⟨hx2, s, rfl, hs⟩
  exact ⟨hx2, s, rfl, hs, nrm_cn _, Nat.le_trans (nrm_len _) hx.len⟩
theorem dot_at (k : Nat) (hx : VI k1 l w rx xs) (hy : VI k2 m w ry ys) (h : Vok k1 k2 k l m ∧ dK k l ≤ 68719476736) :
    CallS Try.prog 29 #[rx.v, ry.v] w fun v w' => Ext w w' ∧ ∃ s : RatR, v = s.v ∧ QC (dK k l) w' s (dotL xs ys) := by
  obtain ⟨⟨h1, h2, h3, h4, h5, h6⟩, h7⟩ := h
  have := hx.len
  have := hy.len
  refine CallS.mono (VDot_ok (H0.hb w) (hx.mono h1).inv (hy.mono h2).inv h4 (by omega) (by omega) hx.ok hy.ok (Nat.le_trans (dK_mono hx.len) h7)) ?_
  rintro _ w2 ⟨hx2, s, rfl, hs⟩
  exact ⟨hx2, s, rfl, hs.1, hs.2.mono (dK_mono hx.len)⟩
theorem get_at (hx : VI k l w rx xs) (i : Int) (h : k ≤ 137438953472 ∧ 1 + l * (k + 2) ≤ 137438953472) :
    CallS Try.prog 30 #[rx.v, .int .i64 i] w fun v w' => Ext w w' ∧ ∃ s : RatR, v = s.v ∧ QC (1 + l * (k + 2)) w' s (getL xs i) := by
  have h2 : 1 + xs.length * (k + 2) ≤ 1 + l * (k + 2) := fitMul hx.len
  refine CallS.mono (VGet_ok (H0.hb w) hx.inv i h.1 (Nat.le_trans h2 h.2)) ?_
  rintro _ w2 ⟨hx2, s, rfl, hs⟩
  exact ⟨hx2, s, rfl, hs.1, hs.2.mono h2⟩
theorem put_at (k : Nat) (hx : VI k1 l w rx xs) (i : Int) (ha : QI k2 w x q) (hl : (putV xs i q).length ≤ 21) (h : Vok k1 k2 k l l) :
    CallS Try.prog 31 #[rx.v, .int .i64 i, x.v] w fun v w' => Ext w w' ∧ ∃ s : SlR, v = s.v ∧ VC (nK k) 21 w' s (nrm (putV xs i q)) := by
  obtain ⟨h1, h2, h3, h4, h5, h6⟩ := h
  have := hx.len
  refine CallS.mono (Put_ok (H0.hb w) (hx.mono h1).inv (ha.mono h2).inq (by omega) hl (by omega)) ?_
  rintro _ w2 ⟨hx2, s, rfl, hs⟩
  exact ⟨hx2, s, rfl, hs, nrm_cn _, Nat.le_trans (nrm_len _) hl⟩
theorem vsame_at (k : Nat) (hx : VI k1 l w rx xs) (hy : VI k2 m w ry ys) (h : Vok k1 k2 k l m) :
    CallS Try.prog 32 #[rx.v, ry.v] w fun v w' => Ext w w' ∧ v = .bool (decide (axp xs (-1) ys = [])) := by
  obtain ⟨h1, h2, h3, h4, h5, h6⟩ := h
  have := hx.len
  have := hy.len
  exact VSame_ok (H0.hb w) (hx.mono h1).inv (hy.mono h2).inv h4 h3 (by omega) (by omega) hx.ok hy.ok
theorem svec_at (hx : VC k1 l w rx xs) (hy : VC k2 m w ry ys) (h : k1 ≤ 1099511627776 ∧ l ≤ 1099511627776) :
    CallS Try.prog 20 #[rx.v, ry.v] w fun v w' => Ext w w' ∧ v = .bool (decide (xs = ys)) :=
  SameVec_ok hx.can hy.can h.1 (Nat.le_trans hx.len h.2)
theorem svecT_at (hx : VC k1 l w rx xs) (hy : VC k2 m w ry ys) (h : k1 ≤ 1099511627776 ∧ l ≤ 1099511627776) (e : xs = ys) :
    CallS Try.prog 20 #[rx.v, ry.v] w fun v w' => Ext w w' ∧ v = .bool true := by
  have := svec_at hx hy h
  rw [decide_eq_true e] at this; exact this
theorem rsameT_at (hx : QI k1 w x p) (hy : QI k2 w y q) (h : k1 ≤ 137438953472 ∧ k2 ≤ 137438953472) (e : p = q) :
    CallS Try.prog 28 #[x.v, y.v] w fun v w' => Ext w w' ∧ v = .bool true := by
  have := RSame_ok (H0.hb w) (hx.mono h.1).inq (hy.mono h.2).inq
  rw [decide_eq_true e] at this; exact this
theorem srat_at (hx : QC k1 w x p) (hy : QC k2 w y q) (h : k1 ≤ 1099511627776) :
    CallS Try.prog 73 #[x.v, y.v] w fun v w' => Ext w w' ∧ v = .bool (decide (p = q)) :=
  SameRat_ok hx.can hy.can (hx.fit.mono h)
theorem rmul_at (hx : QI k1 w x p) (hy : QI k2 w y q) (h : k1 ≤ 137438953472 ∧ k2 ≤ 137438953472) :
    CallS Try.prog 27 #[x.v, y.v] w fun v w' => Ext w w' ∧ ∃ s : RatR, v = s.v ∧ QC (k1 + 1 + (k2 + 1)) w' s (p * q) := by
  refine CallS.mono (RMul_ok (H0.hb w) (hx.mono h.1).inq (hy.mono h.2).inq) ?_
  rintro _ w2 ⟨hx2, s, rfl, hs⟩
  exact ⟨hx2, s, rfl, hs, FitQ.mul hx.inq.fit hy.inq.fit (by omega)⟩
theorem radd_at (hx : QI k1 w x p) (hy : QI k2 w y q) (h : k1 ≤ 137438953472 ∧ k2 ≤ 137438953472) :
    CallS Try.prog 26 #[x.v, y.v] w fun v w' => Ext w w' ∧ ∃ s : RatR, v = s.v ∧ QC (k1 + 1 + (k2 + 1) + 1) w' s (p + q) := by
  refine CallS.mono (RAdd_ok (H0.hb w) (hx.mono h.1).inq (hy.mono h.2).inq) ?_
  rintro _ w2 ⟨hx2, s, rfl, hs⟩
  exact ⟨hx2, s, rfl, hs, FitQ.add hx.inq.fit hy.inq.fit⟩
theorem of_at (n d : Int) (hn : n.natAbs < 65536) (hd : d.natAbs < 65536) (hf : FitQ 1 (Rat.divInt n d)) :
    CallS Try.prog 23 #[.int .i64 n, .int .i64 d] w fun v w' => Ext w w' ∧ ∃ s : RatR, v = s.v ∧ QC 1 w' s (Rat.divInt n d) := by
  refine CallS.mono (ROf_ok (H0.hb w) (by omega) (by omega) (by omega) (by omega)) ?_
  rintro _ w2 ⟨hx2, s, rfl, hs⟩
  exact ⟨hx2, s, rfl, hs, hf⟩
end
end Go.Proofs.Ytlfdobjdlgebbaa
/-
  Contracts: whether words are the same, whether a fraction is in its one form and not 0. Helpers; no statement of the program is proved here.
-/
set_option maxRecDepth 100000
set_option linter.unusedSimpArgs false
set_option linter.unusedVariables false
namespace Go.Proofs.Ytlfdobjdlgebbaa
open Go Go.Tw Go.RowKit
attribute [local irreducible] LoadAt StoreOk Stored rawVC

theorem Equal_ok {w : World} {a b : Option Addr} {n c m d : Nat} {L M : List Nat} (hL : Words w a n L) (hM : Words w b m M) (hn : n ≤ 1099511627776) :
    CallS Try.prog 122 #[.slice a n c, .slice b m d] w fun v w' => Ext w w' ∧ v = .bool (decide (L = M)) := by
  have hl := hL.len
  have hm := hM.len
  refine enter ttOk mixed (args := [.slice a n c, .slice b m d]) Try.func122 rfl (by kernel_rfl) (by kernel_rfl) rfl ?_
  refine And.intro (fun h1 => ?_) (fun h1 => ?_)
  · have : ¬ L = M := fun h => h1 (by rw [← hl, ← hm, h])
    exact ⟨Ext.rfl w, by rw [decide_eq_false this]; rfl⟩
  · have hnm : n = m := by omega
    refine ⟨Nat, fun x => [(0, .slice a n c), (1, .slice b m d), (12, .int .i64 (n : Int)), (13, .int .i64 (x : Int))], fun x w' => Ext w w' ∧ x ≤ n ∧ L.take x = M.take x, fun x _ => n - x, ⟨0, ⟨rfl, rfl, rfl, rfl, trivial⟩, Ext.rfl w, Nat.zero_le _, rfl⟩, ?_⟩
    rintro i w1 ⟨hx1, hi, he⟩
    dsimp only at *
    refine And.intro (fun h2 => ?_) (fun h2 => ?_)
    · have hin := ltTo h2
      have gL := hL.getD hin
      have gM := hM.getD (j := i) (by omega)
      refine ⟨sq 9, by kernel_rfl, i, ⟨rfl, hin, hL.base (by omega)⟩, _, (hL.ext hx1).load rfl rfl gL, i, ⟨rfl, by omega, hM.base (by omega)⟩, _, (hM.ext hx1).load rfl rfl gM, fun h3 => ?_, fun h3 => ?_⟩
      · intro w2 hx2 _
        have : ¬ L = M := fun h => h3 (by rw [h])
        exact ⟨Ext.trans' hx1 hx2, by rw [decide_eq_false this]; rfl⟩
      · intro w2 hx2 _
        have e : L.getD i 0 = M.getD i 0 := by omega
        exact ⟨((i + 1 : Nat) : Int), sucI i (by omega), i + 1, ⟨rfl, rfl, rfl, rfl, trivial⟩, ⟨Ext.trans' hx1 hx2, hin, take_same he (by rw [gL, gM, e])⟩, Nat.sub_lt_sub_left hin (Nat.lt_succ_self i)⟩
    · have e : i = n := Nat.le_antisymm hi (geTo h2)
      have : L = M := by
        rw [List.take_of_length_le (by omega), List.take_of_length_le (by omega)] at he
        exact he
      exact ⟨hx1, by rw [decide_eq_true this]; rfl⟩
theorem formed1_ok {w : World} {rx ry : IntR} {L M : List Nat} (hL : Words w rx.a rx.n L) (hM : Words w ry.a ry.n M) (hn : rx.n ≤ 1099511627776) :
    CallS Try.prog 121 #[rx.v, ry.v] w fun v w' => Ext w w' ∧ v = .bool (decide (rx.neg = ry.neg ∧ L = M)) := by
  refine enter ttOk mixed (args := [rx.v, ry.v]) Try.func121 rfl (by kernel_rfl) (by kernel_rfl) rfl ?_
  intro b1 w1 hb1 b2 w2 hb2
  have hx2 : Ext w w2 := hb2.extFrom hb1.ext
  have hB1 : Blk w2 b1 31 [.bool rx.neg, .slice rx.a rx.n rx.c] := hb1.toBlk.ext hb2.ext
  have hB2 : Blk w2 b2 31 [.bool ry.neg, .slice ry.a ry.n ry.c] := hb2.toBlk
  refine ⟨_, hB1.one (off := 0) rfl rfl, _, hB2.one (off := 0) rfl rfl, ?_⟩
  refine And.intro (fun h1 => ?_) (fun h1 => ?_)
  · refine ⟨_, hB1.one (off := 1) rfl rfl, _, hB2.one (off := 1) rfl rfl, ?_⟩
    refine CallS.mono (Equal_ok (hL.ext hx2) (hM.ext hx2) hn) ?_
    rintro _ w3 ⟨hx3, rfl⟩
    refine ⟨Ext.trans' hx2 hx3, ?_⟩
    have : (L = M) ↔ (rx.neg = ry.neg ∧ L = M) := ⟨fun h => ⟨h1, h⟩, fun h => h.2⟩
    rw [decide_eq_decide.2 this]; rfl
  · have : ¬ (rx.neg = ry.neg ∧ L = M) := fun h => h1 h.1
    exact ⟨hx2, by rw [decide_eq_false this]; rfl⟩
end Go.Proofs.Ytlfdobjdlgebbaa
/-
  Contracts: whether a fraction is in its one form, whether a vector is. Helpers; no statement of the program is proved here.
-/
set_option maxRecDepth 100000
set_option linter.unusedSimpArgs false
set_option linter.unusedVariables false
namespace Go.Proofs.Ytlfdobjdlgebbaa
open Go Go.Tw Go.RowKit
attribute [local irreducible] LoadAt StoreOk Stored rawVC

def frmN (q : Rat) (rx : RatR) (L : List Nat) : Prop := decide (q.num < 0) = rx.num.neg ∧ dig q.num.natAbs = L
def frmD (q : Rat) (rx : RatR) (M : List Nat) : Prop := decide (denC q < 0) = rx.den.neg ∧ dig (denC q).natAbs = M
instance (q : Rat) (rx : RatR) (L : List Nat) : Decidable (frmN q rx L) := inferInstanceAs (Decidable (_ ∧ _))
instance (q : Rat) (rx : RatR) (L : List Nat) : Decidable (frmD q rx L) := inferInstanceAs (Decidable (_ ∧ _))
theorem formed_ok {w : World} {rx : RatR} {q : Rat} {L M : List Nat} (hL : Words w rx.num.a rx.num.n L) (hM : Words w rx.den.a rx.den.n M) (hq : IsQ H0 w rx q) (hf : FitQ 1099511627776 q) :
    CallS Try.prog 91 #[rx.v] w fun v w' => Ext w w' ∧ v = .bool (decide (q ≠ 0 ∧ frmN q rx L ∧ frmD q rx M)) := by
  refine enter ttOk mixed (args := [rx.v]) Try.func91 rfl (by kernel_rfl) (by kernel_rfl) rfl ?_
  intro b1 w1 hb1
  have hB1 : Blk w1 b1 33 (rcs rx) := hb1.toBlk
  refine ⟨rx.v, loadQ hB1, ?_⟩
  refine CallS.mono (Norm_ok (H0.hb w1) (hq.ext hb1.ext)) ?_
  rintro _ w2 ⟨hx2, r, rfl, hr⟩
  intro b3 w3 hb3
  have st := storeQ (r := r) hb3.toBlk hb3.ext (hb3.ge (Ext.rfl _)) rfl
  refine ⟨st.1, fun w4 hs4 => ?_⟩
  have hB3 := (st.2 w4 hs4).1
  have hx24 := (st.2 w4 hs4).2.2
  have hx14 := Ext.trans' hx2 hx24
  have hx04 := Ext.trans' hb1.ext hx14
  have hB4 := hB1.ext hx14
  have hr4 := hr.ext hx24
  refine ⟨rx.v, loadQ hB4, ?_⟩
  refine CallS.mono (RSign_ok (H0.hb w4) (hq.ext hx04)) ?_
  rintro _ w5 ⟨hx5, rfl⟩
  refine And.intro (fun h1 => ?_) (fun h1 => ?_)
  · have hq0 : q ≠ 0 := fun h => h1 (sgQ_zero.2 h)
    refine ⟨r.num.v, loadQn (hB3.ext hx5), rx.num.v, loadQn (hB4.ext hx5), ?_⟩
    refine CallS.mono (formed1_ok (hr4.num.words.ext hx5) ((hL.ext hx04).ext hx5) (canI_n40 hr4.num hf.num)) ?_
    rintro _ w6 ⟨hx6, rfl⟩
    have hx46 := Ext.trans' hx5 hx6
    by_cases h2 : frmN q rx L
    · have e : (r.num.neg = rx.num.neg ∧ dig q.num.natAbs = L) := ⟨hr.num.neg.trans h2.1, h2.2⟩
      rw [decide_eq_true e]
      refine ⟨r.den.v, (hB3.ext hx46).agg (sub := [.bool r.den.neg, .slice r.den.a r.den.n r.den.c]) rfl rfl, rx.den.v, (hB4.ext hx46).agg (sub := [.bool rx.den.neg, .slice rx.den.a rx.den.n rx.den.c]) rfl rfl, ?_⟩
      have hfd : Fit 1099511627776 (denC q) := by
        unfold denC
        split
        · exact Fit.zero _
        · exact hf.den
      refine CallS.mono (formed1_ok (hr4.den.words.ext hx46) ((hM.ext hx04).ext hx46) (canI_n40 hr4.den hfd)) ?_
      rintro _ w7 ⟨hx7, rfl⟩
      refine ⟨Ext.trans' (Ext.trans' hx04 hx46) hx7, ?_⟩
      have : (r.den.neg = rx.den.neg ∧ dig (denC q).natAbs = M) ↔ (q ≠ 0 ∧ frmN q rx L ∧ frmD q rx M) := by
        unfold frmD
        rw [hr.den.neg]
        exact ⟨fun h => ⟨hq0, h2, h⟩, fun h => h.2.2⟩
      rw [decide_eq_decide.2 this]; rfl
    · have e : ¬ (r.num.neg = rx.num.neg ∧ dig q.num.natAbs = L) := fun h => h2 ⟨hr.num.neg.symm.trans h.1, h.2⟩
      rw [decide_eq_false e]
      exact ⟨Ext.trans' hx04 hx46, by rw [decide_eq_false (fun h => h2 h.2.1)]; rfl⟩
  · have hq0 : q = 0 := sgQ_zero.1 (Classical.not_not.1 h1)
    exact ⟨Ext.trans' hx04 hx5, by rw [decide_eq_false (fun h => h.1 hq0)]; rfl⟩
/-- Rising places below N behind one, each fraction in its one form. -/
def rightL (N : Int) : Int → List (Int × Bool) → Bool
  | _, [] => true
  | last, p :: ps => !decide (p.1 ≤ last) && !decide (N ≤ p.1) && p.2 && rightL N p.1 ps
theorem drop_cons' {α : Type} {l : List α} {i : Nat} {t : α} (h : l[i]? = some t) : l.drop i = t :: l.drop (i + 1) := by
  have hi : i < l.length := by
    rcases Nat.lt_or_ge i l.length with h' | h'
    · exact h'
    · rw [List.getElem?_eq_none h'] at h; cases h
  rw [List.drop_eq_getElem_cons hi]
  rw [List.getElem?_eq_getElem hi] at h
  rw [Option.some.inj h]
theorem Right_ok {w : World} {a : Option Addr} {n c : Nat} {ts : List TmR} {N : Int} (ps : List (Int × Bool)) (hT : Tms w a n ts) (hn : n ≤ 1099511627776) (hps : ps.length = ts.length)
    (hF : ∀ (j : Nat) t p, ts[j]? = some t → ps[j]? = some p → t.at' = p.1 ∧ ∀ w', Ext w w' → CallS Try.prog 91 #[t.x.v] w' fun v w'' => Ext w' w'' ∧ v = .bool p.2) :
    CallS Try.prog 50 #[.slice a n c, .int .i64 N] w fun v w' => Ext w w' ∧ v = .bool (rightL N (-1) ps) := by
  have hlen := hT.len
  refine enter ttOk mixed (args := [.slice a n c, .int .i64 N]) Try.func50 rfl (by kernel_rfl) (by kernel_rfl) rfl ?_
  refine ⟨Nat × Int, fun x => [(1, .int .i64 N), (5, .int .i64 x.2), (8, .slice a n c), (9, .int .i64 (n : Int)), (10, .int .i64 (x.1 : Int))], fun x w' => Ext w w' ∧ x.1 ≤ n ∧ rightL N (-1) ps = rightL N x.2 (ps.drop x.1), fun x _ => n - x.1, ⟨(0, -1), ⟨rfl, rfl, rfl, rfl, rfl, trivial⟩, Ext.rfl w, Nat.zero_le _, rfl⟩, ?_⟩
  rintro ⟨i, last⟩ w1 ⟨hx1, hi, he⟩
  dsimp only at *
  refine And.intro (fun h1 => ?_) (fun h1 => ?_)
  · have hin := ltTo h1
    have hg := getD_some (ts := ts) (j := i) (by omega)
    generalize ht : ts.getD i default = t at hg
    have hgp : ps[i]? = some (ps[i]'(by omega)) := List.getElem?_eq_getElem (by omega)
    generalize ps[i]'(by omega) = pp at hgp
    obtain ⟨hat, hcl⟩ := hF i t pp hg hgp
    rw [drop_cons' hgp] at he
    refine ⟨i, ⟨rfl, hin, hT.base (by omega)⟩, t.v, (hT.ext hx1).load (ty := tT) hg rfl rfl, ?_⟩
    intro b w2 hb
    have hs := storeTmB (w' := w2) (t := t) hb.toBlk rfl
    refine ⟨hs.1, fun w3 hs3 => ?_⟩
    have h3 := (storeTmB (t := t) hb.toBlk rfl).2 hs3
    have hx3 : Ext w w3 := Ext.grownB (Ext.trans' hx1 hb.ext) h3.2 (hb.ge hx1)
    have hB := h3.1
    refine ⟨_, hB.one (off := 0) rfl rfl, ?_⟩
    refine And.intro (fun h2 => ?_) (fun h2 => ?_)
    · exact ⟨hx3, by rw [he]; simp only [rightL, decide_eq_true (hat ▸ h2 : pp.1 ≤ last), Bool.not_true, Bool.false_and]; rfl⟩
    · refine ⟨_, hB.one (off := 0) rfl rfl, ?_⟩
      refine And.intro (fun h4 => ?_) (fun h4 => ?_)
      · exact ⟨hx3, by rw [he]; simp only [rightL, decide_eq_true (show N ≤ pp.1 by omega), Bool.not_true, Bool.false_and, Bool.and_false]; rfl⟩
      · refine ⟨t.x.v, hB.agg (sub := rcs t.x) rfl rfl, ?_⟩
        refine CallS.mono (hcl w3 hx3) ?_
        rintro _ w4 ⟨hx4, rfl⟩
        cases hFt : pp.2 with
        | false => exact ⟨Ext.trans' hx3 hx4, by rw [he]; simp only [rightL, hFt, Bool.and_false, Bool.false_and]; rfl⟩
        | true =>
          refine ⟨_, (hB.ext hx4).one (off := 0) rfl rfl, ((i + 1 : Nat) : Int), sucI i (by omega), (i + 1, t.at'), ⟨rfl, rfl, rfl, rfl, rfl, trivial⟩, ⟨Ext.trans' hx3 hx4, hin, ?_⟩, Nat.sub_lt_sub_left hin (Nat.lt_succ_self i)⟩
          rw [he]
          simp only [rightL, hFt, decide_eq_false (show ¬ pp.1 ≤ last by omega), decide_eq_false (show ¬ N ≤ pp.1 by omega), Bool.not_false, Bool.true_and, hat]
  · have e : i = n := Nat.le_antisymm hi (geTo h1)
    rw [List.drop_eq_nil_of_le (by omega)] at he
    exact ⟨hx1, by rw [he]; rfl⟩
end Go.Proofs.Ytlfdobjdlgebbaa
/-
  Contracts: a row of fractions. Helpers; no statement of the program is proved here.
-/
set_option maxRecDepth 100000
set_option linter.unusedSimpArgs false
set_option linter.unusedVariables false
namespace Go.Tw
open Go Go.RowKit
def RatR.cs (r : RatR) : List Value := [.bool r.num.neg, .slice r.num.a r.num.n r.num.c, .bool r.den.neg, .slice r.den.a r.den.n r.den.c]
instance : Inhabited RatR := ⟨RatR.zero⟩
def qcs (ts : List RatR) : List Value :=
  match ts with
  | [] => []
  | t :: ts => t.cs ++ qcs ts
theorem qcs_append (a b : List RatR) : qcs (a ++ b) = qcs a ++ qcs b := by
  induction a with
  | nil => rfl
  | cons t a ih => simp only [List.cons_append, qcs, ih, List.append_assoc]
theorem qcs_one (t : RatR) : qcs [t] = t.cs := by simp [qcs]
theorem qcs_length (ts : List RatR) : (qcs ts).length = ts.length * 4 := by
  induction ts with
  | nil => rfl
  | cons t ts ih => simp only [qcs, List.length_append, ih, List.length_cons]; simp [RatR.cs]; omega
theorem qcs_get {ts : List RatR} {j k : Nat} {t : RatR} {v : Value} (hj : ts[j]? = some t) (hk : t.cs[k]? = some v) : (qcs ts)[j * 4 + k]? = some v := by
  have hk4 : k < 4 := by
    rcases Nat.lt_or_ge k 4 with h | h
    · exact h
    · rw [List.getElem?_eq_none (by simpa [RatR.cs] using h)] at hk; cases hk
  induction ts generalizing j with
  | nil => simp at hj
  | cons s ts ih =>
    cases j with
    | zero =>
      simp at hj; subst hj
      simp only [qcs]
      rw [List.getElem?_append_left (by simpa [RatR.cs] using hk4)]
      simpa using hk
    | succ j =>
      simp only [qcs]
      rw [List.getElem?_append_right (by simp [RatR.cs]; omega)]
      have e : (j + 1) * 4 + k - s.cs.length = j * 4 + k := by simp [RatR.cs]; omega
      rw [e]
      exact ih (by simpa using hj)
theorem qcs_mem_one (ts : List RatR) : ∀ v ∈ qcs ts, v.oneCell' = true := by
  induction ts with
  | nil => intro v hv; simp [qcs] at hv
  | cons t ts ih =>
    intro v hv
    simp only [qcs, List.mem_append] at hv
    rcases hv with hv | hv
    · simp only [RatR.cs, List.mem_cons, List.not_mem_nil, or_false] at hv
      rcases hv with rfl | rfl | rfl | rfl <;> rfl
    · exact ih v hv
theorem qcs_at {ts : List RatR} {i : Nat} {v : Value} (h : (qcs ts)[i]? = some v) : ∃ t, ts[i / 4]? = some t ∧ t.cs[i % 4]? = some v := by
  induction ts generalizing i with
  | nil => simp [qcs] at h
  | cons s ts ih =>
    simp only [qcs] at h
    by_cases hi : i < 4
    · rw [List.getElem?_append_left (by simpa [RatR.cs] using hi)] at h
      exact ⟨s, by rw [Nat.div_eq_of_lt hi]; rfl, by rw [Nat.mod_eq_of_lt hi]; exact h⟩
    · rw [List.getElem?_append_right (by simp [RatR.cs]; omega)] at h
      have e : i - s.cs.length = i - 4 := rfl
      rw [e] at h
      obtain ⟨t, h1, h2⟩ := ih h
      refine ⟨t, ?_, ?_⟩
      · rw [show i / 4 = (i - 4) / 4 + 1 by omega]; exact h1
      · rw [show i % 4 = (i - 4) % 4 by omega]; exact h2
theorem qcs_set {ts : List RatR} {R : List Value} {j : Nat} {t : RatR} (h : j < ts.length) : splice (qcs ts ++ R) (j * 4) t.cs = qcs (ts.set j t) ++ R := by
  induction ts generalizing j with
  | nil => simp at h
  | cons s ts ih =>
    cases j with
    | zero =>
      rw [Nat.zero_mul]
      simp [qcs, RatR.cs, splice, over]
    | succ j =>
      have := ih (j := j) (by simpa using h)
      simp only [qcs, List.set_cons_succ, List.append_assoc]
      rw [← this, show (j + 1) * 4 = s.cs.length + j * 4 by simp [RatR.cs]; omega]
      exact splice_append s.cs (qcs ts ++ R) t.cs (j * 4)
theorem storeQs {T : TT} {w : World} {g e j sz ty : Nat} {ts : List RatR} {R : List Value} {t : RatR} (hk : (known (tyAt T ty) && Nat.beq 4 (tyAt T ty).size) = true) (hs : sz = 4) (hb : Blk w g e (qcs ts ++ R)) (hj : j < ts.length) :
    StoreOk T w ty (addrAt (some ⟨g, 0, none⟩) (j * sz)) t.v := by
  subst hs
  simp only [Bool.and_eq_true] at hk
  have h1 := (beq_iff _ _).1 hk.2
  refine storeOk (i := j * 4) (by show (⟨g, 0 + j * 4, none⟩ : Addr) = _; rw [Nat.zero_add]) ?_ hb (by rw [List.length_append, qcs_length]; omega)
  rw [hk.1, ← h1]; rfl
theorem storedQs {w w' : World} {g e j sz : Nat} {ts : List RatR} {R : List Value} {t : RatR} (h : Stored w w' (addrAt (some ⟨g, 0, none⟩) (j * sz)) t.v.cells.toList) (hs : sz = 4) (hb : Blk w g e (qcs ts ++ R)) (hj : j < ts.length) :
    Blk w' g e (qcs (ts.set j t) ++ R) ∧ w.grownBy w' (some g) := by
  subst hs
  have e1 : addrAt (some ⟨g, 0, none⟩) (j * 4) = ⟨g, j * 4, none⟩ := by show (⟨g, 0 + j * 4, none⟩ : Addr) = _; rw [Nat.zero_add]
  rw [e1] at h
  have h1 := Stored.blk h hb
  have h2 : splice (qcs ts ++ R) (j * 4) t.v.cells.toList = qcs (ts.set j t) ++ R := qcs_set hj
  rw [h2] at h1
  exact ⟨h1, (Stored.grown h).1⟩
theorem qcs_rep (n : Nat) : qcs (List.replicate n RatR.zero) = rep n RatR.zero.cs := by
  induction n with
  | zero => rfl
  | succ n ih => simp only [List.replicate_succ, qcs, rep, ih]
end Go.Tw
/-
  Contracts: a vector written out in full. Helpers; no statement of the program is proved here.
-/
set_option maxRecDepth 100000
set_option linter.unusedSimpArgs false
set_option linter.unusedVariables false
namespace Go.Proofs.Ytlfdobjdlgebbaa
open Go Go.Tw Go.RowKit
attribute [local irreducible] LoadAt StoreOk Stored rawVC

theorem getL_take_self {zs : VL} (h : Ris zs) {i : Nat} (hi : i < zs.length) : getL (zs.take i) (pl zs i) = 0 := by
  refine getL_none fun t ht => ?_
  obtain ⟨j, hj, rfl⟩ := List.getElem_of_mem ht
  rw [List.length_take] at hj
  rw [List.getElem_take]
  have h1 := List.pairwise_iff_getElem.1 h j i (by omega) hi (by omega)
  have h2 : pl zs i = zs[i].1 := by
    unfold pl
    rw [List.getD_eq_getElem?_getD, List.getElem?_eq_getElem hi]; rfl
  rw [h2]; omega
structure DenI (k : Nat) (H : Hd) (w : World) (b : Nat) (n : Nat) (s : SlR) (zs : VL) (i : Nat) (rs : List RatR) (w' : World) : Prop where
  ext : Ext w w'
  blk : Blk w' b 33 (qcs rs)
  len : rs.length = n
  il : i ≤ s.n
  row : ∀ j, j < n → CanQ H w' (rs.getD j default) (getL (zs.take i) (j : Int))
  vec : CanV k H w' s zs
theorem Dense_ok {k l : Nat} {w : World} {r : SlR} {xs : VL} (hx : VI k l w r xs) (hk : k ≤ 1073741824 ∧ l ≤ 21) {N n : Nat} (hN : 1 ≤ N ∧ N ≤ 4611686018427387904) (hn : n = min N 65536) :
    CallS Try.prog 48 #[r.v, .int .i64 (N : Int)] w fun v w' => Ext w w' ∧ ∃ b rs, v = .slice (some ⟨b, 0, none⟩) n n ∧ Blk w' b 33 (qcs rs) ∧ rs.length = n ∧ ∀ j, j < n → CanQ H0 w' (rs.getD j default) (getL xs (j : Int)) := by
  have hxl := hx.len
  refine enter ttOk mixed (args := [r.v, .int .i64 (N : Int)]) Try.func48 rfl (by kernel_rfl) (by kernel_rfl) rfl ?_
  refine And.intro (fun h1 => ?_) (fun h1 => ?_)
  · exfalso; omega
  · refine ⟨(n : Int), by split <;> omega, n, n, ⟨rfl, rfl, Nat.le_refl _, by show n * 64 ≤ _; omega, by omega⟩, fun b w1 hb => ?_⟩
    have hB1 : Blk w1 b 33 (qcs (List.replicate n RatR.zero)) := by rw [qcs_rep]; exact hb.toBlk
    have hH1 := (H0.hb w).up hb.ext
    have hbH : upH H0 w w1 b := hb.inUp (Ext.rfl w) (Ext.rfl w1)
    have hge := hb.ge (Ext.rfl w)
    refine CallS.mono (VNorm_ok hH1 (hx.inv.up hb.ext) hk.1 (by omega)) ?_
    rintro _ w2 ⟨hx2, s, rfl, hs⟩
    have hsl := hs.len
    have hcn := nrm_cn xs
    have hnl := nrm_len xs
    refine ⟨Nat × List RatR, fun x => [(5, .slice (some ⟨b, 0, none⟩) n n), (14, s.v), (15, .int .i64 (s.n : Int)), (16, .int .i64 (x.1 : Int))], fun x w' => DenI (nK k) (upH H0 w w1) w b n s (nrm xs) x.1 x.2 w', fun x _ => s.n - x.1,
      ⟨(0, List.replicate n RatR.zero), ⟨rfl, rfl, rfl, rfl, trivial⟩, ⟨Ext.trans' hb.ext hx2, hB1.ext hx2, List.length_replicate, Nat.zero_le _, fun j hj => ?_, hs⟩⟩, ?_⟩
    · rw [List.getD_eq_getElem?_getD, List.getElem?_replicate, if_pos hj]
      exact CanQ.zero _ _
    rintro ⟨i, rs⟩ w3 hI
    dsimp only at *
    refine And.intro (fun h2 => ?_) (fun h2 => ?_)
    · have hin := ltTo h2
      have hiz : i < (nrm xs).length := by omega
      have g1 := vget (ys := nrm xs) (j := i) hiz
      obtain ⟨⟨ts, hT, hC⟩, hnc, hcm, hav⟩ := hI.vec
      refine (tsCan_get hC g1).elim fun t dt => ?_
      refine ⟨i, ⟨rfl, hin, hT.base (by omega)⟩, t.v, hT.load (ty := tT) dt.1 rfl rfl, ?_⟩
      intro b7 w4 hb7
      refine ⟨(storeTmB (w' := w4) (t := t) hb7.toBlk rfl).1, fun w5 hs5 => ?_⟩
      have h5 := (storeTmB (t := t) hb7.toBlk rfl).2 hs5
      have hx5 : Ext w3 w5 := Ext.grownB hb7.ext h5.2 (hb7.ge (Ext.rfl w3))
      have hB := h5.1
      have hI5 : DenI (nK k) (upH H0 w w1) w b n s (nrm xs) i rs w5 := ⟨Ext.trans' hI.ext hx5, hI.blk.ext hx5, hI.len, hI.il, fun j hj => (hI.row j hj).ext hx5, hI.vec.ext hx5⟩
      have hq5 := dt.2.2.1.ext hx5
      have hat := dt.2.1
      have skip : (∀ j : Nat, j < n → (j : Int) ≠ pl (nrm xs) i) → DenI (nK k) (upH H0 w w1) w b n s (nrm xs) (i + 1) rs w5 := fun hne => ⟨hI5.ext, hI5.blk, hI5.len, hin, fun j hj => by
        rw [getL_take_succ hiz, if_neg (fun e => hne j hj e.symm), Rat.add_zero]
        exact hI5.row j hj, hI5.vec⟩
      refine ⟨_, hB.one (off := 0) rfl rfl, ?_⟩
      refine And.intro (fun h6 => ?_) (fun h6 => ?_)
      · refine ⟨_, hB.one (off := 0) rfl rfl, ?_⟩
        refine And.intro (fun h7 => ?_) (fun h7 => ?_)
        · obtain ⟨m, hm⟩ : ∃ m : Nat, t.at' = (m : Int) := ⟨t.at'.toNat, by omega⟩
          have hmn : m < n := by omega
          have hbk : Blk w5 b 33 (qcs rs ++ []) := by rw [List.append_nil]; exact hI5.blk
          have hml : m < rs.length := by rw [hI5.len]; exact hmn
          refine ⟨_, hB.one (off := 0) rfl rfl, t.x.v, hB.agg (sub := rcs t.x) rfl rfl, m, ⟨hm, hmn, ⟨_, rfl, rfl⟩⟩, storeQs rfl rfl hbk hml, fun w6 hs6 => ?_⟩
          have hS := storedQs hs6 rfl hbk hml
          have hgr : ∀ c, some b = some c → upH H0 w w1 c := fun c e => by cases e; exact hbH
          refine ⟨((i + 1 : Nat) : Int), sucI i (by omega), (i + 1, rs.set m t.x), ⟨rfl, rfl, rfl, rfl, trivial⟩, ⟨Ext.grownB hI5.ext hS.2 hge, by have := hS.1; rw [List.append_nil] at this; exact this, by rw [List.length_set]; exact hI5.len, hin, fun j hj => ?_, hI5.vec.grow hS.2 hgr⟩, Nat.sub_lt_sub_left hin (Nat.lt_succ_self i)⟩
          rw [getL_take_succ hiz]
          by_cases hjm : j = m
          · have e1 : pl (nrm xs) i = (j : Int) := by rw [hjm, ← hm]; exact hat.symm
            rw [if_pos e1, ← e1, getL_take_self hcn.ris hiz, Rat.zero_add, hjm, List.getD_eq_getElem?_getD, List.getElem?_set_self hml]
            exact hq5.grow hS.2 hgr
          · have e1 : ¬ pl (nrm xs) i = (j : Int) := fun e => hjm (by have := hat; have : t.at' = (j : Int) := hat.trans e; omega)
            rw [if_neg e1, Rat.add_zero, List.getD_eq_getElem?_getD, List.getElem?_set_ne (fun e => hjm e.symm), ← List.getD_eq_getElem?_getD]
            exact (hI5.row j hj).grow hS.2 hgr
        · exact ⟨((i + 1 : Nat) : Int), sucI i (by omega), (i + 1, rs), ⟨rfl, rfl, rfl, rfl, trivial⟩, skip (fun j hj => by omega), Nat.sub_lt_sub_left hin (Nat.lt_succ_self i)⟩
      · exact ⟨((i + 1 : Nat) : Int), sucI i (by omega), (i + 1, rs), ⟨rfl, rfl, rfl, rfl, trivial⟩, skip (fun j hj => by omega), Nat.sub_lt_sub_left hin (Nat.lt_succ_self i)⟩
    · have hi : i = s.n := Nat.le_antisymm hI.il (geTo h2)
      refine ⟨hI.ext, b, rs, rfl, hI.blk, hI.len, fun j hj => ?_⟩
      have := hI.row j hj
      rw [List.take_of_length_le (by omega), nrm_get] at this
      exact this.less
theorem DenseNil_ok {w : World} {r : SlR} {N : Int} (hN : N < 1) :
    CallS Try.prog 48 #[r.v, .int .i64 N] w fun v w' => Ext w w' ∧ v = .slice none 0 0 := by
  refine enter ttOk mixed (args := [r.v, .int .i64 N]) Try.func48 rfl (by kernel_rfl) (by kernel_rfl) rfl ?_
  refine And.intro (fun h1 => ?_) (fun h1 => ?_)
  · exact ⟨Ext.rfl w, rfl⟩
  · exact absurd hN h1
end Go.Proofs.Ytlfdobjdlgebbaa
/-
  Rows whose elements are one cell each (numbers, slices); maps from numbers to numbers. Helpers; no statement of the program is proved here.
-/
set_option maxRecDepth 100000
set_option linter.unusedSimpArgs false
set_option linter.unusedVariables false
namespace Go.Tw
open Go Go.RowKit

/-- The text's own order, some of it flagged: loads whose block stays, writes that keep what is known. -/
def sqK (n : Nat) (fl : List Nat) : List (Nat × Bool) := (sq n).map fun s => (s.1, fl.any fun i => Nat.beq i s.1)
/-- Values lie in a row, a cell each. -/
structure Ones (w : World) (a : Option Addr) (n : Nat) (vs : List Value) : Prop where
  len : vs.length = n
  base : 0 < n → okB a
  get : ∀ (i : Nat) (v : Value), vs[i]? = some v → w.cell? (addrAt a i) = some v
section
variable {T : TT} {w w' : World} {a : Option Addr} {n : Nat} {vs : List Value}
theorem Ones.ext (h : Ones w a n vs) (k : Ext w w') : Ones w' a n vs := ⟨h.len, h.base, fun i v hv => k.cellEq (h.get i v hv)⟩
theorem Ones.nil (w : World) (a : Option Addr) : Ones w a 0 [] := ⟨rfl, fun h => by omega, fun i v h => by simp at h⟩
theorem Ones.lt_size (h : Ones w a n vs) (hn : 0 < n) : Tw.blk a < w.heap.size := by
  have hl := h.len
  have h0 : vs[0]? = some (vs[0]'(by omega)) := List.getElem?_eq_getElem (by omega)
  exact World.block_lt_of_cell? w _ (h.get 0 _ h0)
theorem Ones.grow {row : Option Nat} {H : Hd} (h : Ones w a n vs) (k : w.grownBy w' row) (hr : ∀ b, row = some b → H b) (hv : Av H a n) : Ones w' a n vs := by
  refine ⟨h.len, h.base, fun i v hi => ?_⟩
  have hc := h.get i v hi
  have hlt := World.block_lt_of_cell? w _ hc
  have hn : 0 < n := by
    have := h.len
    rcases Nat.eq_zero_or_pos n with h0 | h0
    · rw [h0] at this; rw [List.eq_nil_of_length_eq_zero this] at hi; simp at hi
    · exact h0
  rw [World.cell?_of_block (k.block _ hlt (fun e => hv hn (hr _ e.symm)))]
  exact hc
theorem Ones.blk {g e : Nat} {R : List Value} (h : Blk w g e (vs ++ R)) : Ones w (some ⟨g, 0, none⟩) vs.length vs := by
  refine ⟨rfl, fun _ => ⟨_, rfl, rfl⟩, fun i v hi => ?_⟩
  have hlt : i < vs.length := by
    rcases Nat.lt_or_ge i vs.length with h' | h'
    · exact h'
    · rw [List.getElem?_eq_none h'] at hi; cases hi
  refine h.cell (i := 0 + i) ?_
  rw [Nat.zero_add, List.getElem?_append_left hlt]; exact hi
theorem Ones.load {j sz ty : Nat} {v : Value} (h : Ones w a n vs) (hj : vs[j]? = some v) (hk : (known (tyAt T ty) && !(tyAt T ty).agg) = true) (hs : sz = 1) : LoadAt T w ty (addrAt a (j * sz)) v := by
  subst hs
  rw [Nat.mul_one]
  exact loadScalar hk (h.get j v hj)
theorem Ones.lt (h : Ones w a n vs) {j : Nat} {v : Value} (hj : vs[j]? = some v) : j < n := by
  rcases Nat.lt_or_ge j n with h' | h'
  · exact h'
  · rw [List.getElem?_eq_none (by rw [h.len]; exact h')] at hj; cases hj
theorem splice_one (cs : List Value) (i : Nat) (v : Value) : splice cs i [v] = cs.set i v := by
  induction cs generalizing i with
  | nil => simp [splice_nil]
  | cons c cs ih => cases i <;> simp [splice, over, ih]
theorem storeOne {b i t t' sz : Nat} {R : List Value} {v : Value} (hk : (known (tyAt T t) && Nat.beq v.cells.toList.length (tyAt T t).size && v.cells.toList.all Value.oneCell' && Nat.beq 1 (tyAt T t).size) = true) (hs : sz = 1) (hb : Blk w b t' (vs ++ R)) (hi : i < vs.length) : StoreOk T w t (addrAt (some ⟨b, 0, none⟩) (i * sz)) v := by
  rw [Bool.and_eq_true] at hk
  have h1 := (beq_iff _ _).1 hk.2
  refine storeOk (addr_word b i sz hs) hk.1 hb (by rw [List.length_append]; omega)
theorem storedOne {b i t sz : Nat} {R : List Value} {v : Value} (h : Stored w w' (addrAt (some ⟨b, 0, none⟩) (i * sz)) v.cells.toList) (hv : v.cells.toList = [v]) (hs : sz = 1) (hb : Blk w b t (vs ++ R)) (hi : i < vs.length) :
    Blk w' b t (vs.set i v ++ R) ∧ w.grownBy w' (some b) := by
  rw [addr_word b i sz hs, hv] at h
  have h1 := Stored.blk h hb
  rw [splice_one, List.set_append_left _ _ hi] at h1
  exact ⟨h1, (Stored.grown h).1⟩
theorem rep_one (n : Nat) (z : Value) : rep n [z] = List.replicate n z := by
  induction n with
  | zero => rfl
  | succ n ih => simp [rep, ih, List.replicate_succ]
theorem owns_ones {base e : Nat} {v : Value} (h : w.ownsRow base e 1 v n vs) : ∃ a c, v = .slice a n c ∧ Ones w a n vs ∧ n ≤ c ∧ c ≤ 9223372036854775807 ∧ (0 < n → base ≤ Tw.blk a) := by
  obtain ⟨hl, h⟩ := h
  rw [Nat.mul_one] at hl
  rcases h with ⟨rfl, rfl⟩ | ⟨g, cap, cur, rfl, hg, hb, hnc, hcm, hcs, htk⟩
  · have : vs = [] := List.eq_nil_of_length_eq_zero hl
    subst this
    exact ⟨none, 0, rfl, Ones.nil _ _, Nat.le_refl _, by omega, fun h => by omega⟩
  · refine ⟨some ⟨g, 0, none⟩, cap, rfl, ⟨hl, fun _ => ⟨_, rfl, rfl⟩, fun j x hj => ?_⟩, hnc, by unfold maxLen at hcm; exact hcm, fun _ => hg⟩
    rw [← htk, List.getElem?_take] at hj
    split at hj
    · have h2 : cur[0 + j]? = some x := by simpa using hj
      show w.cell? ⟨g, 0 + j, none⟩ = _
      simp only [World.cell?, hb]
      exact h2
    · cases hj
theorem owns_blk1 {base e : Nat} {v : Value} (h : w.ownsRow base e 1 v n vs) (hn : 0 < n) :
    ∃ g cap R, v = .slice (some ⟨g, 0, none⟩) n cap ∧ base ≤ g ∧ Blk w g e (vs ++ R) ∧ n ≤ cap ∧ cap ≤ 9223372036854775807 ∧ vs.length = n ∧ (vs ++ R).length = cap := by
  obtain ⟨hl, h⟩ := h
  rw [Nat.mul_one] at hl
  rcases h with ⟨rfl, rfl⟩ | ⟨g, cap, cur, rfl, hg, hb, hnc, hcm, hcs, htk⟩
  · omega
  · rw [Nat.mul_one] at htk hcs
    refine ⟨g, cap, cur.toList.drop n, rfl, hg, ?_, hnc, by unfold maxLen at hcm; exact hcm, hl, ?_⟩
    · unfold Blk
      rw [← htk, List.take_append_drop]
      simpa using hb
    · rw [← htk, List.take_append_drop]; simpa using hcs
theorem owns_of_blk1 {base e g cap : Nat} {R : List Value} (h : Blk w g e (vs ++ R)) (hb : base ≤ g) (hn : vs.length = n) (hc : n ≤ cap) (hm : cap ≤ 9223372036854775807) (hl : (vs ++ R).length = cap) : w.ownsRow base e 1 (.slice (some ⟨g, 0, none⟩) n cap) n vs := by
  refine ⟨by rw [Nat.mul_one]; exact hn, .inr ⟨g, cap, (vs ++ R).toArray, rfl, hb, h, hc, by unfold maxLen; exact hm, by rw [Nat.mul_one]; simpa using hl, ?_⟩⟩
  rw [Nat.mul_one, List.toList_toArray, ← hn, List.take_left]
end

/-- Numbers as cells. -/
def ivs (L : List Int) : List Value := L.map fun z => .int .i64 z
theorem ivs_length (L : List Int) : (ivs L).length = L.length := by simp [ivs]
theorem ivs_get {L : List Int} {j : Nat} {z : Int} (h : L[j]? = some z) : (ivs L)[j]? = some (.int .i64 z) := by simp [ivs, h]
theorem ivs_set (L : List Int) (j : Nat) (z : Int) : (ivs L).set j (.int .i64 z) = ivs (L.set j z) := by simp [ivs, List.map_set]
theorem ivs_append (L M : List Int) : ivs (L ++ M) = ivs L ++ ivs M := by simp [ivs]
theorem ivs_one (L : List Int) : ∀ v ∈ ivs L, v.oneCell' = true := by
  intro v hv
  obtain ⟨x, _, rfl⟩ := List.mem_map.1 hv
  rfl

/-! ### maps -/
theorem tyDOf_map {d : TypeDesc} {k e : Nat} (h : tyDOf d = .map k e) : d = .map k e := by
  cases d <;> simp [tyDOf] at h; obtain ⟨rfl, rfl⟩ := h; rfl
theorem TOk.map {P : Program} {T : TT} (h : TOk P T) {t k e : Nat} (hd : (tyAt T t).d = .map k e) : P.underlying t = some (.map k e) := by
  obtain ⟨i, d, v, _, hu, _, he⟩ := h.at (t := t) (by rw [hd]; intro h; cases h)
  rw [he] at hd; rw [hu, tyDOf_map hd]
def lookE (es : List MapEntry) (k : Int) : Int :=
  match es with
  | [] => 0
  | e :: es =>
    match e.key, e.val with
    | .int _ a, .int _ v => if k = a then v else lookE es k
    | _, _ => 0
def IntE (es : List MapEntry) : Prop := ∀ e ∈ es, ∃ k v, e.key = .int .i64 k ∧ e.val = .int .i64 v
/-- A map from numbers to numbers, 0 where there is none. -/
structure MapAt (w : World) (b : Nat) (m : Int → Int) : Prop where
  ex : ∃ es clock, w.heap[b]? = some (.map es clock) ∧ IntE es.toList ∧ ∀ k, lookE es.toList k = m k
theorem findNow_i {kd : IntKind} : ∀ (es : List MapEntry) (k : Int) (i : Nat), IntE es →
    (Instr.findNow (.int kd) (.int .i64 k) es i = some none ∧ lookE es k = 0 ∧ ∀ e ∈ es, e.key ≠ .int .i64 k) ∨ ∃ j v, Instr.findNow (.int kd) (.int .i64 k) es i = some (some (i + j, .int .i64 v)) ∧ lookE es k = v ∧ ∃ e, es[j]? = some e ∧ e.key = .int .i64 k ∧ ∀ e' ∈ es.take j, e'.key ≠ .int .i64 k
  | [], k, i, _ => .inl ⟨rfl, rfl, fun e h => by simp at h⟩
  | e :: es, k, i, h => by
    obtain ⟨a, v, hk, hv⟩ := h e (by simp)
    by_cases hka : k = a
    · subst hka
      refine .inr ⟨0, v, ?_, ?_, e, rfl, hk, fun e' h => by simp at h⟩
      · simp [Instr.findNow, Instr.sameNow, hk, hv]
      · simp [lookE, hk, hv]
    · have hb : (k == a) = false := by simp [hka]
      have ih := findNow_i (kd := kd) es k (i + 1) (fun e' he => h e' (by simp [he]))
      have h1 : Instr.findNow (.int kd) (.int .i64 k) (e :: es) i = Instr.findNow (.int kd) (.int .i64 k) es (i + 1) := by
        simp [Instr.findNow, Instr.sameNow, hk, hb]
      have h2 : lookE (e :: es) k = lookE es k := by simp [lookE, hk, hv, hka]
      have hne : e.key ≠ .int .i64 k := by rw [hk]; intro he; cases he; exact hka rfl
      rw [h1, h2]
      rcases ih with ⟨i1, i2, i3⟩ | ⟨j, v', i1, i2, e', i3, i4, i5⟩
      · refine .inl ⟨i1, i2, fun e' he => ?_⟩
        rcases List.mem_cons.1 he with rfl | he
        · exact hne
        · exact i3 e' he
      · refine .inr ⟨j + 1, v', ?_, i2, e', by simpa using i3, i4, fun e' he => ?_⟩
        · rw [i1, show i + 1 + j = i + (j + 1) by omega]
        · rw [List.take_succ_cons] at he
          rcases List.mem_cons.1 he with rfl | he
          · exact hne
          · exact i5 e' he
theorem lookE_set : ∀ (es : List MapEntry) (j : Nat) (k v : Int) (k' : Int), IntE es → (∃ e, es[j]? = some e ∧ e.key = .int .i64 k) → (∀ e' ∈ es.take j, e'.key ≠ .int .i64 k) →
    lookE (es.modify j fun e => { e with key := .int .i64 k, val := .int .i64 v }) k' = if k' = k then v else lookE es k'
  | [], j, k, v, k', _, ⟨e, h, _⟩, _ => by simp at h
  | e :: es, 0, k, v, k', h, ⟨e', h1, h2⟩, _ => by
    simp only [List.getElem?_cons_zero, Option.some.injEq] at h1
    subst h1
    obtain ⟨a, u, hk, hv⟩ := h e (by simp)
    rw [hk] at h2
    simp only [Value.int.injEq, true_and] at h2
    subst h2
    by_cases hh : k' = a <;> simp [lookE, hk, hv, hh]
  | e :: es, j + 1, k, v, k', h, ⟨e', h1, h2⟩, h3 => by
    obtain ⟨a, u, hk, hv⟩ := h e (by simp)
    have hne := h3 e (by simp)
    have ih := lookE_set es j k v k' (fun e' he => h e' (by simp [he])) ⟨e', by simpa using h1, h2⟩ (fun e' he => h3 e' (by simp [he]))
    simp only [List.modify_succ_cons, lookE, hk, hv, ih]
    by_cases hh : k' = a
    · have : k' ≠ k := by intro e; subst e; exact hne (by rw [hk, hh])
      rw [if_pos hh, if_neg this, if_pos hh]
    · simp [hh]
theorem lookE_push : ∀ (es : List MapEntry) (k v : Int) (c : Nat) (k' : Int), IntE es → (∀ e ∈ es, e.key ≠ .int .i64 k) → lookE (es ++ [{ key := .int .i64 k, val := .int .i64 v, born := c }]) k' = if k' = k then v else lookE es k'
  | [], k, v, c, k', _, _ => by simp [lookE]
  | e :: es, k, v, c, k', h, h3 => by
    obtain ⟨a, u, hk, hv⟩ := h e (by simp)
    have hne := h3 e (by simp)
    have ih := lookE_push es k v c k' (fun e' he => h e' (by simp [he])) (fun e' he => h3 e' (by simp [he]))
    simp only [List.cons_append, lookE, hk, hv, ih]
    by_cases hh : k' = a
    · have : k' ≠ k := by intro e; subst e; exact hne (by rw [hk, hh])
      rw [if_pos hh, if_neg this, if_pos hh]
    · simp [hh]
section
variable {P : Program} {T : TT} {o : Oper} {e : Env} {w : World} {K : Value → World → Prop}
theorem raw_makeMap {t : Nat} (ho : o.op = .makeMap t none) (hK : ∀ b w', b = w.heap.size → Ext w w' → b < w'.heap.size → MapAt w' b (fun _ => 0) → K (.map (some b)) w') : rawVC P o e w K := by
  intro r hr
  obtain ⟨dst, op, type, pos, after, guard⟩ := o
  simp only at ho
  subst ho
  have hx : Ext w (w.alloc (.map #[] 0)) := (Below.refl _ _).alloc (Nat.le_refl _) _
  have h1 : (execOp r ⟨dst, .makeMap t none, type, pos, after, guard⟩).run P w = .ok (.value (.map (some w.heap.size))) (w.alloc (.map #[] 0)) := by
    simp [execOp, Instr.makeMap]
  rw [h1]
  exact hK _ _ rfl hx (by simp) ⟨#[], 0, heap_alloc_new w _, fun e h => by simp at h, fun k => rfl⟩
theorem run_checkKey_i {t : Nat} (ht : P.underlying t = some (.int .i64)) (em : Bool) (k : Int) (w : World) : (Instr.checkKey em 10000 t (.int .i64 k)).run P w = .ok () w :=
  MapKept.run_checkKey ht (show MapKept.IsKey (.int .i64) (.int .i64 k) from rfl) em 9999
theorem run_zero_i {et : Nat} (hz : (P.info? et).map (fun i => i.zero) = some (some (.int .i64 0))) (w : World) : (zeroValue et).run P w = .ok (.int .i64 0) w := by
  cases hi : P.info? et with
  | none => rw [hi] at hz; cases hz
  | some i =>
    rw [hi] at hz
    simp only [Option.map_some, Option.some.injEq] at hz
    simp [zeroValue, typeInfo, hi, hz]
theorem raw_lookup (hT : TOk P T) {t kt et b : Nat} {x i : Operand} {m : Int → Int} {k : Int} (ho : o.op = .lookup t x i false) (ht : (tyAt T t).d = .map kt et) (hk : (tyAt T kt).d = .int .i64) (hz : (P.info? et).map (fun i => i.zero) = some (some (.int .i64 0)))
    (hx : ev e x = some (.map (some b))) (hi : ev e i = some (.int .i64 k)) (hm : MapAt w b m) (hK : K (.int .i64 (m k)) w) : rawVC P o e w K := by
  intro r hr
  obtain ⟨dst, op, type, pos, after, guard⟩ := o
  simp only at ho
  subst ho
  obtain ⟨es, clock, hb, hes, hlk⟩ := hm.ex
  have hz' := run_zero_i hz w
  have hck := fun em => run_checkKey_i (hT.int hk) em k w
  have h1 : (Instr.lookup t (.map (some b)) (.int .i64 k) false).run P w = .ok (.int .i64 (m k)) w := by
    rcases findNow_i (kd := .i64) es.toList k 0 hes with ⟨f1, f2, f3⟩ | ⟨j, v, f1, f2, f3⟩
    · rw [hlk] at f2
      simp [Instr.lookup, run_underlying (hT.map ht), MapKept.run_getObj_map hb, hck, Instr.findKey, run_underlying (hT.int hk), f1, hz', Result.andThen, f2]
    · rw [hlk] at f2
      simp [Instr.lookup, run_underlying (hT.map ht), MapKept.run_getObj_map hb, hck, Instr.findKey, run_underlying (hT.int hk), f1, Result.andThen, f2]
  simp only [execOp, hr x _ hx, hr i _ hi, Sem.run_bind, h1, Result.andThen, Sem.run_pure]
  exact hK
theorem raw_mapUpdate (hT : TOk P T) {t kt et b : Nat} {x i y : Operand} {m : Int → Int} {k v : Int} (ho : o.op = .mapUpdate t x i y) (ht : (tyAt T t).d = .map kt et) (hk : (tyAt T kt).d = .int .i64)
    (hx : ev e x = some (.map (some b))) (hi : ev e i = some (.int .i64 k)) (hy : ev e y = some (.int .i64 v)) (hm : MapAt w b m)
    (hK : ∀ w', w.grownBy w' (some b) → w'.heap.size = w.heap.size → MapAt w' b (fun j => if j = k then v else m j) → K undef w') : rawVC P o e w K := by
  intro r hr
  obtain ⟨dst, op, type, pos, after, guard⟩ := o
  simp only at ho
  subst ho
  obtain ⟨es, clock, hb, hes, hlk⟩ := hm.ex
  have hck := fun em => run_checkKey_i (hT.int hk) em k w
  have hlt : b < w.heap.size := by
    rcases Nat.lt_or_ge b w.heap.size with h' | h'
    · exact h'
    · rw [Array.getElem?_eq_none h'] at hb; cases hb
  have hw : ∀ ob : Obj, w.grownBy { w with heap := w.heap.setIfInBounds b ob } (some b) := fun ob => ⟨rfl, rfl, rfl, by simp, fun q hq hne => by
    simp only [Array.getElem?_setIfInBounds]
    rw [if_neg (by intro e; subst e; exact hne rfl)]⟩
  rcases findNow_i (kd := .i64) es.toList k 0 hes with ⟨f1, f2, f3⟩ | ⟨j, v0, f1, f2, e0, f3, f4, f5⟩
  · have h1 : (Instr.mapUpdate t (.map (some b)) (.int .i64 k) (.int .i64 v)).run P w = .ok () { w with heap := w.heap.setIfInBounds b (.map (es.push { key := .int .i64 k, val := .int .i64 v, born := clock }) (clock + 1)) } := by
      simp [Instr.mapUpdate, run_underlying (hT.map ht), MapKept.run_getObj_map hb, hck, Instr.findKey, run_underlying (hT.int hk), f1, Result.andThen, MapKept.run_setObj_map _ hb]
    simp only [execOp, hr x _ hx, hr i _ hi, hr y _ hy, Sem.run_bind, h1, Result.andThen, Sem.run_pure]
    refine hK _ (hw _) (by simp) ⟨_, _, by simp [hlt]; exact ⟨rfl, rfl⟩, ?_, fun k' => ?_⟩
    · intro e' he
      simp only [Array.toList_push, List.mem_append, List.mem_singleton] at he
      rcases he with he | rfl
      · exact hes e' he
      · exact ⟨_, _, rfl, rfl⟩
    · rw [Array.toList_push, lookE_push _ _ _ _ _ hes f3, hlk]
  · have hks : ∀ w : World, (Instr.keyThatStays (.int .i64 k) (.int .i64 k)).run P w = .ok (.int .i64 k) w := fun w => MapKept.run_keyThatStays (d := .int .i64) rfl
    rw [Nat.zero_add] at f1
    have f3' : es[j]? = some e0 := by simpa using f3
    have h1 : (Instr.mapUpdate t (.map (some b)) (.int .i64 k) (.int .i64 v)).run P w = .ok () { w with heap := w.heap.setIfInBounds b (.map (es.modify j fun e => { e with key := .int .i64 k, val := .int .i64 v }) clock) } := by
      simp [Instr.mapUpdate, run_underlying (hT.map ht), MapKept.run_getObj_map hb, hck, Instr.findKey, run_underlying (hT.int hk), f1, f3', f4, hks, Result.andThen, MapKept.run_setObj_map _ hb]
    simp only [execOp, hr x _ hx, hr i _ hi, hr y _ hy, Sem.run_bind, h1, Result.andThen, Sem.run_pure]
    refine hK _ (hw _) (by simp) ⟨_, _, by simp [hlt]; exact ⟨rfl, rfl⟩, ?_, fun k' => ?_⟩
    · intro e' he
      rw [Array.toList_modify] at he
      obtain ⟨q, hq, rfl⟩ := List.getElem_of_mem he
      rw [List.getElem_modify]
      split
      · exact ⟨_, _, rfl, rfl⟩
      · exact hes _ (List.getElem_mem _)
    · rw [Array.toList_modify, lookE_set _ _ _ _ _ hes ⟨e0, f3, f4⟩ f5, hlk]
end
end Go.Tw
