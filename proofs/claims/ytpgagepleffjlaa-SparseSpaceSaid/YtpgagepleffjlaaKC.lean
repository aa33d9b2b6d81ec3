/-
  Contracts of the watch's own helpers: whether words, whole numbers, fractions, vectors are the same. Helpers; no statement of the program is proved here.
-/
import Derived.Test.YtpgagepleffjlaaKB
set_option maxRecDepth 100000
set_option linter.unusedSimpArgs false
set_option linter.unusedVariables false
namespace Go.Proofs.Ytpgagepleffjlaa
open Go Go.Tw Go.RowKit
attribute [local irreducible] LoadAt StoreOk Stored rawVC

theorem take_same {α : Type} {L M : List α} {i : Nat} (h : L.take i = M.take i) (h1 : L[i]? = M[i]?) : L.take (i + 1) = M.take (i + 1) := by
  rw [List.take_add_one, List.take_add_one, h, h1]
theorem SameWords_ok {w : World} {a b : Option Addr} {n c m d : Nat} {L M : List Nat} (hL : Words w a n L) (hM : Words w b m M) (hn : n ≤ 1099511627776) :
    CallS Try.prog 107 #[.slice a n c, .slice b m d] w fun v w' => Ext w w' ∧ v = .bool (decide (L = M)) := by
  have hl := hL.len
  have hm := hM.len
  refine enter ttOk mixed (args := [.slice a n c, .slice b m d]) Try.func107 rfl (by kernel_rfl) (by kernel_rfl) rfl ?_
  refine And.intro (fun h1 => ?_) (fun h1 => ?_)
  · have : ¬ L = M := fun h => h1 (by rw [← hl, ← hm, h])
    exact ⟨Ext.rfl w, by rw [decide_eq_false this]; rfl⟩
  · have hnm : n = m := by omega
    refine ⟨Nat, fun x => [(0, .slice a n c), (1, .slice b m d), (5, .int .i64 (x : Int))], fun x w' => Ext w w' ∧ x ≤ n ∧ L.take x = M.take x, fun x _ => n - x, ⟨0, ⟨rfl, rfl, rfl, trivial⟩, Ext.rfl w, Nat.zero_le _, rfl⟩, ?_⟩
    rintro i w1 ⟨hx1, hi, he⟩
    dsimp only at *
    refine And.intro (fun h2 => ?_) (fun h2 => ?_)
    · have hin := ltTo h2
      have gL := hL.getD hin
      have gM := hM.getD (j := i) (by omega)
      refine ⟨sq 9, by kernel_rfl, i, ⟨rfl, hin, hL.base (by omega)⟩, _, (hL.ext hx1).load rfl rfl gL, i, ⟨rfl, by omega, hM.base (by omega)⟩, _, (hM.ext hx1).load rfl rfl gM, fun h3 => ?_, fun h3 => ?_⟩
      · intro w2 hx2 _
        have : ¬ L = M := fun h => h3 (by rw [h])
        exact ⟨Ext.trans' hx1 hx2, by rw [decide_eq_false this]; rfl⟩
      · intro w2 hx2 _
        have e : L.getD i 0 = M.getD i 0 := by omega
        exact ⟨((i + 1 : Nat) : Int), sucI i (by omega), i + 1, ⟨rfl, rfl, rfl, trivial⟩, ⟨Ext.trans' hx1 hx2, hin, take_same he (by rw [gL, gM, e])⟩, Nat.sub_lt_sub_left hin (Nat.lt_succ_self i)⟩
    · have e : i = n := Nat.le_antisymm hi (geTo h2)
      have : L = M := by
        rw [List.take_of_length_le (by omega), List.take_of_length_le (by omega)] at he
        exact he
      exact ⟨hx1, by rw [decide_eq_true this]; rfl⟩
theorem canI_n40 {H : Hd} {w : World} {r : IntR} {z : Int} (h : CanI H w r z) {k : Nat} (hf : Fit k z) : r.n ≤ k := by
  rw [← h.words.len]; exact hf.len
theorem SameInt_ok {H : Hd} {w : World} {rx ry : IntR} {x y : Int} (hx : CanI H w rx x) (hy : CanI H w ry y) (hf : Fit 1099511627776 x) :
    CallS Try.prog 86 #[rx.v, ry.v] w fun v w' => Ext w w' ∧ v = .bool (decide (x = y)) := by
  have hxn := canI_n40 hx hf
  refine enter ttOk mixed (args := [rx.v, ry.v]) Try.func86 rfl (by kernel_rfl) (by kernel_rfl) rfl ?_
  intro b1 w1 hb1 b2 w2 hb2
  have hx2 : Ext w w2 := hb2.extFrom hb1.ext
  have hB1 : Blk w2 b1 31 [.bool rx.neg, .slice rx.a rx.n rx.c] := hb1.toBlk.ext hb2.ext
  have hB2 : Blk w2 b2 31 [.bool ry.neg, .slice ry.a ry.n ry.c] := hb2.toBlk
  refine ⟨_, hB1.one (off := 0) rfl rfl, _, hB2.one (off := 0) rfl rfl, ?_⟩
  refine And.intro (fun h1 => ?_) (fun h1 => ?_)
  · refine ⟨_, hB1.one (off := 1) rfl rfl, _, hB2.one (off := 1) rfl rfl, ?_⟩
    refine CallS.mono (SameWords_ok (hx.words.ext hx2) (hy.words.ext hx2) hxn) ?_
    rintro _ w3 ⟨hx3, rfl⟩
    refine ⟨Ext.trans' hx2 hx3, ?_⟩
    have : (dig x.natAbs = dig y.natAbs) ↔ x = y := by
      constructor
      · intro h
        have h4 := dig_inj h
        have h5 := hx.neg
        have h6 := hy.neg
        rw [h1, h6] at h5
        have h5 := decide_eq_decide.1 h5
        omega
      · intro h; rw [h]
    rw [decide_eq_decide.2 this]; rfl
  · have : ¬ x = y := fun h => h1 (by rw [hx.neg, hy.neg, h])
    exact ⟨hx2, by rw [decide_eq_false this]; rfl⟩
theorem SameRat_ok {H : Hd} {w : World} {rx ry : RatR} {x y : Rat} (hx : CanQ H w rx x) (hy : CanQ H w ry y) (hf : FitQ 1099511627776 x) :
    CallS Try.prog 62 #[rx.v, ry.v] w fun v w' => Ext w w' ∧ v = .bool (decide (x = y)) := by
  refine enter ttOk mixed (args := [rx.v, ry.v]) Try.func62 rfl (by kernel_rfl) (by kernel_rfl) rfl ?_
  intro b1 w1 hb1 b2 w2 hb2
  have hx2 : Ext w w2 := hb2.extFrom hb1.ext
  have hB1 : Blk w2 b1 33 (rcs rx) := hb1.toBlk.ext hb2.ext
  have hB2 : Blk w2 b2 33 (rcs ry) := hb2.toBlk
  refine ⟨rx.num.v, loadQn hB1, ry.num.v, loadQn hB2, ?_⟩
  refine CallS.mono (SameInt_ok (hx.num.ext hx2) (hy.num.ext hx2) hf.num) ?_
  rintro _ w3 ⟨hx3, rfl⟩
  have hden : denC x = denC y ↔ x.den = y.den := by
    have := x.den_nz
    have := y.den_nz
    unfold denC
    constructor
    · intro h
      split at h <;> split at h <;> omega
    · intro h; rw [h]
  by_cases h1 : x.num = y.num
  · rw [decide_eq_true h1]
    refine ⟨rx.den.v, (hB1.ext hx3).agg (sub := [.bool rx.den.neg, .slice rx.den.a rx.den.n rx.den.c]) rfl rfl, ry.den.v, (hB2.ext hx3).agg (sub := [.bool ry.den.neg, .slice ry.den.a ry.den.n ry.den.c]) rfl rfl, ?_⟩
    have hfd : Fit 1099511627776 (denC x) := by
      unfold denC
      split
      · exact Fit.zero _
      · exact hf.den
    refine CallS.mono (SameInt_ok ((hx.den.ext hx2).ext hx3) ((hy.den.ext hx2).ext hx3) hfd) ?_
    rintro _ w4 ⟨hx4, rfl⟩
    have : (denC x = denC y) ↔ x = y := by
      rw [hden]
      constructor
      · intro h; exact Rat.ext h1 h
      · intro h; rw [h]
    exact ⟨Ext.trans' (Ext.trans' hx2 hx3) hx4, by rw [decide_eq_decide.2 this]; rfl⟩
  · rw [decide_eq_false h1]
    have : ¬ x = y := fun h => h1 (by rw [h])
    exact ⟨Ext.trans' hx2 hx3, by rw [decide_eq_false this]; rfl⟩
end Go.Proofs.Ytpgagepleffjlaa
/-
  Contracts of the watch's own helpers: whether vectors are the same. Helpers; no statement of the program is proved here.
-/
set_option maxRecDepth 100000
set_option linter.unusedSimpArgs false
set_option linter.unusedVariables false
namespace Go.Proofs.Ytpgagepleffjlaa
open Go Go.Tw Go.RowKit
attribute [local irreducible] LoadAt StoreOk Stored rawVC

theorem tsCan_get {k : Nat} {H : Hd} {w : World} {ts : List TmR} {xs : VL} (h : TsCan k H w ts xs) {j : Nat} {p : Int × Rat} (hj : xs[j]? = some p) : ∃ t, ts[j]? = some t ∧ t.at' = p.1 ∧ CanQ H w t.x p.2 ∧ FitQ k p.2 := by
  induction h generalizing j with
  | nil => simp at hj
  | cons h1 h2 h3 _ ih =>
    cases j with
    | zero =>
      simp only [List.getElem?_cons_zero, Option.some.injEq] at hj ⊢
      subst hj
      exact ⟨_, rfl, h1, h2, h3⟩
    | succ j =>
      simp only [List.getElem?_cons_succ] at hj ⊢
      exact ih hj
theorem SameVec_ok {k k' : Nat} {H : Hd} {w : World} {rx ry : SlR} {xs ys : VL} (hx : CanV k H w rx xs) (hy : CanV k' H w ry ys) (hk : k ≤ 1099511627776) (hxl : xs.length ≤ 1099511627776) :
    CallS Try.prog 17 #[rx.v, ry.v] w fun v w' => Ext w w' ∧ v = .bool (decide (xs = ys)) := by
  have hl := hx.len
  have hm := hy.len
  obtain ⟨⟨ts, hT, hI⟩, hnc, hcm, hav⟩ := hx
  obtain ⟨⟨us, hU, hJ⟩, hnc', hcm', hav'⟩ := hy
  refine enter ttOk mixed (args := [rx.v, ry.v]) Try.func17 rfl (by kernel_rfl) (by kernel_rfl) rfl ?_
  refine And.intro (fun h1 => ?_) (fun h1 => ?_)
  · have : ¬ xs = ys := fun h => h1 (by rw [hl, hm, h])
    exact ⟨Ext.rfl w, by rw [decide_eq_false this]; rfl⟩
  · have hnm : rx.n = ry.n := by omega
    refine ⟨Nat, fun x => [(0, rx.v), (1, ry.v), (5, .int .i64 (x : Int))], fun x w' => Ext w w' ∧ x ≤ rx.n ∧ xs.take x = ys.take x, fun x _ => rx.n - x, ⟨0, ⟨rfl, rfl, rfl, trivial⟩, Ext.rfl w, Nat.zero_le _, rfl⟩, ?_⟩
    rintro i w1 ⟨hx1, hi, he⟩
    dsimp only at *
    refine And.intro (fun h2 => ?_) (fun h2 => ?_)
    · have hin := ltTo h2
      have hjn : i < ry.n := by omega
      have g1 := vget (ys := xs) (j := i) (by omega)
      have g2 := vget (ys := ys) (j := i) (by omega)
      refine (tsCan_get hI g1).elim fun t dt => ?_
      refine (tsCan_get hJ g2).elim fun u du => ?_
      have l1 := (hT.ext hx1).loadAt (T := tt) (ty := 3) (sz := 5) dt.1 rfl rfl
      have l2 := (hU.ext hx1).loadAt (T := tt) (ty := 3) (sz := 5) du.1 rfl rfl
      have x1 := (hT.ext hx1).loadX (T := tt) (ty := 33) (sz := 5) dt.1 rfl rfl
      have x2 := (hU.ext hx1).loadX (T := tt) (ty := 33) (sz := 5) du.1 rfl rfl
      refine ⟨sq 25, by kernel_rfl, i, ⟨rfl, hin, hT.base (by omega)⟩, _, l1, i, ⟨rfl, hjn, hU.base (by omega)⟩, _, l2, fun h3 => ?_, fun h3 => ?_⟩
      · intro w2 hx2 _
        have : ¬ xs = ys := fun h => h3 (by rw [dt.2.1, du.2.1, h])
        exact ⟨Ext.trans' hx1 hx2, by rw [decide_eq_false this]; rfl⟩
      · refine ⟨i, ⟨rfl, hin, hT.base (by omega)⟩, t.x.v, x1, i, ⟨rfl, hjn, hU.base (by omega)⟩, u.x.v, x2, ?_⟩
        have hc : ∀ w', Ext w1 w' → True → CallS Try.prog 62 #[t.x.v, u.x.v] w' fun v w'' => Ext w' w'' ∧ v = .bool (decide (xl xs i = xl ys i)) := fun w' hw _ => SameRat_ok ((dt.2.2.1.ext hx1).ext hw) ((du.2.2.1.ext hx1).ext hw) (dt.2.2.2.mono hk)
        by_cases h4 : xl xs i = xl ys i
        · rw [decide_eq_true h4] at hc
          refine dcallV (.bool true) hc ?_
          intro w2 hx2 _
          have e : xs[i]? = ys[i]? := by
            rw [g1, g2]
            have : pl xs i = pl ys i := by have := dt.2.1; have := du.2.1; omega
            rw [this, h4]
          exact ⟨((i + 1 : Nat) : Int), sucI i (by omega), i + 1, ⟨rfl, rfl, rfl, trivial⟩, ⟨Ext.trans' hx1 hx2, hin, take_same he e⟩, Nat.sub_lt_sub_left hin (Nat.lt_succ_self i)⟩
        · rw [decide_eq_false h4] at hc
          refine dcallV (.bool false) hc ?_
          intro w2 hx2 _
          have : ¬ xs = ys := fun h => h4 (by rw [h])
          exact ⟨Ext.trans' hx1 hx2, by rw [decide_eq_false this]; rfl⟩
    · have e : i = rx.n := Nat.le_antisymm hi (geTo h2)
      have : xs = ys := by
        rw [List.take_of_length_le (by omega), List.take_of_length_le (by omega)] at he
        exact he
      exact ⟨hx1, by rw [decide_eq_true this]; rfl⟩
end Go.Proofs.Ytpgagepleffjlaa
/-
  Contracts of the watch's own helpers: whether fractions and vectors are short. Helpers; no statement of the program is proved here.
-/
set_option maxRecDepth 100000
set_option linter.unusedSimpArgs false
set_option linter.unusedVariables false
namespace Go.Proofs.Ytpgagepleffjlaa
open Go Go.Tw Go.RowKit
attribute [local irreducible] LoadAt StoreOk Stored rawVC

def shQ (r : RatR) (m : Nat) : Prop := r.num.n ≤ m ∧ r.den.n ≤ m
instance (r : RatR) (m : Nat) : Decidable (shQ r m) := inferInstanceAs (Decidable (_ ∧ _))
theorem ShortRat_ok {w : World} (r : RatR) (m : Nat) :
    CallS Try.prog 15 #[r.v, .int .i64 (m : Int)] w fun v w' => Ext w w' ∧ v = .bool (decide (shQ r m)) := by
  refine enter ttOk mixed (args := [r.v, .int .i64 (m : Int)]) Try.func15 rfl (by kernel_rfl) (by kernel_rfl) rfl ?_
  intro b1 w1 hb1
  have hB : Blk w1 b1 33 (rcs r) := hb1.toBlk
  refine ⟨_, hB.one (off := 1) rfl rfl, ?_⟩
  refine And.intro (fun h1 => ?_) (fun h1 => ?_)
  · refine ⟨_, hB.one (off := 3) rfl rfl, ?_⟩
    refine And.intro (fun h2 => ?_) (fun h2 => ?_)
    · exact ⟨hb1.ext, by rw [decide_eq_true (show shQ r m from ⟨by omega, by omega⟩)]; rfl⟩
    · exact ⟨hb1.ext, by rw [decide_eq_false (show ¬ shQ r m from fun h => h2 (by have := h.2; omega))]; rfl⟩
  · exact ⟨hb1.ext, by rw [decide_eq_false (show ¬ shQ r m from fun h => h1 (by have := h.1; omega))]; rfl⟩
def shV (n : Nat) (ts : List TmR) (l m : Nat) : Prop := n ≤ l ∧ ∀ t ∈ ts, shQ t.x m
instance (n : Nat) (ts : List TmR) (l m : Nat) : Decidable (shV n ts l m) := inferInstanceAs (Decidable (_ ∧ _))
theorem ShortVec_ok {w : World} {a : Option Addr} {n c : Nat} {ts : List TmR} (hT : Tms w a n ts) (l m : Nat) (hl : l ≤ 1099511627776) :
    CallS Try.prog 14 #[.slice a n c, .int .i64 (l : Int), .int .i64 (m : Int)] w fun v w' => Ext w w' ∧ v = .bool (decide (shV n ts l m)) := by
  have hlen := hT.len
  refine enter ttOk mixed (args := [.slice a n c, .int .i64 (l : Int), .int .i64 (m : Int)]) Try.func14 rfl (by kernel_rfl) (by kernel_rfl) rfl ?_
  refine And.intro (fun h1 => ?_) (fun h1 => ?_)
  · exact ⟨Ext.rfl w, by rw [decide_eq_false (show ¬ shV n ts l m from fun h => by have := h.1; omega)]; rfl⟩
  · refine ⟨Nat, fun x => [(0, .slice a n c), (2, .int .i64 (m : Int)), (7, .int .i64 (x : Int))], fun x w' => Ext w w' ∧ x ≤ n ∧ ∀ t ∈ ts.take x, shQ t.x m, fun x _ => n - x, ⟨0, ⟨rfl, rfl, rfl, trivial⟩, Ext.rfl w, Nat.zero_le _, fun t h => by simp at h⟩, ?_⟩
    rintro i w1 ⟨hx1, hi, hs⟩
    dsimp only at *
    refine And.intro (fun h2 => ?_) (fun h2 => ?_)
    · have hin := ltTo h2
      have hg := getD_some (ts := ts) (j := i) (by omega)
      refine ⟨i, ⟨rfl, hin, hT.base (by omega)⟩, _, (hT.ext hx1).loadX (T := tt) (ty := 33) (sz := 5) hg rfl rfl, ?_⟩
      refine CallS.mono (ShortRat_ok _ m) ?_
      rintro _ w2 ⟨hx2, rfl⟩
      by_cases hc : shQ (ts.getD i default).x m
      · rw [decide_eq_true hc]
        refine ⟨((i + 1 : Nat) : Int), sucI i (by omega), i + 1, ⟨rfl, rfl, rfl, trivial⟩, ⟨Ext.trans' hx1 hx2, hin, fun t ht => ?_⟩, Nat.sub_lt_sub_left hin (Nat.lt_succ_self i)⟩
        rw [take_succD (by omega), List.mem_append] at ht
        rcases ht with ht | ht
        · exact hs t ht
        · rw [List.mem_singleton] at ht; rw [ht]; exact hc
      · rw [decide_eq_false hc]
        exact ⟨Ext.trans' hx1 hx2, by rw [decide_eq_false (show ¬ shV n ts l m from fun h => hc (h.2 _ (List.mem_of_getElem? hg)))]; rfl⟩
    · have e : i = n := Nat.le_antisymm hi (geTo h2)
      rw [List.take_of_length_le (by omega)] at hs
      exact ⟨hx1, by rw [decide_eq_true (show shV n ts l m from ⟨by omega, hs⟩)]; rfl⟩
/-! ### what comes in -/
structure OpQ (w : World) (r : RatR) : Prop where
  num : ∃ L, Words w r.num.a r.num.n L
  den : ∃ L, Words w r.den.a r.den.n L
  nc : r.num.n ≤ r.num.c
  cm : r.num.c ≤ 9223372036854775807
  nc' : r.den.n ≤ r.den.c
  cm' : r.den.c ≤ 9223372036854775807
structure OpV (w : World) (r : SlR) (ts : List TmR) : Prop where
  tms : Tms w r.a r.n ts
  all : ∀ t ∈ ts, OpQ w t.x
  nc : r.n ≤ r.c
  cm : r.c ≤ 9223372036854775807
def H0 : Hd := fun _ => False
theorem H0.hb (w : World) : HB H0 w := fun b h => h.elim
theorem H0.av (a : Option Addr) (n : Nat) : Av H0 a n := fun _ h => h.elim
theorem OpQ.inq {w : World} {r : RatR} (h : OpQ w r) {m : Nat} (hm : m ≤ 1099511627776) (hs : shQ r m) : ∃ q, InQ m H0 w r q := by
  obtain ⟨⟨L, hL⟩, ⟨M, hM⟩, h1, h2, h3, h4⟩ := h
  exact ⟨_, ⟨⟨_, _, ⟨⟨L, hL, rfl⟩, h1, h2, Nat.le_trans hs.1 hm, H0.av _ _⟩, ⟨⟨M, hM, rfl⟩, h3, h4, Nat.le_trans hs.2 hm, H0.av _ _⟩, rfl⟩, hs.1, hs.2⟩⟩
theorem OpV.inv {w : World} {r : SlR} {ts : List TmR} (h : OpV w r ts) {l m : Nat} (hm : m ≤ 1099511627776) (hs : shV r.n ts l m) : ∃ xs, InV m H0 w r xs ∧ xs.length ≤ l := by
  have : ∀ us : List TmR, (∀ t ∈ us, OpQ w t.x ∧ shQ t.x m) → ∃ xs, TsIn m H0 w us xs := by
    intro us
    induction us with
    | nil => exact fun _ => ⟨[], .nil⟩
    | cons t us ih =>
      intro hu
      obtain ⟨xs, hxs⟩ := ih fun t ht => hu t (by simp [ht])
      have h0 := hu t (by simp)
      obtain ⟨q, hq⟩ := h0.1.inq hm h0.2
      exact ⟨(t.at', q) :: xs, .cons rfl hq hxs⟩
  obtain ⟨xs, hxs⟩ := this ts fun t ht => ⟨h.all t ht, hs.2 t ht⟩
  have hv : InV m H0 w r xs := ⟨⟨ts, h.tms, hxs⟩, h.nc, h.cm, H0.av _ _⟩
  exact ⟨xs, hv, by have := hv.len; have := hs.1; omega⟩
end Go.Proofs.Ytpgagepleffjlaa
/-
  The contracts of the layer sparse, put for what a watch asks: nothing hidden, lengths known. Helpers; no statement of the program is proved here.
-/
set_option maxRecDepth 100000
set_option linter.unusedSimpArgs false
set_option linter.unusedVariables false
namespace Go.Proofs.Ytpgagepleffjlaa
open Go Go.Tw Go.RowKit
attribute [local irreducible] LoadAt StoreOk Stored rawVC

structure VI (k l : Nat) (w : World) (r : SlR) (xs : VL) : Prop where
  inv : InV k H0 w r xs
  len : xs.length ≤ l
  ok : Ok21 xs
structure VC (k l : Nat) (w : World) (r : SlR) (xs : VL) : Prop where
  can : CanV k H0 w r xs
  cn : Cn xs
  len : xs.length ≤ l
structure QC (k : Nat) (w : World) (r : RatR) (q : Rat) : Prop where
  can : CanQ H0 w r q
  fit : FitQ k q
structure QI (k : Nat) (w : World) (r : RatR) (q : Rat) : Prop where
  inq : InQ k H0 w r q
section
variable {k l m k1 k2 : Nat} {w w' : World} {r rx ry rz : SlR} {xs ys zs : VL} {x y : RatR} {p q : Rat}
theorem VI.ext (h : VI k l w r xs) (e : Ext w w') : VI k l w' r xs := ⟨h.inv.ext e, h.len, h.ok⟩
theorem VC.ext (h : VC k l w r xs) (e : Ext w w') : VC k l w' r xs := ⟨h.can.ext e, h.cn, h.len⟩
theorem QC.ext (h : QC k w x q) (e : Ext w w') : QC k w' x q := ⟨h.can.ext e, h.fit⟩
theorem QI.ext (h : QI k w x q) (e : Ext w w') : QI k w' x q := ⟨h.inq.ext e⟩
theorem VC.stable : Stable (fun w => VC k l w r xs) := fun _ _ h e => h.ext e
theorem QC.stable : Stable (fun w => QC k w x q) := fun _ _ h e => h.ext e
theorem VC.vi (h : VC k l w r xs) (hk : k ≤ 1099511627776) : VI k l w r xs := ⟨h.can.inv hk, h.len, .inr h.cn.ris⟩
theorem QC.qi (h : QC k w x q) (hk : k ≤ 1099511627776) : QI k w x q := ⟨h.can.inq h.fit hk⟩
theorem VI.mono (h : VI k1 l w r xs) (hk : k1 ≤ k) : VI k l w r xs := ⟨h.inv.mono hk, h.len, h.ok⟩
theorem QI.mono (h : QI k1 w x q) (hk : k1 ≤ k) : QI k w x q := ⟨h.inq.mono hk⟩
theorem axp_len (ys : VL) (a : Rat) (xs : VL) : (axp ys a xs).length ≤ ys.length + xs.length := by
  have := nrm_len (ys ++ smul a xs)
  simp only [List.length_append, smul, List.length_map] at this
  exact this
abbrev Vok (k1 k2 k l m : Nat) : Prop := k1 ≤ k ∧ k2 ≤ k ∧ 1 ≤ k ∧ k ≤ 16777216 ∧ l ≤ 65536 ∧ m ≤ 65536
theorem add_at (k : Nat) (hx : VI k1 l w rx xs) (hy : VI k2 m w ry ys) (h : Vok k1 k2 k l m) :
    CallS Try.prog 18 #[rx.v, ry.v] w fun v w' => Ext w w' ∧ ∃ s : SlR, v = s.v ∧ VC (aK k) (l + m) w' s (axp xs 1 ys) := by
  obtain ⟨h1, h2, h3, h4, h5, h6⟩ := h
  have := hx.len
  have := hy.len
  refine CallS.mono (VAdd_ok (H0.hb w) (hx.mono h1).inv (hy.mono h2).inv h4 h3 (by omega) (by omega) hx.ok hy.ok) ?_
  rintro _ w2 ⟨hx2, s, rfl, hs⟩
  exact ⟨hx2, s, rfl, hs, nrm_cn _, Nat.le_trans (axp_len _ _ _) (by omega)⟩
theorem axpy_at (k : Nat) {k3 : Nat} (hy : VI k1 l w ry ys) (ha : QI k3 w x q) (hx : VI k2 m w rx xs) (h : Vok k1 k2 k l m ∧ k3 ≤ k) :
    CallS Try.prog 19 #[ry.v, x.v, rx.v] w fun v w' => Ext w w' ∧ ∃ s : SlR, v = s.v ∧ VC (aK k) (l + m) w' s (axp ys q xs) := by
  obtain ⟨⟨h1, h2, h3, h4, h5, h6⟩, h7⟩ := h
  have := hx.len
  have := hy.len
  refine CallS.mono (Axpy_ok (H0.hb w) (hy.mono h1).inv (ha.mono h7).inq (hx.mono h2).inv h4 (by omega) (by omega) hx.ok hy.ok) ?_
  rintro _ w2 ⟨hx2, s, rfl, hs⟩
  exact ⟨hx2, s, rfl, hs, nrm_cn _, Nat.le_trans (axp_len _ _ _) (by omega)⟩
theorem scale_at (k : Nat) (ha : QI k2 w x q) (hx : VI k1 l w rx xs) (h : Vok k1 k2 k l l) :
    CallS Try.prog 22 #[x.v, rx.v] w fun v w' => Ext w w' ∧ ∃ s : SlR, v = s.v ∧ VC (aK k) l w' s (axp [] q xs) := by
  obtain ⟨h1, h2, h3, h4, h5, h6⟩ := h
  have := hx.len
  refine CallS.mono (VScale_ok (H0.hb w) (ha.mono h2).inq (hx.mono h1).inv h4 (by omega) hx.ok) ?_
  rintro _ w2 ⟨hx2, s, rfl, hs⟩
  exact ⟨hx2, s, rfl, hs, nrm_cn _, Nat.le_trans (axp_len _ _ _) (by simp; omega)⟩
theorem norm_at (hx : VI k l w rx xs) (h : k ≤ 1073741824 ∧ l ≤ 21) :
    CallS Try.prog 21 #[rx.v] w fun v w' => Ext w w' ∧ ∃ s : SlR, v = s.v ∧ VC (nK k) l w' s (nrm xs) := by
  have := hx.len
  refine CallS.mono (VNorm_ok (H0.hb w) hx.inv h.1 (by omega)) ?_
  rintro _ w2 ⟨hx2, s, rfl, hs⟩
  exact ⟨hx2, s, rfl, hs, nrm_cn _, Nat.le_trans (nrm_len _) hx.len⟩
theorem dot_at (k : Nat) (hx : VI k1 l w rx xs) (hy : VI k2 m w ry ys) (h : Vok k1 k2 k l m ∧ dK k l ≤ 68719476736) :
    CallS Try.prog 26 #[rx.v, ry.v] w fun v w' => Ext w w' ∧ ∃ s : RatR, v = s.v ∧ QC (dK k l) w' s (dotL xs ys) := by
  obtain ⟨⟨h1, h2, h3, h4, h5, h6⟩, h7⟩ := h
  have := hx.len
  have := hy.len
  refine CallS.mono (VDot_ok (H0.hb w) (hx.mono h1).inv (hy.mono h2).inv h4 (by omega) (by omega) hx.ok hy.ok (Nat.le_trans (dK_mono hx.len) h7)) ?_
  rintro _ w2 ⟨hx2, s, rfl, hs⟩
  exact ⟨hx2, s, rfl, hs.1, hs.2.mono (dK_mono hx.len)⟩
theorem get_at (hx : VI k l w rx xs) (i : Int) (h : k ≤ 137438953472 ∧ 1 + l * (k + 2) ≤ 137438953472) :
    CallS Try.prog 27 #[rx.v, .int .i64 i] w fun v w' => Ext w w' ∧ ∃ s : RatR, v = s.v ∧ QC (1 + l * (k + 2)) w' s (getL xs i) := by
  have h2 : 1 + xs.length * (k + 2) ≤ 1 + l * (k + 2) := fitMul hx.len
  refine CallS.mono (VGet_ok (H0.hb w) hx.inv i h.1 (Nat.le_trans h2 h.2)) ?_
  rintro _ w2 ⟨hx2, s, rfl, hs⟩
  exact ⟨hx2, s, rfl, hs.1, hs.2.mono h2⟩
theorem put_at (k : Nat) (hx : VI k1 l w rx xs) (i : Int) (ha : QI k2 w x q) (hl : (putV xs i q).length ≤ 21) (h : Vok k1 k2 k l l) :
    CallS Try.prog 28 #[rx.v, .int .i64 i, x.v] w fun v w' => Ext w w' ∧ ∃ s : SlR, v = s.v ∧ VC (nK k) 21 w' s (nrm (putV xs i q)) := by
  obtain ⟨h1, h2, h3, h4, h5, h6⟩ := h
  have := hx.len
  refine CallS.mono (Put_ok (H0.hb w) (hx.mono h1).inv (ha.mono h2).inq (by omega) hl (by omega)) ?_
  rintro _ w2 ⟨hx2, s, rfl, hs⟩
  exact ⟨hx2, s, rfl, hs, nrm_cn _, Nat.le_trans (nrm_len _) hl⟩
theorem vsame_at (k : Nat) (hx : VI k1 l w rx xs) (hy : VI k2 m w ry ys) (h : Vok k1 k2 k l m) :
    CallS Try.prog 29 #[rx.v, ry.v] w fun v w' => Ext w w' ∧ v = .bool (decide (axp xs (-1) ys = [])) := by
  obtain ⟨h1, h2, h3, h4, h5, h6⟩ := h
  have := hx.len
  have := hy.len
  exact VSame_ok (H0.hb w) (hx.mono h1).inv (hy.mono h2).inv h4 h3 (by omega) (by omega) hx.ok hy.ok
theorem svec_at (hx : VC k1 l w rx xs) (hy : VC k2 m w ry ys) (h : k1 ≤ 1099511627776 ∧ l ≤ 1099511627776) :
    CallS Try.prog 17 #[rx.v, ry.v] w fun v w' => Ext w w' ∧ v = .bool (decide (xs = ys)) :=
  SameVec_ok hx.can hy.can h.1 (Nat.le_trans hx.len h.2)
theorem svecT_at (hx : VC k1 l w rx xs) (hy : VC k2 m w ry ys) (h : k1 ≤ 1099511627776 ∧ l ≤ 1099511627776) (e : xs = ys) :
    CallS Try.prog 17 #[rx.v, ry.v] w fun v w' => Ext w w' ∧ v = .bool true := by
  have := svec_at hx hy h
  rw [decide_eq_true e] at this; exact this
theorem rsameT_at (hx : QI k1 w x p) (hy : QI k2 w y q) (h : k1 ≤ 137438953472 ∧ k2 ≤ 137438953472) (e : p = q) :
    CallS Try.prog 25 #[x.v, y.v] w fun v w' => Ext w w' ∧ v = .bool true := by
  have := RSame_ok (H0.hb w) (hx.mono h.1).inq (hy.mono h.2).inq
  rw [decide_eq_true e] at this; exact this
theorem srat_at (hx : QC k1 w x p) (hy : QC k2 w y q) (h : k1 ≤ 1099511627776) :
    CallS Try.prog 62 #[x.v, y.v] w fun v w' => Ext w w' ∧ v = .bool (decide (p = q)) :=
  SameRat_ok hx.can hy.can (hx.fit.mono h)
theorem rmul_at (hx : QI k1 w x p) (hy : QI k2 w y q) (h : k1 ≤ 137438953472 ∧ k2 ≤ 137438953472) :
    CallS Try.prog 24 #[x.v, y.v] w fun v w' => Ext w w' ∧ ∃ s : RatR, v = s.v ∧ QC (k1 + 1 + (k2 + 1)) w' s (p * q) := by
  refine CallS.mono (RMul_ok (H0.hb w) (hx.mono h.1).inq (hy.mono h.2).inq) ?_
  rintro _ w2 ⟨hx2, s, rfl, hs⟩
  exact ⟨hx2, s, rfl, hs, FitQ.mul hx.inq.fit hy.inq.fit (by omega)⟩
theorem radd_at (hx : QI k1 w x p) (hy : QI k2 w y q) (h : k1 ≤ 137438953472 ∧ k2 ≤ 137438953472) :
    CallS Try.prog 23 #[x.v, y.v] w fun v w' => Ext w w' ∧ ∃ s : RatR, v = s.v ∧ QC (k1 + 1 + (k2 + 1) + 1) w' s (p + q) := by
  refine CallS.mono (RAdd_ok (H0.hb w) (hx.mono h.1).inq (hy.mono h.2).inq) ?_
  rintro _ w2 ⟨hx2, s, rfl, hs⟩
  exact ⟨hx2, s, rfl, hs, FitQ.add hx.inq.fit hy.inq.fit⟩
theorem of_at (n d : Int) (hn : n.natAbs < 65536) (hd : d.natAbs < 65536) (hf : FitQ 1 (Rat.divInt n d)) :
    CallS Try.prog 20 #[.int .i64 n, .int .i64 d] w fun v w' => Ext w w' ∧ ∃ s : RatR, v = s.v ∧ QC 1 w' s (Rat.divInt n d) := by
  refine CallS.mono (ROf_ok (H0.hb w) (by omega) (by omega) (by omega) (by omega)) ?_
  rintro _ w2 ⟨hx2, s, rfl, hs⟩
  exact ⟨hx2, s, rfl, hs, hf⟩
end
end Go.Proofs.Ytpgagepleffjlaa
/-
  The watch of the layer sparse: its terms. Helpers; no statement of the program is proved here.
-/
set_option maxRecDepth 100000
set_option linter.unusedSimpArgs false
set_option linter.unusedVariables false
namespace Go.Proofs.Ytpgagepleffjlaa
open Go Go.Tw Go.RowKit
attribute [local irreducible] LoadAt StoreOk Stored rawVC

theorem TmR.inj {x y : TmR} (h : x.v = y.v) : x = y := by
  obtain ⟨a, ⟨⟨b, c, d, e⟩, ⟨f, g, i, j⟩⟩⟩ := x
  obtain ⟨a', ⟨⟨b', c', d', e'⟩, ⟨f', g', i', j'⟩⟩⟩ := y
  simp only [TmR.v, Value.agg.injEq, Array.mk.injEq, List.cons.injEq, Value.int.injEq, Value.bool.injEq, Value.slice.injEq, true_and, and_true] at h
  obtain ⟨h1, h2, ⟨h3, h4, h5⟩, h6, h7, h8, h9⟩ := h
  subst h1 h2 h3 h4 h5 h6 h7 h8 h9
  rfl
structure TC (i : Int) (q : Rat) (w : World) (t : TmR) : Prop where
  at' : t.at' = i
  qc : QC 1 w t.x q
theorem TC.ext {i : Int} {q : Rat} {w w' : World} {t : TmR} (h : TC i q w t) (e : Ext w w') : TC i q w' t := ⟨h.at', h.qc.ext e⟩
theorem TC.stable {i : Int} {q : Rat} (t : TmR) : Stable (fun w => TC i q w t) := fun _ _ h e => h.ext e
theorem term_at {w : World} (i n d : Int) (hn : n.natAbs < 65536) (hd : d.natAbs < 65536) (hf : FitQ 1 (Rat.divInt n d)) :
    CallS Try.prog 44 #[.int .i64 i, .int .i64 n, .int .i64 d] w fun v w' => Ext w w' ∧ ∃ t : TmR, v = t.v ∧ TC i (Rat.divInt n d) w' t := by
  refine enter ttOk mixed (args := [.int .i64 i, .int .i64 n, .int .i64 d]) Try.func44 rfl (by kernel_rfl) (by kernel_rfl) rfl ?_
  intro b w1 hb
  refine CallS.mono (ROf_ok ((H0.hb w).up hb.ext) (by omega) (by omega) (by omega) (by omega)) ?_
  rintro _ w2 ⟨hx2, r, rfl, hr⟩
  have hB2 := hb.toBlk.ext hx2
  refine ⟨(storeTmB (w' := w2) (t := ⟨i, r⟩) hB2 rfl).1, fun w3 hs3 => ?_⟩
  have h3 := (storeTmB (t := ⟨i, r⟩) hB2 rfl).2 hs3
  have hr3 := (hr.far h3.2 (hb.inUp (Ext.rfl w) (Ext.rfl w1))).less
  refine ⟨(TmR.mk i r).v, h3.1.agg (sub := (TmR.mk i r).cs) rfl rfl, ?_⟩
  exact ⟨Ext.grownB (Ext.trans' hb.ext hx2) h3.2 (hb.ge (Ext.rfl w)), ⟨i, r⟩, rfl, rfl, hr3, hf⟩
theorem fit1 {q : Rat} (h : (Nat.blt q.num.natAbs 18446744073709551616 && Nat.blt q.den 18446744073709551616) = true) : FitQ 1 q := by
  simp only [Bool.and_eq_true, Nat.blt_eq] at h
  exact ⟨Fit_iff.2 (by rw [Nat.pow_one]; exact h.1), Fit_iff.2 (by rw [Nat.pow_one]; exact h.2)⟩
/-! ### rows of terms -/
inductive TCs (w : World) : List TmR → VL → Prop
  | nil : TCs w [] []
  | cons {i : Int} {q : Rat} {t : TmR} {ts : List TmR} {xs : VL} : TC i q w t → TCs w ts xs → TCs w (t :: ts) ((i, q) :: xs)
theorem TCs.ext {w w' : World} {ts : List TmR} {xs : VL} (h : TCs w ts xs) (e : Ext w w') : TCs w' ts xs := by
  induction h with
  | nil => exact .nil
  | cons h _ ih => exact .cons (h.ext e) ih
theorem TCs.can {w : World} {ts : List TmR} {xs : VL} (h : TCs w ts xs) : TsCan 1 H0 w ts xs := by
  induction h with
  | nil => exact .nil
  | cons h _ ih => exact .cons h.at' h.qc.can h.qc.fit ih
theorem TCs.vc {w : World} {ts : List TmR} {xs : VL} {b e : Nat} (n : Nat) (h : TCs w ts xs) (hb : Blk w b e (tcs ts)) (hn : ts.length = n) (hl : n ≤ 21) (hc : Cn xs) : VC 1 n w ⟨some ⟨b, 0, none⟩, n, n⟩ xs := by
  subst hn
  have hB : Blk w b e (tcs ts ++ []) := by rw [List.append_nil]; exact hb
  have hl' := h.can.length
  exact ⟨⟨⟨ts, Tms.blk hB, h.can⟩, Nat.le_refl _, by show ts.length ≤ _; omega, H0.av _ _⟩, hc, by omega⟩
theorem TCs.vi {w : World} {ts : List TmR} {xs : VL} {b e : Nat} (n : Nat) (h : TCs w ts xs) (hb : Blk w b e (tcs ts)) (hn : ts.length = n) (hl : n ≤ 21) : VI 1 n w ⟨some ⟨b, 0, none⟩, n, n⟩ xs := by
  subst hn
  have hB : Blk w b e (tcs ts ++ []) := by rw [List.append_nil]; exact hb
  have hl' := h.can.length
  exact ⟨⟨⟨ts, Tms.blk hB, h.can.inq (by omega)⟩, Nat.le_refl _, by show ts.length ≤ _; omega, H0.av _ _⟩, by omega, .inl (by omega)⟩
end Go.Proofs.Ytpgagepleffjlaa
/-
  The watch of the layer sparse: its own example. Helpers; no statement of the program is proved here.
-/
set_option maxRecDepth 100000
set_option linter.unusedSimpArgs false
set_option linter.unusedVariables false
namespace Go.Proofs.Ytpgagepleffjlaa
open Go Go.Tw Go.RowKit
attribute [local irreducible] LoadAt StoreOk Stored rawVC

def cnB (x : VL) : Bool :=
  match x with
  | [] => true
  | t :: x => !decide (t.2 = 0) && x.all (fun s => decide (t.1 < s.1)) && cnB x
theorem cnL {x : VL} (h : cnB x = true) : Cn x := by
  induction x with
  | nil => exact Cn.nil
  | cons t x ih =>
    simp only [cnB, Bool.and_eq_true, List.all_eq_true, decide_eq_true_eq, Bool.not_eq_true', decide_eq_false_iff_not] at h
    refine ⟨List.pairwise_cons.2 ⟨h.1.2, (ih h.2).1⟩, ?_⟩
    intro s hs
    rcases List.mem_cons.1 hs with rfl | hs
    · exact h.1.1
    · exact (ih h.2).2 s hs
theorem sratT_at {k1 k2 : Nat} {w : World} {x y : RatR} {p q : Rat} (hx : QC k1 w x p) (hy : QC k2 w y q) (h : k1 ≤ 1099511627776) (e : p = q) :
    CallS Try.prog 62 #[x.v, y.v] w fun v w' => Ext w w' ∧ v = .bool true := by
  have := srat_at hx hy h
  rw [decide_eq_true e] at this; exact this
theorem awake5_at (w0 : World) : CallS Try.prog 16 #[] w0 fun v w' => Ext w0 w' ∧ v = .bool true := by
  refine enter ttOk mixed (args := []) Try.func16 rfl (by kernel_rfl) (by kernel_rfl) rfl ?_
  refine CallS.mono (term_at (2) (1) (1) (by decide) (by decide) (fit1 (by kernel_rfl))) ?_
  rintro _ w1 ⟨x1, ta0, rfl, qta0⟩
  refine CallS.mono (term_at (0) (1) (2) (by decide) (by decide) (fit1 (by kernel_rfl))) ?_
  rintro _ w2 ⟨x2, ta1, rfl, qta1⟩
  refine CallS.mono (term_at (2) (-1) (1) (by decide) (by decide) (fit1 (by kernel_rfl))) ?_
  rintro _ w3 ⟨x3, ta2, rfl, qta2⟩
  intro a w4 ha
  have ha : New w3 w4 a tT (tcs [ta0, ta1, ta2]) := ha
  have x4 := ha.ext
  have va := TCs.vi 3 (.cons (qta0.ext (Ext.trans' (Ext.trans' x2 x3) x4)) (.cons (qta1.ext (Ext.trans' x3 x4)) (.cons (qta2.ext x4) (.nil)))) ha.toBlk rfl (by decide)
  refine CallS.mono (norm_at va (by decide)) ?_
  rintro _ w5 ⟨x5, s1, rfl, h1⟩
  refine CallS.mono (term_at (0) (1) (1) (by decide) (by decide) (fit1 (by kernel_rfl))) ?_
  rintro _ w6 ⟨x6, tb0, rfl, qtb0⟩
  refine CallS.mono (term_at (3) (2) (1) (by decide) (by decide) (fit1 (by kernel_rfl))) ?_
  rintro _ w7 ⟨x7, tb1, rfl, qtb1⟩
  intro b w8 hb
  have hb : New w7 w8 b tT (tcs [tb0, tb1]) := hb
  have x8 := hb.ext
  have vb := TCs.vi 2 (.cons (qtb0.ext (Ext.trans' x7 x8)) (.cons (qtb1.ext x8) (.nil))) hb.toBlk rfl (by decide)
  refine CallS.mono (term_at (3) (-2) (1) (by decide) (by decide) (fit1 (by kernel_rfl))) ?_
  rintro _ w9 ⟨x9, tc0, rfl, qtc0⟩
  refine CallS.mono (term_at (4) (1) (1) (by decide) (by decide) (fit1 (by kernel_rfl))) ?_
  rintro _ w10 ⟨x10, tc1, rfl, qtc1⟩
  intro c w11 hc
  have hc : New w10 w11 c tT (tcs [tc0, tc1]) := hc
  have x11 := hc.ext
  have vc := TCs.vi 2 (.cons (qtc0.ext (Ext.trans' x10 x11)) (.cons (qtc1.ext x11) (.nil))) hc.toBlk rfl (by decide)
  refine CallS.mono (add_at 1 (vb.ext (Ext.trans' (Ext.trans' x9 x10) x11)) vc (by decide)) ?_
  rintro _ w12 ⟨x12, s2, rfl, h2⟩
  refine CallS.mono (term_at (0) (1) (1) (by decide) (by decide) (fit1 (by kernel_rfl))) ?_
  rintro _ w13 ⟨x13, td0, rfl, qtd0⟩
  intro d w14 hd
  have hd : New w13 w14 d tT (tcs [td0]) := hd
  have x14 := hd.ext
  have vd := TCs.vi 1 (.cons (qtd0.ext x14) (.nil)) hd.toBlk rfl (by decide)
  refine CallS.mono (of_at (-2) 1 (by decide) (by decide) (fit1 (by kernel_rfl))) ?_
  rintro _ w15 ⟨x15, r3, rfl, hr3⟩
  refine CallS.mono (term_at (0) (1) (2) (by decide) (by decide) (fit1 (by kernel_rfl))) ?_
  rintro _ w16 ⟨x16, te0, rfl, qte0⟩
  refine CallS.mono (term_at (1) (1) (1) (by decide) (by decide) (fit1 (by kernel_rfl))) ?_
  rintro _ w17 ⟨x17, te1, rfl, qte1⟩
  intro e w18 he
  have he : New w17 w18 e tT (tcs [te0, te1]) := he
  have x18 := he.ext
  have ve := TCs.vi 2 (.cons (qte0.ext (Ext.trans' x17 x18)) (.cons (qte1.ext x18) (.nil))) he.toBlk rfl (by decide)
  refine CallS.mono (axpy_at 1 (vd.ext (Ext.trans' (Ext.trans' (Ext.trans' x15 x16) x17) x18)) ((hr3.ext (Ext.trans' (Ext.trans' x16 x17) x18)).qi (by decide)) ve (by decide)) ?_
  rintro _ w19 ⟨x19, s3, rfl, h3⟩
  refine CallS.mono (term_at (0) (1) (1) (by decide) (by decide) (fit1 (by kernel_rfl))) ?_
  rintro _ w20 ⟨x20, tf0, rfl, qtf0⟩
  refine CallS.mono (term_at (2) (3) (1) (by decide) (by decide) (fit1 (by kernel_rfl))) ?_
  rintro _ w21 ⟨x21, tf1, rfl, qtf1⟩
  intro f w22 hf
  have hf : New w21 w22 f tT (tcs [tf0, tf1]) := hf
  have x22 := hf.ext
  have vf := TCs.vi 2 (.cons (qtf0.ext (Ext.trans' x21 x22)) (.cons (qtf1.ext x22) (.nil))) hf.toBlk rfl (by decide)
  refine CallS.mono (term_at (2) (1) (3) (by decide) (by decide) (fit1 (by kernel_rfl))) ?_
  rintro _ w23 ⟨x23, tg0, rfl, qtg0⟩
  refine CallS.mono (term_at (5) (9) (1) (by decide) (by decide) (fit1 (by kernel_rfl))) ?_
  rintro _ w24 ⟨x24, tg1, rfl, qtg1⟩
  intro g w25 hg
  have hg : New w24 w25 g tT (tcs [tg0, tg1]) := hg
  have x25 := hg.ext
  have vg := TCs.vi 2 (.cons (qtg0.ext (Ext.trans' x24 x25)) (.cons (qtg1.ext x25) (.nil))) hg.toBlk rfl (by decide)
  refine CallS.mono (dot_at 1 (vf.ext (Ext.trans' (Ext.trans' x23 x24) x25)) vg (by decide)) ?_
  rintro _ w26 ⟨x26, r4, rfl, h4⟩
  intro b4 u4 hb4
  have st4 := storeQ (r := r4) hb4.toBlk hb4.ext (hb4.ge (Ext.rfl _)) rfl
  refine ⟨st4.1, fun w27 hs4 => ?_⟩
  have hB4 := (st4.2 w27 hs4).1
  have x27 := (st4.2 w27 hs4).2.2
  have h1 := (h1.ext (Ext.trans' (Ext.trans' (Ext.trans' (Ext.trans' (Ext.trans' (Ext.trans' (Ext.trans' (Ext.trans' (Ext.trans' (Ext.trans' (Ext.trans' (Ext.trans' (Ext.trans' (Ext.trans' (Ext.trans' (Ext.trans' (Ext.trans' (Ext.trans' (Ext.trans' (Ext.trans' (Ext.trans' x6 x7) x8) x9) x10) x11) x12) x13) x14) x15) x16) x17) x18) x19) x20) x21) x22) x23) x24) x25) x26) x27))
  have h2 := (h2.ext (Ext.trans' (Ext.trans' (Ext.trans' (Ext.trans' (Ext.trans' (Ext.trans' (Ext.trans' (Ext.trans' (Ext.trans' (Ext.trans' (Ext.trans' (Ext.trans' (Ext.trans' (Ext.trans' x13 x14) x15) x16) x17) x18) x19) x20) x21) x22) x23) x24) x25) x26) x27))
  have h3 := (h3.ext (Ext.trans' (Ext.trans' (Ext.trans' (Ext.trans' (Ext.trans' (Ext.trans' (Ext.trans' x20 x21) x22) x23) x24) x25) x26) x27))
  have h4 := (h4.ext x27)
  refine ⟨sq 26, by kernel_rfl, ?_⟩
  refine dcallR (mk := TmR.v) (Q := fun r w' => TC (0) (Rat.divInt (1) (2)) w' r) TmR.inj (fun _ => TC.stable _) (fun w' hw hF => term_at (0) (1) (2) (by decide) (by decide) (fit1 (by kernel_rfl))) ?_
  intro ti0
  intro i _
  refine dcallV (.bool true) (fun w' hw hF => svecT_at ((h1).ext hw) (TCs.vc 1 (ts := [ti0]) (.cons (hF.2.1) (.nil)) (show Blk w' i tT (tcs [ti0]) from (hF.1).1) rfl (by decide) (cnL (by kernel_rfl))) (by decide) (by kernel_rfl)) ?_
  refine dcallR (mk := TmR.v) (Q := fun r w' => TC (0) (Rat.divInt (1) (1)) w' r) TmR.inj (fun _ => TC.stable _) (fun w' hw hF => term_at (0) (1) (1) (by decide) (by decide) (fit1 (by kernel_rfl))) ?_
  intro tj0
  refine dcallR (mk := TmR.v) (Q := fun r w' => TC (4) (Rat.divInt (1) (1)) w' r) TmR.inj (fun _ => TC.stable _) (fun w' hw hF => term_at (4) (1) (1) (by decide) (by decide) (fit1 (by kernel_rfl))) ?_
  intro tj1
  intro j _
  refine dcallV (.bool true) (fun w' hw hF => svecT_at ((h2).ext hw) (TCs.vc 2 (ts := [tj0, tj1]) (.cons (hF.2.2.1) (.cons (hF.2.1) (.nil))) (show Blk w' j tT (tcs [tj0, tj1]) from (hF.1).1) rfl (by decide) (cnL (by kernel_rfl))) (by decide) (by kernel_rfl)) ?_
  refine dcallR (mk := TmR.v) (Q := fun r w' => TC (1) (Rat.divInt (-2) (1)) w' r) TmR.inj (fun _ => TC.stable _) (fun w' hw hF => term_at (1) (-2) (1) (by decide) (by decide) (fit1 (by kernel_rfl))) ?_
  intro tk0
  intro k _
  refine dcallV (.bool true) (fun w' hw hF => svecT_at ((h3).ext hw) (TCs.vc 1 (ts := [tk0]) (.cons (hF.2.1) (.nil)) (show Blk w' k tT (tcs [tk0]) from (hF.1).1) rfl (by decide) (cnL (by kernel_rfl))) (by decide) (by kernel_rfl)) ?_
  refine ⟨r4.v, loadQ hB4, ?_⟩
  refine dcallR (mk := RatR.v) (Q := fun r w' => QC 1 w' r (Rat.divInt 1 1)) RatR.inj (fun _ => QC.stable) (fun w' hw hF => of_at 1 1 (by decide) (by decide) (fit1 (by kernel_rfl))) ?_
  intro r5
  refine dcallV (.bool true) (fun w' hw hF => sratT_at ((h4).ext hw) (hF.1) (by decide) (by kernel_rfl)) ?_
  intro w28 x28 hF
  exact ⟨(Ext.trans' (Ext.trans' (Ext.trans' (Ext.trans' (Ext.trans' (Ext.trans' (Ext.trans' (Ext.trans' (Ext.trans' (Ext.trans' (Ext.trans' (Ext.trans' (Ext.trans' (Ext.trans' (Ext.trans' (Ext.trans' (Ext.trans' (Ext.trans' (Ext.trans' (Ext.trans' (Ext.trans' (Ext.trans' (Ext.trans' (Ext.trans' (Ext.trans' (Ext.trans' (Ext.trans' x1 x2) x3) x4) x5) x6) x7) x8) x9) x10) x11) x12) x13) x14) x15) x16) x17) x18) x19) x20) x21) x22) x23) x24) x25) x26) x27) x28), rfl⟩
end Go.Proofs.Ytpgagepleffjlaa
/-
  The laws of the layer sparse, plain. Helpers; no statement of the program is proved here.
-/
set_option maxRecDepth 100000
set_option linter.unusedSimpArgs false
set_option linter.unusedVariables false
namespace Go.Proofs.Ytpgagepleffjlaa
open Go Go.Tw Go.RowKit

theorem getL_nil (p : Int) : getL [] p = 0 := rfl
theorem nrm_ext {u v : VL} (h : ∀ p, getL u p = getL v p) : nrm u = nrm v := nrm_congr h
theorem axp_ext {y y' x x' : VL} {a a' : Rat} (h : ∀ p, getL y p + a * getL x p = getL y' p + a' * getL x' p) : axp y a x = axp y' a' x' :=
  Cn.ext (nrm_cn _) (nrm_cn _) fun p => by
    have h1 := axp_get y a x p
    have h2 := axp_get y' a' x' p
    rw [h1, h2, h p]
theorem m1 : Rat.divInt (-1) 1 = -1 := by rw [divInt_one]; rfl
theorem L_comm (x y : VL) : axp x 1 y = axp y 1 x := axp_ext fun p => by grind
theorem L_assoc (x y z : VL) : axp (axp x 1 y) 1 z = axp x 1 (axp y 1 z) := axp_ext fun p => by rw [axp_get, axp_get]; grind
theorem L_self (x : VL) : axp x (Rat.divInt (-1) 1) x = [] := by
  rw [m1]
  refine (axp_eq Cn.nil fun p => ?_).symm
  rw [getL_nil]; grind
theorem L_back (x y : VL) : axp (axp x 1 y) (Rat.divInt (-1) 1) y = nrm x := by
  rw [m1]
  refine (axp_eq (nrm_cn x) fun p => ?_).symm
  rw [nrm_get, axp_get]; grind
theorem L_dist (x y : VL) (c : Rat) : axp [] c (axp x 1 y) = axp (axp [] c x) 1 (axp [] c y) := axp_ext fun p => by rw [axp_get, axp_get, axp_get, getL_nil]; grind
theorem L_dist2 (x : VL) (c d : Rat) : axp [] (c + d) x = axp (axp [] c x) 1 (axp [] d x) := axp_ext fun p => by rw [axp_get, axp_get, getL_nil]; grind
theorem L_mul (x : VL) (c d : Rat) : axp [] (c * d) x = axp [] c (axp [] d x) := axp_ext fun p => by rw [axp_get, getL_nil]; grind
theorem L_axpy (x y : VL) (c : Rat) : axp y c x = axp y 1 (axp [] c x) := axp_ext fun p => by rw [axp_get, getL_nil]; grind
theorem L_dot (x y z : VL) (c : Rat) : dotL (axp y c x) z = dotL y z + c * dotL x z := dotL_lin fun p => axp_get y c x p
theorem getL_keep (xs : VL) (i p : Int) : getL (xs.filter fun t => !decide (t.1 = i)) p = if p = i then 0 else getL xs p := by
  induction xs with
  | nil => simp [getL]
  | cons t xs ih =>
    by_cases h : t.1 = i
    · simp only [List.filter_cons, h, decide_true, Bool.not_true, Bool.false_eq_true, if_false, ih, getL]
      by_cases hp : p = i
      · rw [if_pos hp, if_pos hp]
      · rw [if_neg hp, if_neg hp, if_neg (fun e => hp e.symm), Rat.zero_add]
    · simp only [List.filter_cons, h, decide_false, Bool.not_false, if_true, getL, ih]
      by_cases hp : p = i
      · rw [if_pos hp, if_pos hp, if_neg (fun e => h (e.trans hp)), Rat.zero_add]
      · rw [if_neg hp, if_neg hp]
theorem getL_put (xs : VL) (i p : Int) (q : Rat) : getL (putV xs i q) p = if p = i then q else getL xs p := by
  unfold putV
  rw [getL_append, getL_keep]
  simp only [getL]
  by_cases hp : p = i
  · rw [if_pos hp, if_pos hp, if_pos hp.symm]; grind
  · rw [if_neg hp, if_neg hp, if_neg (fun e => hp e.symm)]; grind
theorem L_put (xs : VL) (i : Int) (q : Rat) : getL (nrm (putV xs i q)) i = q := by rw [nrm_get, getL_put, if_pos rfl]
theorem L_put2 (xs : VL) (i : Int) (q : Rat) : nrm (putV (nrm (putV xs i q)) i (getL xs i)) = nrm xs := nrm_ext fun p => by
  rw [getL_put, nrm_get, getL_put]
  by_cases hp : p = i
  · rw [if_pos hp, hp]
  · rw [if_neg hp, if_neg hp]
theorem put_len {xs : VL} {i : Int} {q : Rat} (h : xs.length ≤ 20) : (putV xs i q).length ≤ 21 := by
  unfold putV
  have := List.length_filter_le (fun t : Int × Rat => !decide (t.1 = i)) xs
  simp only [List.length_append, List.length_singleton]
  omega
theorem put_len2 {xs : VL} {i : Int} {q r : Rat} (h : xs.length ≤ 20) : (putV (nrm (putV xs i q)) i r).length ≤ 21 := by
  have h1 := nrm_off (putV xs i q) i
  have h2 : ((putV xs i q).filter (fun s => !decide (s.1 = i))).length ≤ 20 := by
    unfold putV
    rw [List.filter_append, List.length_append]
    have h3 := List.length_filter_le (fun t : Int × Rat => !decide (t.1 = i)) xs
    have h4 := List.length_filter_le (fun t : Int × Rat => !decide (t.1 = i)) (xs.filter fun t => !decide (t.1 = i))
    have h5 : ([(i, q)] : VL).filter (fun s => !decide (s.1 = i)) = [] := by simp
    rw [h5]
    simp only [List.length_nil]
    omega
  have h6 : (putV (nrm (putV xs i q)) i r).length = ((nrm (putV xs i q)).filter (fun s => !decide (s.1 = i))).length + 1 := by
    show (List.filter _ _ ++ [_]).length = _
    rw [List.length_append]; rfl
  omega
theorem L_same (x y : VL) : decide (axp x (-1) y = []) = decide (nrm x = nrm y) := by
  apply decide_eq_decide.2
  constructor
  · intro h
    refine nrm_ext fun p => ?_
    have := axp_get x (-1) y p
    rw [h, getL_nil] at this
    grind
  · intro h
    refine (axp_eq Cn.nil fun p => ?_).symm
    have h1 := nrm_get x p
    have h2 := nrm_get y p
    rw [h] at h1
    rw [getL_nil]; grind
end Go.Proofs.Ytpgagepleffjlaa
/-
  SparseSpace, walked. Helpers; no statement of the program is proved here.
-/
set_option maxRecDepth 100000
set_option linter.unusedSimpArgs false
set_option linter.unusedVariables false
namespace Go.Proofs.Ytpgagepleffjlaa
open Go Go.Tw Go.RowKit
attribute [local irreducible] LoadAt StoreOk Stored rawVC

theorem SparseSpace_ok {w0 : World} {rx ry rz : SlR} {rc rd : RatR} {tx ty tz : List TmR} (ox : OpV w0 rx tx) (oy : OpV w0 ry ty) (oz : OpV w0 rz tz) (oc : OpQ w0 rc) (od : OpQ w0 rd) (i : Int) :
    Calls Try.prog 4 #[rx.v, ry.v, rz.v, rc.v, rd.v, .int .i64 i] w0 fun e w' => ∃ v, e = .returned v ∧ (Ext w0 w' ∧ v = .bool true) := by
    refine enterC (fun _ => none) ttOk mixed (args := [rx.v, ry.v, rz.v, rc.v, rd.v, .int .i64 i]) Try.func4 rfl (by kernel_rfl) (by kernel_rfl) ?_
    intro b9 w1 n9 b10 w2 n10
    have x1 := n9.ext
    have x2 := n10.ext
    have B9 : Blk w1 b9 33 (rcs rc) := n9.toBlk
    have B10 : Blk w2 b10 33 (rcs rd) := n10.toBlk
    refine CallS.mono (ShortVec_ok (ox.tms.ext (Ext.trans' x1 x2)) 20 4 (by omega)) ?_
    rintro _ w3 ⟨x3, rfl⟩
    by_cases k0 : shV rx.n tx 20 4
    case neg =>
      rw [decide_eq_false k0]
      refine CallS.mono (awake5_at _) ?_
      rintro _ w4 ⟨x4, rfl⟩
      exact ⟨(Ext.trans' (Ext.trans' (Ext.trans' x1 x2) x3) x4), rfl⟩
    rw [decide_eq_true k0]
    refine CallS.mono (ShortVec_ok (oy.tms.ext (Ext.trans' (Ext.trans' x1 x2) x3)) 20 4 (by omega)) ?_
    rintro _ w4 ⟨x4, rfl⟩
    by_cases k1 : shV ry.n ty 20 4
    case neg =>
      rw [decide_eq_false k1]
      refine CallS.mono (awake5_at _) ?_
      rintro _ w5 ⟨x5, rfl⟩
      exact ⟨(Ext.trans' (Ext.trans' (Ext.trans' (Ext.trans' x1 x2) x3) x4) x5), rfl⟩
    rw [decide_eq_true k1]
    refine CallS.mono (ShortVec_ok (oz.tms.ext (Ext.trans' (Ext.trans' (Ext.trans' x1 x2) x3) x4)) 20 4 (by omega)) ?_
    rintro _ w5 ⟨x5, rfl⟩
    by_cases k2 : shV rz.n tz 20 4
    case neg =>
      rw [decide_eq_false k2]
      refine CallS.mono (awake5_at _) ?_
      rintro _ w6 ⟨x6, rfl⟩
      exact ⟨(Ext.trans' (Ext.trans' (Ext.trans' (Ext.trans' (Ext.trans' x1 x2) x3) x4) x5) x6), rfl⟩
    rw [decide_eq_true k2]
    refine ⟨rc.v, loadQ (B9.ext (Ext.trans' (Ext.trans' (Ext.trans' x2 x3) x4) x5)), ?_⟩
    refine CallS.mono (ShortRat_ok rc 4) ?_
    rintro _ w6 ⟨x6, rfl⟩
    by_cases k3 : shQ rc 4
    case neg =>
      rw [decide_eq_false k3]
      refine CallS.mono (awake5_at _) ?_
      rintro _ w7 ⟨x7, rfl⟩
      exact ⟨(Ext.trans' (Ext.trans' (Ext.trans' (Ext.trans' (Ext.trans' (Ext.trans' x1 x2) x3) x4) x5) x6) x7), rfl⟩
    rw [decide_eq_true k3]
    refine ⟨rd.v, loadQ (B10.ext (Ext.trans' (Ext.trans' (Ext.trans' x3 x4) x5) x6)), ?_⟩
    refine CallS.mono (ShortRat_ok rd 4) ?_
    rintro _ w7 ⟨x7, rfl⟩
    by_cases k4 : shQ rd 4
    case neg =>
      rw [decide_eq_false k4]
      refine CallS.mono (awake5_at _) ?_
      rintro _ w8 ⟨x8, rfl⟩
      exact ⟨(Ext.trans' (Ext.trans' (Ext.trans' (Ext.trans' (Ext.trans' (Ext.trans' (Ext.trans' x1 x2) x3) x4) x5) x6) x7) x8), rfl⟩
    rw [decide_eq_true k4]
    refine (ox.inv (by decide) k0).elim fun xs ix => ?_
    have vx : VI 4 20 w0 rx xs := ⟨ix.1, ix.2, .inl (Nat.le_trans ix.2 (by decide))⟩
    refine (oy.inv (by decide) k1).elim fun ys iy => ?_
    have vy : VI 4 20 w0 ry ys := ⟨iy.1, iy.2, .inl (Nat.le_trans iy.2 (by decide))⟩
    refine (oz.inv (by decide) k2).elim fun zs iz => ?_
    have vz : VI 4 20 w0 rz zs := ⟨iz.1, iz.2, .inl (Nat.le_trans iz.2 (by decide))⟩
    refine (oc.inq (by decide) k3).elim fun c ic => ?_
    have qc : QI 4 w0 rc c := ⟨ic⟩
    refine (od.inq (by decide) k4).elim fun d id => ?_
    have qd : QI 4 w0 rd d := ⟨id⟩
    refine CallS.mono (add_at 4 (vx.ext (Ext.trans' (Ext.trans' (Ext.trans' (Ext.trans' (Ext.trans' (Ext.trans' x1 x2) x3) x4) x5) x6) x7)) (vy.ext (Ext.trans' (Ext.trans' (Ext.trans' (Ext.trans' (Ext.trans' (Ext.trans' x1 x2) x3) x4) x5) x6) x7)) (by decide)) ?_
    rintro _ w8 ⟨x8, s1, rfl, h1⟩
    refine CallS.mono (add_at 4 (vy.ext (Ext.trans' (Ext.trans' (Ext.trans' (Ext.trans' (Ext.trans' (Ext.trans' (Ext.trans' x1 x2) x3) x4) x5) x6) x7) x8)) (vx.ext (Ext.trans' (Ext.trans' (Ext.trans' (Ext.trans' (Ext.trans' (Ext.trans' (Ext.trans' x1 x2) x3) x4) x5) x6) x7) x8)) (by decide)) ?_
    rintro _ w9 ⟨x9, s2, rfl, h2⟩
    refine CallS.mono (svecT_at (h1.ext x9) h2 (by decide) (L_comm _ _)) ?_
    rintro _ w10 ⟨x10, rfl⟩
    refine CallS.mono (add_at 4 (vx.ext (Ext.trans' (Ext.trans' (Ext.trans' (Ext.trans' (Ext.trans' (Ext.trans' (Ext.trans' (Ext.trans' (Ext.trans' x1 x2) x3) x4) x5) x6) x7) x8) x9) x10)) (vy.ext (Ext.trans' (Ext.trans' (Ext.trans' (Ext.trans' (Ext.trans' (Ext.trans' (Ext.trans' (Ext.trans' (Ext.trans' x1 x2) x3) x4) x5) x6) x7) x8) x9) x10)) (by decide)) ?_
    rintro _ w11 ⟨x11, s3, rfl, h3⟩
    refine CallS.mono (add_at (aK 4) (h3.vi (by decide)) (vz.ext (Ext.trans' (Ext.trans' (Ext.trans' (Ext.trans' (Ext.trans' (Ext.trans' (Ext.trans' (Ext.trans' (Ext.trans' (Ext.trans' x1 x2) x3) x4) x5) x6) x7) x8) x9) x10) x11)) (by decide)) ?_
    rintro _ w12 ⟨x12, s4, rfl, h4⟩
    refine CallS.mono (add_at 4 (vy.ext (Ext.trans' (Ext.trans' (Ext.trans' (Ext.trans' (Ext.trans' (Ext.trans' (Ext.trans' (Ext.trans' (Ext.trans' (Ext.trans' (Ext.trans' x1 x2) x3) x4) x5) x6) x7) x8) x9) x10) x11) x12)) (vz.ext (Ext.trans' (Ext.trans' (Ext.trans' (Ext.trans' (Ext.trans' (Ext.trans' (Ext.trans' (Ext.trans' (Ext.trans' (Ext.trans' (Ext.trans' x1 x2) x3) x4) x5) x6) x7) x8) x9) x10) x11) x12)) (by decide)) ?_
    rintro _ w13 ⟨x13, s5, rfl, h5⟩
    refine CallS.mono (add_at (aK 4) (vx.ext (Ext.trans' (Ext.trans' (Ext.trans' (Ext.trans' (Ext.trans' (Ext.trans' (Ext.trans' (Ext.trans' (Ext.trans' (Ext.trans' (Ext.trans' (Ext.trans' x1 x2) x3) x4) x5) x6) x7) x8) x9) x10) x11) x12) x13)) (h5.vi (by decide)) (by decide)) ?_
    rintro _ w14 ⟨x14, s6, rfl, h6⟩
    refine CallS.mono (svecT_at (h4.ext (Ext.trans' x13 x14)) h6 (by decide) (L_assoc _ _ _)) ?_
    rintro _ w15 ⟨x15, rfl⟩
    refine CallS.mono (of_at (-1) 1 (by decide) (by decide) (fit1 (by kernel_rfl))) ?_
    rintro _ w16 ⟨x16, r7, rfl, u7⟩
    refine CallS.mono (axpy_at 4 (vx.ext (Ext.trans' (Ext.trans' (Ext.trans' (Ext.trans' (Ext.trans' (Ext.trans' (Ext.trans' (Ext.trans' (Ext.trans' (Ext.trans' (Ext.trans' (Ext.trans' (Ext.trans' (Ext.trans' (Ext.trans' x1 x2) x3) x4) x5) x6) x7) x8) x9) x10) x11) x12) x13) x14) x15) x16)) (u7.qi (by decide)) (vx.ext (Ext.trans' (Ext.trans' (Ext.trans' (Ext.trans' (Ext.trans' (Ext.trans' (Ext.trans' (Ext.trans' (Ext.trans' (Ext.trans' (Ext.trans' (Ext.trans' (Ext.trans' (Ext.trans' (Ext.trans' x1 x2) x3) x4) x5) x6) x7) x8) x9) x10) x11) x12) x13) x14) x15) x16)) (by decide)) ?_
    rintro _ w17 ⟨x17, s8, rfl, h8⟩
    have z0 : s8.n = 0 := by rw [h8.can.len, L_self]; rfl
    refine And.intro (fun hz => ?_) (fun hz => absurd (by rw [z0]; rfl) hz)
    refine CallS.mono (add_at 4 (vx.ext (Ext.trans' (Ext.trans' (Ext.trans' (Ext.trans' (Ext.trans' (Ext.trans' (Ext.trans' (Ext.trans' (Ext.trans' (Ext.trans' (Ext.trans' (Ext.trans' (Ext.trans' (Ext.trans' (Ext.trans' (Ext.trans' x1 x2) x3) x4) x5) x6) x7) x8) x9) x10) x11) x12) x13) x14) x15) x16) x17)) (vy.ext (Ext.trans' (Ext.trans' (Ext.trans' (Ext.trans' (Ext.trans' (Ext.trans' (Ext.trans' (Ext.trans' (Ext.trans' (Ext.trans' (Ext.trans' (Ext.trans' (Ext.trans' (Ext.trans' (Ext.trans' (Ext.trans' x1 x2) x3) x4) x5) x6) x7) x8) x9) x10) x11) x12) x13) x14) x15) x16) x17)) (by decide)) ?_
    rintro _ w18 ⟨x18, s9, rfl, h9⟩
    refine CallS.mono (of_at (-1) 1 (by decide) (by decide) (fit1 (by kernel_rfl))) ?_
    rintro _ w19 ⟨x19, r10, rfl, u10⟩
    refine CallS.mono (axpy_at (aK 4) ((h9.ext x19).vi (by decide)) (u10.qi (by decide)) (vy.ext (Ext.trans' (Ext.trans' (Ext.trans' (Ext.trans' (Ext.trans' (Ext.trans' (Ext.trans' (Ext.trans' (Ext.trans' (Ext.trans' (Ext.trans' (Ext.trans' (Ext.trans' (Ext.trans' (Ext.trans' (Ext.trans' (Ext.trans' (Ext.trans' x1 x2) x3) x4) x5) x6) x7) x8) x9) x10) x11) x12) x13) x14) x15) x16) x17) x18) x19)) (by decide)) ?_
    rintro _ w20 ⟨x20, s11, rfl, h11⟩
    refine CallS.mono (norm_at (vx.ext (Ext.trans' (Ext.trans' (Ext.trans' (Ext.trans' (Ext.trans' (Ext.trans' (Ext.trans' (Ext.trans' (Ext.trans' (Ext.trans' (Ext.trans' (Ext.trans' (Ext.trans' (Ext.trans' (Ext.trans' (Ext.trans' (Ext.trans' (Ext.trans' (Ext.trans' x1 x2) x3) x4) x5) x6) x7) x8) x9) x10) x11) x12) x13) x14) x15) x16) x17) x18) x19) x20)) (by decide)) ?_
    rintro _ w21 ⟨x21, s12, rfl, h12⟩
    refine CallS.mono (svecT_at (h11.ext x21) h12 (by decide) (L_back _ _)) ?_
    rintro _ w22 ⟨x22, rfl⟩
    have xb := (Ext.trans' (Ext.trans' (Ext.trans' (Ext.trans' (Ext.trans' (Ext.trans' (Ext.trans' (Ext.trans' (Ext.trans' (Ext.trans' (Ext.trans' (Ext.trans' (Ext.trans' (Ext.trans' (Ext.trans' (Ext.trans' (Ext.trans' (Ext.trans' (Ext.trans' (Ext.trans' (Ext.trans' x1 x2) x3) x4) x5) x6) x7) x8) x9) x10) x11) x12) x13) x14) x15) x16) x17) x18) x19) x20) x21) x22)
    have vx := vx.ext xb
    have vy := vy.ext xb
    have vz := vz.ext xb
    have qc := qc.ext xb
    have qd := qd.ext xb
    have B9 := (B9.ext (Ext.trans' (Ext.trans' (Ext.trans' (Ext.trans' (Ext.trans' (Ext.trans' (Ext.trans' (Ext.trans' (Ext.trans' (Ext.trans' (Ext.trans' (Ext.trans' (Ext.trans' (Ext.trans' (Ext.trans' (Ext.trans' (Ext.trans' (Ext.trans' (Ext.trans' (Ext.trans' x2 x3) x4) x5) x6) x7) x8) x9) x10) x11) x12) x13) x14) x15) x16) x17) x18) x19) x20) x21) x22))
    have B10 := (B10.ext (Ext.trans' (Ext.trans' (Ext.trans' (Ext.trans' (Ext.trans' (Ext.trans' (Ext.trans' (Ext.trans' (Ext.trans' (Ext.trans' (Ext.trans' (Ext.trans' (Ext.trans' (Ext.trans' (Ext.trans' (Ext.trans' (Ext.trans' (Ext.trans' (Ext.trans' x3 x4) x5) x6) x7) x8) x9) x10) x11) x12) x13) x14) x15) x16) x17) x18) x19) x20) x21) x22))
    refine ⟨sq 58, by kernel_rfl, ?_⟩
    refine ⟨rc.v, loadQ B9, ?_⟩
    refine dcallR (mk := SlR.v) (Q := fun r w' => VC (aK 4) (20 + 20) w' r (axp xs 1 ys)) SlR.inj (fun _ => VC.stable) (fun w' hw hF => add_at 4 ((vx).ext hw) ((vy).ext hw) (by decide)) ?_
    intro s13
    refine dcallR (mk := SlR.v) (Q := fun r w' => VC (aK (aK 4)) 40 w' r (axp [] c (axp xs 1 ys))) SlR.inj (fun _ => VC.stable) (fun w' hw hF => scale_at (aK 4) ((qc).ext hw) ((hF.1).vi (by decide)) (by decide)) ?_
    intro s14
    refine ⟨rc.v, loadQ B9, ?_⟩
    refine dcallR (mk := SlR.v) (Q := fun r w' => VC (aK (aK 4)) 20 w' r (axp [] c xs)) SlR.inj (fun _ => VC.stable) (fun w' hw hF => scale_at (aK 4) ((qc).ext hw) ((vx).ext hw) (by decide)) ?_
    intro s15
    refine ⟨rc.v, loadQ B9, ?_⟩
    refine dcallR (mk := SlR.v) (Q := fun r w' => VC (aK (aK 4)) 20 w' r (axp [] c ys)) SlR.inj (fun _ => VC.stable) (fun w' hw hF => scale_at (aK 4) ((qc).ext hw) ((vy).ext hw) (by decide)) ?_
    intro s16
    refine dcallR (mk := SlR.v) (Q := fun r w' => VC (aK (aK (aK 4))) (20 + 20) w' r (axp (axp [] c xs) 1 (axp [] c ys))) SlR.inj (fun _ => VC.stable) (fun w' hw hF => add_at (aK (aK 4)) ((hF.2.1).vi (by decide)) ((hF.1).vi (by decide)) (by decide)) ?_
    intro s17
    refine dcallV (.bool true) (fun w' hw hF => svecT_at (hF.2.2.2.1) (hF.1) (by decide) (L_dist _ _ _)) ?_
    refine ⟨rc.v, loadQ B9, ?_⟩
    refine ⟨rd.v, loadQ B10, ?_⟩
    refine dcallR (mk := RatR.v) (Q := fun r w' => QC (4 + 1 + (4 + 1) + 1) w' r (c + d)) RatR.inj (fun _ => QC.stable) (fun w' hw hF => radd_at (k1 := 4) (k2 := 4) ((qc).ext hw) ((qd).ext hw) (by decide)) ?_
    intro r18
    refine dcallR (mk := SlR.v) (Q := fun r w' => VC (aK (aK 4)) 20 w' r (axp [] (c + d) xs)) SlR.inj (fun _ => VC.stable) (fun w' hw hF => scale_at (aK 4) ((hF.1).qi (by decide)) ((vx).ext hw) (by decide)) ?_
    intro s19
    refine ⟨rc.v, loadQ B9, ?_⟩
    refine dcallR (mk := SlR.v) (Q := fun r w' => VC (aK (aK 4)) 20 w' r (axp [] c xs)) SlR.inj (fun _ => VC.stable) (fun w' hw hF => scale_at (aK 4) ((qc).ext hw) ((vx).ext hw) (by decide)) ?_
    intro s20
    refine ⟨rd.v, loadQ B10, ?_⟩
    refine dcallR (mk := SlR.v) (Q := fun r w' => VC (aK (aK 4)) 20 w' r (axp [] d xs)) SlR.inj (fun _ => VC.stable) (fun w' hw hF => scale_at (aK 4) ((qd).ext hw) ((vx).ext hw) (by decide)) ?_
    intro s21
    refine dcallR (mk := SlR.v) (Q := fun r w' => VC (aK (aK (aK 4))) (20 + 20) w' r (axp (axp [] c xs) 1 (axp [] d xs))) SlR.inj (fun _ => VC.stable) (fun w' hw hF => add_at (aK (aK 4)) ((hF.2.1).vi (by decide)) ((hF.1).vi (by decide)) (by decide)) ?_
    intro s22
    refine dcallV (.bool true) (fun w' hw hF => svecT_at (hF.2.2.2.1) (hF.1) (by decide) (L_dist2 _ _ _)) ?_
    refine ⟨rc.v, loadQ B9, ?_⟩
    refine ⟨rd.v, loadQ B10, ?_⟩
    refine dcallR (mk := RatR.v) (Q := fun r w' => QC (4 + 1 + (4 + 1)) w' r (c * d)) RatR.inj (fun _ => QC.stable) (fun w' hw hF => rmul_at (k1 := 4) (k2 := 4) ((qc).ext hw) ((qd).ext hw) (by decide)) ?_
    intro r23
    refine dcallR (mk := SlR.v) (Q := fun r w' => VC (aK (aK 4)) 20 w' r (axp [] (c * d) xs)) SlR.inj (fun _ => VC.stable) (fun w' hw hF => scale_at (aK 4) ((hF.1).qi (by decide)) ((vx).ext hw) (by decide)) ?_
    intro s24
    refine ⟨rc.v, loadQ B9, ?_⟩
    refine ⟨rd.v, loadQ B10, ?_⟩
    refine dcallR (mk := SlR.v) (Q := fun r w' => VC (aK (aK 4)) 20 w' r (axp [] d xs)) SlR.inj (fun _ => VC.stable) (fun w' hw hF => scale_at (aK 4) ((qd).ext hw) ((vx).ext hw) (by decide)) ?_
    intro s25
    refine dcallR (mk := SlR.v) (Q := fun r w' => VC (aK (aK (aK 4))) 20 w' r (axp [] c (axp [] d xs))) SlR.inj (fun _ => VC.stable) (fun w' hw hF => scale_at (aK (aK 4)) ((qc).ext hw) ((hF.1).vi (by decide)) (by decide)) ?_
    intro s26
    refine dcallV (.bool true) (fun w' hw hF => svecT_at (hF.2.2.1) (hF.1) (by decide) (L_mul _ _ _)) ?_
    refine ⟨rc.v, loadQ B9, ?_⟩
    refine dcallR (mk := SlR.v) (Q := fun r w' => VC (aK 4) (20 + 20) w' r (axp ys c xs)) SlR.inj (fun _ => VC.stable) (fun w' hw hF => axpy_at 4 ((vy).ext hw) ((qc).ext hw) ((vx).ext hw) (by decide)) ?_
    intro s27
    refine ⟨rc.v, loadQ B9, ?_⟩
    refine dcallR (mk := SlR.v) (Q := fun r w' => VC (aK (aK 4)) 20 w' r (axp [] c xs)) SlR.inj (fun _ => VC.stable) (fun w' hw hF => scale_at (aK 4) ((qc).ext hw) ((vx).ext hw) (by decide)) ?_
    intro s28
    refine dcallR (mk := SlR.v) (Q := fun r w' => VC (aK (aK (aK 4))) (20 + 20) w' r (axp ys 1 (axp [] c xs))) SlR.inj (fun _ => VC.stable) (fun w' hw hF => add_at (aK (aK 4)) ((vy).ext hw) ((hF.1).vi (by decide)) (by decide)) ?_
    intro s29
    refine dcallV (.bool true) (fun w' hw hF => svecT_at (hF.2.2.1) (hF.1) (by decide) (L_axpy _ _ _)) ?_
    intro w23 x23 hF
    refine ⟨sq 26, by kernel_rfl, ?_⟩
    refine dcallR (mk := RatR.v) (Q := fun r w' => QC (dK 4 20) w' r (dotL xs ys)) RatR.inj (fun _ => QC.stable) (fun w' hw hF => dot_at 4 ((vx.ext x23).ext hw) ((vy.ext x23).ext hw) (by decide)) ?_
    intro r30
    refine dcallR (mk := RatR.v) (Q := fun r w' => QC (dK 4 20) w' r (dotL ys xs)) RatR.inj (fun _ => QC.stable) (fun w' hw hF => dot_at 4 ((vy.ext x23).ext hw) ((vx.ext x23).ext hw) (by decide)) ?_
    intro r31
    refine dcallV (.bool true) (fun w' hw hF => rsameT_at ((hF.2.1).qi (by decide)) ((hF.1).qi (by decide)) (by decide) (dotL_comm _ _)) ?_
    refine ⟨rc.v, loadQ (B9.ext x23), ?_⟩
    refine dcallR (mk := SlR.v) (Q := fun r w' => VC (aK 4) (20 + 20) w' r (axp ys c xs)) SlR.inj (fun _ => VC.stable) (fun w' hw hF => axpy_at 4 ((vy.ext x23).ext hw) ((qc.ext x23).ext hw) ((vx.ext x23).ext hw) (by decide)) ?_
    intro s32
    refine dcallR (mk := RatR.v) (Q := fun r w' => QC (dK (aK 4) (20 + 20)) w' r (dotL (axp ys c xs) zs)) RatR.inj (fun _ => QC.stable) (fun w' hw hF => dot_at (aK 4) ((hF.1).vi (by decide)) ((vz.ext x23).ext hw) (by decide)) ?_
    intro r33
    refine dcallR (mk := RatR.v) (Q := fun r w' => QC (dK 4 20) w' r (dotL ys zs)) RatR.inj (fun _ => QC.stable) (fun w' hw hF => dot_at 4 ((vy.ext x23).ext hw) ((vz.ext x23).ext hw) (by decide)) ?_
    intro r34
    refine ⟨rc.v, loadQ (B9.ext x23), ?_⟩
    refine dcallR (mk := RatR.v) (Q := fun r w' => QC (dK 4 20) w' r (dotL xs zs)) RatR.inj (fun _ => QC.stable) (fun w' hw hF => dot_at 4 ((vx.ext x23).ext hw) ((vz.ext x23).ext hw) (by decide)) ?_
    intro r35
    refine dcallR (mk := RatR.v) (Q := fun r w' => QC (4 + 1 + ((dK 4 20) + 1)) w' r (c * dotL xs zs)) RatR.inj (fun _ => QC.stable) (fun w' hw hF => rmul_at (k1 := 4) (k2 := (dK 4 20)) ((qc.ext x23).ext hw) ((hF.1).qi (by decide)) (by decide)) ?_
    intro r36
    refine dcallR (mk := RatR.v) (Q := fun r w' => QC ((dK 4 20) + 1 + ((4 + 1 + ((dK 4 20) + 1)) + 1) + 1) w' r (dotL ys zs + c * dotL xs zs)) RatR.inj (fun _ => QC.stable) (fun w' hw hF => radd_at (k1 := (dK 4 20)) (k2 := (4 + 1 + ((dK 4 20) + 1))) ((hF.2.2.1).qi (by decide)) ((hF.1).qi (by decide)) (by decide)) ?_
    intro r37
    refine dcallV (.bool true) (fun w' hw hF => rsameT_at ((hF.2.2.2.2.1).qi (by decide)) ((hF.1).qi (by decide)) (by decide) (L_dot _ _ _ _)) ?_
    intro w24 x24 hF
    refine ⟨sq 42, by kernel_rfl, ?_⟩
    refine ⟨rc.v, loadQ (B9.ext (Ext.trans' x23 x24)), ?_⟩
    refine dcallR (mk := SlR.v) (Q := fun r w' => VC (aK 4) (20 + 20) w' r (axp ys c xs)) SlR.inj (fun _ => VC.stable) (fun w' hw hF => axpy_at 4 ((vy.ext (Ext.trans' x23 x24)).ext hw) ((qc.ext (Ext.trans' x23 x24)).ext hw) ((vx.ext (Ext.trans' x23 x24)).ext hw) (by decide)) ?_
    intro s38
    refine dcallR (mk := RatR.v) (Q := fun r w' => QC (1 + (20 + 20) * ((aK 4) + 2)) w' r (getL (axp ys c xs) i)) RatR.inj (fun _ => QC.stable) (fun w' hw hF => get_at ((hF.1).vi (by decide)) i (by decide)) ?_
    intro r39
    refine dcallR (mk := RatR.v) (Q := fun r w' => QC (1 + 20 * (4 + 2)) w' r (getL ys i)) RatR.inj (fun _ => QC.stable) (fun w' hw hF => get_at ((vy.ext (Ext.trans' x23 x24)).ext hw) i (by decide)) ?_
    intro r40
    refine ⟨rc.v, loadQ (B9.ext (Ext.trans' x23 x24)), ?_⟩
    refine dcallR (mk := RatR.v) (Q := fun r w' => QC (1 + 20 * (4 + 2)) w' r (getL xs i)) RatR.inj (fun _ => QC.stable) (fun w' hw hF => get_at ((vx.ext (Ext.trans' x23 x24)).ext hw) i (by decide)) ?_
    intro r41
    refine dcallR (mk := RatR.v) (Q := fun r w' => QC (4 + 1 + ((1 + 20 * (4 + 2)) + 1)) w' r (c * getL xs i)) RatR.inj (fun _ => QC.stable) (fun w' hw hF => rmul_at (k1 := 4) (k2 := (1 + 20 * (4 + 2))) ((qc.ext (Ext.trans' x23 x24)).ext hw) ((hF.1).qi (by decide)) (by decide)) ?_
    intro r42
    refine dcallR (mk := RatR.v) (Q := fun r w' => QC ((1 + 20 * (4 + 2)) + 1 + ((4 + 1 + ((1 + 20 * (4 + 2)) + 1)) + 1) + 1) w' r (getL ys i + c * getL xs i)) RatR.inj (fun _ => QC.stable) (fun w' hw hF => radd_at (k1 := (1 + 20 * (4 + 2))) (k2 := (4 + 1 + ((1 + 20 * (4 + 2)) + 1))) ((hF.2.2.1).qi (by decide)) ((hF.1).qi (by decide)) (by decide)) ?_
    intro r43
    refine dcallV (.bool true) (fun w' hw hF => rsameT_at ((hF.2.2.2.2.1).qi (by decide)) ((hF.1).qi (by decide)) (by decide) (axp_get _ _ _ _)) ?_
    refine ⟨rd.v, loadQ (B10.ext (Ext.trans' x23 x24)), ?_⟩
    refine dcallR (mk := SlR.v) (Q := fun r w' => VC (nK 4) 21 w' r (nrm (putV xs i d))) SlR.inj (fun _ => VC.stable) (fun w' hw hF => put_at 4 ((vx.ext (Ext.trans' x23 x24)).ext hw) i ((qd.ext (Ext.trans' x23 x24)).ext hw) (put_len ix.2) (by decide)) ?_
    intro s44
    refine dcallR (mk := RatR.v) (Q := fun r w' => QC (1 + 21 * ((nK 4) + 2)) w' r (getL (nrm (putV xs i d)) i)) RatR.inj (fun _ => QC.stable) (fun w' hw hF => get_at ((hF.1).vi (by decide)) i (by decide)) ?_
    intro r45
    refine ⟨rd.v, loadQ (B10.ext (Ext.trans' x23 x24)), ?_⟩
    refine dcallV (.bool true) (fun w' hw hF => rsameT_at ((hF.1).qi (by decide)) ((qd.ext (Ext.trans' x23 x24)).ext hw) (by decide) (L_put _ _ _)) ?_
    refine ⟨rd.v, loadQ (B10.ext (Ext.trans' x23 x24)), ?_⟩
    refine dcallR (mk := SlR.v) (Q := fun r w' => VC (nK 4) 21 w' r (nrm (putV xs i d))) SlR.inj (fun _ => VC.stable) (fun w' hw hF => put_at 4 ((vx.ext (Ext.trans' x23 x24)).ext hw) i ((qd.ext (Ext.trans' x23 x24)).ext hw) (put_len ix.2) (by decide)) ?_
    intro s46
    refine dcallR (mk := RatR.v) (Q := fun r w' => QC (1 + 20 * (4 + 2)) w' r (getL xs i)) RatR.inj (fun _ => QC.stable) (fun w' hw hF => get_at ((vx.ext (Ext.trans' x23 x24)).ext hw) i (by decide)) ?_
    intro r47
    refine dcallR (mk := SlR.v) (Q := fun r w' => VC (nK (aK 4)) 21 w' r (nrm (putV (nrm (putV xs i d)) i (getL xs i)))) SlR.inj (fun _ => VC.stable) (fun w' hw hF => put_at (aK 4) ((hF.2.1).vi (by decide)) i ((hF.1).qi (by decide)) (put_len2 ix.2) (by decide)) ?_
    intro s48
    refine dcallR (mk := SlR.v) (Q := fun r w' => VC (nK 4) 20 w' r (nrm xs)) SlR.inj (fun _ => VC.stable) (fun w' hw hF => norm_at ((vx.ext (Ext.trans' x23 x24)).ext hw) (by decide)) ?_
    intro s49
    refine dcallV (.bool true) (fun w' hw hF => svecT_at (hF.2.1) (hF.1) (by decide) (L_put2 _ _ _)) ?_
    intro w25 x25 hF
    refine CallS.mono (vsame_at 4 (vx.ext (Ext.trans' (Ext.trans' x23 x24) x25)) (vy.ext (Ext.trans' (Ext.trans' x23 x24) x25)) (by decide)) ?_
    rintro _ w26 ⟨x26, rfl⟩
    refine CallS.mono (norm_at (vx.ext (Ext.trans' (Ext.trans' (Ext.trans' x23 x24) x25) x26)) (by decide)) ?_
    rintro _ w27 ⟨x27, s50, rfl, h50⟩
    refine CallS.mono (norm_at (vy.ext (Ext.trans' (Ext.trans' (Ext.trans' (Ext.trans' x23 x24) x25) x26) x27)) (by decide)) ?_
    rintro _ w28 ⟨x28, s51, rfl, h51⟩
    refine CallS.mono ((L_same xs ys ▸ svec_at (h50.ext x28) h51 (by decide))) ?_
    rintro _ w29 ⟨x29, rfl⟩
    refine And.intro (fun hz => ?_) (fun hz => absurd rfl hz)
    refine CallS.mono (awake5_at _) ?_
    rintro _ w30 ⟨x30, rfl⟩
    exact ⟨Ext.trans' xb (Ext.trans' (Ext.trans' (Ext.trans' (Ext.trans' (Ext.trans' (Ext.trans' (Ext.trans' x23 x24) x25) x26) x27) x28) x29) x30), rfl⟩
end Go.Proofs.Ytpgagepleffjlaa
