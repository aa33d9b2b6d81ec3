/-
  Contracts of the layer sparse: in order or not, and a term told. Helpers; no statement of the program is proved here.
-/
import Derived.Test.YtpgagepleffjlaaK7
import Derived.ProofKit
import Derived.Deep.Slices
import Derived.Deep.Fields
import Derived.ReadAgain
set_option maxRecDepth 100000
set_option linter.unusedSimpArgs false
set_option linter.unusedVariables false
namespace Go.Proofs.Ytpgagepleffjlaa
open Go Go.Tw Go.RowKit
attribute [local irreducible] LoadAt StoreOk Stored rawVC

theorem ris_of {xs : VL} (h : ∀ j, j + 1 < xs.length → pl xs j < pl xs (j + 1)) : Ris xs := by
  have key : ∀ d j, j + d + 1 < xs.length → pl xs j < pl xs (j + d + 1) := by
    intro d
    induction d with
    | zero => exact fun j hj => h j hj
    | succ d ih => exact fun j hj => Int.lt_trans (ih j (by omega)) (h (j + d + 1) hj)
  unfold Ris
  rw [List.pairwise_iff_getElem]
  intro i j hi hj hij
  obtain ⟨d, rfl⟩ : ∃ d, j = i + d + 1 := ⟨j - i - 1, by omega⟩
  have := key d i hj
  unfold pl at this
  rw [List.getD_eq_getElem?_getD, List.getD_eq_getElem?_getD, List.getElem?_eq_getElem hi, List.getElem?_eq_getElem hj] at this
  exact this
theorem ris_at {xs : VL} (h : Ris xs) {j : Nat} (hj : j + 1 < xs.length) : pl xs j < pl xs (j + 1) := by
  unfold Ris at h
  rw [List.pairwise_iff_getElem] at h
  have := h j (j + 1) (by omega) hj (by omega)
  unfold pl
  rw [List.getD_eq_getElem?_getD, List.getD_eq_getElem?_getD, List.getElem?_eq_getElem (by omega), List.getElem?_eq_getElem hj]
  exact this
theorem predI (j : Nat) (h1 : 1 ≤ j) (h : j ≤ 4398046511104) : ((j - 1 : Nat) : Int) = ((j : Nat) : Int) - 1 ∧ (-9223372036854775808 ≤ ((j : Nat) : Int) - 1 ∧ ((j : Nat) : Int) - 1 ≤ 9223372036854775807) := by omega
theorem rising_ok {k : Nat} {H : Hd} {w : World} {r : SlR} {xs : VL} (hx : InV k H w r xs) (hn : xs.length ≤ 1099511627776) :
    CallS Try.prog 87 #[r.v] w fun v w' => Ext w w' ∧ ∃ b : Bool, v = .bool b ∧ (b = true ↔ Ris xs) := by
  have hrn := hx.len
  obtain ⟨⟨ts, hT, hI⟩, hnc, hcm, hav⟩ := hx
  refine enter ttOk mixed (args := [r.v]) Try.func87 rfl (by kernel_rfl) (by kernel_rfl) rfl ?_
  refine ⟨Nat, fun x => [(0, r.v), (3, .int .i64 (x : Int))], fun x w' => Ext w w' ∧ 1 ≤ x ∧ ∀ j, j + 1 < x → j + 1 < xs.length → pl xs j < pl xs (j + 1), fun x _ => r.n + 1 - x, ⟨1, ⟨rfl, rfl, trivial⟩, Ext.rfl w, Nat.le_refl _, fun j h => by omega⟩, ?_⟩
  rintro i w2 ⟨hx2, hi1, hs⟩
  dsimp only at *
  refine And.intro (fun h1 => ?_) (fun h1 => ?_)
  · have hin := ltTo h1
    have hi0 : i - 1 < r.n := by omega
    have hT2 := hT.ext hx2
    have hb := hT.base (by omega)
    refine (hI.get (vget (show i - 1 < xs.length by omega))).elim fun t d => ?_
    refine (hI.get (vget (show i < xs.length by omega))).elim fun u e => ?_
    have l1 := hT2.loadAt (T := tt) (ty := 3) (sz := 5) d.1 rfl rfl
    have l2 := hT2.loadAt (T := tt) (ty := 3) (sz := 5) e.1 rfl rfl
    rw [d.2.1] at l1
    rw [e.2.1] at l2
    refine ⟨sq 12, by kernel_rfl, ((i - 1 : Nat) : Int), predI i hi1 (by omega), i - 1, ⟨rfl, hi0, hb⟩, _, l1, i, ⟨rfl, hin, hb⟩, _, l2, ?_⟩
    have hi2 : i - 1 + 1 = i := by omega
    refine And.intro (fun h2 => ?_) (fun h2 => ?_)
    · intro w3 hx3 _
      refine ⟨Ext.trans' hx2 hx3, false, rfl, ⟨fun h => (by cases h), fun h => ?_⟩⟩
      have := ris_at h (j := i - 1) (by omega)
      rw [hi2] at this
      have h2 : pl xs (i - 1) ≥ pl xs i := h2
      omega
    · intro w3 hx3 _
      have h2 : ¬ pl xs (i - 1) ≥ pl xs i := h2
      exact ⟨((i + 1 : Nat) : Int), sucI i (by omega), i + 1, ⟨rfl, rfl, trivial⟩, ⟨Ext.trans' hx2 hx3, Nat.le_succ_of_le hi1, fun j hj hj2 => by
        by_cases hji : j = i - 1
        · rw [hji, hi2]; omega
        · exact hs j (by omega) hj2⟩, by show r.n + 1 - (i + 1) < r.n + 1 - i; omega⟩
  · have hin := geTo h1
    exact ⟨hx2, true, rfl, ⟨fun _ => ris_of fun j hj => hs j (by omega) hj, fun _ => rfl⟩⟩
/-- The same, by rising places. -/
noncomputable def srt (xs : VL) : VL := @ite _ (Ris xs) (Classical.propDecidable _) xs (nrm xs)
theorem srt_ris (xs : VL) : Ris (srt xs) := by
  unfold srt; split
  · assumption
  · exact (nrm_cn xs).ris
theorem srt_get (xs : VL) (p : Int) : getL (srt xs) p = getL xs p := by
  unfold srt; split
  · rfl
  · exact nrm_get xs p
theorem srt_len (xs : VL) : (srt xs).length ≤ xs.length := by
  unfold srt; split
  · exact Nat.le_refl _
  · exact nrm_len xs
/-- May be put in order. -/
def Ok21 (xs : VL) : Prop := xs.length ≤ 21 ∨ Ris xs
theorem k_le_nK (k : Nat) : k ≤ nK k := by unfold nK; omega
theorem sorted_ok {k : Nat} {H : Hd} {w : World} {r : SlR} {xs : VL} (hH : HB H w) (hx : InV k H w r xs) (hk : k ≤ 1073741824) (hn : xs.length ≤ 1099511627776) (h21 : Ok21 xs) :
    CallS Try.prog 63 #[r.v] w fun v w' => Ext w w' ∧ ∃ s : SlR, v = s.v ∧ InV (nK k) H w' s (srt xs) := by
  refine enter ttOk mixed (args := [r.v]) Try.func63 rfl (by kernel_rfl) (by kernel_rfl) rfl ?_
  refine CallS.mono (rising_ok hx hn) ?_
  rintro _ w2 ⟨hx2, b, rfl, hb⟩
  cases b
  · have hnr : ¬ Ris xs := fun h => by have := hb.2 h; cases this
    have e : srt xs = nrm xs := by unfold srt; exact if_neg hnr
    have hl : xs.length ≤ 21 := h21.elim id fun h => absurd h hnr
    refine CallS.mono (VNorm_ok (HB.ext hH hx2) (hx.ext hx2) hk hl) ?_
    rintro _ w3 ⟨hx3, s, rfl, hs⟩
    rw [e]
    exact ⟨Ext.trans' hx2 hx3, s, rfl, hs.inv (Nat.le_trans (nK_le hk) (by omega))⟩
  · have e : srt xs = xs := by unfold srt; exact if_pos (hb.1 rfl)
    rw [e]
    exact ⟨hx2, r, rfl, (hx.ext hx2).mono (k_le_nK k)⟩
/-- A term told to a vector that lies in a cell. -/
theorem putC_ok {K : Nat} {H : Hd} {w : World} {b base : Nat} {s : SlR} {zs : VL} {x : RatR} {q : Rat} (at' : Int) (hHs : HB (rowH H s.v) w) (hb : Blk w b 25 [s.v]) (hA : Acc K H base tT w s zs) (hHb : H b) (hbb : b < base) (hbw : base ≤ w.heap.size) (hq : CanQ (rowH H s.v) w x q) (hf : FitQ K q) (hK : K ≤ 1099511627776) (hl : zs.length ≤ 1099511627775) :
    CallS Try.prog 64 #[.int .i64 at', x.v, .pointer (some ⟨b, 0, none⟩)] w fun v w' => Below b w w' ∧ w.heap.size ≤ w'.heap.size ∧ ∃ s' : SlR, Blk w' b 25 [s'.v] ∧ Acc K H base tT w' s' (putL zs at' q) := by
  have hown : ∀ c, s.v.ownBlock = some c → base ≤ c := fun c hc => (hA.own_lt hc).2
  refine enter ttOk mixed (args := [.int .i64 at', x.v, .pointer (some ⟨b, 0, none⟩)]) Try.func64 rfl (by kernel_rfl) (by kernel_rfl) rfl ?_
  intro b4 w1 hb4
  have hX : Blk w1 b4 33 (rcs x) := hb4.toBlk
  have hq1 := hq.up hb4.ext
  refine ⟨x.v, loadQ hX, ?_⟩
  refine CallS.mono (RSign_ok (hHs.up hb4.ext) (hq1.is (hf.mono hK))) ?_
  rintro _ w2 ⟨hx2, rfl⟩
  have hx02 := Ext.trans' hb4.ext hx2
  refine And.intro (fun h1 => ?_) (fun h1 => ?_)
  · have hq0 : q ≠ 0 := fun h => h1 (sgQ_zero.2 h)
    have hB2 := hb.ext hx02
    refine ⟨s.v, hB2.one (off := 0) rfl rfl, x.v, loadQ (hX.ext hx2), ?_⟩
    intro b3 w3 hb3
    have hb3 : New w2 w3 b3 tT (tcs [⟨at', x⟩]) := hb3
    have hx03 := hb3.extFrom hx02
    have hA3 := hA.ext hx03
    refine hA3.ts.elim fun ts0 d => ?_
    refine ⟨rfl, base, zs.length, tcs ts0, tcs [⟨at', x⟩], ⟨d.1, rfl, ?_, tcs_mem_one _, fun _ => ⟨_, rfl, rfl⟩, by omega, by show (zs.length + 1) * 72 ≤ _; omega, Nat.le_trans hbw hx03.size⟩, ?_⟩
    · intro j v hj
      have := hb3.toBlk.cell (i := 0 + j) (v := v) (by rw [Nat.zero_add]; exact hj)
      exact this
    intro v' w4 ho4 hg4 hn4
    have ho4 : w4.ownsRow base tT 5 v' (zs.length + 1) (tcs ts0 ++ (TmR.mk at' x).cs) := by rw [tcs_one] at ho4; exact ho4
    refine (Acc.push (t := ⟨at', x⟩) (p := (at', q)) d.1 d.2 ho4 hg4 hn4 rfl (hq.ext hx03) hf).elim fun s' d' => ?_
    have hB4 : Blk w4 b 25 [s.v] := Blk.grown (hb.ext hx03) hg4 (by intro e; have := hown b e.symm; omega)
    rw [d'.1]
    refine ⟨storeOk (v := s'.v) rfl rfl hB4 (Nat.le_refl _), fun w5 hs5 => ?_⟩
    have hB5 : Blk w5 b 25 [s'.v] := Stored.blk hs5 hB4
    have hg5 := (Stored.grown hs5).1
    have hA5 := d'.2.grow hg5 hHb (fun e => by have := (d'.2.own_lt e).2; omega)
    have e : putL zs at' q = zs ++ [(at', q)] := if_neg hq0
    rw [e]
    refine ⟨?_, ?_, s', hB5, hA5⟩
    · have h3 : Below b w w3 := Below.mono hx03 (by have := hb.lt; omega)
      have h4 : Below b w3 w4 := ⟨hg4.os, hg4.tape, hg4.output, hg4.size, fun i hi => hg4.block i (by have := hb.lt; have := hx03.size; omega) (fun e => by have := hown i e.symm; omega)⟩
      have h5 : Below b w4 w5 := ⟨hg5.os, hg5.tape, hg5.output, hg5.size, fun i hi => hg5.block i (by have := hB4.lt; omega) (fun e => by have := Option.some.inj e; omega)⟩
      exact Below.trans (Below.trans h3 h4) h5
    · exact Nat.le_trans hx03.size (Nat.le_trans hg4.size hg5.size)
  · have hq0 : q = 0 := sgQ_zero.1 (Classical.not_not.1 h1)
    have e : putL zs at' q = zs := if_pos hq0
    rw [e]
    exact ⟨Below.mono hx02 (by have := hb.lt; omega), hx02.size, s, hb.ext hx02, hA.ext hx02⟩
end Go.Proofs.Ytpgagepleffjlaa
/-
  Contracts of the layer sparse: one, and a multiple of another one. Helpers; no statement of the program is proved here.
-/
set_option maxRecDepth 100000
set_option linter.unusedSimpArgs false
set_option linter.unusedVariables false
namespace Go.Proofs.Ytpgagepleffjlaa
open Go Go.Tw Go.RowKit
attribute [local irreducible] LoadAt StoreOk Stored rawVC

def aK (k : Nat) : Nat := 4 * nK k + 8
theorem Ext.below {w0 w w' : World} {b : Nat} (h : Ext w0 w) (k : Below b w w') (hb : w0.heap.size ≤ b) : Ext w0 w' := Below.trans h (Below.mono k hb)
theorem InV.head {k : Nat} {H : Hd} {w : World} {r : SlR} {t : Int × Rat} {xs : VL} (h : InV k H w r (t :: xs)) : 0 < r.n ∧ okB r.a ∧ ∃ u : TmR, LoadAt tt w 3 ⟨Tw.blk r.a, ofs r.a + 0 * 5 + 0, none⟩ (.int .i64 t.1) ∧ LoadAt tt w 33 ⟨Tw.blk r.a, ofs r.a + 0 * 5 + 1, none⟩ u.x.v ∧ InQ k H w u.x t.2 := by
  have hl := h.len
  obtain ⟨⟨ts, hT, hI⟩, _, _, _⟩ := h
  have hn : 0 < r.n := by rw [hl]; exact Nat.succ_pos _
  obtain ⟨u, h1, h2, h3⟩ := hI.get (j := 0) rfl
  have l1 := hT.loadAt (T := tt) (ty := 3) (sz := 5) h1 rfl rfl
  rw [h2] at l1
  exact ⟨hn, hT.base hn, u, l1, hT.loadX (T := tt) (ty := 33) (sz := 5) h1 rfl rfl, h3⟩
def AH (H : Hd) (b4 b7 : Nat) : Hd := fun c => (H c ∨ c = b4) ∨ c = b7
structure AxI (k : Nat) (H : Hd) (w3 : World) (b4 b7 : Nat) (a : Rat) (xs ys : VL) (rx ry : SlR) (x y : VL) (s : SlR) (zs : VL) (w' : World) : Prop where
  ext : Ext w3 w'
  lt : b7 < w'.heap.size
  blk : Blk w' b7 25 [s.v]
  acc : Acc (aK k) (AH H b4 b7) (b7 + 1) tT w' s zs
  vx : InV (nK k) (AH H b4 b7) w3 rx x
  vy : InV (nK k) (AH H b4 b7) w3 ry y
  mrg : MrgI a x y (srt xs) (srt ys) zs
theorem AxI.hb {k : Nat} {H : Hd} {w3 : World} {b4 b7 : Nat} {a : Rat} {xs ys : VL} {rx ry : SlR} {x y : VL} {s : SlR} {zs : VL} {w' : World} (h : AxI k H w3 b4 b7 a xs ys rx ry x y s zs w') (hH : HB H w3) (h4 : b4 < w3.heap.size) : HB (rowH (AH H b4 b7) s.v) w' := by
  intro b hb
  have := h.ext.size
  rcases hb with ((hb | hb) | hb) | hb
  · exact Nat.lt_of_lt_of_le (hH b hb) this
  · omega
  · rw [hb]; exact h.lt
  · exact (h.acc.own_lt hb).1
theorem AxI.zl {k : Nat} {H : Hd} {w3 : World} {b4 b7 : Nat} {a : Rat} {xs ys : VL} {rx ry : SlR} {x y : VL} {s : SlR} {zs : VL} {w' : World} (h : AxI k H w3 b4 b7 a xs ys rx ry x y s zs w') (hx : xs.length ≤ 65536) (hy : ys.length ≤ 65536) : zs.length ≤ 1099511627775 := by
  have := h.mrg.len
  have := srt_len xs
  have := srt_len ys
  omega
theorem AxI.up {k : Nat} {H : Hd} {w3 : World} {b4 b7 : Nat} {a : Rat} {xs ys : VL} {rx ry : SlR} {x y : VL} {s : SlR} {zs : VL} {w' : World} (h : AxI k H w3 b4 b7 a xs ys rx ry x y s zs w') (h7 : w3.heap.size = b7) {j : Nat} {r : RatR} {q : Rat} (hq : InQ j (AH H b4 b7) w3 r q) : InQ j (rowH (AH H b4 b7) s.v) w' r q :=
  (hq.to fun b hb => hb.elim .inl fun e => .inr (by have := (h.acc.own_lt e).2; omega)).ext h.ext
theorem aK_le {k : Nat} (h : k ≤ 16777216) : aK k ≤ 137438953472 := by unfold aK nK; omega
theorem fit_y {k : Nat} {q : Rat} (h : FitQ (nK k + 1) q) : FitQ (aK k) q := h.mono (by unfold aK; omega)
theorem fit_x {k : Nat} {a q : Rat} (ha : FitQ (k + 1) a) (h : FitQ (nK k + 1) q) : FitQ (2 * nK k + 2) (a * q) := (FitQ.mul ha h (by omega)).mono (by have := k_le_nK k; omega)
theorem fit_xy {k : Nat} {a q u : Rat} (ha : FitQ (k + 1) a) (h : FitQ (nK k + 1) q) (h' : FitQ (nK k + 1) u) : FitQ (aK k) (u + a * q) := (FitQ.add h' (fit_x ha h)).mono (by unfold aK; omega)
theorem sliceOne (r : SlR) : Value.slice (subA r.a r.c 1 5) (r.n - 1) (r.c - 1) = (⟨subA r.a r.c 1 5, r.n - 1, r.c - 1⟩ : SlR).v := rfl

theorem nK_le' {k : Nat} (h : k ≤ 16777216) : nK k ≤ 137438953472 := by unfold nK; omega
theorem Axpy_ok {k : Nat} {H : Hd} {w : World} {ry rx : SlR} {ra : RatR} {xs ys : VL} {a : Rat} (hH : HB H w) (hy : InV k H w ry ys) (hra : InQ k H w ra a) (hx : InV k H w rx xs) (hk : k ≤ 16777216) (hxl : xs.length ≤ 65536) (hyl : ys.length ≤ 65536) (ox : Ok21 xs) (oy : Ok21 ys) :
    CallS Try.prog 19 #[ry.v, ra.v, rx.v] w fun v w' => Ext w w' ∧ ∃ s : SlR, v = s.v ∧ CanV (aK k) H w' s (axp ys a xs) := by
  refine enter ttOk mixed (args := [ry.v, ra.v, rx.v]) Try.func19 rfl (by kernel_rfl) (by kernel_rfl) rfl ?_
  intro b4 w1 hb4
  have hH1 := hH.up hb4.ext
  refine CallS.mono (sorted_ok hH1 (hx.up hb4.ext) (by omega) (by omega) ox) ?_
  rintro _ w2 ⟨hx2, rx0, rfl, hvx⟩
  refine CallS.mono (sorted_ok (HB.ext hH1 hx2) ((hy.up hb4.ext).ext hx2) (by omega) (by omega) oy) ?_
  rintro _ w3 ⟨hx3, ry0, rfl, hvy⟩
  have hx13 := Ext.trans' hx2 hx3
  have hx03 := Ext.trans' hb4.ext hx13
  intro b7 w4 hb7
  have h7 : w3.heap.size = b7 := hb7.isNew.symm
  have hH3 := HB.ext hH hx03
  have hb4lt : b4 < w3.heap.size := Nat.lt_of_lt_of_le hb4.lt hx13.size
  have hB4 : Blk w3 b4 33 (rcs ra) := hb4.toBlk.ext hx13
  have toA : ∀ b, AH H b4 b7 b → upH H w w1 b ∨ w3.heap.size ≤ b := by
    intro b hb
    rcases hb with (hb | hb) | hb
    · exact .inl (.inl hb)
    · rw [hb]; exact .inl (hb4.inUp (Ext.rfl _) (Ext.rfl _))
    · rw [hb]; exact .inr (Nat.le_of_eq h7)
  have hra : InQ k (AH H b4 b7) w3 ra a := ((hra.up hb4.ext).ext hx13).to toA
  refine ⟨SlR × SlR × VL × VL × SlR × VL, fun x => [(0, x.2.1.v), (2, x.1.v), (4, .pointer (some ⟨b4, 0, none⟩)), (7, .pointer (some ⟨b7, 0, none⟩)), (8, .func (.func 64) #[] #[.pointer (some ⟨b7, 0, none⟩)])],
    fun x w' => AxI k H w3 b4 b7 a xs ys x.1 x.2.1 x.2.2.1 x.2.2.2.1 x.2.2.2.2.1 x.2.2.2.2.2 w', fun x _ => x.2.2.1.length + x.2.2.2.1.length,
    ⟨(rx0, ry0, srt xs, srt ys, ⟨none, 0, 0⟩, []), ⟨rfl, rfl, rfl, rfl, rfl, trivial⟩, ⟨hb7.ext, hb7.lt, hb7.toBlk, Acc.nil _ _ _ _ _, (hvx.ext hx3).to toA, hvy.to toA, MrgI.first (srt_ris xs) (srt_ris ys)⟩⟩, ?_⟩
  rintro ⟨rx, ry, x, y, s, zs⟩ w5 hI
  dsimp only at *
  have hnx := hI.vx.len
  have hny := hI.vy.len
  have hHs := hI.hb hH3 hb4lt
  have hzl := hI.zl hxl hyl
  cases x with
  | nil =>
    have hnx : rx.n = 0 := hnx
    refine And.intro (fun h1 => ?_) (fun h1 => ?_)
    · exfalso; omega
    cases y with
    | nil =>
      have hny : ry.n = 0 := hny
      refine And.intro (fun h2 => ?_) (fun h2 => ?_)
      · exfalso; omega
      have hd := hI.mrg.done
      have he : zs = axp ys a xs := axp_eq hd.1 fun p => by rw [hd.2.1, srt_get, srt_get]
      have hc := hI.acc.out (fun b hb => by rcases hb with (hb | hb) | hb; have := hH3 b hb; omega; omega; omega)
      rw [he] at hc
      refine ⟨s.v, hI.blk.one (off := 0) rfl rfl, ?_⟩
      exact ⟨Ext.trans' hx03 hI.ext, s, rfl, hc.to fun b hb => .inl (.inl (.inl hb))⟩
    | cons t y =>
      have hy0 := InV.head hI.vy
      refine And.intro (fun h2 => ?_) (fun h2 => ?_)
      rotate_left
      · exfalso; have := hy0.1; omega
      refine hy0.2.2.elim fun uy ly => ?_
      refine ⟨sq 20, by kernel_rfl, ?_⟩
      refine And.intro (fun h3 => ?_) (fun h3 => ?_)
      rotate_left
      · exfalso; omega
      intro w5' hx5 _
      have hI : AxI k H w3 b4 b7 a xs ys rx ry [] (t :: y) s zs w5' := ⟨Ext.trans' hI.ext hx5, Nat.lt_of_lt_of_le hI.lt hx5.size, hI.blk.ext hx5, hI.acc.ext hx5, hI.vx, hI.vy, hI.mrg⟩
      have hHs := hI.hb hH3 hb4lt
      have hzl := hI.zl hxl hyl
      refine ⟨sqT 10, by kernel_rfl, 0, ⟨rfl, hy0.1, hy0.2.1⟩, _, ly.1.ext hI.ext, 0, ⟨rfl, hy0.1, hy0.2.1⟩, uy.x.v, ly.2.1.ext hI.ext, ?_⟩
      refine dcallR (mk := RatR.v) (Q := fun r w' => CanQ (rowH (AH H b4 b7) s.v) w' r t.2) RatR.inj (fun _ => CanQ.stable) (fun w' hw _ => Norm_ok (HB.ext hHs hw) ((hI.up h7 ly.2.2).is.ext hw)) ?_
      intro rn
      intro w6 hx6 hF6
      refine CallS.mono (putC_ok (t.1) (HB.ext hHs hx6) (hI.blk.ext hx6) (hI.acc.ext hx6) (.inr rfl) (Nat.lt_succ_self b7) (Nat.le_trans hI.lt hx6.size) hF6.1 (fit_y ly.2.2.fit) (Nat.le_trans (aK_le hk) (by omega)) hzl) ?_
      rintro v7 w7 ⟨hB7, hs7, s', hb7', hA7⟩
      intro w8 hx8 _
      have hx38 : Ext w3 w8 := Ext.trans' (Ext.below (Ext.trans' hI.ext hx6) hB7 (Nat.le_of_eq h7)) hx8
      have hlt8 : b7 < w8.heap.size := Nat.lt_of_lt_of_le hI.lt (Nat.le_trans hx6.size (Nat.le_trans hs7 hx8.size))
      have hb8 := hb7'.ext hx8
      have hA8 := hA7.ext hx8
      refine ⟨1, ry.n, ⟨rfl, rfl, hy0.1, hI.vy.nc⟩, ?_⟩
      exact ⟨(rx, ⟨subA ry.a ry.c 1 5, ry.n - 1, ry.c - 1⟩, [], y, s', _), ⟨rfl, rfl, rfl, rfl, rfl, trivial⟩, ⟨hx38, hlt8, hb8, hA8, hI.vx, hI.vy.tail, (hI.mrg.takeY (fun s hs => by simp at hs))⟩, by show _ < _; simp only [List.length_cons]; omega⟩
  | cons u x =>
    have hx0 := InV.head hI.vx
    refine hx0.2.2.elim fun ux lx => ?_
    refine And.intro (fun h1 => ?_) (fun h1 => ?_)
    rotate_left
    · exfalso; have := hx0.1; omega
    refine ⟨sq 20, by kernel_rfl, ?_⟩
    refine And.intro (fun h2 => ?_) (fun h2 => ?_)
    · exfalso; have := hx0.1; omega
    cases y with
    | nil =>
      have hny : ry.n = 0 := hny
      refine And.intro (fun h3 => ?_) (fun h3 => ?_)
      · exfalso; omega
      intro w5' hx5 _
      have hI : AxI k H w3 b4 b7 a xs ys rx ry (u :: x) [] s zs w5' := ⟨Ext.trans' hI.ext hx5, Nat.lt_of_lt_of_le hI.lt hx5.size, hI.blk.ext hx5, hI.acc.ext hx5, hI.vx, hI.vy, hI.mrg⟩
      have hHs := hI.hb hH3 hb4lt
      have hzl := hI.zl hxl hyl
      refine ⟨sq 15, by kernel_rfl, ?_⟩
      refine And.intro (fun h4 => ?_) (fun h4 => ?_)
      rotate_left
      · exfalso; omega
      intro w6' hx6 _
      have hI : AxI k H w3 b4 b7 a xs ys rx ry (u :: x) [] s zs w6' := ⟨Ext.trans' hI.ext hx6, Nat.lt_of_lt_of_le hI.lt hx6.size, hI.blk.ext hx6, hI.acc.ext hx6, hI.vx, hI.vy, hI.mrg⟩
      have hHs := hI.hb hH3 hb4lt
      have hzl := hI.zl hxl hyl
      refine ⟨sqT 11, by kernel_rfl, 0, ⟨rfl, hx0.1, hx0.2.1⟩, _, lx.1.ext hI.ext, ra.v, loadQ (hB4.ext hI.ext), 0, ⟨rfl, hx0.1, hx0.2.1⟩, ux.x.v, lx.2.1.ext hI.ext, ?_⟩
      refine dcallR (mk := RatR.v) (Q := fun r w' => CanQ (rowH (AH H b4 b7) s.v) w' r (a * u.2)) RatR.inj (fun _ => CanQ.stable) (fun w' hw _ => RMul_ok (HB.ext hHs hw) (((hI.up h7 hra).ext hw).mono (by omega)) (((hI.up h7 lx.2.2).ext hw).mono (nK_le' hk))) ?_
      intro rn
      intro w6 hx6 hF6
      refine CallS.mono (putC_ok (u.1) (HB.ext hHs hx6) (hI.blk.ext hx6) (hI.acc.ext hx6) (.inr rfl) (Nat.lt_succ_self b7) (Nat.le_trans hI.lt hx6.size) hF6.1 ((fit_x hra.fit lx.2.2.fit).mono (by unfold aK; omega)) (Nat.le_trans (aK_le hk) (by omega)) hzl) ?_
      rintro v7 w7 ⟨hB7, hs7, s', hb7', hA7⟩
      intro w8 hx8 _
      have hx38 : Ext w3 w8 := Ext.trans' (Ext.below (Ext.trans' hI.ext hx6) hB7 (Nat.le_of_eq h7)) hx8
      have hlt8 : b7 < w8.heap.size := Nat.lt_of_lt_of_le hI.lt (Nat.le_trans hx6.size (Nat.le_trans hs7 hx8.size))
      have hb8 := hb7'.ext hx8
      have hA8 := hA7.ext hx8
      refine ⟨1, rx.n, ⟨rfl, rfl, hx0.1, hI.vx.nc⟩, ?_⟩
      exact ⟨(⟨subA rx.a rx.c 1 5, rx.n - 1, rx.c - 1⟩, ry, x, [], s', _), ⟨rfl, rfl, rfl, rfl, rfl, trivial⟩, ⟨hx38, hlt8, hb8, hA8, hI.vx.tail, hI.vy, hI.mrg.takeX (fun s hs => by simp at hs)⟩, by show _ < _; simp only [List.length_cons]; omega⟩
    | cons t y =>
      have hy0 := InV.head hI.vy
      refine hy0.2.2.elim fun uy ly => ?_
      refine And.intro (fun h3 => ?_) (fun h3 => ?_)
      rotate_left
      · exfalso; have := hy0.1; omega
      refine ⟨0, ⟨rfl, hy0.1, hy0.2.1⟩, _, ly.1.ext hI.ext, 0, ⟨rfl, hx0.1, hx0.2.1⟩, _, lx.1.ext hI.ext, ?_⟩
      refine And.intro (fun h4 => ?_) (fun h4 => ?_)
      · intro w5' hx5 _
        have hI : AxI k H w3 b4 b7 a xs ys rx ry (u :: x) (t :: y) s zs w5' := ⟨Ext.trans' hI.ext hx5, Nat.lt_of_lt_of_le hI.lt hx5.size, hI.blk.ext hx5, hI.acc.ext hx5, hI.vx, hI.vy, hI.mrg⟩
        have hHs := hI.hb hH3 hb4lt
        have hzl := hI.zl hxl hyl
        have hbef : ∀ s ∈ u :: x, t.1 < s.1 := fun s hs => by
          rcases List.mem_cons.1 hs with rfl | hs
          · exact h4
          · exact Int.lt_trans h4 (hI.mrg.rx.head s hs)
        refine ⟨sqT 10, by kernel_rfl, 0, ⟨rfl, hy0.1, hy0.2.1⟩, _, ly.1.ext hI.ext, 0, ⟨rfl, hy0.1, hy0.2.1⟩, uy.x.v, ly.2.1.ext hI.ext, ?_⟩
        refine dcallR (mk := RatR.v) (Q := fun r w' => CanQ (rowH (AH H b4 b7) s.v) w' r t.2) RatR.inj (fun _ => CanQ.stable) (fun w' hw _ => Norm_ok (HB.ext hHs hw) ((hI.up h7 ly.2.2).is.ext hw)) ?_
        intro rn
        intro w6 hx6 hF6
        refine CallS.mono (putC_ok (t.1) (HB.ext hHs hx6) (hI.blk.ext hx6) (hI.acc.ext hx6) (.inr rfl) (Nat.lt_succ_self b7) (Nat.le_trans hI.lt hx6.size) hF6.1 (fit_y ly.2.2.fit) (Nat.le_trans (aK_le hk) (by omega)) hzl) ?_
        rintro v7 w7 ⟨hB7, hs7, s', hb7', hA7⟩
        intro w8 hx8 _
        have hx38 : Ext w3 w8 := Ext.trans' (Ext.below (Ext.trans' hI.ext hx6) hB7 (Nat.le_of_eq h7)) hx8
        have hlt8 : b7 < w8.heap.size := Nat.lt_of_lt_of_le hI.lt (Nat.le_trans hx6.size (Nat.le_trans hs7 hx8.size))
        have hb8 := hb7'.ext hx8
        have hA8 := hA7.ext hx8
        refine ⟨1, ry.n, ⟨rfl, rfl, hy0.1, hI.vy.nc⟩, ?_⟩
        exact ⟨(rx, ⟨subA ry.a ry.c 1 5, ry.n - 1, ry.c - 1⟩, u :: x, y, s', _), ⟨rfl, rfl, rfl, rfl, rfl, trivial⟩, ⟨hx38, hlt8, hb8, hA8, hI.vx, hI.vy.tail, (hI.mrg.takeY hbef)⟩, by show _ < _; simp only [List.length_cons]; omega⟩
      · intro w5' hx5 _
        have hI : AxI k H w3 b4 b7 a xs ys rx ry (u :: x) (t :: y) s zs w5' := ⟨Ext.trans' hI.ext hx5, Nat.lt_of_lt_of_le hI.lt hx5.size, hI.blk.ext hx5, hI.acc.ext hx5, hI.vx, hI.vy, hI.mrg⟩
        have hHs := hI.hb hH3 hb4lt
        have hzl := hI.zl hxl hyl
        refine ⟨sq 15, by kernel_rfl, ?_⟩
        refine And.intro (fun h5 => ?_) (fun h5 => ?_)
        · exfalso; have := hy0.1; omega
        refine ⟨0, ⟨rfl, hx0.1, hx0.2.1⟩, _, lx.1.ext hI.ext, 0, ⟨rfl, hy0.1, hy0.2.1⟩, _, ly.1.ext hI.ext, ?_⟩
        refine And.intro (fun h6 => ?_) (fun h6 => ?_)
        · intro w6' hx6 _
          have hI : AxI k H w3 b4 b7 a xs ys rx ry (u :: x) (t :: y) s zs w6' := ⟨Ext.trans' hI.ext hx6, Nat.lt_of_lt_of_le hI.lt hx6.size, hI.blk.ext hx6, hI.acc.ext hx6, hI.vx, hI.vy, hI.mrg⟩
          have hHs := hI.hb hH3 hb4lt
          have hzl := hI.zl hxl hyl
          have hbef : ∀ s ∈ t :: y, u.1 < s.1 := fun s hs => by
            rcases List.mem_cons.1 hs with rfl | hs
            · exact h6
            · exact Int.lt_trans h6 (hI.mrg.ry.head s hs)
          refine ⟨sqT 11, by kernel_rfl, 0, ⟨rfl, hx0.1, hx0.2.1⟩, _, lx.1.ext hI.ext, ra.v, loadQ (hB4.ext hI.ext), 0, ⟨rfl, hx0.1, hx0.2.1⟩, ux.x.v, lx.2.1.ext hI.ext, ?_⟩
          refine dcallR (mk := RatR.v) (Q := fun r w' => CanQ (rowH (AH H b4 b7) s.v) w' r (a * u.2)) RatR.inj (fun _ => CanQ.stable) (fun w' hw _ => RMul_ok (HB.ext hHs hw) (((hI.up h7 hra).ext hw).mono (by omega)) (((hI.up h7 lx.2.2).ext hw).mono (nK_le' hk))) ?_
          intro rn
          intro w6 hx6 hF6
          refine CallS.mono (putC_ok (u.1) (HB.ext hHs hx6) (hI.blk.ext hx6) (hI.acc.ext hx6) (.inr rfl) (Nat.lt_succ_self b7) (Nat.le_trans hI.lt hx6.size) hF6.1 ((fit_x hra.fit lx.2.2.fit).mono (by unfold aK; omega)) (Nat.le_trans (aK_le hk) (by omega)) hzl) ?_
          rintro v7 w7 ⟨hB7, hs7, s', hb7', hA7⟩
          intro w8 hx8 _
          have hx38 : Ext w3 w8 := Ext.trans' (Ext.below (Ext.trans' hI.ext hx6) hB7 (Nat.le_of_eq h7)) hx8
          have hlt8 : b7 < w8.heap.size := Nat.lt_of_lt_of_le hI.lt (Nat.le_trans hx6.size (Nat.le_trans hs7 hx8.size))
          have hb8 := hb7'.ext hx8
          have hA8 := hA7.ext hx8
          refine ⟨1, rx.n, ⟨rfl, rfl, hx0.1, hI.vx.nc⟩, ?_⟩
          exact ⟨(⟨subA rx.a rx.c 1 5, rx.n - 1, rx.c - 1⟩, ry, x, t :: y, s', _), ⟨rfl, rfl, rfl, rfl, rfl, trivial⟩, ⟨hx38, hlt8, hb8, hA8, hI.vx.tail, hI.vy, hI.mrg.takeX hbef⟩, by show _ < _; simp only [List.length_cons]; omega⟩
        · intro w6' hx6 _
          have hI : AxI k H w3 b4 b7 a xs ys rx ry (u :: x) (t :: y) s zs w6' := ⟨Ext.trans' hI.ext hx6, Nat.lt_of_lt_of_le hI.lt hx6.size, hI.blk.ext hx6, hI.acc.ext hx6, hI.vx, hI.vy, hI.mrg⟩
          have hHs := hI.hb hH3 hb4lt
          have hzl := hI.zl hxl hyl
          have heq : u.1 = t.1 := Int.le_antisymm (Int.not_lt.1 h4) (Int.not_lt.1 h6)
          refine ⟨sqT 16, by kernel_rfl, 0, ⟨rfl, hx0.1, hx0.2.1⟩, _, lx.1.ext hI.ext, 0, ⟨rfl, hy0.1, hy0.2.1⟩, uy.x.v, ly.2.1.ext hI.ext, ra.v, loadQ (hB4.ext hI.ext), 0, ⟨rfl, hx0.1, hx0.2.1⟩, ux.x.v, lx.2.1.ext hI.ext, ?_⟩
          refine dcallR (mk := RatR.v) (Q := fun r w' => CanQ (rowH (AH H b4 b7) s.v) w' r (a * u.2)) RatR.inj (fun _ => CanQ.stable) (fun w' hw _ => RMul_ok (HB.ext hHs hw) (((hI.up h7 hra).ext hw).mono (by omega)) (((hI.up h7 lx.2.2).ext hw).mono (nK_le' hk))) ?_
          intro rm
          refine dcallR (mk := RatR.v) (Q := fun r w' => CanQ (rowH (AH H b4 b7) s.v) w' r (t.2 + a * u.2)) RatR.inj (fun _ => CanQ.stable) (fun w' hw hF => RAdd_ok (HB.ext hHs hw) (((hI.up h7 ly.2.2).ext hw).mono (nK_le' hk)) (hF.1.inq ((fit_x hra.fit lx.2.2.fit).mono (by have := nK_le' hk; have := aK_le hk; unfold aK at this; omega)) (by omega))) ?_
          intro rn
          intro w6 hx6 hF6
          refine CallS.mono (putC_ok (u.1) (HB.ext hHs hx6) (hI.blk.ext hx6) (hI.acc.ext hx6) (.inr rfl) (Nat.lt_succ_self b7) (Nat.le_trans hI.lt hx6.size) hF6.1 (fit_xy hra.fit lx.2.2.fit ly.2.2.fit) (Nat.le_trans (aK_le hk) (by omega)) hzl) ?_
          rintro v7 w7 ⟨hB7, hs7, s', hb7', hA7⟩
          intro w8 hx8 _
          have hx38 : Ext w3 w8 := Ext.trans' (Ext.below (Ext.trans' hI.ext hx6) hB7 (Nat.le_of_eq h7)) hx8
          have hlt8 : b7 < w8.heap.size := Nat.lt_of_lt_of_le hI.lt (Nat.le_trans hx6.size (Nat.le_trans hs7 hx8.size))
          have hb8 := hb7'.ext hx8
          have hA8 := hA7.ext hx8
          refine ⟨sq 6, by kernel_rfl, 1, rx.n, ⟨rfl, rfl, hx0.1, hI.vx.nc⟩, 1, ry.n, ⟨rfl, rfl, hy0.1, hI.vy.nc⟩, ?_⟩
          intro w9 hx9 _
          exact ⟨(⟨subA rx.a rx.c 1 5, rx.n - 1, rx.c - 1⟩, ⟨subA ry.a ry.c 1 5, ry.n - 1, ry.c - 1⟩, x, y, s', _), ⟨rfl, rfl, rfl, rfl, rfl, trivial⟩, ⟨Ext.trans' hx38 hx9, Nat.lt_of_lt_of_le hlt8 hx9.size, hb8.ext hx9, hA8.ext hx9, hI.vx.tail, hI.vy.tail, hI.mrg.both heq⟩, by show _ < _; simp only [List.length_cons]; omega⟩
end Go.Proofs.Ytpgagepleffjlaa
/-
  Contracts of the layer sparse: sums, multiples, what stands at a place, products. Helpers; no statement of the program is proved here.
-/
set_option maxRecDepth 100000
set_option linter.unusedSimpArgs false
set_option linter.unusedVariables false
namespace Go.Proofs.Ytpgagepleffjlaa
open Go Go.Tw Go.RowKit
attribute [local irreducible] LoadAt StoreOk Stored rawVC

theorem divInt_one (n : Int) : Rat.divInt n 1 = (n : Rat) := by
  rw [Rat.divInt_eq_div]
  have : ((1 : Int) : Rat) = 1 := rfl
  rw [this]; grind
theorem ROf1_ok {H : Hd} {w : World} {n : Int} (hH : HB H w) (n1 : -9223372036854775808 ≤ n) (n2 : n ≤ 9223372036854775807) :
    CallS Try.prog 20 #[.int .i64 n, .int .i64 1] w fun v w' => Ext w w' ∧ ∃ r : RatR, v = r.v ∧ CanQ H w' r (n : Rat) := by
  have := ROf_ok (d := 1) hH n1 n2 (by omega) (by omega)
  rw [divInt_one] at this; exact this
theorem fitInt (n : Int) (h : n.natAbs < 18446744073709551616) : FitQ 1 (n : Rat) := ⟨Fit_iff.2 (by rw [Nat.pow_one]; exact h), Fit.one⟩
theorem VAdd_ok {k : Nat} {H : Hd} {w : World} {rx ry : SlR} {xs ys : VL} (hH : HB H w) (hx : InV k H w rx xs) (hy : InV k H w ry ys) (hk : k ≤ 16777216) (hk1 : 1 ≤ k) (hxl : xs.length ≤ 65536) (hyl : ys.length ≤ 65536) (ox : Ok21 xs) (oy : Ok21 ys) :
    CallS Try.prog 18 #[rx.v, ry.v] w fun v w' => Ext w w' ∧ ∃ s : SlR, v = s.v ∧ CanV (aK k) H w' s (axp xs 1 ys) := by
  refine enter ttOk mixed (args := [rx.v, ry.v]) Try.func18 rfl (by kernel_rfl) (by kernel_rfl) rfl ?_
  refine CallS.mono (ROf1_ok (n := 1) hH (by omega) (by omega)) ?_
  rintro _ w1 ⟨hx1, r, rfl, hr⟩
  refine CallS.mono (Axpy_ok (HB.ext hH hx1) (hx.ext hx1) (hr.inq ((fitInt 1 (by decide)).mono hk1) (by omega)) (hy.ext hx1) hk hyl hxl oy ox) ?_
  rintro _ w2 ⟨hx2, s, rfl, hs⟩
  exact ⟨Ext.trans' hx1 hx2, s, rfl, hs⟩
theorem VScale_ok {k : Nat} {H : Hd} {w : World} {ra : RatR} {rx : SlR} {a : Rat} {xs : VL} (hH : HB H w) (ha : InQ k H w ra a) (hx : InV k H w rx xs) (hk : k ≤ 16777216) (hxl : xs.length ≤ 65536) (ox : Ok21 xs) :
    CallS Try.prog 22 #[ra.v, rx.v] w fun v w' => Ext w w' ∧ ∃ s : SlR, v = s.v ∧ CanV (aK k) H w' s (axp [] a xs) := by
  refine enter ttOk mixed (args := [ra.v, rx.v]) Try.func22 rfl (by kernel_rfl) (by kernel_rfl) rfl ?_
  intro b1 w1 hb1
  have hB : Blk w1 b1 33 (rcs ra) := hb1.toBlk
  refine ⟨ra.v, loadQ hB, ?_⟩
  refine CallS.mono (Axpy_ok (ry := ⟨none, 0, 0⟩) (ys := []) (hH.up hb1.ext) (InV.nil k _ w1) (ha.up hb1.ext) (hx.up hb1.ext) hk hxl (Nat.zero_le _) ox (.inl (Nat.zero_le _))) ?_
  rintro _ w2 ⟨hx2, s, rfl, hs⟩
  exact ⟨Ext.trans' hb1.ext hx2, s, rfl, hs.less⟩
theorem VSame_ok {k : Nat} {H : Hd} {w : World} {rx ry : SlR} {xs ys : VL} (hH : HB H w) (hx : InV k H w rx xs) (hy : InV k H w ry ys) (hk : k ≤ 16777216) (hk1 : 1 ≤ k) (hxl : xs.length ≤ 65536) (hyl : ys.length ≤ 65536) (ox : Ok21 xs) (oy : Ok21 ys) :
    CallS Try.prog 29 #[rx.v, ry.v] w fun v w' => Ext w w' ∧ v = .bool (decide (axp xs (-1) ys = [])) := by
  refine enter ttOk mixed (args := [rx.v, ry.v]) Try.func29 rfl (by kernel_rfl) (by kernel_rfl) rfl ?_
  refine CallS.mono (ROf1_ok (n := -1) hH (by omega) (by omega)) ?_
  rintro _ w1 ⟨hx1, r, rfl, hr⟩
  refine CallS.mono (Axpy_ok (HB.ext hH hx1) (hx.ext hx1) (hr.inq ((fitInt (-1) (by decide)).mono hk1) (by omega)) (hy.ext hx1) hk hyl hxl oy ox) ?_
  rintro _ w2 ⟨hx2, s, rfl, hs⟩
  have hl := hs.len
  have e : ((-1 : Int) : Rat) = -1 := rfl
  rw [e] at hl
  refine And.intro (fun h1 => ?_) (fun h1 => ?_)
  · have : axp xs (-1) ys = [] := List.eq_nil_of_length_eq_zero (by omega)
    exact ⟨Ext.trans' hx1 hx2, by rw [decide_eq_true this]; rfl⟩
  · have : ¬ axp xs (-1) ys = [] := fun h => h1 (by rw [h] at hl; simp at hl; omega)
    exact ⟨Ext.trans' hx1 hx2, by rw [decide_eq_false this]; rfl⟩
theorem getL_take_le {xs : VL} {i : Nat} (h : xs.length ≤ i) (p : Int) : getL (xs.take i) p = getL xs p := by rw [List.take_of_length_le h]
theorem storeTmB {w w' : World} {b : Nat} {cs : List Value} {t : TmR} (hb : Blk w b tT cs) (hk : (Nat.beq cs.length 5) = true) : StoreOk tt w tT ⟨b, 0, none⟩ t.v ∧ (Stored w w' ⟨b, 0, none⟩ t.v.cells.toList → Blk w' b tT t.cs ∧ w.grownBy w' (some b)) := by
  have h3 := Nat.eq_of_beq_eq_true hk
  refine ⟨storeOk rfl rfl hb (by rw [h3]; exact Nat.le_refl 5), fun hs => ?_⟩
  have hg := (Stored.grown hs).1
  have hB := Stored.blk hs hb
  obtain ⟨c1, c2, c3, c4, c5, rfl⟩ : ∃ c1 c2 c3 c4 c5, cs = [c1, c2, c3, c4, c5] := by
    match cs, h3 with
    | [c1, c2, c3, c4, c5], _ => exact ⟨c1, c2, c3, c4, c5, rfl⟩
  exact ⟨hB, hg⟩
theorem fitGet {k n : Nat} {q x : Rat} {i : Nat} (h : FitQ (1 + i * (k + 2)) q) (hx : FitQ (k + 1) x) : FitQ (1 + (i + 1) * (k + 2)) (q + x) := (FitQ.add h hx).mono (by rw [Nat.add_mul]; omega)
theorem fitKeep {k : Nat} {q : Rat} {i : Nat} (h : FitQ (1 + i * (k + 2)) q) : FitQ (1 + (i + 1) * (k + 2)) q := h.mono (by rw [Nat.add_mul]; omega)
theorem fitMul {i n k : Nat} (h : i ≤ n) : 1 + i * (k + 2) ≤ 1 + n * (k + 2) := by have := Nat.mul_le_mul_right (k + 2) h; omega
theorem VGet_ok {k : Nat} {H : Hd} {w : World} {r : SlR} {xs : VL} (hH : HB H w) (hx : InV k H w r xs) (at' : Int) (hk : k ≤ 137438953472) (hb : 1 + xs.length * (k + 2) ≤ 137438953472) :
    CallS Try.prog 27 #[r.v, .int .i64 at'] w fun v w' => Ext w w' ∧ ∃ r : RatR, v = r.v ∧ (CanQ H w' r (getL xs at') ∧ FitQ (1 + xs.length * (k + 2)) (getL xs at')) := by
  have hrn := hx.len
  obtain ⟨⟨ts, hT, hI⟩, hnc, hcm, hav⟩ := hx
  have hl40 : r.n ≤ 137438953472 := by
    have : xs.length * 1 ≤ xs.length * (k + 2) := Nat.mul_le_mul_left _ (by omega)
    omega
  refine enter ttOk mixed (args := [r.v, .int .i64 at']) Try.func27 rfl (by kernel_rfl) (by kernel_rfl) rfl ?_
  intro b4 w1 hb4
  intro b5 w2 hb5
  have hs2 := storeQ (w0 := w) (r := RatR.zero) hb5.toBlk (hb5.extFrom hb4.ext) (hb5.ge hb4.ext) rfl
  refine ⟨hs2.1, fun w3 hs3 => ?_⟩
  have h3 := hs2.2 w3 hs3
  have l4 := hb4.lt
  have n5 := hb5.isNew
  have l5 := hb5.lt
  have ne45 : b4 ≠ b5 := by omega
  have B4 := Blk.grownN (hb4.toBlk.ext hb5.ext) h3.2.1 ne45
  have g4 := hb4.ge (Ext.rfl w)
  have g5 := hb5.ge hb4.ext
  have l5' := Nat.lt_of_lt_of_le l5 h3.2.1.size
  refine ⟨Nat × RatR, fun x => [(0, r.v), (1, .int .i64 at'), (4, .pointer (some ⟨b4, 0, none⟩)), (5, .pointer (some ⟨b5, 0, none⟩)), (9, r.v), (10, .int .i64 (r.n : Int)), (11, .int .i64 (x.1 : Int))],
    fun x w' => Ext w w' ∧ b5 < w'.heap.size ∧ Blk w' b4 33 (tyAt tt 33).zero ∧ Blk w' b5 33 (rcs x.2) ∧ CanQ (AH H b4 b5) w' x.2 (getL (xs.take x.1) at') ∧ FitQ (1 + x.1 * (k + 2)) (getL (xs.take x.1) at') ∧ x.1 ≤ r.n, fun x _ => r.n - x.1,
    ⟨(0, RatR.zero), ⟨rfl, rfl, rfl, rfl, rfl, rfl, rfl, trivial⟩, h3.2.2, l5', B4, h3.1, CanQ.zero _ _, FitQ.zero (Nat.le_add_right _ _), Nat.zero_le _⟩, ?_⟩
  clear B4 h3 hs3 hs2
  rintro ⟨i, rr⟩ w4 ⟨hx4, hlt, B4, B5, hq, hf, hi⟩
  dsimp only at *
  refine And.intro (fun h1 => ?_) (fun h1 => ?_)
  · have hin := ltTo h1
    have hix : i < xs.length := by omega
    have hT4 := hT.ext hx4
    have hbs := hT.base (by omega)
    refine (hI.get (vget hix)).elim fun t d => ?_
    refine ⟨i, ⟨rfl, hin, hbs⟩, t.v, hT4.load (ty := tT) d.1 rfl rfl, ?_⟩
    intro b7 w5 hb7
    have hst := fun w' => storeTmB (w' := w') (t := t) hb7.toBlk rfl
    refine ⟨(hst w5).1, fun w6 hs6 => ?_⟩
    have h6 := (hst w6).2 hs6
    have hx46 : Ext w4 w6 := Ext.grownB hb7.ext h6.2 (Nat.le_of_eq hb7.isNew.symm)
    have hx06 := Ext.trans' hx4 hx46
    have hsuc := sucI i (by omega)
    have e1 := getL_take_succ hix at'
    have hB7 := h6.1
    refine ⟨_, hB7.one (off := 0) rfl rfl, ?_⟩
    have hat : t.at' = pl xs i := d.2.1
    refine And.intro (fun h2 => ?_) (fun h2 => ?_)
    · have hpl : pl xs i = at' := by rw [← hat]; exact h2
      rw [if_pos hpl] at e1
      have hHs : HB (AH H b4 b5) w6 := by
        intro b hb
        have := hx46.size
        rcases hb with (hb | hb) | hb
        · exact Nat.lt_of_lt_of_le (hH b hb) hx06.size
        · omega
        · omega
      have hXi : InQ 137438953472 (AH H b4 b5) w6 t.x (xl xs i) := ((d.2.2.to (H' := AH H b4 b5) fun b hb => by
        rcases hb with (hb | hb) | hb
        · exact .inl hb
        · rw [hb]; exact .inr g4
        · rw [hb]; exact .inr g5).ext hx06).mono hk
      refine ⟨rr.v, loadQ (B5.ext hx46), t.x.v, hB7.agg (off := 1) (sub := rcs t.x) rfl rfl, ?_⟩
      refine CallS.mono (RAdd_ok hHs ((hq.ext hx46).inq (hf.mono (Nat.le_trans (fitMul (Nat.le_of_lt hix)) hb)) (by omega)) hXi) ?_
      rintro _ w7 ⟨hx7, rn, rfl, hrn'⟩
      have hx67 := Ext.trans' hx46 hx7
      have hs8 := storeQ (r := rn) (B5.ext hx67) (Ext.trans' hx4 hx67) g5 rfl
      refine ⟨hs8.1, fun w8 hs8' => ?_⟩
      have h8 := hs8.2 w8 hs8'
      have hsz := Nat.le_trans hx67.size h8.2.1.size
      rw [← e1] at hrn'
      refine ⟨((i + 1 : Nat) : Int), hsuc, (i + 1, rn), ⟨rfl, rfl, rfl, rfl, rfl, rfl, rfl, trivial⟩, ⟨h8.2.2, Nat.lt_of_lt_of_le hlt hsz, Blk.grownN (B4.ext hx67) h8.2.1 ne45, h8.1, hrn'.far h8.2.1 (.inr rfl), ?_, hin⟩, Nat.sub_lt_sub_left hin (Nat.lt_succ_self i)⟩
      show FitQ _ (getL (xs.take (i + 1)) at')
      rw [e1]; exact fitGet (n := 0) hf d.2.2.fit
    · have hpl : ¬ pl xs i = at' := by rw [← hat]; exact h2
      rw [if_neg hpl, Rat.add_zero] at e1
      refine ⟨((i + 1 : Nat) : Int), hsuc, (i + 1, rr), ⟨rfl, rfl, rfl, rfl, rfl, rfl, rfl, trivial⟩, ⟨hx06, Nat.lt_of_lt_of_le hlt hx46.size, B4.ext hx46, B5.ext hx46, ?_, ?_, hin⟩, Nat.sub_lt_sub_left hin (Nat.lt_succ_self i)⟩
      · show CanQ _ _ _ (getL (xs.take (i + 1)) at')
        rw [e1]; exact hq.ext hx46
      · show FitQ _ (getL (xs.take (i + 1)) at')
        rw [e1]; exact fitKeep hf
  · have e9 : i = r.n := Nat.le_antisymm hi (geTo h1)
    rw [e9, getL_take_le (by omega)] at hq hf
    rw [hrn] at hf
    refine ⟨rr.v, loadQ B5, ?_⟩
    have hrt := retRat (H := H) B4 hx4 g4 rfl (H' := AH H b4 b5) (.inl (.inr rfl)) (fun h => h.to fun b hb => .inl (.inl (.inl hb))) hq
    refine ⟨hrt.1, fun w' hs' => ?_⟩
    obtain ⟨v, h1, h2, r', h3, h4⟩ := hrt.2 w' hs'
    exact ⟨v, h1, h2, r', h3, h4, hf⟩
end Go.Proofs.Ytpgagepleffjlaa
/-
  Contracts of the layer sparse: products. Helpers; no statement of the program is proved here.
-/
set_option maxRecDepth 100000
set_option linter.unusedSimpArgs false
set_option linter.unusedVariables false
namespace Go.Proofs.Ytpgagepleffjlaa
open Go Go.Tw Go.RowKit
attribute [local irreducible] LoadAt StoreOk Stored rawVC

def dK (k n : Nat) : Nat := 1 + n * (2 * nK k + 3)
theorem fitDot {k m n : Nat} {q a b : Rat} (h : FitQ (dK k m) q) (ha : FitQ (nK k + 1) a) (hb : FitQ (nK k + 1) b) (hmn : m + 1 ≤ n) : FitQ (dK k n) (q + a * b) := by
  refine (FitQ.add h (FitQ.mul ha hb (by omega))).mono ?_
  unfold dK
  have := Nat.mul_le_mul_right (2 * nK k + 3) hmn
  rw [Nat.add_mul] at this
  omega
theorem dK_pos (k n : Nat) : 1 ≤ dK k n := by unfold dK; omega
theorem dK_mono {k m n : Nat} (h : m ≤ n) : dK k m ≤ dK k n := by unfold dK; have := Nat.mul_le_mul_right (2 * nK k + 3) h; omega
structure DtI (k : Nat) (H : Hd) (w w2 : World) (b4 b5 : Nat) (xs ys : VL) (rx ry : SlR) (x y : VL) (rr : RatR) (q : Rat) (w' : World) : Prop where
  ext0 : Ext w w'
  ext : Ext w2 w'
  lt : b5 < w'.heap.size
  c4 : Blk w' b4 33 (tyAt tt 33).zero
  c5 : Blk w' b5 33 (rcs rr)
  cq : CanQ (AH H b4 b5) w' rr q
  cf : FitQ (dK k ((srt xs).length - x.length)) q
  cl : x.length ≤ (srt xs).length
  vx : InV (nK k) (AH H b4 b5) w2 rx x
  vy : InV (nK k) (AH H b4 b5) w2 ry y
  dot : DotI x y (srt xs) (srt ys) q
theorem DtI.go {k : Nat} {H : Hd} {w w2 : World} {b4 b5 : Nat} {xs ys : VL} {rx ry : SlR} {x y : VL} {rr : RatR} {q : Rat} {w' w'' : World} (h : DtI k H w w2 b4 b5 xs ys rx ry x y rr q w') (e : Ext w' w'') : DtI k H w w2 b4 b5 xs ys rx ry x y rr q w'' :=
  ⟨Ext.trans' h.ext0 e, Ext.trans' h.ext e, Nat.lt_of_lt_of_le h.lt e.size, h.c4.ext e, h.c5.ext e, h.cq.ext e, h.cf, h.cl, h.vx, h.vy, h.dot⟩
theorem VDot_ok {k : Nat} {H : Hd} {w : World} {rx ry : SlR} {xs ys : VL} (hH : HB H w) (hx : InV k H w rx xs) (hy : InV k H w ry ys) (hk : k ≤ 16777216) (hxl : xs.length ≤ 65536) (hyl : ys.length ≤ 65536) (ox : Ok21 xs) (oy : Ok21 ys) (hD : dK k xs.length ≤ 68719476736) :
    CallS Try.prog 26 #[rx.v, ry.v] w fun v w' => Ext w w' ∧ ∃ r : RatR, v = r.v ∧ (CanQ H w' r (dotL xs ys) ∧ FitQ (dK k xs.length) (dotL xs ys)) := by
  refine enter ttOk mixed (args := [rx.v, ry.v]) Try.func26 rfl (by kernel_rfl) (by kernel_rfl) rfl ?_
  intro b4 w1 hb4
  have hH1 := hH.up hb4.ext
  refine CallS.mono (sorted_ok hH1 (hx.up hb4.ext) (by omega) (by omega) ox) ?_
  rintro _ w1' ⟨hx1, rx0, rfl, hvx⟩
  refine CallS.mono (sorted_ok (HB.ext hH1 hx1) ((hy.up hb4.ext).ext hx1) (by omega) (by omega) oy) ?_
  rintro _ w2 ⟨hx2, ry0, rfl, hvy⟩
  have hx12 := Ext.trans' hx1 hx2
  have hx02 := Ext.trans' hb4.ext hx12
  intro b5 w3 hb5
  have hs3 := storeQ (w0 := w) (r := RatR.zero) hb5.toBlk (hb5.extFrom hx02) (hb5.ge hx02) rfl
  refine ⟨hs3.1, fun w4 hs4 => ?_⟩
  have h4 := hs3.2 w4 hs4
  have l4 := hb4.lt
  have n5 := hb5.isNew
  have l5 := hb5.lt
  have ne45 : b4 ≠ b5 := by have := hx12.size; omega
  have B4 := Blk.grownN ((hb4.toBlk.ext hx12).ext hb5.ext) h4.2.1 ne45
  have g4 := hb4.ge (Ext.rfl w)
  have g5 := hb5.ge hx02
  have hx24 : Ext w2 w4 := Ext.grownB hb5.ext h4.2.1 (Nat.le_of_eq n5.symm)
  have toA : ∀ b, AH H b4 b5 b → upH H w w1 b ∨ w2.heap.size ≤ b := by
    intro b hb
    rcases hb with (hb | hb) | hb
    · exact .inl (.inl hb)
    · rw [hb]; exact .inl (hb4.inUp (Ext.rfl _) (Ext.rfl _))
    · rw [hb]; exact .inr (Nat.le_of_eq n5.symm)
  refine ⟨SlR × SlR × VL × VL × RatR × Rat, fun x => [(0, x.1.v), (1, x.2.1.v), (4, .pointer (some ⟨b4, 0, none⟩)), (5, .pointer (some ⟨b5, 0, none⟩))],
    fun x w' => DtI k H w w2 b4 b5 xs ys x.1 x.2.1 x.2.2.1 x.2.2.2.1 x.2.2.2.2.1 x.2.2.2.2.2 w', fun x _ => x.2.2.1.length + x.2.2.2.1.length,
    ⟨(rx0, ry0, srt xs, srt ys, RatR.zero, 0), ⟨rfl, rfl, rfl, rfl, trivial⟩, ⟨h4.2.2, hx24, Nat.lt_of_lt_of_le l5 h4.2.1.size, B4, h4.1, CanQ.zero _ _, FitQ.zero (dK_pos k _), Nat.le_refl _, (hvx.ext hx2).to toA, hvy.to toA, ⟨srt_ris xs, srt_ris ys, Rat.zero_add _⟩⟩⟩, ?_⟩
  clear B4 hx24 h4 hs4 hs3 toA hvx hvy
  rintro ⟨rx, ry, x, y, rr, q⟩ w5 hI
  dsimp only at *
  have hnx := hI.vx.len
  have hny := hI.vy.len
  have fin : (x = [] ∨ y = []) → ∃ v, LoadAt tt w5 33 ⟨b5, 0, none⟩ v ∧ StoreOk tt w5 33 ⟨b4, 0, none⟩ v ∧ ∀ w', Stored w5 w' ⟨b4, 0, none⟩ v.cells.toList → ∃ v, LoadAt tt w' 33 ⟨b4, 0, none⟩ v ∧ (Ext w w' ∧ ∃ r : RatR, v = r.v ∧ (CanQ H w' r (dotL xs ys) ∧ FitQ (dK k xs.length) (dotL xs ys))) := by
    intro he
    have hd := hI.dot.done he
    have e : dotL (srt xs) (srt ys) = dotL xs ys := dotL_congr (srt_get xs) (srt_get ys)
    rw [e] at hd
    have hq := hI.cq
    have hf := hI.cf
    rw [hd] at hq hf
    refine ⟨rr.v, loadQ hI.c5, ?_⟩
    have hrt := retRat (H := H) hI.c4 hI.ext0 g4 rfl (H' := AH H b4 b5) (.inl (.inr rfl)) (fun h => h.to fun b hb => .inl (.inl (.inl hb))) hq
    refine ⟨hrt.1, fun w' hs' => ?_⟩
    obtain ⟨v, h1, h2, r', h3, h4⟩ := hrt.2 w' hs'
    exact ⟨v, h1, h2, r', h3, h4, hf.mono (dK_mono (by have := srt_len xs; omega))⟩
  cases x with
  | nil =>
    have hnx : rx.n = 0 := hnx
    refine And.intro (fun h1 => ?_) (fun h1 => ?_)
    · exfalso; omega
    · exact fin (.inl rfl)
  | cons u x =>
    have hx0 := InV.head hI.vx
    refine hx0.2.2.elim fun ux lx => ?_
    refine And.intro (fun h1 => ?_) (fun h1 => ?_)
    rotate_left
    · exfalso; have := hx0.1; omega
    cases y with
    | nil =>
      have hny : ry.n = 0 := hny
      refine And.intro (fun h1 => ?_) (fun h1 => ?_)
      · exfalso; omega
      · exact fin (.inr rfl)
    | cons t y =>
      clear fin
      have hy0 := InV.head hI.vy
      refine hy0.2.2.elim fun uy ly => ?_
      refine And.intro (fun h2 => ?_) (fun h2 => ?_)
      rotate_left
      · exfalso; have := hy0.1; omega
      refine ⟨sq 10, by kernel_rfl, 0, ⟨rfl, hx0.1, hx0.2.1⟩, _, lx.1.ext hI.ext, 0, ⟨rfl, hy0.1, hy0.2.1⟩, _, ly.1.ext hI.ext, ?_⟩
      refine And.intro (fun h3 => ?_) (fun h3 => ?_)
      · intro w6 hx6 _
        have hI := hI.go hx6
        have hbef : ∀ s ∈ t :: y, u.1 < s.1 := fun s hs => by
          rcases List.mem_cons.1 hs with rfl | hs
          · exact h3
          · exact Int.lt_trans h3 (hI.dot.ry.head s hs)
        refine ⟨1, rx.n, ⟨rfl, rfl, hx0.1, hI.vx.nc⟩, ?_⟩
        exact ⟨(⟨subA rx.a rx.c 1 5, rx.n - 1, rx.c - 1⟩, ry, x, t :: y, rr, q), ⟨rfl, rfl, rfl, rfl, trivial⟩, ⟨hI.ext0, hI.ext, hI.lt, hI.c4, hI.c5, hI.cq, hI.cf.mono (dK_mono (by simp only [List.length_cons]; omega)), Nat.le_of_succ_le hI.cl, hI.vx.tail, hI.vy, hI.dot.dropX hbef⟩, by show _ < _; simp only [List.length_cons]; omega⟩
      · intro w6 hx6 _
        have hI := hI.go hx6
        refine ⟨sq 10, by kernel_rfl, 0, ⟨rfl, hy0.1, hy0.2.1⟩, _, ly.1.ext hI.ext, 0, ⟨rfl, hx0.1, hx0.2.1⟩, _, lx.1.ext hI.ext, ?_⟩
        refine And.intro (fun h4 => ?_) (fun h4 => ?_)
        · intro w7 hx7 _
          have hI := hI.go hx7
          have hbef : ∀ s ∈ u :: x, t.1 < s.1 := fun s hs => by
            rcases List.mem_cons.1 hs with rfl | hs
            · exact h4
            · exact Int.lt_trans h4 (hI.dot.rx.head s hs)
          refine ⟨1, ry.n, ⟨rfl, rfl, hy0.1, hI.vy.nc⟩, ?_⟩
          exact ⟨(rx, ⟨subA ry.a ry.c 1 5, ry.n - 1, ry.c - 1⟩, u :: x, y, rr, q), ⟨rfl, rfl, rfl, rfl, trivial⟩, ⟨hI.ext0, hI.ext, hI.lt, hI.c4, hI.c5, hI.cq, hI.cf, hI.cl, hI.vx, hI.vy.tail, hI.dot.dropY hbef⟩, by show _ < _; simp only [List.length_cons]; omega⟩
        · intro w7 hx7 _
          have hI := hI.go hx7
          have heq : u.1 = t.1 := Int.le_antisymm (Int.not_lt.1 h4) (Int.not_lt.1 h3)
          have hxl' : x.length + 1 ≤ (srt xs).length := hI.cl
          have hsl := srt_len xs
          have hHs : HB (AH H b4 b5) w7 := by
            intro b hb
            have := hI.ext.size
            have := hx12.size
            rcases hb with (hb | hb) | hb
            · exact Nat.lt_of_lt_of_le (hH b hb) hI.ext0.size
            · omega
            · rw [hb]; exact hI.lt
          have hdb : dK k ((srt xs).length - (u :: x).length) ≤ 137438953472 := Nat.le_trans (dK_mono (show (srt xs).length - (u :: x).length ≤ xs.length by omega)) (by omega)
          have hmu : FitQ 137438953472 (u.2 * t.2) := (FitQ.mul lx.2.2.fit ly.2.2.fit (by omega)).mono (by have := aK_le hk; unfold aK at this; omega)
          refine ⟨sq 12, by kernel_rfl, rr.v, loadQ hI.c5, 0, ⟨rfl, hx0.1, hx0.2.1⟩, ux.x.v, lx.2.1.ext hI.ext, 0, ⟨rfl, hy0.1, hy0.2.1⟩, uy.x.v, ly.2.1.ext hI.ext, ?_⟩
          refine dcallR (mk := RatR.v) (Q := fun r w' => CanQ (AH H b4 b5) w' r (u.2 * t.2)) RatR.inj (fun _ => CanQ.stable) (fun w' hw _ => RMul_ok (HB.ext hHs hw) (((lx.2.2.ext hI.ext).ext hw).mono (nK_le' hk)) (((ly.2.2.ext hI.ext).ext hw).mono (nK_le' hk))) ?_
          intro rm
          refine dcallR (mk := RatR.v) (Q := fun r w' => CanQ (AH H b4 b5) w' r (q + u.2 * t.2)) RatR.inj (fun _ => CanQ.stable) (fun w' hw hF => RAdd_ok (HB.ext hHs hw) ((hI.cq.ext hw).inq (hI.cf.mono hdb) (by omega)) (hF.1.inq hmu (by omega))) ?_
          intro rn w8 hx8 hF8
          have hI8 := hI.go hx8
          have hs8 := storeQ (r := rn) hI8.c5 hI8.ext0 g5 rfl
          refine ⟨hs8.1, fun w9 hs9 => ?_⟩
          have h9 := hs8.2 w9 hs9
          have hx29 : Ext w2 w9 := Ext.grownB hI8.ext h9.2.1 (Nat.le_of_eq n5.symm)
          have b49 := Blk.grownN hI8.c4 h9.2.1 ne45
          have q9 := hF8.1.far h9.2.1 (.inr rfl)
          have lt9 := Nat.lt_of_lt_of_le hI8.lt h9.2.1.size
          intro w10 hx10 _
          have hff := fitDot hI.cf lx.2.2.fit ly.2.2.fit (n := (srt xs).length - x.length) (by simp only [List.length_cons]; omega)
          refine ⟨sq 6, by kernel_rfl, 1, rx.n, ⟨rfl, rfl, hx0.1, hI.vx.nc⟩, 1, ry.n, ⟨rfl, rfl, hy0.1, hI.vy.nc⟩, ?_⟩
          intro w11 hx11 _
          have hxx := Ext.trans' hx10 hx11
          exact ⟨(⟨subA rx.a rx.c 1 5, rx.n - 1, rx.c - 1⟩, ⟨subA ry.a ry.c 1 5, ry.n - 1, ry.c - 1⟩, x, y, rn, _), ⟨rfl, rfl, rfl, rfl, trivial⟩, ⟨Ext.trans' h9.2.2 hxx, Ext.trans' hx29 hxx, Nat.lt_of_lt_of_le lt9 hxx.size, b49.ext hxx, h9.1.ext hxx, q9.ext hxx, hff, Nat.le_of_succ_le hI.cl, hI.vx.tail, hI.vy.tail, hI.dot.both heq⟩, by show _ < _; simp only [List.length_cons]; omega⟩
end Go.Proofs.Ytpgagepleffjlaa
/-
  Contracts of the layer sparse: something else at a place. Helpers; no statement of the program is proved here.
-/
set_option maxRecDepth 100000
set_option linter.unusedSimpArgs false
set_option linter.unusedVariables false
namespace Go.Tw
open Go Go.RowKit
/-- clear of a slice. -/
theorem raw_clear {P : Program} {T : TT} (hT : TOk P T) {o : Oper} {e : Env} {w : World} {K : Value → World → Prop} {t el : Nat} {x : Operand} {c : Call} (ho : o.op = .call c) (hc : c.callee = .builtin .clear) (ha : c.args.toList = [x]) (hat : c.argTypes.toList = [t]) (ht : (tyAt T t).d = .slice el)
    (hk : (known (tyAt T el) && Nat.blt 0 (tyAt T el).size && Nat.beq (tyAt T el).zero.length (tyAt T el).size && (tyAt T el).zero.all Value.oneCell') = true) {a : Option Addr} {m n : Nat} (hx : ev e x = some (.slice a m n))
    (h0 : m = 0 → K (.tuple #[]) w)
    (h1 : 0 < m → ∃ p, a = some p ∧ (∀ j, j < m * (tyAt T el).size → (∃ u, w.cell? (p.add j) = some u) ∧ w.frozen? (p.add j) = false) ∧ ∀ w', Stored w w' p (rep m (tyAt T el).zero) → K (.tuple #[]) w') : rawVC P o e w K := by
  intro r hr
  obtain ⟨dst, op, type, pos, after, guard⟩ := o
  simp only at ho
  subst ho
  simp only [Bool.and_eq_true] at hk
  obtain ⟨⟨⟨hkn, hpos⟩, hzl⟩, hone⟩ := hk
  have h1' : c.args.map r = #[.slice a m n] := by
    apply Array.ext'; rw [Array.toList_map, ha]; simp [hr x _ hx]
  have hat' : c.argTypes = #[t] := toList_eq1 hat
  simp only [execOp, resolve, hc, Sem.run_bind, Sem.run_pure, Result.andThen, invoke, h1', builtin, hat', Builtin.clear_]
  simp only [List.getElem?_toArray, List.getElem?_cons_zero, Sem.run_bind, run_underlying (hT.slice ht), Result.andThen]
  rcases Nat.eq_zero_or_pos m with hm | hm
  · subst hm
    cases a <;> exact h0 rfl
  · obtain ⟨p, rfl, hcells, hK⟩ := h1 hm
    obtain ⟨z, hz, hzc⟩ := hT.zero (known_ne hkn) w
    obtain ⟨k, rfl⟩ : ∃ k, m = k + 1 := ⟨m - 1, by omega⟩
    have hzs : z.cells.size = (tyAt T el).size := by rw [← Array.length_toList, hzc]; exact Nat.eq_of_beq_eq_true hzl
    have hzp : 0 < z.cells.size := by rw [hzs]; exact Nat.lt_of_lt_of_le Nat.zero_lt_one (Nat.le_of_ble_eq_true hpos)
    have he : (Builtin.zeroCells z.cells (k + 1)).toList = rep (k + 1) (tyAt T el).zero := by
      unfold Builtin.zeroCells
      rw [rep_range _ _ hzp, hzc]
    have hall : (rep (k + 1) (tyAt T el).zero).all Value.oneCell' = true := by
      have : ∀ n, (rep n (tyAt T el).zero).all Value.oneCell' = true := by
        intro n
        induction n with
        | zero => rfl
        | succ n ih => simp only [rep, List.all_append, hone, ih, Bool.and_self]
      exact this _
    have hst := run_storeFrom (P := P) p (rep (k + 1) (tyAt T el).zero) 0 w hall (fun j hj => by
      rw [Nat.zero_add]
      refine hcells j ?_
      rw [rep_length, Nat.eq_of_beq_eq_true hzl] at hj
      exact hj)
    simp only [hz, Sem.run_bind, Result.andThen, he, hst, Sem.run_pure]
    exact hK _ rfl
theorem TsIn.filter {k : Nat} {H : Hd} {w : World} {ts : List TmR} {xs : VL} (h : TsIn k H w ts xs) (p : Int) : TsIn k H w (ts.filter fun t => !decide (t.at' = p)) (xs.filter fun t => !decide (t.1 = p)) := by
  induction h with
  | nil => exact .nil
  | cons h1 h2 _ ih =>
    rename_i t q _ _ _
    by_cases hq : q.1 = p
    · have ht : t.at' = p := h1.trans hq
      simp only [List.filter_cons, hq, ht, decide_true, Bool.not_true, Bool.false_eq_true, if_false]; exact ih
    · have ht : ¬ t.at' = p := fun h => hq (h1.symm.trans h)
      simp only [List.filter_cons, hq, ht, decide_false, Bool.not_false, if_true]; exact .cons h1 h2 ih
theorem owns_cap {w : World} {base e n : Nat} {v : Value} {ts : List TmR} (h : w.ownsRow base e 5 v n (tcs ts)) (hn : 0 < n) :
    ∃ g cap R, v = .slice (some ⟨g, 0, none⟩) n cap ∧ base ≤ g ∧ Blk w g e (tcs ts ++ R) ∧ n ≤ cap ∧ cap ≤ 9223372036854775807 ∧ ts.length = n ∧ (tcs ts ++ R).length = cap * 5 := by
  obtain ⟨hl, h⟩ := h
  rw [tcs_length] at hl
  rcases h with ⟨rfl, rfl⟩ | ⟨g, cap, cur, rfl, hg, hb, hnc, hcm, hcs, htk⟩
  · omega
  · refine ⟨g, cap, cur.toList.drop (n * 5), rfl, hg, ?_, hnc, by unfold maxLen at hcm; exact hcm, by omega, ?_⟩
    · unfold Blk
      rw [← htk, List.take_append_drop]
      simpa using hb
    · rw [← htk, List.take_append_drop]; simpa using hcs
theorem owns_of_blk {w : World} {base e g n cap : Nat} {ts : List TmR} {R : List Value} (h : Blk w g e (tcs ts ++ R)) (hb : base ≤ g) (hn : ts.length = n) (hc : n ≤ cap) (hm : cap ≤ 9223372036854775807) (hl : (tcs ts ++ R).length = cap * 5) : w.ownsRow base e 5 (.slice (some ⟨g, 0, none⟩) n cap) n (tcs ts) := by
  have e1 := tcs_length ts
  refine ⟨by rw [e1, hn], .inr ⟨g, cap, (tcs ts ++ R).toArray, rfl, hb, h, hc, by unfold maxLen; exact hm, by simpa using hl, ?_⟩⟩
  show (tcs ts ++ R).take (n * 5) = tcs ts
  rw [List.take_append_of_le_length (by omega), List.take_of_length_le (by omega)]
end Go.Tw
namespace Go.Proofs.Ytpgagepleffjlaa
open Go Go.Tw Go.RowKit
attribute [local irreducible] LoadAt StoreOk Stored rawVC

abbrev pV (b : Nat) : Value := .func (.func 76) #[] #[.pointer (some ⟨b, 0, none⟩)]
theorem PutC_ok (t : TmR) {b : Nat} {p : Int} {w : World} (hb : Blk w b 3 [.int .i64 p]) : CallS Try.prog 76 #[t.v, .pointer (some ⟨b, 0, none⟩)] w fun v w' => Ext w w' ∧ v = .bool (decide (t.at' = p)) := by
  refine enter ttOk mixed (args := [t.v, .pointer (some ⟨b, 0, none⟩)]) Try.func76 rfl (by kernel_rfl) (by kernel_rfl) rfl ?_
  intro b1 w1 hb1
  have hX : Blk w1 b1 tT t.cs := hb1.toBlk
  refine ⟨_, hX.one (off := 0) rfl rfl, _, (hb.ext hb1.ext).one (off := 0) rfl rfl, ?_⟩
  refine And.intro (fun h => ?_) (fun h => ?_)
  · exact ⟨hb1.ext, by rw [decide_eq_true h]; rfl⟩
  · exact ⟨hb1.ext, by rw [decide_eq_false h]; rfl⟩
def fnd (ts : List TmR) (p z : Int) : Prop := (z = -1 ∧ ∀ t ∈ ts, t.at' ≠ p) ∨ ∃ i : Nat, z = (i : Int) ∧ i < ts.length ∧ ky ts i = p ∧ ∀ j, j < i → ky ts j ≠ p
theorem IndexF_ok {w : World} {a : Option Addr} {n c b : Nat} {p : Int} {ts : List TmR} (hT : Tms w a n ts) (hb : Blk w b 3 [.int .i64 p]) (hn : n ≤ 1099511627776) :
    CallS Try.prog 98 #[.slice a n c, pV b] w fun v w' => Ext w w' ∧ ∃ z, v = .int .i64 z ∧ fnd ts p z := by
  have hl := hT.len
  refine enter ttOk mixed (args := [.slice a n c, pV b]) Try.func98 rfl (by kernel_rfl) (by kernel_rfl) rfl ?_
  refine ⟨Nat, fun x => [(0, .slice a n c), (1, pV b), (7, .int .i64 (n : Int)), (8, .int .i64 (x : Int))], fun x w' => Ext w w' ∧ x ≤ n ∧ ∀ j, j < x → ky ts j ≠ p, fun x _ => n - x, ⟨0, ⟨rfl, rfl, rfl, rfl, trivial⟩, Ext.rfl w, Nat.zero_le _, fun j h => by omega⟩, ?_⟩
  rintro i w2 ⟨hx2, hi, hs⟩
  dsimp only at *
  refine And.intro (fun h1 => ?_) (fun h1 => ?_)
  · have hin := ltTo h1
    refine ⟨i, ⟨rfl, hin, hT.base (by omega)⟩, _, (hT.ext hx2).load (ty := tT) (getD_some (by omega)) rfl rfl, ?_⟩
    refine CallS.mono (PutC_ok _ (hb.ext hx2)) ?_
    rintro _ w3 ⟨hx3, rfl⟩
    by_cases hc : (ts.getD i default).at' = p
    · rw [decide_eq_true hc]
      exact ⟨Ext.trans' hx2 hx3, (i : Int), rfl, .inr ⟨i, rfl, by omega, hc, hs⟩⟩
    · rw [decide_eq_false hc]
      exact ⟨((i + 1 : Nat) : Int), sucI i (by omega), i + 1, ⟨rfl, rfl, rfl, rfl, trivial⟩, ⟨Ext.trans' hx2 hx3, hin, fun j hj => by
        by_cases hji : j = i
        · rw [hji]; exact hc
        · exact hs j (by omega)⟩, Nat.sub_lt_sub_left hin (Nat.lt_succ_self i)⟩
  · have e : i = n := Nat.le_antisymm hi (geTo h1)
    refine ⟨hx2, -1, rfl, .inl ⟨rfl, fun t ht => ?_⟩⟩
    obtain ⟨j, hj, rfl⟩ := List.getElem_of_mem ht
    have := hs j (by omega)
    unfold ky at this
    rw [List.getD_eq_getElem?_getD, List.getElem?_eq_getElem hj] at this
    exact this
end Go.Proofs.Ytpgagepleffjlaa
/-
  Contracts of the layer sparse: something else at a place, second part. Helpers; no statement of the program is proved here.
-/
set_option maxRecDepth 100000
set_option linter.unusedSimpArgs false
set_option linter.unusedVariables false
namespace Go.Proofs.Ytpgagepleffjlaa
open Go Go.Tw Go.RowKit
attribute [local irreducible] LoadAt StoreOk Stored rawVC

def keepF (p : Int) (t : TmR) : Bool := !decide (t.at' = p)
structure DelI (ts vs : List TmR) (p : Int) (i j : Nat) : Prop where
  len : vs.length = ts.length
  ij : i < j
  jn : j ≤ ts.length
  pre : vs.take i = (ts.take j).filter (keepF p)
  post : vs.drop j = ts.drop j
theorem filter_all {ts : List TmR} {p : Int} (h : ∀ t ∈ ts, t.at' ≠ p) : ts.filter (keepF p) = ts := by
  rw [List.filter_eq_self]
  intro t ht
  simp [keepF, h t ht]
theorem take_succD {ts : List TmR} {j : Nat} (h : j < ts.length) : ts.take (j + 1) = ts.take j ++ [ts.getD j default] := by
  rw [List.take_succ_eq_append_getElem h, List.getD_eq_getElem?_getD, List.getElem?_eq_getElem h]; rfl
theorem DelI.first {ts : List TmR} {p : Int} {i : Nat} (hi : i < ts.length) (h1 : ky ts i = p) (h2 : ∀ j, j < i → ky ts j ≠ p) : DelI ts ts p i (i + 1) := by
  refine ⟨rfl, Nat.lt_succ_self i, hi, ?_, rfl⟩
  rw [take_succD hi, List.filter_append, filter_all]
  · have : keepF p (ts.getD i default) = false := by
      have h1 : (ts.getD i default).at' = p := h1
      simp only [keepF, h1, decide_true, Bool.not_true]
    simp only [List.filter_cons, this, List.filter_nil, Bool.false_eq_true, if_false, List.append_nil]
  · intro t ht
    obtain ⟨j, hj, rfl⟩ := List.getElem_of_mem ht
    rw [List.length_take] at hj
    have := h2 j (by omega)
    unfold ky at this
    rw [List.getD_eq_getElem?_getD, List.getElem?_eq_getElem (by omega)] at this
    rw [List.getElem_take]; exact this
theorem DelI.at {ts vs : List TmR} {p : Int} {i j : Nat} (h : DelI ts vs p i j) (hj : j < ts.length) : vs.getD j default = ts.getD j default := by
  have h1 := congrArg (fun l => l[0]?) h.post
  simp only [List.getElem?_drop, Nat.add_zero] at h1
  rw [List.getD_eq_getElem?_getD, List.getD_eq_getElem?_getD, h1]
theorem DelI.drop1 {ts vs : List TmR} {p : Int} {i j : Nat} (h : DelI ts vs p i j) : vs.drop (j + 1) = ts.drop (j + 1) := by
  have := congrArg (List.drop 1) h.post
  rw [List.drop_drop, List.drop_drop] at this
  exact this
theorem DelI.skip {ts vs : List TmR} {p : Int} {i j : Nat} (h : DelI ts vs p i j) (hj : j < ts.length) (hm : (ts.getD j default).at' = p) : DelI ts vs p i (j + 1) := by
  refine ⟨h.len, Nat.lt_succ_of_lt h.ij, hj, ?_, h.drop1⟩
  have : keepF p (ts.getD j default) = false := by simp only [keepF, hm, decide_true, Bool.not_true]
  rw [take_succD hj, List.filter_append, ← h.pre]
  simp only [List.filter_cons, this, List.filter_nil, Bool.false_eq_true, if_false, List.append_nil]
theorem DelI.keep {ts vs : List TmR} {p : Int} {i j : Nat} (h : DelI ts vs p i j) (hj : j < ts.length) (hm : ¬ (ts.getD j default).at' = p) : DelI ts (vs.set i (ts.getD j default)) p (i + 1) (j + 1) := by
  have hl := h.len
  have hij := h.ij
  refine ⟨by rw [List.length_set]; exact hl, Nat.succ_lt_succ hij, hj, ?_, ?_⟩
  · have : keepF p (ts.getD j default) = true := by simp only [keepF, hm, decide_false, Bool.not_false]
    have hs : i < (vs.set i (ts.getD j default)).length := by rw [List.length_set]; omega
    rw [take_succD hj, List.filter_append, ← h.pre, take_succD hs]
    congr 1
    · apply List.ext_getElem?
      intro q
      rw [List.getElem?_take, List.getElem?_take]
      split
      · rw [List.getElem?_set_ne (by omega)]
      · rfl
    · simp only [List.filter_cons, this, List.filter_nil, if_true]
      rw [List.getD_eq_getElem?_getD, List.getElem?_set_self (by omega)]; rfl
  · rw [← h.drop1]
    apply List.ext_getElem?
    intro q
    rw [List.getElem?_drop, List.getElem?_drop, List.getElem?_set_ne (by omega)]
theorem Wr.fresh {a b c : World} {i j : Nat} (h : a.grownBy b (some i)) (k : b.grownBy c (some j)) (hj : a.heap.size ≤ j) : a.grownBy c (some i) :=
  ⟨k.os.trans h.os, k.tape.trans h.tape, k.output.trans h.output, Nat.le_trans h.size k.size, fun q hq hn => (k.block q (Nat.lt_of_lt_of_le hq h.size) (fun e => by have := Option.some.inj e; omega)).trans (h.block q hq hn)⟩
/-- Of none. -/
theorem DelNil_ok {w : World} {a : Option Addr} {c b : Nat} {p : Int} (hb : Blk w b 3 [.int .i64 p]) :
    CallS Try.prog 74 #[.slice a 0 c, pV b] w fun v w' => Ext w w' ∧ v = .slice a 0 c := by
  refine enter ttOk mixed (args := [.slice a 0 c, pV b]) Try.func74 rfl (by kernel_rfl) (by kernel_rfl) rfl ?_
  refine CallS.mono (IndexF_ok (Tms.nil w a) hb (Nat.zero_le _)) ?_
  rintro _ w2 ⟨hx2, z, rfl, hz⟩
  rcases hz with ⟨rfl, _⟩ | ⟨i, _, hi, _⟩
  · refine And.intro (fun h => ?_) (fun h => ?_)
    · exact ⟨hx2, rfl⟩
    · exact absurd rfl h
  · exact absurd hi (Nat.not_lt_zero i)
theorem Del_ok {w : World} {g n cap b : Nat} {p : Int} {ts : List TmR} {R : List Value} (hB : Blk w g tT (tcs ts ++ R)) (hn : ts.length = n) (hn0 : 0 < n) (hcap : n ≤ cap) (hlen : (tcs ts ++ R).length = cap * 5) (hb : Blk w b 3 [.int .i64 p]) (hbg : b ≠ g) (hn40 : n ≤ 1099511627776) :
    CallS Try.prog 74 #[.slice (some ⟨g, 0, none⟩) n cap, pV b] w fun v w' => w.grownBy w' (some g) ∧ ∃ (m : Nat) (R' : List Value), v = .slice (some ⟨g, 0, none⟩) m cap ∧ m ≤ cap ∧ (ts.filter (keepF p)).length = m ∧ Blk w' g tT (tcs (ts.filter (keepF p)) ++ R') ∧ (tcs (ts.filter (keepF p)) ++ R').length = cap * 5 := by
  have hT := Tms.blk hB
  rw [hn] at hT
  have hgl := hB.lt
  have hbl := hb.lt
  refine enter ttOk mixed (args := [.slice (some ⟨g, 0, none⟩) n cap, pV b]) Try.func74 rfl (by kernel_rfl) (by kernel_rfl) rfl ?_
  refine CallS.mono (IndexF_ok hT hb hn40) ?_
  rintro _ w2 ⟨hx2, z, rfl, hz⟩
  rcases hz with ⟨rfl, hall⟩ | ⟨i0, rfl, hi0, hk1, hk2⟩
  · refine And.intro (fun h => ?_) (fun h => ?_)
    · rw [filter_all hall]
      exact ⟨Wr.ext (Wr.refl _ _) hx2, n, R, rfl, hcap, hn, hB.ext hx2, hlen⟩
    · exact absurd rfl h
  · refine And.intro (fun h => ?_) (fun h => ?_)
    · exfalso; omega
    have hF := DelI.first hi0 hk1 hk2
    refine ⟨((i0 + 1 : Nat) : Int), sucI i0 (by omega), ?_⟩
    refine ⟨Nat × Nat × List TmR, fun x => [(0, .slice (some ⟨g, 0, none⟩) n cap), (1, pV b), (5, .int .i64 (x.1 : Int)), (6, .int .i64 (x.2.1 : Int))],
      fun x w' => w.grownBy w' (some g) ∧ Blk w' g tT (tcs x.2.2 ++ R) ∧ Blk w' b 3 [.int .i64 p] ∧ DelI ts x.2.2 p x.1 x.2.1, fun x _ => n - x.2.1,
      ⟨(i0, i0 + 1, ts), ⟨rfl, rfl, rfl, rfl, trivial⟩, Wr.ext (Wr.refl _ _) hx2, hB.ext hx2, hb.ext hx2, hF⟩, ?_⟩
    clear hF hk1 hk2 hi0 hx2
    rintro ⟨i, j, vs⟩ w3 ⟨hg3, hB3, hb3, hI⟩
    dsimp only at *
    have hvl : vs.length = n := by rw [hI.len, hn]
    have hij := hI.ij
    refine And.intro (fun h1 => ?_) (fun h1 => ?_)
    · have hjn := ltTo h1
      have hjt : j < ts.length := by omega
      have hT3 := Tms.blk hB3
      rw [hvl] at hT3
      have hat := hI.at hjt
      generalize htj : ts.getD j default = t at *
      have hld := hT3.load (ty := tT) (T := tt) (sz := 5) (getD_some (show j < vs.length by omega)) rfl rfl
      rw [hat] at hld
      refine ⟨j, ⟨rfl, hjn, ⟨_, rfl, rfl⟩⟩, t.v, hld, ?_⟩
      intro b7 w4 hb7
      have hst := fun w' => storeTmB (w' := w') (t := t) hb7.toBlk rfl
      refine ⟨(hst w4).1, fun w5 hs5 => ?_⟩
      have h5 := (hst w5).2 hs5
      have n7 := hb7.isNew
      have s3 := hg3.size
      have hg5 := Wr.fresh (Wr.ext hg3 hb7.ext) h5.2 (by omega)
      have hB5 := Blk.grownN (hB3.ext hb7.ext) h5.2 (by omega)
      have hb5 := Blk.grownN (hb3.ext hb7.ext) h5.2 (by omega)
      have l7 : LoadAt tt w5 tT ⟨b7, 0, none⟩ t.v := h5.1.agg (sub := t.cs) rfl rfl
      refine ⟨t.v, l7, ?_⟩
      refine CallS.mono (PutC_ok t hb5) ?_
      rintro _ w6 ⟨hx6, rfl⟩
      have hjs := sucI j (by omega)
      by_cases hc : t.at' = p
      · rw [decide_eq_true hc]
        exact ⟨((j + 1 : Nat) : Int), hjs, (i, j + 1, vs), ⟨rfl, rfl, rfl, rfl, trivial⟩, ⟨Wr.ext hg5 hx6, hB5.ext hx6, hb5.ext hx6, hI.skip hjt (by rw [htj]; exact hc)⟩, Nat.sub_lt_sub_left hjn (Nat.lt_succ_self j)⟩
      · rw [decide_eq_false hc]
        have hiv : i < vs.length := by omega
        refine ⟨t.v, l7.ext hx6, i, ⟨rfl, by omega, ⟨_, rfl, rfl⟩⟩, storeTm rfl rfl (hB5.ext hx6) hiv, ?_⟩
        intro w7 hs7
        have hS := storedTm hs7 rfl (hB5.ext hx6) hiv
        have hkp := hI.keep hjt (by rw [htj]; exact hc)
        rw [htj] at hkp
        exact ⟨((i + 1 : Nat) : Int), sucI i (by omega), ((j + 1 : Nat) : Int), hjs, (i + 1, j + 1, vs.set i t), ⟨rfl, rfl, rfl, rfl, trivial⟩, ⟨Wr.trans (Wr.ext hg5 hx6) hS.2, hS.1, Blk.grownN (hb5.ext hx6) hS.2 hbg, hkp⟩, Nat.sub_lt_sub_left hjn (Nat.lt_succ_self j)⟩
    · have e9 : j = ts.length := Nat.le_antisymm hI.jn (by have := geTo h1; omega)
      have hpre := hI.pre
      rw [e9, List.take_of_length_le (Nat.le_refl _)] at hpre
      have hin : i < n := by omega
      have hcapi : ¬ cap = i := by omega
      refine ⟨i, n, ⟨rfl, rfl, Nat.le_of_lt hin, hcap⟩, ?_⟩
      have hsub : subA (some ⟨g, 0, none⟩) cap i 5 = some ⟨g, i * 5, none⟩ := by
        unfold subA; rw [if_neg hcapi]; simp only [Option.map_some, Addr.add, Nat.zero_add]; split <;> simp_all
      have hlr : (tcs vs ++ R).length = cap * 5 := by
        rw [List.length_append, tcs_length] at hlen ⊢
        rw [hI.len]; exact hlen
      refine raw_clear ttOk rfl rfl rfl rfl rfl rfl rfl (fun h => by exfalso; omega) (fun _ => ⟨⟨g, i * 5, none⟩, hsub, fun q hq => ?_, fun w4 hs4 => ?_⟩)
      · have hq : q < (n - i) * 5 := hq
        rw [Addr.add_lit]
        exact ⟨⟨_, hB3.cell (List.getElem?_eq_getElem (by omega))⟩, hB3.free _⟩
      · have hB4 := Stored.blk hs4 hB3
        have hg4 := (Stored.grown hs4).1
        have e1 : tcs vs ++ R = tcs (vs.take i) ++ (tcs (vs.drop i) ++ R) := by
          rw [← List.append_assoc, ← tcs_append, List.take_append_drop]
        have e2 : (tcs (vs.take i)).length = i * 5 := by rw [tcs_length, List.length_take]; congr 1; omega
        have e3 : splice (tcs vs ++ R) (i * 5) (rep (n - i) (tyAt tt tT).zero) = tcs (vs.take i) ++ splice (tcs (vs.drop i) ++ R) 0 (rep (n - i) (tyAt tt tT).zero) := by
          rw [e1]
          have := splice_append (tcs (vs.take i)) (tcs (vs.drop i) ++ R) (rep (n - i) (tyAt tt tT).zero) 0
          rw [e2, Nat.add_zero] at this
          exact this
        have hB4 : Blk w4 g tT (splice (tcs vs ++ R) (i * 5) (rep (n - i) (tyAt tt tT).zero)) := hB4
        have hlen4 := splice_length (tcs vs ++ R) (i * 5) (rep (n - i) (tyAt tt tT).zero)
        rw [e3] at hB4 hlen4
        rw [hpre] at hB4 hlen4 e2
        refine ⟨0, i, ⟨rfl, rfl, Nat.zero_le _, by omega⟩, ?_⟩
        refine ⟨Wr.trans hg3 hg4, i, _, ?_, by omega, ?_, hB4, by rw [hlen4]; exact hlr⟩
        · show Value.slice (subA (some ⟨g, 0, none⟩) cap 0 5) (i - 0) (cap - 0) = _
          rw [subA_zero]; rfl
        · rw [← hpre, List.length_take]; omega
end Go.Proofs.Ytpgagepleffjlaa
/-
  Contracts of the layer sparse: something else at a place, the whole. Helpers; no statement of the program is proved here.
-/
set_option maxRecDepth 100000
set_option linter.unusedSimpArgs false
set_option linter.unusedVariables false
namespace Go.Proofs.Ytpgagepleffjlaa
open Go Go.Tw Go.RowKit
attribute [local irreducible] LoadAt StoreOk Stored rawVC

theorem owns_ext {w w' : World} {base e sz n : Nat} {v : Value} {xs : List Value} (h1 : w.ownsRow base e sz v n xs) (x : Ext w w') : w'.ownsRow base e sz v n xs := by
  obtain ⟨hl, h⟩ := h1
  refine ⟨hl, ?_⟩
  rcases h with h | ⟨g, cap, cur, he, hg, hb, h⟩
  · exact .inl h
  · refine .inr ⟨g, cap, cur, he, hg, ?_, h⟩
    have hlt : g < w.heap.size := by
      rcases Nat.lt_or_ge g w.heap.size with h' | h'
      · exact h'
      · rw [Array.getElem?_eq_none h'] at hb; cases hb
    rw [x.block g hlt]; exact hb
theorem owns_in {w : World} {base e sz n : Nat} {v : Value} {xs : List Value} (h1 : w.ownsRow base e sz v n xs) {b : Nat} (hb : v.ownBlock = some b) : base ≤ b ∧ b < w.heap.size := by
  rcases h1.2 with ⟨he, _⟩ | ⟨g, cap, cur, he, hg, hb', h⟩
  · rw [he] at hb; cases hb
  · rw [he] at hb
    simp only [Value.ownBlock, Option.some.injEq] at hb
    subst hb
    refine ⟨hg, ?_⟩
    rcases Nat.lt_or_ge g w.heap.size with h' | h'
    · exact h'
    · rw [Array.getElem?_eq_none h'] at hb'; cases hb'
theorem DelOwn_ok {w : World} {base n b : Nat} {v : Value} {p : Int} {ts : List TmR} (ho : w.ownsRow base tT 5 v n (tcs ts)) (hb : Blk w b 3 [.int .i64 p]) (hbg : b < base) (hn40 : n ≤ 1099511627776) :
    CallS Try.prog 74 #[v, pV b] w fun v' w' => w.grownBy w' v.ownBlock ∧ v'.ownBlock = v.ownBlock ∧ ∃ m, m = (ts.filter (keepF p)).length ∧ w'.ownsRow base tT 5 v' m (tcs (ts.filter (keepF p))) := by
  rcases Nat.eq_zero_or_pos n with h0 | h0
  · subst h0
    have hts : ts = [] := by
      have := ho.1
      rw [tcs_length] at this
      exact List.eq_nil_of_length_eq_zero (by omega)
    subst hts
    obtain ⟨a, c, rfl, hc⟩ := owns_zero5 ho
    refine CallS.mono (DelNil_ok hb) ?_
    rintro _ w2 ⟨hx2, rfl⟩
    exact ⟨⟨hx2.os, hx2.tape, hx2.output, hx2.size, fun i hi _ => hx2.block i hi⟩, rfl, 0, rfl, owns_ext ho hx2⟩
  · obtain ⟨g, cap, R, rfl, hge, hB, hnc, hcm, htl, hlen⟩ := owns_cap ho h0
    refine CallS.mono (Del_ok hB htl h0 hnc hlen hb (by omega) hn40) ?_
    rintro _ w2 ⟨hg2, m, R', rfl, hmc, hfl, hB', hl'⟩
    exact ⟨hg2, rfl, m, hfl.symm, owns_of_blk hB' hge hfl hmc hcm hl'⟩
def putV (xs : VL) (p : Int) (q : Rat) : VL := xs.filter (fun t => !decide (t.1 = p)) ++ [(p, q)]
theorem Put_ok {k : Nat} {H : Hd} {w : World} {r : SlR} {x : RatR} {xs : VL} {p : Int} {q : Rat} (hH : HB H w) (hx : InV k H w r xs) (hq : InQ k H w x q) (hk : k ≤ 1073741824) (hn : (putV xs p q).length ≤ 21) (hxl : xs.length ≤ 65536) :
    CallS Try.prog 28 #[r.v, .int .i64 p, x.v] w fun v w' => Ext w w' ∧ ∃ s : SlR, v = s.v ∧ CanV (nK k) H w' s (nrm (putV xs p q)) := by
  have hrn := hx.len
  obtain ⟨⟨ts, hT, hI⟩, hnc, hcm, hav⟩ := hx
  refine enter ttOk mixed (args := [r.v, .int .i64 p, x.v]) Try.func28 rfl (by kernel_rfl) (by kernel_rfl) rfl ?_
  intro b4 w1 hb4 b5 w2 hb5
  have hx2 : Ext w w2 := hb5.extFrom hb4.ext
  refine CallS.mono (cloneV_own (hT.ext hx2) (by omega)) ?_
  rintro v3 w3 ⟨hx3, ho3⟩
  have hP3 : Blk w3 b4 3 [.int .i64 p] := (hb4.toBlk.ext hb5.ext).ext hx3
  have hX3 : Blk w3 b5 33 (rcs x) := hb5.toBlk.ext hx3
  have h4lt := hb4.lt
  have h5lt := hb5.lt
  have hs12 := hb5.ext.size
  have hs02 := hx2.size
  refine CallS.mono (DelOwn_ok ho3 hP3 (by omega) (by omega)) ?_
  rintro v4 w4 ⟨hg4, hob, m, hm, ho4⟩
  have hown : ∀ b, v3.ownBlock = some b → w2.heap.size ≤ b := fun b hb => (owns_in ho3 hb).1
  have hx4 : Ext w w4 := Ext.grown (Ext.trans' hx2 hx3) hg4 (fun b hb => Nat.le_trans hs02 (hown b hb))
  have hP4 : Blk w4 b4 3 [.int .i64 p] := Blk.grown hP3 hg4 (by intro e; have := hown b4 e.symm; omega)
  have hX4 : Blk w4 b5 33 (rcs x) := Blk.grown hX3 hg4 (by intro e; have := hown b5 e.symm; omega)
  refine ⟨_, hP4.one (off := 0) rfl rfl, x.v, loadQ hX4, ?_⟩
  intro b6 w5 hb6
  have hb6 : New w4 w5 b6 tT (tcs [⟨p, x⟩]) := hb6
  have hx45 := hb6.ext
  have hml : m ≤ 20 := by
    have h1 := (hI.filter p).length
    unfold putV at hn
    rw [List.length_append, List.length_singleton, ← h1] at hn
    have : (ts.filter (keepF p)).length = (ts.filter fun t => !decide (t.at' = p)).length := rfl
    omega
  refine ⟨rfl, w2.heap.size, m, tcs (ts.filter (keepF p)), tcs [⟨p, x⟩], ⟨owns_ext ho4 hx45, rfl, ?_, tcs_mem_one _, fun _ => ⟨_, rfl, rfl⟩, by omega, by show (m + 1) * 72 ≤ _; omega, by have := hx3.size; have := hg4.size; have := hx45.size; omega⟩, ?_⟩
  · intro j v hj
    have := hb6.toBlk.cell (i := 0 + j) (v := v) (by rw [Nat.zero_add]; exact hj)
    exact this
  intro v' w6 ho6 hg6 hn6
  have ho6 : w6.ownsRow w2.heap.size tT 5 v' (m + 1) (tcs (ts.filter (keepF p) ++ [⟨p, x⟩])) := by rw [tcs_append]; exact ho6
  have hown6 : ∀ b, v4.ownBlock = some b → w2.heap.size ≤ b := fun b hb => hown b (hob ▸ hb)
  have hx6 : Ext w w6 := Ext.grown (Ext.trans' hx4 hx45) hg6 (fun b hb => Nat.le_trans hs02 (hown6 b hb))
  have hto : ∀ b, (H b ∨ w2.heap.size ≤ b) → H b ∨ w.heap.size ≤ b := fun b hb => hb.imp_right fun h => Nat.le_trans hs02 h
  have up : ∀ {y : RatR} {z : Rat}, InQ k H w y z → InQ k H w6 y z := by
    intro y z h
    have h1 := ((h.to (H' := fun b => H b ∨ w2.heap.size ≤ b) hto).ext hx2).ext hx3
    have h2 := (h1.grow hg4 (fun b hb => .inr (hown b hb))).ext hx45
    exact (h2.grow hg6 (fun b hb => .inr (hown6 b hb))).to (fun b hb => .inl (.inl hb))
  have hv : ∃ s : SlR, v' = s.v ∧ s.n = m + 1 := by
    rcases ho6.2 with ⟨rfl, h0⟩ | ⟨g, cap, cur, rfl, _⟩
    · omega
    · exact ⟨⟨_, _, _⟩, rfl, rfl⟩
  obtain ⟨s, rfl, hs⟩ := hv
  obtain ⟨c1, c2, c3, c4⟩ := owns_tms ho6 hs
  have hin : InV k H w6 s (putV xs p q) := by
    refine ⟨⟨ts.filter (keepF p) ++ [⟨p, x⟩], c1, ?_⟩, c2, c3, fun h0 hb => ?_⟩
    · exact TsIn.append ((hI.filter p).map up) (.cons rfl (up hq) .nil)
    · have := hH _ hb
      have := c4 h0
      omega
  refine CallS.mono (VNorm_ok (HB.ext hH hx6) hin hk hn) ?_
  rintro _ w7 ⟨hx7, s', rfl, hs'⟩
  exact ⟨Ext.trans' hx6 hx7, s', rfl, hs'⟩
end Go.Proofs.Ytpgagepleffjlaa
/-
  Contracts of the watch's own helpers: whether words, whole numbers, fractions, vectors are the same. Helpers; no statement of the program is proved here.
-/
set_option maxRecDepth 100000
set_option linter.unusedSimpArgs false
set_option linter.unusedVariables false
namespace Go.Proofs.Ytpgagepleffjlaa
open Go Go.Tw Go.RowKit
attribute [local irreducible] LoadAt StoreOk Stored rawVC

theorem take_same {α : Type} {L M : List α} {i : Nat} (h : L.take i = M.take i) (h1 : L[i]? = M[i]?) : L.take (i + 1) = M.take (i + 1) := by
  rw [List.take_add_one, List.take_add_one, h, h1]
theorem SameWords_ok {w : World} {a b : Option Addr} {n c m d : Nat} {L M : List Nat} (hL : Words w a n L) (hM : Words w b m M) (hn : n ≤ 1099511627776) :
    CallS Try.prog 107 #[.slice a n c, .slice b m d] w fun v w' => Ext w w' ∧ v = .bool (decide (L = M)) := by
  have hl := hL.len
  have hm := hM.len
  refine enter ttOk mixed (args := [.slice a n c, .slice b m d]) Try.func107 rfl (by kernel_rfl) (by kernel_rfl) rfl ?_
  refine And.intro (fun h1 => ?_) (fun h1 => ?_)
  · have : ¬ L = M := fun h => h1 (by rw [← hl, ← hm, h])
    exact ⟨Ext.rfl w, by rw [decide_eq_false this]; rfl⟩
  · have hnm : n = m := by omega
    refine ⟨Nat, fun x => [(0, .slice a n c), (1, .slice b m d), (5, .int .i64 (x : Int))], fun x w' => Ext w w' ∧ x ≤ n ∧ L.take x = M.take x, fun x _ => n - x, ⟨0, ⟨rfl, rfl, rfl, trivial⟩, Ext.rfl w, Nat.zero_le _, rfl⟩, ?_⟩
    rintro i w1 ⟨hx1, hi, he⟩
    dsimp only at *
    refine And.intro (fun h2 => ?_) (fun h2 => ?_)
    · have hin := ltTo h2
      have gL := hL.getD hin
      have gM := hM.getD (j := i) (by omega)
      refine ⟨sq 9, by kernel_rfl, i, ⟨rfl, hin, hL.base (by omega)⟩, _, (hL.ext hx1).load rfl rfl gL, i, ⟨rfl, by omega, hM.base (by omega)⟩, _, (hM.ext hx1).load rfl rfl gM, fun h3 => ?_, fun h3 => ?_⟩
      · intro w2 hx2 _
        have : ¬ L = M := fun h => h3 (by rw [h])
        exact ⟨Ext.trans' hx1 hx2, by rw [decide_eq_false this]; rfl⟩
      · intro w2 hx2 _
        have e : L.getD i 0 = M.getD i 0 := by omega
        exact ⟨((i + 1 : Nat) : Int), sucI i (by omega), i + 1, ⟨rfl, rfl, rfl, trivial⟩, ⟨Ext.trans' hx1 hx2, hin, take_same he (by rw [gL, gM, e])⟩, Nat.sub_lt_sub_left hin (Nat.lt_succ_self i)⟩
    · have e : i = n := Nat.le_antisymm hi (geTo h2)
      have : L = M := by
        rw [List.take_of_length_le (by omega), List.take_of_length_le (by omega)] at he
        exact he
      exact ⟨hx1, by rw [decide_eq_true this]; rfl⟩
theorem canI_n40 {H : Hd} {w : World} {r : IntR} {z : Int} (h : CanI H w r z) {k : Nat} (hf : Fit k z) : r.n ≤ k := by
  rw [← h.words.len]; exact hf.len
theorem SameInt_ok {H : Hd} {w : World} {rx ry : IntR} {x y : Int} (hx : CanI H w rx x) (hy : CanI H w ry y) (hf : Fit 1099511627776 x) :
    CallS Try.prog 86 #[rx.v, ry.v] w fun v w' => Ext w w' ∧ v = .bool (decide (x = y)) := by
  have hxn := canI_n40 hx hf
  refine enter ttOk mixed (args := [rx.v, ry.v]) Try.func86 rfl (by kernel_rfl) (by kernel_rfl) rfl ?_
  intro b1 w1 hb1 b2 w2 hb2
  have hx2 : Ext w w2 := hb2.extFrom hb1.ext
  have hB1 : Blk w2 b1 31 [.bool rx.neg, .slice rx.a rx.n rx.c] := hb1.toBlk.ext hb2.ext
  have hB2 : Blk w2 b2 31 [.bool ry.neg, .slice ry.a ry.n ry.c] := hb2.toBlk
  refine ⟨_, hB1.one (off := 0) rfl rfl, _, hB2.one (off := 0) rfl rfl, ?_⟩
  refine And.intro (fun h1 => ?_) (fun h1 => ?_)
  · refine ⟨_, hB1.one (off := 1) rfl rfl, _, hB2.one (off := 1) rfl rfl, ?_⟩
    refine CallS.mono (SameWords_ok (hx.words.ext hx2) (hy.words.ext hx2) hxn) ?_
    rintro _ w3 ⟨hx3, rfl⟩
    refine ⟨Ext.trans' hx2 hx3, ?_⟩
    have : (dig x.natAbs = dig y.natAbs) ↔ x = y := by
      constructor
      · intro h
        have h4 := dig_inj h
        have h5 := hx.neg
        have h6 := hy.neg
        rw [h1, h6] at h5
        have h5 := decide_eq_decide.1 h5
        omega
      · intro h; rw [h]
    rw [decide_eq_decide.2 this]; rfl
  · have : ¬ x = y := fun h => h1 (by rw [hx.neg, hy.neg, h])
    exact ⟨hx2, by rw [decide_eq_false this]; rfl⟩
theorem SameRat_ok {H : Hd} {w : World} {rx ry : RatR} {x y : Rat} (hx : CanQ H w rx x) (hy : CanQ H w ry y) (hf : FitQ 1099511627776 x) :
    CallS Try.prog 62 #[rx.v, ry.v] w fun v w' => Ext w w' ∧ v = .bool (decide (x = y)) := by
  refine enter ttOk mixed (args := [rx.v, ry.v]) Try.func62 rfl (by kernel_rfl) (by kernel_rfl) rfl ?_
  intro b1 w1 hb1 b2 w2 hb2
  have hx2 : Ext w w2 := hb2.extFrom hb1.ext
  have hB1 : Blk w2 b1 33 (rcs rx) := hb1.toBlk.ext hb2.ext
  have hB2 : Blk w2 b2 33 (rcs ry) := hb2.toBlk
  refine ⟨rx.num.v, loadQn hB1, ry.num.v, loadQn hB2, ?_⟩
  refine CallS.mono (SameInt_ok (hx.num.ext hx2) (hy.num.ext hx2) hf.num) ?_
  rintro _ w3 ⟨hx3, rfl⟩
  have hden : denC x = denC y ↔ x.den = y.den := by
    have := x.den_nz
    have := y.den_nz
    unfold denC
    constructor
    · intro h
      split at h <;> split at h <;> omega
    · intro h; rw [h]
  by_cases h1 : x.num = y.num
  · rw [decide_eq_true h1]
    refine ⟨rx.den.v, (hB1.ext hx3).agg (sub := [.bool rx.den.neg, .slice rx.den.a rx.den.n rx.den.c]) rfl rfl, ry.den.v, (hB2.ext hx3).agg (sub := [.bool ry.den.neg, .slice ry.den.a ry.den.n ry.den.c]) rfl rfl, ?_⟩
    have hfd : Fit 1099511627776 (denC x) := by
      unfold denC
      split
      · exact Fit.zero _
      · exact hf.den
    refine CallS.mono (SameInt_ok ((hx.den.ext hx2).ext hx3) ((hy.den.ext hx2).ext hx3) hfd) ?_
    rintro _ w4 ⟨hx4, rfl⟩
    have : (denC x = denC y) ↔ x = y := by
      rw [hden]
      constructor
      · intro h; exact Rat.ext h1 h
      · intro h; rw [h]
    exact ⟨Ext.trans' (Ext.trans' hx2 hx3) hx4, by rw [decide_eq_decide.2 this]; rfl⟩
  · rw [decide_eq_false h1]
    have : ¬ x = y := fun h => h1 (by rw [h])
    exact ⟨Ext.trans' hx2 hx3, by rw [decide_eq_false this]; rfl⟩
end Go.Proofs.Ytpgagepleffjlaa
/-
  Contracts of the watch's own helpers: whether vectors are the same. Helpers; no statement of the program is proved here.
-/
set_option maxRecDepth 100000
set_option linter.unusedSimpArgs false
set_option linter.unusedVariables false
namespace Go.Proofs.Ytpgagepleffjlaa
open Go Go.Tw Go.RowKit
attribute [local irreducible] LoadAt StoreOk Stored rawVC

theorem tsCan_get {k : Nat} {H : Hd} {w : World} {ts : List TmR} {xs : VL} (h : TsCan k H w ts xs) {j : Nat} {p : Int × Rat} (hj : xs[j]? = some p) : ∃ t, ts[j]? = some t ∧ t.at' = p.1 ∧ CanQ H w t.x p.2 ∧ FitQ k p.2 := by
  induction h generalizing j with
  | nil => simp at hj
  | cons h1 h2 h3 _ ih =>
    cases j with
    | zero =>
      simp only [List.getElem?_cons_zero, Option.some.injEq] at hj ⊢
      subst hj
      exact ⟨_, rfl, h1, h2, h3⟩
    | succ j =>
      simp only [List.getElem?_cons_succ] at hj ⊢
      exact ih hj
theorem SameVec_ok {k k' : Nat} {H : Hd} {w : World} {rx ry : SlR} {xs ys : VL} (hx : CanV k H w rx xs) (hy : CanV k' H w ry ys) (hk : k ≤ 1099511627776) (hxl : xs.length ≤ 1099511627776) :
    CallS Try.prog 17 #[rx.v, ry.v] w fun v w' => Ext w w' ∧ v = .bool (decide (xs = ys)) := by
  have hl := hx.len
  have hm := hy.len
  obtain ⟨⟨ts, hT, hI⟩, hnc, hcm, hav⟩ := hx
  obtain ⟨⟨us, hU, hJ⟩, hnc', hcm', hav'⟩ := hy
  refine enter ttOk mixed (args := [rx.v, ry.v]) Try.func17 rfl (by kernel_rfl) (by kernel_rfl) rfl ?_
  refine And.intro (fun h1 => ?_) (fun h1 => ?_)
  · have : ¬ xs = ys := fun h => h1 (by rw [hl, hm, h])
    exact ⟨Ext.rfl w, by rw [decide_eq_false this]; rfl⟩
  · have hnm : rx.n = ry.n := by omega
    refine ⟨Nat, fun x => [(0, rx.v), (1, ry.v), (5, .int .i64 (x : Int))], fun x w' => Ext w w' ∧ x ≤ rx.n ∧ xs.take x = ys.take x, fun x _ => rx.n - x, ⟨0, ⟨rfl, rfl, rfl, trivial⟩, Ext.rfl w, Nat.zero_le _, rfl⟩, ?_⟩
    rintro i w1 ⟨hx1, hi, he⟩
    dsimp only at *
    refine And.intro (fun h2 => ?_) (fun h2 => ?_)
    · have hin := ltTo h2
      have hjn : i < ry.n := by omega
      have g1 := vget (ys := xs) (j := i) (by omega)
      have g2 := vget (ys := ys) (j := i) (by omega)
      refine (tsCan_get hI g1).elim fun t dt => ?_
      refine (tsCan_get hJ g2).elim fun u du => ?_
      have l1 := (hT.ext hx1).loadAt (T := tt) (ty := 3) (sz := 5) dt.1 rfl rfl
      have l2 := (hU.ext hx1).loadAt (T := tt) (ty := 3) (sz := 5) du.1 rfl rfl
      have x1 := (hT.ext hx1).loadX (T := tt) (ty := 33) (sz := 5) dt.1 rfl rfl
      have x2 := (hU.ext hx1).loadX (T := tt) (ty := 33) (sz := 5) du.1 rfl rfl
      refine ⟨sq 25, by kernel_rfl, i, ⟨rfl, hin, hT.base (by omega)⟩, _, l1, i, ⟨rfl, hjn, hU.base (by omega)⟩, _, l2, fun h3 => ?_, fun h3 => ?_⟩
      · intro w2 hx2 _
        have : ¬ xs = ys := fun h => h3 (by rw [dt.2.1, du.2.1, h])
        exact ⟨Ext.trans' hx1 hx2, by rw [decide_eq_false this]; rfl⟩
      · refine ⟨i, ⟨rfl, hin, hT.base (by omega)⟩, t.x.v, x1, i, ⟨rfl, hjn, hU.base (by omega)⟩, u.x.v, x2, ?_⟩
        have hc : ∀ w', Ext w1 w' → True → CallS Try.prog 62 #[t.x.v, u.x.v] w' fun v w'' => Ext w' w'' ∧ v = .bool (decide (xl xs i = xl ys i)) := fun w' hw _ => SameRat_ok ((dt.2.2.1.ext hx1).ext hw) ((du.2.2.1.ext hx1).ext hw) (dt.2.2.2.mono hk)
        by_cases h4 : xl xs i = xl ys i
        · rw [decide_eq_true h4] at hc
          refine dcallV (.bool true) hc ?_
          intro w2 hx2 _
          have e : xs[i]? = ys[i]? := by
            rw [g1, g2]
            have : pl xs i = pl ys i := by have := dt.2.1; have := du.2.1; omega
            rw [this, h4]
          exact ⟨((i + 1 : Nat) : Int), sucI i (by omega), i + 1, ⟨rfl, rfl, rfl, trivial⟩, ⟨Ext.trans' hx1 hx2, hin, take_same he e⟩, Nat.sub_lt_sub_left hin (Nat.lt_succ_self i)⟩
        · rw [decide_eq_false h4] at hc
          refine dcallV (.bool false) hc ?_
          intro w2 hx2 _
          have : ¬ xs = ys := fun h => h4 (by rw [h])
          exact ⟨Ext.trans' hx1 hx2, by rw [decide_eq_false this]; rfl⟩
    · have e : i = rx.n := Nat.le_antisymm hi (geTo h2)
      have : xs = ys := by
        rw [List.take_of_length_le (by omega), List.take_of_length_le (by omega)] at he
        exact he
      exact ⟨hx1, by rw [decide_eq_true this]; rfl⟩
end Go.Proofs.Ytpgagepleffjlaa
/-
  Contracts of the watch's own helpers: whether fractions and vectors are short. Helpers; no statement of the program is proved here.
-/
set_option maxRecDepth 100000
set_option linter.unusedSimpArgs false
set_option linter.unusedVariables false
namespace Go.Proofs.Ytpgagepleffjlaa
open Go Go.Tw Go.RowKit
attribute [local irreducible] LoadAt StoreOk Stored rawVC

def shQ (r : RatR) (m : Nat) : Prop := r.num.n ≤ m ∧ r.den.n ≤ m
instance (r : RatR) (m : Nat) : Decidable (shQ r m) := inferInstanceAs (Decidable (_ ∧ _))
theorem ShortRat_ok {w : World} (r : RatR) (m : Nat) :
    CallS Try.prog 15 #[r.v, .int .i64 (m : Int)] w fun v w' => Ext w w' ∧ v = .bool (decide (shQ r m)) := by
  refine enter ttOk mixed (args := [r.v, .int .i64 (m : Int)]) Try.func15 rfl (by kernel_rfl) (by kernel_rfl) rfl ?_
  intro b1 w1 hb1
  have hB : Blk w1 b1 33 (rcs r) := hb1.toBlk
  refine ⟨_, hB.one (off := 1) rfl rfl, ?_⟩
  refine And.intro (fun h1 => ?_) (fun h1 => ?_)
  · refine ⟨_, hB.one (off := 3) rfl rfl, ?_⟩
    refine And.intro (fun h2 => ?_) (fun h2 => ?_)
    · exact ⟨hb1.ext, by rw [decide_eq_true (show shQ r m from ⟨by omega, by omega⟩)]; rfl⟩
    · exact ⟨hb1.ext, by rw [decide_eq_false (show ¬ shQ r m from fun h => h2 (by have := h.2; omega))]; rfl⟩
  · exact ⟨hb1.ext, by rw [decide_eq_false (show ¬ shQ r m from fun h => h1 (by have := h.1; omega))]; rfl⟩
def shV (n : Nat) (ts : List TmR) (l m : Nat) : Prop := n ≤ l ∧ ∀ t ∈ ts, shQ t.x m
instance (n : Nat) (ts : List TmR) (l m : Nat) : Decidable (shV n ts l m) := inferInstanceAs (Decidable (_ ∧ _))
theorem ShortVec_ok {w : World} {a : Option Addr} {n c : Nat} {ts : List TmR} (hT : Tms w a n ts) (l m : Nat) (hl : l ≤ 1099511627776) :
    CallS Try.prog 14 #[.slice a n c, .int .i64 (l : Int), .int .i64 (m : Int)] w fun v w' => Ext w w' ∧ v = .bool (decide (shV n ts l m)) := by
  have hlen := hT.len
  refine enter ttOk mixed (args := [.slice a n c, .int .i64 (l : Int), .int .i64 (m : Int)]) Try.func14 rfl (by kernel_rfl) (by kernel_rfl) rfl ?_
  refine And.intro (fun h1 => ?_) (fun h1 => ?_)
  · exact ⟨Ext.rfl w, by rw [decide_eq_false (show ¬ shV n ts l m from fun h => by have := h.1; omega)]; rfl⟩
  · refine ⟨Nat, fun x => [(0, .slice a n c), (2, .int .i64 (m : Int)), (7, .int .i64 (x : Int))], fun x w' => Ext w w' ∧ x ≤ n ∧ ∀ t ∈ ts.take x, shQ t.x m, fun x _ => n - x, ⟨0, ⟨rfl, rfl, rfl, trivial⟩, Ext.rfl w, Nat.zero_le _, fun t h => by simp at h⟩, ?_⟩
    rintro i w1 ⟨hx1, hi, hs⟩
    dsimp only at *
    refine And.intro (fun h2 => ?_) (fun h2 => ?_)
    · have hin := ltTo h2
      have hg := getD_some (ts := ts) (j := i) (by omega)
      refine ⟨i, ⟨rfl, hin, hT.base (by omega)⟩, _, (hT.ext hx1).loadX (T := tt) (ty := 33) (sz := 5) hg rfl rfl, ?_⟩
      refine CallS.mono (ShortRat_ok _ m) ?_
      rintro _ w2 ⟨hx2, rfl⟩
      by_cases hc : shQ (ts.getD i default).x m
      · rw [decide_eq_true hc]
        refine ⟨((i + 1 : Nat) : Int), sucI i (by omega), i + 1, ⟨rfl, rfl, rfl, trivial⟩, ⟨Ext.trans' hx1 hx2, hin, fun t ht => ?_⟩, Nat.sub_lt_sub_left hin (Nat.lt_succ_self i)⟩
        rw [take_succD (by omega), List.mem_append] at ht
        rcases ht with ht | ht
        · exact hs t ht
        · rw [List.mem_singleton] at ht; rw [ht]; exact hc
      · rw [decide_eq_false hc]
        exact ⟨Ext.trans' hx1 hx2, by rw [decide_eq_false (show ¬ shV n ts l m from fun h => hc (h.2 _ (List.mem_of_getElem? hg)))]; rfl⟩
    · have e : i = n := Nat.le_antisymm hi (geTo h2)
      rw [List.take_of_length_le (by omega)] at hs
      exact ⟨hx1, by rw [decide_eq_true (show shV n ts l m from ⟨by omega, hs⟩)]; rfl⟩
/-! ### what comes in -/
structure OpQ (w : World) (r : RatR) : Prop where
  num : ∃ L, Words w r.num.a r.num.n L
  den : ∃ L, Words w r.den.a r.den.n L
  nc : r.num.n ≤ r.num.c
  cm : r.num.c ≤ 9223372036854775807
  nc' : r.den.n ≤ r.den.c
  cm' : r.den.c ≤ 9223372036854775807
structure OpV (w : World) (r : SlR) (ts : List TmR) : Prop where
  tms : Tms w r.a r.n ts
  all : ∀ t ∈ ts, OpQ w t.x
  nc : r.n ≤ r.c
  cm : r.c ≤ 9223372036854775807
def H0 : Hd := fun _ => False
theorem H0.hb (w : World) : HB H0 w := fun b h => h.elim
theorem H0.av (a : Option Addr) (n : Nat) : Av H0 a n := fun _ h => h.elim
theorem OpQ.inq {w : World} {r : RatR} (h : OpQ w r) {m : Nat} (hm : m ≤ 1099511627776) (hs : shQ r m) : ∃ q, InQ m H0 w r q := by
  obtain ⟨⟨L, hL⟩, ⟨M, hM⟩, h1, h2, h3, h4⟩ := h
  exact ⟨_, ⟨⟨_, _, ⟨⟨L, hL, rfl⟩, h1, h2, Nat.le_trans hs.1 hm, H0.av _ _⟩, ⟨⟨M, hM, rfl⟩, h3, h4, Nat.le_trans hs.2 hm, H0.av _ _⟩, rfl⟩, hs.1, hs.2⟩⟩
theorem OpV.inv {w : World} {r : SlR} {ts : List TmR} (h : OpV w r ts) {l m : Nat} (hm : m ≤ 1099511627776) (hs : shV r.n ts l m) : ∃ xs, InV m H0 w r xs ∧ xs.length ≤ l := by
  have : ∀ us : List TmR, (∀ t ∈ us, OpQ w t.x ∧ shQ t.x m) → ∃ xs, TsIn m H0 w us xs := by
    intro us
    induction us with
    | nil => exact fun _ => ⟨[], .nil⟩
    | cons t us ih =>
      intro hu
      obtain ⟨xs, hxs⟩ := ih fun t ht => hu t (by simp [ht])
      have h0 := hu t (by simp)
      obtain ⟨q, hq⟩ := h0.1.inq hm h0.2
      exact ⟨(t.at', q) :: xs, .cons rfl hq hxs⟩
  obtain ⟨xs, hxs⟩ := this ts fun t ht => ⟨h.all t ht, hs.2 t ht⟩
  have hv : InV m H0 w r xs := ⟨⟨ts, h.tms, hxs⟩, h.nc, h.cm, H0.av _ _⟩
  exact ⟨xs, hv, by have := hv.len; have := hs.1; omega⟩
end Go.Proofs.Ytpgagepleffjlaa
/-
  What comes in, opened: whole numbers, fractions, vectors. Helpers; no statement of the program is proved here.
-/
set_option maxRecDepth 100000
set_option linter.unusedSimpArgs false
set_option linter.unusedVariables false
namespace Go.Proofs.Ytpgagepleffjlaa
open Go Go.Tw Go.RowKit Go.ChangeShapes Go.WideShapes Go.Deep
theorem listOf {α : Type} [Inhabited α] (n : Nat) {P : Nat → α → Prop} (h : ∀ i, i < n → ∃ z, P i z) : ∃ L : List α, L.length = n ∧ ∀ i z, L[i]? = some z → P i z := by
  induction n with
  | zero => exact ⟨[], rfl, fun i z h => by simp at h⟩
  | succ n ih =>
    obtain ⟨L, h1, h2⟩ := ih fun i hi => h i (Nat.lt_succ_of_lt hi)
    obtain ⟨z, hz⟩ := h n (Nat.lt_succ_self n)
    refine ⟨L ++ [z], by simp [h1], fun i y hy => ?_⟩
    rcases Nat.lt_or_ge i n with hi | hi
    · rw [List.getElem?_append_left (by omega)] at hy
      exact h2 i y hy
    · rw [List.getElem?_append_right (by omega)] at hy
      have : i - L.length = 0 := by
        rcases Nat.eq_zero_or_pos (i - L.length) with h0 | h0
        · exact h0
        · rw [List.getElem?_eq_none (by simp; omega)] at hy; cases hy
      rw [this] at hy
      simp only [List.getElem?_cons_zero, Option.some.injEq] at hy
      subst hy
      have : i = n := by omega
      rw [this]; exact hz
theorem cells1 {w : World} {base : Nat} {a : Addr} {n : Nat} {cs : List Value} (h : w.cells? base a n = some cs) : cs.length = n ∧ ∀ j, j < n → w.cell? (a.add j) = cs[j]? := (World.cells?_some h).2
theorem add_add' (a : Addr) (i j : Nat) : (a.add i).add j = a.add (i + j) :=
  Go.Deep.add_add a i j
section
variable {H : Type} {enc : TypeId × Value → H} {w : World} {base : Nat} {sp : Nat → Bool} {held : Bool} {fuel : Nat} {cs : List Value} {x : DataW H × List MemPlace}
theorem opWords (h : DataW.trod enc Try.prog w base sp held fuel 29 cs = some x) : ∃ a n c L, cs = [.slice a n c] ∧ Words w a n L ∧ n ≤ c ∧ c ≤ 9223372036854775807 := by
  rcases open_slice (t := 29) (e := 88) rfl h with ⟨rfl, _⟩ | ⟨a, len, cap, m, n, D, Pl, rfl, hb, hl, hm, hmm, hx, hi⟩
  · exact ⟨none, 0, 0, [], rfl, Words.nil w, Nat.le_refl _, by omega⟩
  · have hlm : len ≤ m := by rw [hmm]; split <;> omega
    have hone : ∀ i, i < len → ∃ z : Nat, z < 18446744073709551616 ∧ w.cell? (a.add i) = some (.int .u64 (z : Int)) := by
      intro i hil
      obtain ⟨cs', hc, ht⟩ := hi i (by omega)
      obtain ⟨z, rfl, _, hw⟩ := DataW.trod_int (k := .u64) rfl ht
      have hb : 0 ≤ z ∧ z ≤ 18446744073709551615 := by
        simp [Lit.wf, IntKind.min, IntKind.max, IntKind.signed, IntKind.bits] at hw
        omega
      have hcc := (cells1 hc).2 0 (by decide)
      refine ⟨z.toNat, by omega, ?_⟩
      rw [Int.toNat_of_nonneg hb.1]
      have e : (a.add (i * Try.prog.cellsOf 88)).add 0 = a.add i := by
        have : Try.prog.cellsOf 88 = 1 := by kernel_rfl
        rw [this, Nat.mul_one, add_add', Nat.add_zero]
      rw [e] at hcc
      exact hcc
    obtain ⟨L, hL, hP⟩ := listOf len hone
    have hsp : 0 < len → a.spot = none := by
      intro h0
      obtain ⟨z, _, hz⟩ := hone 0 h0
      have := World.cell?_spot hz
      cases a; simpa [Addr.add] using this
    refine ⟨some a, len, cap, L, rfl, ⟨hL, fun h0 => ⟨a, rfl, hsp h0⟩, fun j z hz => ?_, fun z hz => ?_⟩, hl, by unfold maxLen at hm; exact hm⟩
    · have hj : j < len := by
        rcases Nat.lt_or_ge j len with h' | h'
        · exact h'
        · rw [List.getElem?_eq_none (by omega)] at hz; cases hz
      rw [← add_eq_addrAt (hsp (by omega)) j]
      exact (hP j z hz).2
    · obtain ⟨j, hj, rfl⟩ := List.getElem_of_mem hz
      exact (hP j _ (List.getElem?_eq_getElem hj)).1
theorem opInt (h : DataW.trod enc Try.prog w base sp held fuel 31 cs = some x) : ∃ r : IntR, cs = [.bool r.neg, .slice r.a r.n r.c] ∧ (∃ L, Words w r.a r.n L) ∧ r.n ≤ r.c ∧ r.c ≤ 9223372036854775807 := by
  obtain ⟨y0, y1, n, rfl, hl, h0, h1⟩ := trod_struct2 (t := 31) rfl h
  obtain ⟨b, hb, _⟩ := DataW.trod_bool rfl h0
  obtain ⟨a, m, c, L, hs, hw, h2, h3⟩ := opWords h1
  have hl : cs.length = 2 := hl.trans (by kernel_rfl)
  match cs, hl with
  | [c0, c1], _ =>
    have k0 : c0 = Value.bool b := (List.cons.inj (show [c0] = [Value.bool b] from hb)).1
    have k1 : c1 = Value.slice a m c := (List.cons.inj (show [c1] = [Value.slice a m c] from hs)).1
    rw [k0, k1]
    exact ⟨⟨b, a, m, c⟩, rfl, ⟨L, hw⟩, h2, h3⟩
theorem opRat (h : DataW.trod enc Try.prog w base sp held fuel 33 cs = some x) : ∃ r : RatR, cs = rcs r ∧ OpQ w r := by
  obtain ⟨y0, y1, n, rfl, hl, h0, h1⟩ := trod_struct2 (t := 33) rfl h
  obtain ⟨r0, e0, w0, a0, b0⟩ := opInt h0
  obtain ⟨r1, e1, w1, a1, b1⟩ := opInt h1
  have hl : cs.length = 4 := hl.trans (by kernel_rfl)
  match cs, hl with
  | [c0, c1, c2, c3], _ =>
    have k0 : [c0, c1] = [Value.bool r0.neg, Value.slice r0.a r0.n r0.c] := e0
    have k1 : [c2, c3] = [Value.bool r1.neg, Value.slice r1.a r1.n r1.c] := e1
    have k2 : [c0, c1, c2, c3] = [c0, c1] ++ [c2, c3] := rfl
    rw [k2, k0, k1]
    exact ⟨⟨r0, r1⟩, rfl, w0, w1, a0, b0, a1, b1⟩
theorem opTm (h : DataW.trod enc Try.prog w base sp held fuel 77 cs = some x) : ∃ t : TmR, cs = t.cs ∧ OpQ w t.x := by
  obtain ⟨y0, y1, n, rfl, hl, h0, h1⟩ := trod_struct2 (t := 77) rfl h
  obtain ⟨z, e0, _, _⟩ := DataW.trod_int (k := .i64) rfl h0
  obtain ⟨r1, e1, w1⟩ := opRat h1
  have hl : cs.length = 5 := hl.trans (by kernel_rfl)
  match cs, hl with
  | [c0, c1, c2, c3, c4], _ =>
    have k0 : c0 = Value.int .i64 z := (List.cons.inj (show [c0] = [Value.int .i64 z] from e0)).1
    have k1 : [c1, c2, c3, c4] = rcs r1 := e1
    rw [k0, k1]
    exact ⟨⟨z, r1⟩, rfl, w1⟩
theorem opVec {t : Nat} (ht : Try.prog.underlying t = some (.slice 77)) (h : DataW.trod enc Try.prog w base sp held fuel t cs = some x) : ∃ (r : SlR) (ts : List TmR), cs = [r.v] ∧ OpV w r ts := by
  rcases open_slice ht h with ⟨rfl, _⟩ | ⟨a, len, cap, m, n, D, Pl, rfl, hb, hl, hm, hmm, hx, hi⟩
  · exact ⟨⟨none, 0, 0⟩, [], rfl, Tms.nil w none, fun t h => by simp at h, Nat.le_refl _, by show 0 ≤ _; omega⟩
  · have hlm : len ≤ m := by rw [hmm]; split <;> omega
    have h5 : Try.prog.cellsOf 77 = 5 := by kernel_rfl
    have hone : ∀ i, i < len → ∃ t : TmR, OpQ w t.x ∧ ∀ j v, t.cs[j]? = some v → w.cell? (a.add (i * 5 + j)) = some v := by
      intro i hil
      obtain ⟨cs', hc, ht⟩ := hi i (by omega)
      obtain ⟨t, rfl, hq⟩ := opTm ht
      refine ⟨t, hq, fun j v hj => ?_⟩
      have hj5 : j < 5 := by
        rcases Nat.lt_or_ge j 5 with h' | h'
        · exact h'
        · rw [List.getElem?_eq_none (by exact h')] at hj; cases hj
      have := (cells1 hc).2 j (by rw [h5]; exact hj5)
      rw [h5, add_add', hj] at this
      exact this
    obtain ⟨ts, hL, hP⟩ := listOf len hone
    have hsp : 0 < len → a.spot = none := by
      intro h0
      obtain ⟨t, _, hz⟩ := hone 0 h0
      have := World.cell?_spot (hz 0 _ rfl)
      cases a; simpa [Addr.add] using this
    refine ⟨⟨some a, len, cap⟩, ts, rfl, ⟨hL, fun h0 => ⟨a, rfl, hsp h0⟩, fun i v hv => ?_⟩, fun t ht => ?_, hl, by unfold maxLen at hm; exact hm⟩
    · obtain ⟨t, h1, h2⟩ := tcs_at hv
      have hj : i / 5 < len := by
        rcases Nat.lt_or_ge (i / 5) len with h' | h'
        · exact h'
        · rw [List.getElem?_eq_none (by omega)] at h1; cases h1
      have := (hP _ t h1).2 _ v h2
      rw [Nat.div_add_mod'] at this
      show w.cell? (addrAt (some a) i) = _
      rw [← add_eq_addrAt (hsp (by omega)) i]
      exact this
    · obtain ⟨j, hj, rfl⟩ := List.getElem_of_mem ht
      exact (hP j _ (List.getElem?_eq_getElem hj)).1
end
end Go.Proofs.Ytpgagepleffjlaa
