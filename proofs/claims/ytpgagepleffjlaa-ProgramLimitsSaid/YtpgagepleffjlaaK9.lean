/-
  What a row asks behind a call that makes new memory alone. Helpers; no statement of the program is proved here.
-/
import Derived.Test.YtpgagepleffjlaaK8
import Derived.Test.YtpgagepleffjlaaRows
import Derived.Test.YtpgagepleffjlaaChecked
import Derived.ProofKit
import Derived.MapKept
set_option maxRecDepth 100000
namespace Go.Proofs.Ytpgagepleffjlaa
open Go Go.Tw Go.ChangeShapes Go.WideShapes Go.ChangeAt Go.RowKit

theorem own0 : ownKnob Try.prog.godebug = none := by kernel_rfl
theorem kids0 : Kids Try.prog (fun t => t < Try.prog.types.size) := kids_rows (by kernel_rfl) (by kernel_rfl)
theorem full0 : ∀ t e, t < Try.prog.types.size → Try.prog.underlying t = some (.slice e) → 0 < Try.prog.cellsOf e := slices_full_of _ (by kernel_rfl)
theorem trodAll_ext {H : Type} {enc : TypeId × Value → H} {W W' : World} {sp : Nat → Bool} (hx : Ext W W') : ∀ {ts : List TypeId} {vs : List Value} {ds : List (DataW H)} {ps : List MemPlace}, (∀ p ∈ ps, p.block < W.heap.size) →
    DataW.TrodAll enc Try.prog W 0 sp true ts vs ds ps → DataW.TrodAll enc Try.prog W' 0 sp true ts vs ds ps
  | [], [], [], _, _, h => h
  | _ :: _, _ :: _, _ :: _, _, hl, ⟨p, q, ⟨n, h1⟩, h2, e⟩ =>
    ⟨p, q, ⟨n, DataW.trod_carry n _ _ _ h1 fun x hx' => Below.same hx (hl x (by rw [e]; exact List.mem_append_left _ hx'))⟩, trodAll_ext hx (fun x hx' => hl x (by rw [e]; exact List.mem_append_right _ hx')) h2, e⟩
/-- What the row asks behind a call that made new memory alone. -/
theorem post_ext {H : Type} {enc : TypeId × Value → H} {f : Func} {s : ChangeSpec} {apart fresh handsOn again : Bool} {W W' : World} {args : Array Value} {v : Value} {ds : List (DataW H)} {before : List MemPlace}
    (hvn : s.vars = []) (hW : DataW.Whole enc Try.prog f.params.toList s.vars apart W args.toList ds [] before) (hx : Ext W W') (hlt : ∀ t ∈ f.params.toList, t < Try.prog.types.size)
    (hA : DataW.TrodAll enc Try.prog W 0 (fun _ => true) true f.params.toList args.toList ds before)
    (hres : ∀ (b : Nat) (sp : Nat → Bool) (hd : Bool), DataW.TrodAll enc Try.prog W' b sp hd f.resultTypes.toList (v.resultList f.resultTypes.size) (s.fn H (ds ++ [])).results [])
    (hargs : (s.fn H (ds ++ [])).args = ds) (hvars : (s.fn H (ds ++ [])).vars = [])
    (hok : ∀ (j : Nat) (t : TypeId) (r : Value), f.resultTypes[j]? = some t → (v.resultList f.resultTypes.size)[j]? = some r → Value.okWide Try.prog W' .any 0 t r) :
    s.post enc Try.prog f apart fresh handsOn again W args v W' := by
  have hl : ∀ p ∈ before, p.block < W.heap.size := fun p hp => hW.lt p hp
  have hold : ∀ p ∈ before, (fun b => decide (b < W.heap.size)) p.block = true := fun p hp => by simpa using hl p hp
  have ha : ∀ sp : Nat → Bool, (∀ p ∈ before, sp p.block = true) → DataW.TrodAll enc Try.prog W' 0 sp true f.params.toList args.toList (s.fn H (ds ++ [])).args before := fun sp hsp => by
    rw [hargs]
    exact trodAll_ext hx hl (DataW.TrodAll.respare (T := fun t => t < Try.prog.types.size) kids0 full0 hlt hA hsp)
  have hv : ∀ sp : Nat → Bool, DataW.TrodVars enc Try.prog W' sp s.vars (s.fn H (ds ++ [])).vars [] := fun sp => by
    rw [hvars, hvn]; rfl
  refine ⟨ds, [], before, [], before, [], hW, hres _ _ _, ha _ hold, hv _, Below.frame hx _, fun _ => ?_⟩
  obtain ⟨_, _, _, _, _, hz, hn⟩ := hW
  refine ⟨hok, _, _, ([] ++ before) ++ [], ⟨[] ++ before, [], trodAll_append (ha _ (fun _ _ => rfl)) (hres _ _ _), hv _, rfl, ?_, ?_⟩, ?_⟩
  · intro b off hp
    have hp : MemPlace.cell b off ∈ before := by simpa using hp
    rw [Below.frozen hx (p := ⟨b, off, none⟩) (hl _ hp)]
    exact hz b off hp
  · intro hap
    have := hn hap
    simpa using this
  · intro p hp _
    simpa using hp
end Go.Proofs.Ytpgagepleffjlaa
/-
  The contracts of the layer sparse, put for what a watch asks: nothing hidden, lengths known. Helpers; no statement of the program is proved here.
-/
set_option maxRecDepth 100000
set_option linter.unusedSimpArgs false
set_option linter.unusedVariables false
namespace Go.Proofs.Ytpgagepleffjlaa
open Go Go.Tw Go.RowKit
attribute [local irreducible] LoadAt StoreOk Stored rawVC

structure VI (k l : Nat) (w : World) (r : SlR) (xs : VL) : Prop where
  inv : InV k H0 w r xs
  len : xs.length ≤ l
  ok : Ok21 xs
structure VC (k l : Nat) (w : World) (r : SlR) (xs : VL) : Prop where
  can : CanV k H0 w r xs
  cn : Cn xs
  len : xs.length ≤ l
structure QC (k : Nat) (w : World) (r : RatR) (q : Rat) : Prop where
  can : CanQ H0 w r q
  fit : FitQ k q
structure QI (k : Nat) (w : World) (r : RatR) (q : Rat) : Prop where
  inq : InQ k H0 w r q
section
variable {k l m k1 k2 : Nat} {w w' : World} {r rx ry rz : SlR} {xs ys zs : VL} {x y : RatR} {p q : Rat}
theorem VI.ext (h : VI k l w r xs) (e : Ext w w') : VI k l w' r xs := ⟨h.inv.ext e, h.len, h.ok⟩
theorem VC.ext (h : VC k l w r xs) (e : Ext w w') : VC k l w' r xs := ⟨h.can.ext e, h.cn, h.len⟩
theorem QC.ext (h : QC k w x q) (e : Ext w w') : QC k w' x q := ⟨h.can.ext e, h.fit⟩
theorem QI.ext (h : QI k w x q) (e : Ext w w') : QI k w' x q := ⟨h.inq.ext e⟩
theorem VC.stable : Stable (fun w => VC k l w r xs) := fun _ _ h e => h.ext e
theorem QC.stable : Stable (fun w => QC k w x q) := fun _ _ h e => h.ext e
theorem VC.vi (h : VC k l w r xs) (hk : k ≤ 1099511627776) : VI k l w r xs := ⟨h.can.inv hk, h.len, .inr h.cn.ris⟩
theorem QC.qi (h : QC k w x q) (hk : k ≤ 1099511627776) : QI k w x q := ⟨h.can.inq h.fit hk⟩
theorem VI.mono (h : VI k1 l w r xs) (hk : k1 ≤ k) : VI k l w r xs := ⟨h.inv.mono hk, h.len, h.ok⟩
theorem QI.mono (h : QI k1 w x q) (hk : k1 ≤ k) : QI k w x q := ⟨h.inq.mono hk⟩
theorem axp_len (ys : VL) (a : Rat) (xs : VL) : (axp ys a xs).length ≤ ys.length + xs.length := by
  have := nrm_len (ys ++ smul a xs)
  simp only [List.length_append, smul, List.length_map] at this
  exact this
abbrev Vok (k1 k2 k l m : Nat) : Prop := k1 ≤ k ∧ k2 ≤ k ∧ 1 ≤ k ∧ k ≤ 16777216 ∧ l ≤ 65536 ∧ m ≤ 65536
theorem add_at (k : Nat) (hx : VI k1 l w rx xs) (hy : VI k2 m w ry ys) (h : Vok k1 k2 k l m) :
    CallS Try.prog 18 #[rx.v, ry.v] w fun v w' => Ext w w' ∧ ∃ s : SlR, v = s.v ∧ VC (aK k) (l + m) w' s (axp xs 1 ys) := by
  obtain ⟨h1, h2, h3, h4, h5, h6⟩ := h
  have := hx.len
  have := hy.len
  refine CallS.mono (VAdd_ok (H0.hb w) (hx.mono h1).inv (hy.mono h2).inv h4 h3 (by omega) (by omega) hx.ok hy.ok) ?_
  rintro _ w2 ⟨hx2, s, rfl, hs⟩
  exact ⟨hx2, s, rfl, hs, nrm_cn _, Nat.le_trans (axp_len _ _ _) (by omega)⟩
theorem axpy_at (k : Nat) {k3 : Nat} (hy : VI k1 l w ry ys) (ha : QI k3 w x q) (hx : VI k2 m w rx xs) (h : Vok k1 k2 k l m ∧ k3 ≤ k) :
    CallS Try.prog 19 #[ry.v, x.v, rx.v] w fun v w' => Ext w w' ∧ ∃ s : SlR, v = s.v ∧ VC (aK k) (l + m) w' s (axp ys q xs) := by
  obtain ⟨⟨h1, h2, h3, h4, h5, h6⟩, h7⟩ := h
  have := hx.len
  have := hy.len
  refine CallS.mono (Axpy_ok (H0.hb w) (hy.mono h1).inv (ha.mono h7).inq (hx.mono h2).inv h4 (by omega) (by omega) hx.ok hy.ok) ?_
  rintro _ w2 ⟨hx2, s, rfl, hs⟩
  exact ⟨hx2, s, rfl, hs, nrm_cn _, Nat.le_trans (axp_len _ _ _) (by omega)⟩
theorem scale_at (k : Nat) (ha : QI k2 w x q) (hx : VI k1 l w rx xs) (h : Vok k1 k2 k l l) :
    CallS Try.prog 22 #[x.v, rx.v] w fun v w' => Ext w w' ∧ ∃ s : SlR, v = s.v ∧ VC (aK k) l w' s (axp [] q xs) := by
  obtain ⟨h1, h2, h3, h4, h5, h6⟩ := h
  have := hx.len
  refine CallS.mono (VScale_ok (H0.hb w) (ha.mono h2).inq (hx.mono h1).inv h4 (by omega) hx.ok) ?_
  rintro _ w2 ⟨hx2, s, rfl, hs⟩
  exact ⟨hx2, s, rfl, hs, nrm_cn _, Nat.le_trans (axp_len _ _ _) (by simp; omega)⟩
theorem norm_at (hx : VI k l w rx xs) (h : k ≤ 1073741824 ∧ l ≤ 21) :
    CallS Try.prog 21 #[rx.v] w fun v w' => Ext w w' ∧ ∃ s : SlR, v = s.v ∧ VC (nK k) l w' s (nrm xs) := by
  have := hx.len
  refine CallS.mono (VNorm_ok (H0.hb w) hx.inv h.1 (by omega)) ?_
  rintro _ w2 ⟨hx2, s, rfl, hs⟩
  exact ⟨hx2, s, rfl, hs, nrm_cn _, Nat.le_trans (nrm_len _) hx.len⟩
theorem normR_at (hx : VI k l w rx xs) (h : k ≤ 1073741824 ∧ l ≤ 65536) :
    CallS Try.prog 21 #[rx.v] w fun v w' => Ext w w' ∧ ∃ s : SlR, v = s.v ∧ VC (nK k) l w' s (nrm xs) := by
  have := hx.len
  refine CallS.mono (VNormR_ok (H0.hb w) hx.inv h.1 (by omega) hx.ok) ?_
  rintro _ w2 ⟨hx2, s, rfl, hs⟩
  exact ⟨hx2, s, rfl, hs, nrm_cn _, Nat.le_trans (nrm_len _) hx.len⟩
theorem dot_at (k : Nat) (hx : VI k1 l w rx xs) (hy : VI k2 m w ry ys) (h : Vok k1 k2 k l m ∧ dK k l ≤ 68719476736) :
    CallS Try.prog 26 #[rx.v, ry.v] w fun v w' => Ext w w' ∧ ∃ s : RatR, v = s.v ∧ QC (dK k l) w' s (dotL xs ys) := by
  obtain ⟨⟨h1, h2, h3, h4, h5, h6⟩, h7⟩ := h
  have := hx.len
  have := hy.len
  refine CallS.mono (VDot_ok (H0.hb w) (hx.mono h1).inv (hy.mono h2).inv h4 (by omega) (by omega) hx.ok hy.ok (Nat.le_trans (dK_mono hx.len) h7)) ?_
  rintro _ w2 ⟨hx2, s, rfl, hs⟩
  exact ⟨hx2, s, rfl, hs.1, hs.2.mono (dK_mono hx.len)⟩
theorem get_at (hx : VI k l w rx xs) (i : Int) (h : k ≤ 137438953472 ∧ 1 + l * (k + 2) ≤ 137438953472) :
    CallS Try.prog 27 #[rx.v, .int .i64 i] w fun v w' => Ext w w' ∧ ∃ s : RatR, v = s.v ∧ QC (1 + l * (k + 2)) w' s (getL xs i) := by
  have h2 : 1 + xs.length * (k + 2) ≤ 1 + l * (k + 2) := fitMul hx.len
  refine CallS.mono (VGet_ok (H0.hb w) hx.inv i h.1 (Nat.le_trans h2 h.2)) ?_
  rintro _ w2 ⟨hx2, s, rfl, hs⟩
  exact ⟨hx2, s, rfl, hs.1, hs.2.mono h2⟩
theorem put_at (k : Nat) (hx : VI k1 l w rx xs) (i : Int) (ha : QI k2 w x q) (hl : (putV xs i q).length ≤ 21) (h : Vok k1 k2 k l l) :
    CallS Try.prog 28 #[rx.v, .int .i64 i, x.v] w fun v w' => Ext w w' ∧ ∃ s : SlR, v = s.v ∧ VC (nK k) 21 w' s (nrm (putV xs i q)) := by
  obtain ⟨h1, h2, h3, h4, h5, h6⟩ := h
  have := hx.len
  refine CallS.mono (Put_ok (H0.hb w) (hx.mono h1).inv (ha.mono h2).inq (by omega) hl (by omega)) ?_
  rintro _ w2 ⟨hx2, s, rfl, hs⟩
  exact ⟨hx2, s, rfl, hs, nrm_cn _, Nat.le_trans (nrm_len _) hl⟩
theorem vsame_at (k : Nat) (hx : VI k1 l w rx xs) (hy : VI k2 m w ry ys) (h : Vok k1 k2 k l m) :
    CallS Try.prog 29 #[rx.v, ry.v] w fun v w' => Ext w w' ∧ v = .bool (decide (axp xs (-1) ys = [])) := by
  obtain ⟨h1, h2, h3, h4, h5, h6⟩ := h
  have := hx.len
  have := hy.len
  exact VSame_ok (H0.hb w) (hx.mono h1).inv (hy.mono h2).inv h4 h3 (by omega) (by omega) hx.ok hy.ok
theorem svec_at (hx : VC k1 l w rx xs) (hy : VC k2 m w ry ys) (h : k1 ≤ 1099511627776 ∧ l ≤ 1099511627776) :
    CallS Try.prog 17 #[rx.v, ry.v] w fun v w' => Ext w w' ∧ v = .bool (decide (xs = ys)) :=
  SameVec_ok hx.can hy.can h.1 (Nat.le_trans hx.len h.2)
theorem svecT_at (hx : VC k1 l w rx xs) (hy : VC k2 m w ry ys) (h : k1 ≤ 1099511627776 ∧ l ≤ 1099511627776) (e : xs = ys) :
    CallS Try.prog 17 #[rx.v, ry.v] w fun v w' => Ext w w' ∧ v = .bool true := by
  have := svec_at hx hy h
  rw [decide_eq_true e] at this; exact this
theorem rsameT_at (hx : QI k1 w x p) (hy : QI k2 w y q) (h : k1 ≤ 137438953472 ∧ k2 ≤ 137438953472) (e : p = q) :
    CallS Try.prog 25 #[x.v, y.v] w fun v w' => Ext w w' ∧ v = .bool true := by
  have := RSame_ok (H0.hb w) (hx.mono h.1).inq (hy.mono h.2).inq
  rw [decide_eq_true e] at this; exact this
theorem srat_at (hx : QC k1 w x p) (hy : QC k2 w y q) (h : k1 ≤ 1099511627776) :
    CallS Try.prog 62 #[x.v, y.v] w fun v w' => Ext w w' ∧ v = .bool (decide (p = q)) :=
  SameRat_ok hx.can hy.can (hx.fit.mono h)
theorem rmul_at (hx : QI k1 w x p) (hy : QI k2 w y q) (h : k1 ≤ 137438953472 ∧ k2 ≤ 137438953472) :
    CallS Try.prog 24 #[x.v, y.v] w fun v w' => Ext w w' ∧ ∃ s : RatR, v = s.v ∧ QC (k1 + 1 + (k2 + 1)) w' s (p * q) := by
  refine CallS.mono (RMul_ok (H0.hb w) (hx.mono h.1).inq (hy.mono h.2).inq) ?_
  rintro _ w2 ⟨hx2, s, rfl, hs⟩
  exact ⟨hx2, s, rfl, hs, FitQ.mul hx.inq.fit hy.inq.fit (by omega)⟩
theorem radd_at (hx : QI k1 w x p) (hy : QI k2 w y q) (h : k1 ≤ 137438953472 ∧ k2 ≤ 137438953472) :
    CallS Try.prog 23 #[x.v, y.v] w fun v w' => Ext w w' ∧ ∃ s : RatR, v = s.v ∧ QC (k1 + 1 + (k2 + 1) + 1) w' s (p + q) := by
  refine CallS.mono (RAdd_ok (H0.hb w) (hx.mono h.1).inq (hy.mono h.2).inq) ?_
  rintro _ w2 ⟨hx2, s, rfl, hs⟩
  exact ⟨hx2, s, rfl, hs, FitQ.add hx.inq.fit hy.inq.fit⟩
theorem of_at (n d : Int) (hn : n.natAbs < 65536) (hd : d.natAbs < 65536) (hf : FitQ 1 (Rat.divInt n d)) :
    CallS Try.prog 20 #[.int .i64 n, .int .i64 d] w fun v w' => Ext w w' ∧ ∃ s : RatR, v = s.v ∧ QC 1 w' s (Rat.divInt n d) := by
  refine CallS.mono (ROf_ok (H0.hb w) (by omega) (by omega) (by omega) (by omega)) ?_
  rintro _ w2 ⟨hx2, s, rfl, hs⟩
  exact ⟨hx2, s, rfl, hs, hf⟩
end
end Go.Proofs.Ytpgagepleffjlaa
/-
  Contracts: whether words are the same, whether a fraction is in its one form and not 0. Helpers; no statement of the program is proved here.
-/
set_option maxRecDepth 100000
set_option linter.unusedSimpArgs false
set_option linter.unusedVariables false
namespace Go.Proofs.Ytpgagepleffjlaa
open Go Go.Tw Go.RowKit
attribute [local irreducible] LoadAt StoreOk Stored rawVC

theorem Equal_ok {w : World} {a b : Option Addr} {n c m d : Nat} {L M : List Nat} (hL : Words w a n L) (hM : Words w b m M) (hn : n ≤ 1099511627776) :
    CallS Try.prog 104 #[.slice a n c, .slice b m d] w fun v w' => Ext w w' ∧ v = .bool (decide (L = M)) := by
  have hl := hL.len
  have hm := hM.len
  refine enter ttOk mixed (args := [.slice a n c, .slice b m d]) Try.func104 rfl (by kernel_rfl) (by kernel_rfl) rfl ?_
  refine And.intro (fun h1 => ?_) (fun h1 => ?_)
  · have : ¬ L = M := fun h => h1 (by rw [← hl, ← hm, h])
    exact ⟨Ext.rfl w, by rw [decide_eq_false this]; rfl⟩
  · have hnm : n = m := by omega
    refine ⟨Nat, fun x => [(0, .slice a n c), (1, .slice b m d), (12, .int .i64 (n : Int)), (13, .int .i64 (x : Int))], fun x w' => Ext w w' ∧ x ≤ n ∧ L.take x = M.take x, fun x _ => n - x, ⟨0, ⟨rfl, rfl, rfl, rfl, trivial⟩, Ext.rfl w, Nat.zero_le _, rfl⟩, ?_⟩
    rintro i w1 ⟨hx1, hi, he⟩
    dsimp only at *
    refine And.intro (fun h2 => ?_) (fun h2 => ?_)
    · have hin := ltTo h2
      have gL := hL.getD hin
      have gM := hM.getD (j := i) (by omega)
      refine ⟨sq 9, by kernel_rfl, i, ⟨rfl, hin, hL.base (by omega)⟩, _, (hL.ext hx1).load rfl rfl gL, i, ⟨rfl, by omega, hM.base (by omega)⟩, _, (hM.ext hx1).load rfl rfl gM, fun h3 => ?_, fun h3 => ?_⟩
      · intro w2 hx2 _
        have : ¬ L = M := fun h => h3 (by rw [h])
        exact ⟨Ext.trans' hx1 hx2, by rw [decide_eq_false this]; rfl⟩
      · intro w2 hx2 _
        have e : L.getD i 0 = M.getD i 0 := by omega
        exact ⟨((i + 1 : Nat) : Int), sucI i (by omega), i + 1, ⟨rfl, rfl, rfl, rfl, trivial⟩, ⟨Ext.trans' hx1 hx2, hin, take_same he (by rw [gL, gM, e])⟩, Nat.sub_lt_sub_left hin (Nat.lt_succ_self i)⟩
    · have e : i = n := Nat.le_antisymm hi (geTo h2)
      have : L = M := by
        rw [List.take_of_length_le (by omega), List.take_of_length_le (by omega)] at he
        exact he
      exact ⟨hx1, by rw [decide_eq_true this]; rfl⟩
theorem formed1_ok {w : World} {rx ry : IntR} {L M : List Nat} (hL : Words w rx.a rx.n L) (hM : Words w ry.a ry.n M) (hn : rx.n ≤ 1099511627776) :
    CallS Try.prog 103 #[rx.v, ry.v] w fun v w' => Ext w w' ∧ v = .bool (decide (rx.neg = ry.neg ∧ L = M)) := by
  refine enter ttOk mixed (args := [rx.v, ry.v]) Try.func103 rfl (by kernel_rfl) (by kernel_rfl) rfl ?_
  intro b1 w1 hb1 b2 w2 hb2
  have hx2 : Ext w w2 := hb2.extFrom hb1.ext
  have hB1 : Blk w2 b1 31 [.bool rx.neg, .slice rx.a rx.n rx.c] := hb1.toBlk.ext hb2.ext
  have hB2 : Blk w2 b2 31 [.bool ry.neg, .slice ry.a ry.n ry.c] := hb2.toBlk
  refine ⟨_, hB1.one (off := 0) rfl rfl, _, hB2.one (off := 0) rfl rfl, ?_⟩
  refine And.intro (fun h1 => ?_) (fun h1 => ?_)
  · refine ⟨_, hB1.one (off := 1) rfl rfl, _, hB2.one (off := 1) rfl rfl, ?_⟩
    refine CallS.mono (Equal_ok (hL.ext hx2) (hM.ext hx2) hn) ?_
    rintro _ w3 ⟨hx3, rfl⟩
    refine ⟨Ext.trans' hx2 hx3, ?_⟩
    have : (L = M) ↔ (rx.neg = ry.neg ∧ L = M) := ⟨fun h => ⟨h1, h⟩, fun h => h.2⟩
    rw [decide_eq_decide.2 this]; rfl
  · have : ¬ (rx.neg = ry.neg ∧ L = M) := fun h => h1 h.1
    exact ⟨hx2, by rw [decide_eq_false this]; rfl⟩
end Go.Proofs.Ytpgagepleffjlaa
/-
  Contracts: whether a fraction is in its one form, whether a vector is. Helpers; no statement of the program is proved here.
-/
set_option maxRecDepth 100000
set_option linter.unusedSimpArgs false
set_option linter.unusedVariables false
namespace Go.Proofs.Ytpgagepleffjlaa
open Go Go.Tw Go.RowKit
attribute [local irreducible] LoadAt StoreOk Stored rawVC

def frmN (q : Rat) (rx : RatR) (L : List Nat) : Prop := decide (q.num < 0) = rx.num.neg ∧ dig q.num.natAbs = L
def frmD (q : Rat) (rx : RatR) (M : List Nat) : Prop := decide (denC q < 0) = rx.den.neg ∧ dig (denC q).natAbs = M
instance (q : Rat) (rx : RatR) (L : List Nat) : Decidable (frmN q rx L) := inferInstanceAs (Decidable (_ ∧ _))
instance (q : Rat) (rx : RatR) (L : List Nat) : Decidable (frmD q rx L) := inferInstanceAs (Decidable (_ ∧ _))
theorem formed_ok {w : World} {rx : RatR} {q : Rat} {L M : List Nat} (hL : Words w rx.num.a rx.num.n L) (hM : Words w rx.den.a rx.den.n M) (hq : IsQ H0 w rx q) (hf : FitQ 1099511627776 q) :
    CallS Try.prog 80 #[rx.v] w fun v w' => Ext w w' ∧ v = .bool (decide (q ≠ 0 ∧ frmN q rx L ∧ frmD q rx M)) := by
  refine enter ttOk mixed (args := [rx.v]) Try.func80 rfl (by kernel_rfl) (by kernel_rfl) rfl ?_
  intro b1 w1 hb1
  have hB1 : Blk w1 b1 33 (rcs rx) := hb1.toBlk
  refine ⟨rx.v, loadQ hB1, ?_⟩
  refine CallS.mono (Norm_ok (H0.hb w1) (hq.ext hb1.ext)) ?_
  rintro _ w2 ⟨hx2, r, rfl, hr⟩
  intro b3 w3 hb3
  have st := storeQ (r := r) hb3.toBlk hb3.ext (hb3.ge (Ext.rfl _)) rfl
  refine ⟨st.1, fun w4 hs4 => ?_⟩
  have hB3 := (st.2 w4 hs4).1
  have hx24 := (st.2 w4 hs4).2.2
  have hx14 := Ext.trans' hx2 hx24
  have hx04 := Ext.trans' hb1.ext hx14
  have hB4 := hB1.ext hx14
  have hr4 := hr.ext hx24
  refine ⟨rx.v, loadQ hB4, ?_⟩
  refine CallS.mono (RSign_ok (H0.hb w4) (hq.ext hx04)) ?_
  rintro _ w5 ⟨hx5, rfl⟩
  refine And.intro (fun h1 => ?_) (fun h1 => ?_)
  · have hq0 : q ≠ 0 := fun h => h1 (sgQ_zero.2 h)
    refine ⟨r.num.v, loadQn (hB3.ext hx5), rx.num.v, loadQn (hB4.ext hx5), ?_⟩
    refine CallS.mono (formed1_ok (hr4.num.words.ext hx5) ((hL.ext hx04).ext hx5) (canI_n40 hr4.num hf.num)) ?_
    rintro _ w6 ⟨hx6, rfl⟩
    have hx46 := Ext.trans' hx5 hx6
    by_cases h2 : frmN q rx L
    · have e : (r.num.neg = rx.num.neg ∧ dig q.num.natAbs = L) := ⟨hr.num.neg.trans h2.1, h2.2⟩
      rw [decide_eq_true e]
      refine ⟨r.den.v, (hB3.ext hx46).agg (sub := [.bool r.den.neg, .slice r.den.a r.den.n r.den.c]) rfl rfl, rx.den.v, (hB4.ext hx46).agg (sub := [.bool rx.den.neg, .slice rx.den.a rx.den.n rx.den.c]) rfl rfl, ?_⟩
      have hfd : Fit 1099511627776 (denC q) := by
        unfold denC
        split
        · exact Fit.zero _
        · exact hf.den
      refine CallS.mono (formed1_ok (hr4.den.words.ext hx46) ((hM.ext hx04).ext hx46) (canI_n40 hr4.den hfd)) ?_
      rintro _ w7 ⟨hx7, rfl⟩
      refine ⟨Ext.trans' (Ext.trans' hx04 hx46) hx7, ?_⟩
      have : (r.den.neg = rx.den.neg ∧ dig (denC q).natAbs = M) ↔ (q ≠ 0 ∧ frmN q rx L ∧ frmD q rx M) := by
        unfold frmD
        rw [hr.den.neg]
        exact ⟨fun h => ⟨hq0, h2, h⟩, fun h => h.2.2⟩
      rw [decide_eq_decide.2 this]; rfl
    · have e : ¬ (r.num.neg = rx.num.neg ∧ dig q.num.natAbs = L) := fun h => h2 ⟨hr.num.neg.symm.trans h.1, h.2⟩
      rw [decide_eq_false e]
      exact ⟨Ext.trans' hx04 hx46, by rw [decide_eq_false (fun h => h2 h.2.1)]; rfl⟩
  · have hq0 : q = 0 := sgQ_zero.1 (Classical.not_not.1 h1)
    exact ⟨Ext.trans' hx04 hx5, by rw [decide_eq_false (fun h => h.1 hq0)]; rfl⟩
/-- Rising places below N behind one, each fraction in its one form. -/
def rightL (N : Int) : Int → List (Int × Bool) → Bool
  | _, [] => true
  | last, p :: ps => !decide (p.1 ≤ last) && !decide (N ≤ p.1) && p.2 && rightL N p.1 ps
theorem drop_cons' {α : Type} {l : List α} {i : Nat} {t : α} (h : l[i]? = some t) : l.drop i = t :: l.drop (i + 1) := by
  have hi : i < l.length := by
    rcases Nat.lt_or_ge i l.length with h' | h'
    · exact h'
    · rw [List.getElem?_eq_none h'] at h; cases h
  rw [List.drop_eq_getElem_cons hi]
  rw [List.getElem?_eq_getElem hi] at h
  rw [Option.some.inj h]
theorem Right_ok {w : World} {a : Option Addr} {n c : Nat} {ts : List TmR} {N : Int} (ps : List (Int × Bool)) (hT : Tms w a n ts) (hn : n ≤ 1099511627776) (hps : ps.length = ts.length)
    (hF : ∀ (j : Nat) t p, ts[j]? = some t → ps[j]? = some p → t.at' = p.1 ∧ ∀ w', Ext w w' → CallS Try.prog 80 #[t.x.v] w' fun v w'' => Ext w' w'' ∧ v = .bool p.2) :
    CallS Try.prog 47 #[.slice a n c, .int .i64 N] w fun v w' => Ext w w' ∧ v = .bool (rightL N (-1) ps) := by
  have hlen := hT.len
  refine enter ttOk mixed (args := [.slice a n c, .int .i64 N]) Try.func47 rfl (by kernel_rfl) (by kernel_rfl) rfl ?_
  refine ⟨Nat × Int, fun x => [(1, .int .i64 N), (5, .int .i64 x.2), (8, .slice a n c), (9, .int .i64 (n : Int)), (10, .int .i64 (x.1 : Int))], fun x w' => Ext w w' ∧ x.1 ≤ n ∧ rightL N (-1) ps = rightL N x.2 (ps.drop x.1), fun x _ => n - x.1, ⟨(0, -1), ⟨rfl, rfl, rfl, rfl, rfl, trivial⟩, Ext.rfl w, Nat.zero_le _, rfl⟩, ?_⟩
  rintro ⟨i, last⟩ w1 ⟨hx1, hi, he⟩
  dsimp only at *
  refine And.intro (fun h1 => ?_) (fun h1 => ?_)
  · have hin := ltTo h1
    have hg := getD_some (ts := ts) (j := i) (by omega)
    generalize ht : ts.getD i default = t at hg
    have hgp : ps[i]? = some (ps[i]'(by omega)) := List.getElem?_eq_getElem (by omega)
    generalize ps[i]'(by omega) = pp at hgp
    obtain ⟨hat, hcl⟩ := hF i t pp hg hgp
    rw [drop_cons' hgp] at he
    refine ⟨i, ⟨rfl, hin, hT.base (by omega)⟩, t.v, (hT.ext hx1).load (ty := tT) hg rfl rfl, ?_⟩
    intro b w2 hb
    have hs := storeTmB (w' := w2) (t := t) hb.toBlk rfl
    refine ⟨hs.1, fun w3 hs3 => ?_⟩
    have h3 := (storeTmB (t := t) hb.toBlk rfl).2 hs3
    have hx3 : Ext w w3 := Ext.grownB (Ext.trans' hx1 hb.ext) h3.2 (hb.ge hx1)
    have hB := h3.1
    refine ⟨_, hB.one (off := 0) rfl rfl, ?_⟩
    refine And.intro (fun h2 => ?_) (fun h2 => ?_)
    · exact ⟨hx3, by rw [he]; simp only [rightL, decide_eq_true (hat ▸ h2 : pp.1 ≤ last), Bool.not_true, Bool.false_and]; rfl⟩
    · refine ⟨_, hB.one (off := 0) rfl rfl, ?_⟩
      refine And.intro (fun h4 => ?_) (fun h4 => ?_)
      · exact ⟨hx3, by rw [he]; simp only [rightL, decide_eq_true (show N ≤ pp.1 by omega), Bool.not_true, Bool.false_and, Bool.and_false]; rfl⟩
      · refine ⟨t.x.v, hB.agg (sub := rcs t.x) rfl rfl, ?_⟩
        refine CallS.mono (hcl w3 hx3) ?_
        rintro _ w4 ⟨hx4, rfl⟩
        cases hFt : pp.2 with
        | false => exact ⟨Ext.trans' hx3 hx4, by rw [he]; simp only [rightL, hFt, Bool.and_false, Bool.false_and]; rfl⟩
        | true =>
          refine ⟨_, (hB.ext hx4).one (off := 0) rfl rfl, ((i + 1 : Nat) : Int), sucI i (by omega), (i + 1, t.at'), ⟨rfl, rfl, rfl, rfl, rfl, trivial⟩, ⟨Ext.trans' hx3 hx4, hin, ?_⟩, Nat.sub_lt_sub_left hin (Nat.lt_succ_self i)⟩
          rw [he]
          simp only [rightL, hFt, decide_eq_false (show ¬ pp.1 ≤ last by omega), decide_eq_false (show ¬ N ≤ pp.1 by omega), Bool.not_false, Bool.true_and, hat]
  · have e : i = n := Nat.le_antisymm hi (geTo h1)
    rw [List.drop_eq_nil_of_le (by omega)] at he
    exact ⟨hx1, by rw [he]; rfl⟩
end Go.Proofs.Ytpgagepleffjlaa
/-
  Contracts: a row of fractions. Helpers; no statement of the program is proved here.
-/
set_option maxRecDepth 100000
set_option linter.unusedSimpArgs false
set_option linter.unusedVariables false
namespace Go.Tw
open Go Go.RowKit
def RatR.cs (r : RatR) : List Value := [.bool r.num.neg, .slice r.num.a r.num.n r.num.c, .bool r.den.neg, .slice r.den.a r.den.n r.den.c]
instance : Inhabited RatR := ⟨RatR.zero⟩
def qcs (ts : List RatR) : List Value :=
  match ts with
  | [] => []
  | t :: ts => t.cs ++ qcs ts
theorem qcs_append (a b : List RatR) : qcs (a ++ b) = qcs a ++ qcs b := by
  induction a with
  | nil => rfl
  | cons t a ih => simp only [List.cons_append, qcs, ih, List.append_assoc]
theorem qcs_one (t : RatR) : qcs [t] = t.cs := by simp [qcs]
theorem qcs_length (ts : List RatR) : (qcs ts).length = ts.length * 4 := by
  induction ts with
  | nil => rfl
  | cons t ts ih => simp only [qcs, List.length_append, ih, List.length_cons]; simp [RatR.cs]; omega
theorem qcs_get {ts : List RatR} {j k : Nat} {t : RatR} {v : Value} (hj : ts[j]? = some t) (hk : t.cs[k]? = some v) : (qcs ts)[j * 4 + k]? = some v := by
  have hk4 : k < 4 := by
    rcases Nat.lt_or_ge k 4 with h | h
    · exact h
    · rw [List.getElem?_eq_none (by simpa [RatR.cs] using h)] at hk; cases hk
  induction ts generalizing j with
  | nil => simp at hj
  | cons s ts ih =>
    cases j with
    | zero =>
      simp at hj; subst hj
      simp only [qcs]
      rw [List.getElem?_append_left (by simpa [RatR.cs] using hk4)]
      simpa using hk
    | succ j =>
      simp only [qcs]
      rw [List.getElem?_append_right (by simp [RatR.cs]; omega)]
      have e : (j + 1) * 4 + k - s.cs.length = j * 4 + k := by simp [RatR.cs]; omega
      rw [e]
      exact ih (by simpa using hj)
theorem qcs_mem_one (ts : List RatR) : ∀ v ∈ qcs ts, v.oneCell' = true := by
  induction ts with
  | nil => intro v hv; simp [qcs] at hv
  | cons t ts ih =>
    intro v hv
    simp only [qcs, List.mem_append] at hv
    rcases hv with hv | hv
    · simp only [RatR.cs, List.mem_cons, List.not_mem_nil, or_false] at hv
      rcases hv with rfl | rfl | rfl | rfl <;> rfl
    · exact ih v hv
theorem qcs_at {ts : List RatR} {i : Nat} {v : Value} (h : (qcs ts)[i]? = some v) : ∃ t, ts[i / 4]? = some t ∧ t.cs[i % 4]? = some v := by
  induction ts generalizing i with
  | nil => simp [qcs] at h
  | cons s ts ih =>
    simp only [qcs] at h
    by_cases hi : i < 4
    · rw [List.getElem?_append_left (by simpa [RatR.cs] using hi)] at h
      exact ⟨s, by rw [Nat.div_eq_of_lt hi]; rfl, by rw [Nat.mod_eq_of_lt hi]; exact h⟩
    · rw [List.getElem?_append_right (by simp [RatR.cs]; omega)] at h
      have e : i - s.cs.length = i - 4 := rfl
      rw [e] at h
      obtain ⟨t, h1, h2⟩ := ih h
      refine ⟨t, ?_, ?_⟩
      · rw [show i / 4 = (i - 4) / 4 + 1 by omega]; exact h1
      · rw [show i % 4 = (i - 4) % 4 by omega]; exact h2
theorem qcs_set {ts : List RatR} {R : List Value} {j : Nat} {t : RatR} (h : j < ts.length) : splice (qcs ts ++ R) (j * 4) t.cs = qcs (ts.set j t) ++ R := by
  induction ts generalizing j with
  | nil => simp at h
  | cons s ts ih =>
    cases j with
    | zero =>
      rw [Nat.zero_mul]
      simp [qcs, RatR.cs, splice, over]
    | succ j =>
      have := ih (j := j) (by simpa using h)
      simp only [qcs, List.set_cons_succ, List.append_assoc]
      rw [← this, show (j + 1) * 4 = s.cs.length + j * 4 by simp [RatR.cs]; omega]
      exact splice_append s.cs (qcs ts ++ R) t.cs (j * 4)
theorem storeQs {T : TT} {w : World} {g e j sz ty : Nat} {ts : List RatR} {R : List Value} {t : RatR} (hk : (known (tyAt T ty) && Nat.beq 4 (tyAt T ty).size) = true) (hs : sz = 4) (hb : Blk w g e (qcs ts ++ R)) (hj : j < ts.length) :
    StoreOk T w ty (addrAt (some ⟨g, 0, none⟩) (j * sz)) t.v := by
  subst hs
  simp only [Bool.and_eq_true] at hk
  have h1 := (beq_iff _ _).1 hk.2
  refine storeOk (i := j * 4) (by show (⟨g, 0 + j * 4, none⟩ : Addr) = _; rw [Nat.zero_add]) ?_ hb (by rw [List.length_append, qcs_length]; omega)
  rw [hk.1, ← h1]; rfl
theorem storedQs {w w' : World} {g e j sz : Nat} {ts : List RatR} {R : List Value} {t : RatR} (h : Stored w w' (addrAt (some ⟨g, 0, none⟩) (j * sz)) t.v.cells.toList) (hs : sz = 4) (hb : Blk w g e (qcs ts ++ R)) (hj : j < ts.length) :
    Blk w' g e (qcs (ts.set j t) ++ R) ∧ w.grownBy w' (some g) := by
  subst hs
  have e1 : addrAt (some ⟨g, 0, none⟩) (j * 4) = ⟨g, j * 4, none⟩ := by show (⟨g, 0 + j * 4, none⟩ : Addr) = _; rw [Nat.zero_add]
  rw [e1] at h
  have h1 := Stored.blk h hb
  have h2 : splice (qcs ts ++ R) (j * 4) t.v.cells.toList = qcs (ts.set j t) ++ R := qcs_set hj
  rw [h2] at h1
  exact ⟨h1, (Stored.grown h).1⟩
theorem qcs_rep (n : Nat) : qcs (List.replicate n RatR.zero) = rep n RatR.zero.cs := by
  induction n with
  | zero => rfl
  | succ n ih => simp only [List.replicate_succ, qcs, rep, ih]
end Go.Tw
/-
  Contracts: a vector written out in full. Helpers; no statement of the program is proved here.
-/
set_option maxRecDepth 100000
set_option linter.unusedSimpArgs false
set_option linter.unusedVariables false
namespace Go.Proofs.Ytpgagepleffjlaa
open Go Go.Tw Go.RowKit
attribute [local irreducible] LoadAt StoreOk Stored rawVC

theorem getL_take_self {zs : VL} (h : Ris zs) {i : Nat} (hi : i < zs.length) : getL (zs.take i) (pl zs i) = 0 := by
  refine getL_none fun t ht => ?_
  obtain ⟨j, hj, rfl⟩ := List.getElem_of_mem ht
  rw [List.length_take] at hj
  rw [List.getElem_take]
  have h1 := List.pairwise_iff_getElem.1 h j i (by omega) hi (by omega)
  have h2 : pl zs i = zs[i].1 := by
    unfold pl
    rw [List.getD_eq_getElem?_getD, List.getElem?_eq_getElem hi]; rfl
  rw [h2]; omega
structure DenI (k : Nat) (H : Hd) (w : World) (b : Nat) (n : Nat) (s : SlR) (zs : VL) (i : Nat) (rs : List RatR) (w' : World) : Prop where
  ext : Ext w w'
  blk : Blk w' b 33 (qcs rs)
  len : rs.length = n
  il : i ≤ s.n
  row : ∀ j, j < n → CanQ H w' (rs.getD j default) (getL (zs.take i) (j : Int))
  vec : CanV k H w' s zs
theorem Dense_ok {k l : Nat} {w : World} {r : SlR} {xs : VL} (hx : VI k l w r xs) (hk : k ≤ 1073741824 ∧ l ≤ 21) {N n : Nat} (hN : 1 ≤ N ∧ N ≤ 4611686018427387904) (hn : n = min N 65536) :
    CallS Try.prog 45 #[r.v, .int .i64 (N : Int)] w fun v w' => Ext w w' ∧ ∃ b rs, v = .slice (some ⟨b, 0, none⟩) n n ∧ Blk w' b 33 (qcs rs) ∧ rs.length = n ∧ ∀ j, j < n → CanQ H0 w' (rs.getD j default) (getL xs (j : Int)) := by
  have hxl := hx.len
  refine enter ttOk mixed (args := [r.v, .int .i64 (N : Int)]) Try.func45 rfl (by kernel_rfl) (by kernel_rfl) rfl ?_
  refine And.intro (fun h1 => ?_) (fun h1 => ?_)
  · exfalso; omega
  · refine ⟨(n : Int), by split <;> omega, n, n, ⟨rfl, rfl, Nat.le_refl _, by show n * 64 ≤ _; omega, by omega⟩, fun b w1 hb => ?_⟩
    have hB1 : Blk w1 b 33 (qcs (List.replicate n RatR.zero)) := by rw [qcs_rep]; exact hb.toBlk
    have hH1 := (H0.hb w).up hb.ext
    have hbH : upH H0 w w1 b := hb.inUp (Ext.rfl w) (Ext.rfl w1)
    have hge := hb.ge (Ext.rfl w)
    refine CallS.mono (VNorm_ok hH1 (hx.inv.up hb.ext) hk.1 (by omega)) ?_
    rintro _ w2 ⟨hx2, s, rfl, hs⟩
    have hsl := hs.len
    have hcn := nrm_cn xs
    have hnl := nrm_len xs
    refine ⟨Nat × List RatR, fun x => [(5, .slice (some ⟨b, 0, none⟩) n n), (14, s.v), (15, .int .i64 (s.n : Int)), (16, .int .i64 (x.1 : Int))], fun x w' => DenI (nK k) (upH H0 w w1) w b n s (nrm xs) x.1 x.2 w', fun x _ => s.n - x.1,
      ⟨(0, List.replicate n RatR.zero), ⟨rfl, rfl, rfl, rfl, trivial⟩, ⟨Ext.trans' hb.ext hx2, hB1.ext hx2, List.length_replicate, Nat.zero_le _, fun j hj => ?_, hs⟩⟩, ?_⟩
    · rw [List.getD_eq_getElem?_getD, List.getElem?_replicate, if_pos hj]
      exact CanQ.zero _ _
    rintro ⟨i, rs⟩ w3 hI
    dsimp only at *
    refine And.intro (fun h2 => ?_) (fun h2 => ?_)
    · have hin := ltTo h2
      have hiz : i < (nrm xs).length := by omega
      have g1 := vget (ys := nrm xs) (j := i) hiz
      obtain ⟨⟨ts, hT, hC⟩, hnc, hcm, hav⟩ := hI.vec
      refine (tsCan_get hC g1).elim fun t dt => ?_
      refine ⟨i, ⟨rfl, hin, hT.base (by omega)⟩, t.v, hT.load (ty := tT) dt.1 rfl rfl, ?_⟩
      intro b7 w4 hb7
      refine ⟨(storeTmB (w' := w4) (t := t) hb7.toBlk rfl).1, fun w5 hs5 => ?_⟩
      have h5 := (storeTmB (t := t) hb7.toBlk rfl).2 hs5
      have hx5 : Ext w3 w5 := Ext.grownB hb7.ext h5.2 (hb7.ge (Ext.rfl w3))
      have hB := h5.1
      have hI5 : DenI (nK k) (upH H0 w w1) w b n s (nrm xs) i rs w5 := ⟨Ext.trans' hI.ext hx5, hI.blk.ext hx5, hI.len, hI.il, fun j hj => (hI.row j hj).ext hx5, hI.vec.ext hx5⟩
      have hq5 := dt.2.2.1.ext hx5
      have hat := dt.2.1
      have skip : (∀ j : Nat, j < n → (j : Int) ≠ pl (nrm xs) i) → DenI (nK k) (upH H0 w w1) w b n s (nrm xs) (i + 1) rs w5 := fun hne => ⟨hI5.ext, hI5.blk, hI5.len, hin, fun j hj => by
        rw [getL_take_succ hiz, if_neg (fun e => hne j hj e.symm), Rat.add_zero]
        exact hI5.row j hj, hI5.vec⟩
      refine ⟨_, hB.one (off := 0) rfl rfl, ?_⟩
      refine And.intro (fun h6 => ?_) (fun h6 => ?_)
      · refine ⟨_, hB.one (off := 0) rfl rfl, ?_⟩
        refine And.intro (fun h7 => ?_) (fun h7 => ?_)
        · obtain ⟨m, hm⟩ : ∃ m : Nat, t.at' = (m : Int) := ⟨t.at'.toNat, by omega⟩
          have hmn : m < n := by omega
          have hbk : Blk w5 b 33 (qcs rs ++ []) := by rw [List.append_nil]; exact hI5.blk
          have hml : m < rs.length := by rw [hI5.len]; exact hmn
          refine ⟨_, hB.one (off := 0) rfl rfl, t.x.v, hB.agg (sub := rcs t.x) rfl rfl, m, ⟨hm, hmn, ⟨_, rfl, rfl⟩⟩, storeQs rfl rfl hbk hml, fun w6 hs6 => ?_⟩
          have hS := storedQs hs6 rfl hbk hml
          have hgr : ∀ c, some b = some c → upH H0 w w1 c := fun c e => by cases e; exact hbH
          refine ⟨((i + 1 : Nat) : Int), sucI i (by omega), (i + 1, rs.set m t.x), ⟨rfl, rfl, rfl, rfl, trivial⟩, ⟨Ext.grownB hI5.ext hS.2 hge, by have := hS.1; rw [List.append_nil] at this; exact this, by rw [List.length_set]; exact hI5.len, hin, fun j hj => ?_, hI5.vec.grow hS.2 hgr⟩, Nat.sub_lt_sub_left hin (Nat.lt_succ_self i)⟩
          rw [getL_take_succ hiz]
          by_cases hjm : j = m
          · have e1 : pl (nrm xs) i = (j : Int) := by rw [hjm, ← hm]; exact hat.symm
            rw [if_pos e1, ← e1, getL_take_self hcn.ris hiz, Rat.zero_add, hjm, List.getD_eq_getElem?_getD, List.getElem?_set_self hml]
            exact hq5.grow hS.2 hgr
          · have e1 : ¬ pl (nrm xs) i = (j : Int) := fun e => hjm (by have := hat; have : t.at' = (j : Int) := hat.trans e; omega)
            rw [if_neg e1, Rat.add_zero, List.getD_eq_getElem?_getD, List.getElem?_set_ne (fun e => hjm e.symm), ← List.getD_eq_getElem?_getD]
            exact (hI5.row j hj).grow hS.2 hgr
        · exact ⟨((i + 1 : Nat) : Int), sucI i (by omega), (i + 1, rs), ⟨rfl, rfl, rfl, rfl, trivial⟩, skip (fun j hj => by omega), Nat.sub_lt_sub_left hin (Nat.lt_succ_self i)⟩
      · exact ⟨((i + 1 : Nat) : Int), sucI i (by omega), (i + 1, rs), ⟨rfl, rfl, rfl, rfl, trivial⟩, skip (fun j hj => by omega), Nat.sub_lt_sub_left hin (Nat.lt_succ_self i)⟩
    · have hi : i = s.n := Nat.le_antisymm hI.il (geTo h2)
      refine ⟨hI.ext, b, rs, rfl, hI.blk, hI.len, fun j hj => ?_⟩
      have := hI.row j hj
      rw [List.take_of_length_le (by omega), nrm_get] at this
      exact this.less
theorem DenseNil_ok {w : World} {r : SlR} {N : Int} (hN : N < 1) :
    CallS Try.prog 45 #[r.v, .int .i64 N] w fun v w' => Ext w w' ∧ v = .slice none 0 0 := by
  refine enter ttOk mixed (args := [r.v, .int .i64 N]) Try.func45 rfl (by kernel_rfl) (by kernel_rfl) rfl ?_
  refine And.intro (fun h1 => ?_) (fun h1 => ?_)
  · exact ⟨Ext.rfl w, rfl⟩
  · exact absurd hN h1
end Go.Proofs.Ytpgagepleffjlaa
/-
  Rows whose elements are one cell each (numbers, slices); maps from numbers to numbers. Helpers; no statement of the program is proved here.
-/
set_option maxRecDepth 100000
set_option linter.unusedSimpArgs false
set_option linter.unusedVariables false
namespace Go.Tw
open Go Go.RowKit

/-- The text's own order, some of it flagged: loads whose block stays, writes that keep what is known. -/
def sqK (n : Nat) (fl : List Nat) : List (Nat × Bool) := (sq n).map fun s => (s.1, fl.any fun i => Nat.beq i s.1)
/-- Values lie in a row, a cell each. -/
structure Ones (w : World) (a : Option Addr) (n : Nat) (vs : List Value) : Prop where
  len : vs.length = n
  base : 0 < n → okB a
  get : ∀ (i : Nat) (v : Value), vs[i]? = some v → w.cell? (addrAt a i) = some v
section
variable {T : TT} {w w' : World} {a : Option Addr} {n : Nat} {vs : List Value}
theorem Ones.ext (h : Ones w a n vs) (k : Ext w w') : Ones w' a n vs := ⟨h.len, h.base, fun i v hv => k.cellEq (h.get i v hv)⟩
theorem Ones.nil (w : World) (a : Option Addr) : Ones w a 0 [] := ⟨rfl, fun h => by omega, fun i v h => by simp at h⟩
theorem Ones.lt_size (h : Ones w a n vs) (hn : 0 < n) : Tw.blk a < w.heap.size := by
  have hl := h.len
  have h0 : vs[0]? = some (vs[0]'(by omega)) := List.getElem?_eq_getElem (by omega)
  exact World.block_lt_of_cell? w _ (h.get 0 _ h0)
theorem Ones.grow {row : Option Nat} {H : Hd} (h : Ones w a n vs) (k : w.grownBy w' row) (hr : ∀ b, row = some b → H b) (hv : Av H a n) : Ones w' a n vs := by
  refine ⟨h.len, h.base, fun i v hi => ?_⟩
  have hc := h.get i v hi
  have hlt := World.block_lt_of_cell? w _ hc
  have hn : 0 < n := by
    have := h.len
    rcases Nat.eq_zero_or_pos n with h0 | h0
    · rw [h0] at this; rw [List.eq_nil_of_length_eq_zero this] at hi; simp at hi
    · exact h0
  rw [World.cell?_of_block (k.block _ hlt (fun e => hv hn (hr _ e.symm)))]
  exact hc
theorem Ones.blk {g e : Nat} {R : List Value} (h : Blk w g e (vs ++ R)) : Ones w (some ⟨g, 0, none⟩) vs.length vs := by
  refine ⟨rfl, fun _ => ⟨_, rfl, rfl⟩, fun i v hi => ?_⟩
  have hlt : i < vs.length := by
    rcases Nat.lt_or_ge i vs.length with h' | h'
    · exact h'
    · rw [List.getElem?_eq_none h'] at hi; cases hi
  refine h.cell (i := 0 + i) ?_
  rw [Nat.zero_add, List.getElem?_append_left hlt]; exact hi
theorem Ones.load {j sz ty : Nat} {v : Value} (h : Ones w a n vs) (hj : vs[j]? = some v) (hk : (known (tyAt T ty) && !(tyAt T ty).agg) = true) (hs : sz = 1) : LoadAt T w ty (addrAt a (j * sz)) v := by
  subst hs
  rw [Nat.mul_one]
  exact loadScalar hk (h.get j v hj)
theorem Ones.lt (h : Ones w a n vs) {j : Nat} {v : Value} (hj : vs[j]? = some v) : j < n := by
  rcases Nat.lt_or_ge j n with h' | h'
  · exact h'
  · rw [List.getElem?_eq_none (by rw [h.len]; exact h')] at hj; cases hj
theorem splice_one (cs : List Value) (i : Nat) (v : Value) : splice cs i [v] = cs.set i v := by
  induction cs generalizing i with
  | nil => simp [splice_nil]
  | cons c cs ih => cases i <;> simp [splice, over, ih]
theorem storeOne {b i t t' sz : Nat} {R : List Value} {v : Value} (hk : (known (tyAt T t) && Nat.beq v.cells.toList.length (tyAt T t).size && v.cells.toList.all Value.oneCell' && Nat.beq 1 (tyAt T t).size) = true) (hs : sz = 1) (hb : Blk w b t' (vs ++ R)) (hi : i < vs.length) : StoreOk T w t (addrAt (some ⟨b, 0, none⟩) (i * sz)) v := by
  rw [Bool.and_eq_true] at hk
  have h1 := (beq_iff _ _).1 hk.2
  refine storeOk (addr_word b i sz hs) hk.1 hb (by rw [List.length_append]; omega)
theorem storedOne {b i t sz : Nat} {R : List Value} {v : Value} (h : Stored w w' (addrAt (some ⟨b, 0, none⟩) (i * sz)) v.cells.toList) (hv : v.cells.toList = [v]) (hs : sz = 1) (hb : Blk w b t (vs ++ R)) (hi : i < vs.length) :
    Blk w' b t (vs.set i v ++ R) ∧ w.grownBy w' (some b) := by
  rw [addr_word b i sz hs, hv] at h
  have h1 := Stored.blk h hb
  rw [splice_one, List.set_append_left _ _ hi] at h1
  exact ⟨h1, (Stored.grown h).1⟩
theorem rep_one (n : Nat) (z : Value) : rep n [z] = List.replicate n z := by
  induction n with
  | zero => rfl
  | succ n ih => simp [rep, ih, List.replicate_succ]
theorem owns_ones {base e : Nat} {v : Value} (h : w.ownsRow base e 1 v n vs) : ∃ a c, v = .slice a n c ∧ Ones w a n vs ∧ n ≤ c ∧ c ≤ 9223372036854775807 ∧ (0 < n → base ≤ Tw.blk a) := by
  obtain ⟨hl, h⟩ := h
  rw [Nat.mul_one] at hl
  rcases h with ⟨rfl, rfl⟩ | ⟨g, cap, cur, rfl, hg, hb, hnc, hcm, hcs, htk⟩
  · have : vs = [] := List.eq_nil_of_length_eq_zero hl
    subst this
    exact ⟨none, 0, rfl, Ones.nil _ _, Nat.le_refl _, by omega, fun h => by omega⟩
  · refine ⟨some ⟨g, 0, none⟩, cap, rfl, ⟨hl, fun _ => ⟨_, rfl, rfl⟩, fun j x hj => ?_⟩, hnc, by unfold maxLen at hcm; exact hcm, fun _ => hg⟩
    rw [← htk, List.getElem?_take] at hj
    split at hj
    · have h2 : cur[0 + j]? = some x := by simpa using hj
      show w.cell? ⟨g, 0 + j, none⟩ = _
      simp only [World.cell?, hb]
      exact h2
    · cases hj
theorem owns_blk1 {base e : Nat} {v : Value} (h : w.ownsRow base e 1 v n vs) (hn : 0 < n) :
    ∃ g cap R, v = .slice (some ⟨g, 0, none⟩) n cap ∧ base ≤ g ∧ Blk w g e (vs ++ R) ∧ n ≤ cap ∧ cap ≤ 9223372036854775807 ∧ vs.length = n ∧ (vs ++ R).length = cap := by
  obtain ⟨hl, h⟩ := h
  rw [Nat.mul_one] at hl
  rcases h with ⟨rfl, rfl⟩ | ⟨g, cap, cur, rfl, hg, hb, hnc, hcm, hcs, htk⟩
  · omega
  · rw [Nat.mul_one] at htk hcs
    refine ⟨g, cap, cur.toList.drop n, rfl, hg, ?_, hnc, by unfold maxLen at hcm; exact hcm, hl, ?_⟩
    · unfold Blk
      rw [← htk, List.take_append_drop]
      simpa using hb
    · rw [← htk, List.take_append_drop]; simpa using hcs
theorem owns_of_blk1 {base e g cap : Nat} {R : List Value} (h : Blk w g e (vs ++ R)) (hb : base ≤ g) (hn : vs.length = n) (hc : n ≤ cap) (hm : cap ≤ 9223372036854775807) (hl : (vs ++ R).length = cap) : w.ownsRow base e 1 (.slice (some ⟨g, 0, none⟩) n cap) n vs := by
  refine ⟨by rw [Nat.mul_one]; exact hn, .inr ⟨g, cap, (vs ++ R).toArray, rfl, hb, h, hc, by unfold maxLen; exact hm, by rw [Nat.mul_one]; simpa using hl, ?_⟩⟩
  rw [Nat.mul_one, List.toList_toArray, ← hn, List.take_left]
end

/-- Numbers as cells. -/
def ivs (L : List Int) : List Value := L.map fun z => .int .i64 z
theorem ivs_length (L : List Int) : (ivs L).length = L.length := by simp [ivs]
theorem ivs_get {L : List Int} {j : Nat} {z : Int} (h : L[j]? = some z) : (ivs L)[j]? = some (.int .i64 z) := by simp [ivs, h]
theorem ivs_set (L : List Int) (j : Nat) (z : Int) : (ivs L).set j (.int .i64 z) = ivs (L.set j z) := by simp [ivs, List.map_set]
theorem ivs_append (L M : List Int) : ivs (L ++ M) = ivs L ++ ivs M := by simp [ivs]
theorem ivs_one (L : List Int) : ∀ v ∈ ivs L, v.oneCell' = true := by
  intro v hv
  obtain ⟨x, _, rfl⟩ := List.mem_map.1 hv
  rfl

/-! ### maps -/
theorem tyDOf_map {d : TypeDesc} {k e : Nat} (h : tyDOf d = .map k e) : d = .map k e := by
  cases d <;> simp [tyDOf] at h; obtain ⟨rfl, rfl⟩ := h; rfl
theorem TOk.map {P : Program} {T : TT} (h : TOk P T) {t k e : Nat} (hd : (tyAt T t).d = .map k e) : P.underlying t = some (.map k e) := by
  obtain ⟨i, d, v, _, hu, _, he⟩ := h.at (t := t) (by rw [hd]; intro h; cases h)
  rw [he] at hd; rw [hu, tyDOf_map hd]
def lookE (es : List MapEntry) (k : Int) : Int :=
  match es with
  | [] => 0
  | e :: es =>
    match e.key, e.val with
    | .int _ a, .int _ v => if k = a then v else lookE es k
    | _, _ => 0
def IntE (es : List MapEntry) : Prop := ∀ e ∈ es, ∃ k v, e.key = .int .i64 k ∧ e.val = .int .i64 v
/-- A map from numbers to numbers, 0 where there is none. -/
structure MapAt (w : World) (b : Nat) (m : Int → Int) : Prop where
  ex : ∃ es clock, w.heap[b]? = some (.map es clock) ∧ IntE es.toList ∧ ∀ k, lookE es.toList k = m k
theorem findNow_i {kd : IntKind} : ∀ (es : List MapEntry) (k : Int) (i : Nat), IntE es →
    (Instr.findNow (.int kd) (.int .i64 k) es i = some none ∧ lookE es k = 0 ∧ ∀ e ∈ es, e.key ≠ .int .i64 k) ∨ ∃ j v, Instr.findNow (.int kd) (.int .i64 k) es i = some (some (i + j, .int .i64 v)) ∧ lookE es k = v ∧ ∃ e, es[j]? = some e ∧ e.key = .int .i64 k ∧ ∀ e' ∈ es.take j, e'.key ≠ .int .i64 k
  | [], k, i, _ => .inl ⟨rfl, rfl, fun e h => by simp at h⟩
  | e :: es, k, i, h => by
    obtain ⟨a, v, hk, hv⟩ := h e (by simp)
    by_cases hka : k = a
    · subst hka
      refine .inr ⟨0, v, ?_, ?_, e, rfl, hk, fun e' h => by simp at h⟩
      · simp [Instr.findNow, Instr.sameNow, hk, hv]
      · simp [lookE, hk, hv]
    · have hb : (k == a) = false := by simp [hka]
      have ih := findNow_i (kd := kd) es k (i + 1) (fun e' he => h e' (by simp [he]))
      have h1 : Instr.findNow (.int kd) (.int .i64 k) (e :: es) i = Instr.findNow (.int kd) (.int .i64 k) es (i + 1) := by
        simp [Instr.findNow, Instr.sameNow, hk, hb]
      have h2 : lookE (e :: es) k = lookE es k := by simp [lookE, hk, hv, hka]
      have hne : e.key ≠ .int .i64 k := by rw [hk]; intro he; cases he; exact hka rfl
      rw [h1, h2]
      rcases ih with ⟨i1, i2, i3⟩ | ⟨j, v', i1, i2, e', i3, i4, i5⟩
      · refine .inl ⟨i1, i2, fun e' he => ?_⟩
        rcases List.mem_cons.1 he with rfl | he
        · exact hne
        · exact i3 e' he
      · refine .inr ⟨j + 1, v', ?_, i2, e', by simpa using i3, i4, fun e' he => ?_⟩
        · rw [i1, show i + 1 + j = i + (j + 1) by omega]
        · rw [List.take_succ_cons] at he
          rcases List.mem_cons.1 he with rfl | he
          · exact hne
          · exact i5 e' he
theorem lookE_set : ∀ (es : List MapEntry) (j : Nat) (k v : Int) (k' : Int), IntE es → (∃ e, es[j]? = some e ∧ e.key = .int .i64 k) → (∀ e' ∈ es.take j, e'.key ≠ .int .i64 k) →
    lookE (es.modify j fun e => { e with key := .int .i64 k, val := .int .i64 v }) k' = if k' = k then v else lookE es k'
  | [], j, k, v, k', _, ⟨e, h, _⟩, _ => by simp at h
  | e :: es, 0, k, v, k', h, ⟨e', h1, h2⟩, _ => by
    simp only [List.getElem?_cons_zero, Option.some.injEq] at h1
    subst h1
    obtain ⟨a, u, hk, hv⟩ := h e (by simp)
    rw [hk] at h2
    simp only [Value.int.injEq, true_and] at h2
    subst h2
    by_cases hh : k' = a <;> simp [lookE, hk, hv, hh]
  | e :: es, j + 1, k, v, k', h, ⟨e', h1, h2⟩, h3 => by
    obtain ⟨a, u, hk, hv⟩ := h e (by simp)
    have hne := h3 e (by simp)
    have ih := lookE_set es j k v k' (fun e' he => h e' (by simp [he])) ⟨e', by simpa using h1, h2⟩ (fun e' he => h3 e' (by simp [he]))
    simp only [List.modify_succ_cons, lookE, hk, hv, ih]
    by_cases hh : k' = a
    · have : k' ≠ k := by intro e; subst e; exact hne (by rw [hk, hh])
      rw [if_pos hh, if_neg this, if_pos hh]
    · simp [hh]
theorem lookE_push : ∀ (es : List MapEntry) (k v : Int) (c : Nat) (k' : Int), IntE es → (∀ e ∈ es, e.key ≠ .int .i64 k) → lookE (es ++ [{ key := .int .i64 k, val := .int .i64 v, born := c }]) k' = if k' = k then v else lookE es k'
  | [], k, v, c, k', _, _ => by simp [lookE]
  | e :: es, k, v, c, k', h, h3 => by
    obtain ⟨a, u, hk, hv⟩ := h e (by simp)
    have hne := h3 e (by simp)
    have ih := lookE_push es k v c k' (fun e' he => h e' (by simp [he])) (fun e' he => h3 e' (by simp [he]))
    simp only [List.cons_append, lookE, hk, hv, ih]
    by_cases hh : k' = a
    · have : k' ≠ k := by intro e; subst e; exact hne (by rw [hk, hh])
      rw [if_pos hh, if_neg this, if_pos hh]
    · simp [hh]
section
variable {P : Program} {T : TT} {o : Oper} {e : Env} {w : World} {K : Value → World → Prop}
theorem raw_makeMap {t : Nat} (ho : o.op = .makeMap t none) (hK : ∀ b w', b = w.heap.size → Ext w w' → b < w'.heap.size → MapAt w' b (fun _ => 0) → K (.map (some b)) w') : rawVC P o e w K := by
  intro r hr
  obtain ⟨dst, op, type, pos, after, guard⟩ := o
  simp only at ho
  subst ho
  have hx : Ext w (w.alloc (.map #[] 0)) := (Below.refl _ _).alloc (Nat.le_refl _) _
  have h1 : (execOp r ⟨dst, .makeMap t none, type, pos, after, guard⟩).run P w = .ok (.value (.map (some w.heap.size))) (w.alloc (.map #[] 0)) := by
    simp [execOp, Instr.makeMap]
  rw [h1]
  exact hK _ _ rfl hx (by simp) ⟨#[], 0, heap_alloc_new w _, fun e h => by simp at h, fun k => rfl⟩
theorem run_checkKey_i {t : Nat} (ht : P.underlying t = some (.int .i64)) (em : Bool) (k : Int) (w : World) : (Instr.checkKey em 10000 t (.int .i64 k)).run P w = .ok () w :=
  MapKept.run_checkKey ht (show MapKept.IsKey (.int .i64) (.int .i64 k) from rfl) em 9999
theorem run_zero_i {et : Nat} (hz : (P.info? et).map (fun i => i.zero) = some (some (.int .i64 0))) (w : World) : (zeroValue et).run P w = .ok (.int .i64 0) w := by
  cases hi : P.info? et with
  | none => rw [hi] at hz; cases hz
  | some i =>
    rw [hi] at hz
    simp only [Option.map_some, Option.some.injEq] at hz
    simp [zeroValue, typeInfo, hi, hz]
theorem raw_lookup (hT : TOk P T) {t kt et b : Nat} {x i : Operand} {m : Int → Int} {k : Int} (ho : o.op = .lookup t x i false) (ht : (tyAt T t).d = .map kt et) (hk : (tyAt T kt).d = .int .i64) (hz : (P.info? et).map (fun i => i.zero) = some (some (.int .i64 0)))
    (hx : ev e x = some (.map (some b))) (hi : ev e i = some (.int .i64 k)) (hm : MapAt w b m) (hK : K (.int .i64 (m k)) w) : rawVC P o e w K := by
  intro r hr
  obtain ⟨dst, op, type, pos, after, guard⟩ := o
  simp only at ho
  subst ho
  obtain ⟨es, clock, hb, hes, hlk⟩ := hm.ex
  have hz' := run_zero_i hz w
  have hck := fun em => run_checkKey_i (hT.int hk) em k w
  have h1 : (Instr.lookup t (.map (some b)) (.int .i64 k) false).run P w = .ok (.int .i64 (m k)) w := by
    rcases findNow_i (kd := .i64) es.toList k 0 hes with ⟨f1, f2, f3⟩ | ⟨j, v, f1, f2, f3⟩
    · rw [hlk] at f2
      simp [Instr.lookup, run_underlying (hT.map ht), MapKept.run_getObj_map hb, hck, Instr.findKey, run_underlying (hT.int hk), f1, hz', Result.andThen, f2]
    · rw [hlk] at f2
      simp [Instr.lookup, run_underlying (hT.map ht), MapKept.run_getObj_map hb, hck, Instr.findKey, run_underlying (hT.int hk), f1, Result.andThen, f2]
  simp only [execOp, hr x _ hx, hr i _ hi, Sem.run_bind, h1, Result.andThen, Sem.run_pure]
  exact hK
theorem raw_mapUpdate (hT : TOk P T) {t kt et b : Nat} {x i y : Operand} {m : Int → Int} {k v : Int} (ho : o.op = .mapUpdate t x i y) (ht : (tyAt T t).d = .map kt et) (hk : (tyAt T kt).d = .int .i64)
    (hx : ev e x = some (.map (some b))) (hi : ev e i = some (.int .i64 k)) (hy : ev e y = some (.int .i64 v)) (hm : MapAt w b m)
    (hK : ∀ w', w.grownBy w' (some b) → w'.heap.size = w.heap.size → MapAt w' b (fun j => if j = k then v else m j) → K undef w') : rawVC P o e w K := by
  intro r hr
  obtain ⟨dst, op, type, pos, after, guard⟩ := o
  simp only at ho
  subst ho
  obtain ⟨es, clock, hb, hes, hlk⟩ := hm.ex
  have hck := fun em => run_checkKey_i (hT.int hk) em k w
  have hlt : b < w.heap.size := by
    rcases Nat.lt_or_ge b w.heap.size with h' | h'
    · exact h'
    · rw [Array.getElem?_eq_none h'] at hb; cases hb
  have hw : ∀ ob : Obj, w.grownBy { w with heap := w.heap.setIfInBounds b ob } (some b) := fun ob => ⟨rfl, rfl, rfl, by simp, fun q hq hne => by
    simp only [Array.getElem?_setIfInBounds]
    rw [if_neg (by intro e; subst e; exact hne rfl)]⟩
  rcases findNow_i (kd := .i64) es.toList k 0 hes with ⟨f1, f2, f3⟩ | ⟨j, v0, f1, f2, e0, f3, f4, f5⟩
  · have h1 : (Instr.mapUpdate t (.map (some b)) (.int .i64 k) (.int .i64 v)).run P w = .ok () { w with heap := w.heap.setIfInBounds b (.map (es.push { key := .int .i64 k, val := .int .i64 v, born := clock }) (clock + 1)) } := by
      simp [Instr.mapUpdate, run_underlying (hT.map ht), MapKept.run_getObj_map hb, hck, Instr.findKey, run_underlying (hT.int hk), f1, Result.andThen, MapKept.run_setObj_map _ hb]
    simp only [execOp, hr x _ hx, hr i _ hi, hr y _ hy, Sem.run_bind, h1, Result.andThen, Sem.run_pure]
    refine hK _ (hw _) (by simp) ⟨_, _, by simp [hlt]; exact ⟨rfl, rfl⟩, ?_, fun k' => ?_⟩
    · intro e' he
      simp only [Array.toList_push, List.mem_append, List.mem_singleton] at he
      rcases he with he | rfl
      · exact hes e' he
      · exact ⟨_, _, rfl, rfl⟩
    · rw [Array.toList_push, lookE_push _ _ _ _ _ hes f3, hlk]
  · have hks : ∀ w : World, (Instr.keyThatStays (.int .i64 k) (.int .i64 k)).run P w = .ok (.int .i64 k) w := fun w => MapKept.run_keyThatStays (d := .int .i64) rfl
    rw [Nat.zero_add] at f1
    have f3' : es[j]? = some e0 := by simpa using f3
    have h1 : (Instr.mapUpdate t (.map (some b)) (.int .i64 k) (.int .i64 v)).run P w = .ok () { w with heap := w.heap.setIfInBounds b (.map (es.modify j fun e => { e with key := .int .i64 k, val := .int .i64 v }) clock) } := by
      simp [Instr.mapUpdate, run_underlying (hT.map ht), MapKept.run_getObj_map hb, hck, Instr.findKey, run_underlying (hT.int hk), f1, f3', f4, hks, Result.andThen, MapKept.run_setObj_map _ hb]
    simp only [execOp, hr x _ hx, hr i _ hi, hr y _ hy, Sem.run_bind, h1, Result.andThen, Sem.run_pure]
    refine hK _ (hw _) (by simp) ⟨_, _, by simp [hlt]; exact ⟨rfl, rfl⟩, ?_, fun k' => ?_⟩
    · intro e' he
      rw [Array.toList_modify] at he
      obtain ⟨q, hq, rfl⟩ := List.getElem_of_mem he
      rw [List.getElem_modify]
      split
      · exact ⟨_, _, rfl, rfl⟩
      · exact hes _ (List.getElem_mem _)
    · rw [Array.toList_modify, lookE_set _ _ _ _ _ hes ⟨e0, f3, f4⟩ f5, hlk]
end
end Go.Tw
/-
  Contracts of the layer matrix: orders. Helpers; no statement of the program is proved here.
-/
set_option maxRecDepth 100000
set_option linter.unusedSimpArgs false
set_option linter.unusedVariables false
namespace Go.Proofs.Ytpgagepleffjlaa
open Go Go.Tw Go.RowKit
attribute [local irreducible] LoadAt StoreOk Stored rawVC

/-- An order of the places below a row's length. -/
structure PermL (L : List Int) : Prop where
  rng : ∀ x ∈ L, 0 ≤ x ∧ x < (L.length : Int)
  nodup : L.Nodup
noncomputable instance (L : List Int) : Decidable (PermL L) := Classical.propDecidable _
theorem zero3 : (Try.prog.info? 3).map (fun i => i.zero) = some (some (.int .i64 0)) := by kernel_rfl
theorem ints_get {w : World} {a : Option Addr} {n : Nat} {L : List Int} (h : Ones w a n (ivs L)) {i : Nat} (hi : i < n) : L[i]? = some (L.getD i 0) := by
  have := h.len
  rw [ivs_length] at this
  rw [List.getD_eq_getElem?_getD, List.getElem?_eq_getElem (by omega)]; rfl
theorem take_succ' {L : List Int} {i : Nat} {x : Int} (h : L[i]? = some x) : L.take (i + 1) = L.take i ++ [x] := by
  rw [List.take_add_one, h]; rfl
/-- What the map of what was seen holds. -/
def seenM (L : List Int) (k : Int) : Int := if k ∈ L then 1 else 0
theorem Perm_ok {w : World} {a : Option Addr} {n c : Nat} {L : List Int} (hL : Ones w a n (ivs L)) (hn : n ≤ 1099511627776) :
    CallS Try.prog 33 #[.slice a n c] w fun v w' => Ext w w' ∧ v = .bool (decide (PermL L)) := by
  have hlen := hL.len
  rw [ivs_length] at hlen
  refine enter ttOk mixed (args := [.slice a n c]) Try.func33 rfl (by kernel_rfl) (by kernel_rfl) rfl ?_
  refine raw_makeMap rfl (fun b w1 hb hx1 hlt hm => ?_)
  refine ⟨Nat, fun x => [(0, .slice a n c), (3, .map (some b)), (7, .slice a n c), (8, .int .i64 (n : Int)), (9, .int .i64 (x : Int))], fun i w' => Ext w w' ∧ MapAt w' b (seenM (L.take i)) ∧ i ≤ n ∧ (∀ x ∈ L.take i, 0 ≤ x ∧ x < (n : Int)) ∧ (L.take i).Nodup, fun i _ => n - i, ⟨0, ⟨rfl, rfl, rfl, rfl, rfl, trivial⟩, hx1, ?_, Nat.zero_le _, ?_, ?_⟩, ?_⟩
  · exact ⟨hm.ex.elim fun es h => h.elim fun c h => ⟨es, c, h.1, h.2.1, fun k => by rw [h.2.2]; simp [seenM]⟩⟩
  · intro x hx; simp at hx
  · simp
  rintro i w2 ⟨hx2, hm2, hi, hr, hd⟩
  refine And.intro (fun h1 => ?_) (fun h1 => ?_)
  · have hin := ltTo h1
    have hg := ints_get hL hin
    generalize L.getD i 0 = x at hg
    refine ⟨i, ⟨rfl, hin, hL.base (by omega)⟩, _, (hL.ext hx2).load (ivs_get hg) rfl rfl, ?_⟩
    refine raw_lookup ttOk rfl rfl rfl zero3 rfl rfl hm2 ?_
    have h01 : 0 ≤ seenM (L.take i) x ∧ seenM (L.take i) x ≤ 1 := by unfold seenM; split <;> omega
    refine ⟨seenM (L.take i) x + 1, ⟨rfl, by omega, by omega⟩, ?_⟩
    refine raw_mapUpdate ttOk rfl rfl rfl rfl rfl rfl hm2 (fun w3 hg3 hs3 hm3 => ?_)
    have hx3 : Ext w w3 := Ext.grownB hx2 hg3 (Nat.le_of_eq hb.symm)
    have hmem : x ∈ L := List.mem_of_getElem? hg
    refine And.intro (fun h2 => ?_) (fun h2 => ?_)
    · have hno : ¬ PermL L := fun hp => by have := (hp.rng x hmem).1; omega
      exact ⟨hx3, by rw [decide_eq_false hno]; rfl⟩
    · refine And.intro (fun h3 => ?_) (fun h3 => ?_)
      · have hno : ¬ PermL L := fun hp => by have := (hp.rng x hmem).2; omega
        exact ⟨hx3, by rw [decide_eq_false hno]; rfl⟩
      · refine raw_lookup ttOk rfl rfl rfl zero3 rfl rfl hm3 ?_
        rw [if_pos rfl]
        refine And.intro (fun h4 => ?_) (fun h4 => ?_)
        · have hin' : x ∈ L.take i := by
            unfold seenM at h4
            split at h4
            · assumption
            · omega
          have hno : ¬ PermL L := fun hp => by
            have hnd := hp.nodup
            have e : L = L.take (i + 1) ++ L.drop (i + 1) := (List.take_append_drop _ _).symm
            rw [e, take_succ' hg, List.nodup_append, List.nodup_append] at hnd
            exact hnd.1.2.2 x hin' x (by simp) rfl
          exact ⟨hx3, by rw [decide_eq_false hno]; rfl⟩
        · have hni : x ∉ L.take i := by
            intro h
            apply h4
            unfold seenM
            rw [if_pos h]; omega
          refine ⟨((i + 1 : Nat) : Int), sucI i (by omega), i + 1, ⟨rfl, rfl, rfl, rfl, rfl, trivial⟩, ⟨hx3, ?_, hin, ?_, ?_⟩, Nat.sub_lt_sub_left hin (Nat.lt_succ_self i)⟩
          · obtain ⟨es, cl, e1, e2, e3⟩ := hm3.ex
            refine ⟨es, cl, e1, e2, fun k => ?_⟩
            rw [e3, take_succ' hg]
            unfold seenM
            by_cases hk : k = x
            · subst hk; simp [hni]
            · simp [hk]
          · intro y hy
            rw [take_succ' hg, List.mem_append, List.mem_singleton] at hy
            rcases hy with hy | rfl
            · exact hr y hy
            · omega
          · rw [take_succ' hg, List.nodup_append]
            refine ⟨hd, by simp, fun y hy z hz => ?_⟩
            rw [List.mem_singleton] at hz
            subst hz
            intro e; subst e; exact hni hy
  · have hi' : i = n := Nat.le_antisymm hi (geTo h1)
    rw [List.take_of_length_le (by omega)] at hr hd
    have hp : PermL L := ⟨fun x hx => by rw [hlen]; exact hr x hx, hd⟩
    exact ⟨hx2, by rw [decide_eq_true hp]; rfl⟩
/-- M undoes L. -/
structure InvL (L M : List Int) : Prop where
  len : M.length = L.length
  inv : ∀ (j k : Nat), L[j]? = some (k : Int) → M[k]? = some (j : Int)
theorem Inverse_ok {w : World} {a : Option Addr} {n c : Nat} {L : List Int} (hL : Ones w a n (ivs L)) (hn : n ≤ 1099511627776) (hp : PermL L) :
    CallS Try.prog 32 #[.slice a n c] w fun v w' => Ext w w' ∧ ∃ b M, v = .tuple #[.slice (some ⟨b, 0, none⟩) n n, .int .i64 0] ∧ Ones w' (some ⟨b, 0, none⟩) n (ivs M) ∧ InvL L M := by
  have hlen := hL.len
  rw [ivs_length] at hlen
  refine enter ttOk mixed (args := [.slice a n c]) Try.func32 rfl (by kernel_rfl) (by kernel_rfl) rfl ?_
  refine CallS.mono (Perm_ok hL hn) ?_
  rintro _ w1 ⟨hx1, rfl⟩
  rw [decide_eq_true hp]
  refine ⟨n, n, ⟨rfl, rfl, Nat.le_refl _, by show n * 8 ≤ _; omega, by omega⟩, fun b w2 hb => ?_⟩
  have hB : Blk w2 b 3 (ivs (List.replicate n 0) ++ []) := by
    have := hb.toBlk
    rw [List.append_nil]
    have e : ivs (List.replicate n 0) = rep n [.int .i64 0] := by rw [rep_one]; simp [ivs]
    rw [e]; exact this
  have hx2 : Ext w w2 := hb.extFrom hx1
  have hge := hb.ge hx1
  refine ⟨Nat × List Int, fun x => [(4, .slice (some ⟨b, 0, none⟩) n n), (13, .slice a n c), (14, .int .i64 (n : Int)), (15, .int .i64 (x.1 : Int))], fun x w' => Ext w w' ∧ Blk w' b 3 (ivs x.2 ++ []) ∧ x.2.length = n ∧ x.1 ≤ n ∧ ∀ (j k : Nat), j < x.1 → L[j]? = some (k : Int) → x.2[k]? = some (j : Int), fun x _ => n - x.1,
    ⟨(0, List.replicate n 0), ⟨rfl, rfl, rfl, rfl, trivial⟩, hx2, hB, List.length_replicate, Nat.zero_le _, fun j k hj => by exact absurd hj (Nat.not_lt_zero _)⟩, ?_⟩
  rintro ⟨i, M⟩ w3 ⟨hx3, hB3, hM, hi, hinv⟩
  dsimp only at *
  refine And.intro (fun h1 => ?_) (fun h1 => ?_)
  · have hin := ltTo h1
    have hg := ints_get hL hin
    generalize L.getD i 0 = x at hg
    have hxr := hp.rng x (List.mem_of_getElem? hg)
    rw [hlen] at hxr
    obtain ⟨k, rfl⟩ : ∃ k : Nat, x = (k : Int) := ⟨x.toNat, by omega⟩
    have hkn : k < n := by omega
    refine ⟨i, ⟨rfl, hin, hL.base (by omega)⟩, _, (hL.ext hx3).load (ivs_get hg) rfl rfl, ?_⟩
    refine ⟨k, ⟨rfl, hkn, ⟨_, rfl, rfl⟩⟩, storeOne rfl rfl hB3 (by rw [ivs_length]; omega), fun w4 hs4 => ?_⟩
    have hS := storedOne hs4 rfl rfl hB3 (by rw [ivs_length]; omega)
    rw [ivs_set] at hS
    refine ⟨((i + 1 : Nat) : Int), sucI i (by omega), (i + 1, M.set k (i : Int)), ⟨rfl, rfl, rfl, rfl, trivial⟩, ⟨Ext.grownB hx3 hS.2 hge, hS.1, by rw [List.length_set]; exact hM, hin, fun j k' hj hjk => ?_⟩, Nat.sub_lt_sub_left hin (Nat.lt_succ_self i)⟩
    by_cases hji : j = i
    · subst hji
      rw [hg] at hjk
      have : k = k' := by have := Option.some.inj hjk; omega
      subst this
      rw [List.getElem?_set_self (by omega)]
    · have hne : k ≠ k' := by
        intro e; subst e
        have h1 := (List.getElem?_inj (i := i) (j := j) (by omega) hp.nodup).1 (by rw [hg, hjk])
        exact hji h1.symm
      rw [List.getElem?_set_ne hne]
      exact hinv j k' (by omega) hjk
  · have hi' : i = n := Nat.le_antisymm hi (geTo h1)
    have hB' := Ones.blk hB3
    rw [ivs_length, hM] at hB'
    exact ⟨hx3, b, M, rfl, hB', by omega, fun j k hjk => hinv j k (by
      rcases Nat.lt_or_ge j L.length with h | h
      · omega
      · rw [List.getElem?_eq_none h] at hjk; cases hjk) hjk⟩
theorem InverseNo_ok {w : World} {a : Option Addr} {n c : Nat} {L : List Int} (hL : Ones w a n (ivs L)) (hn : n ≤ 1099511627776) (hp : ¬ PermL L) :
    CallS Try.prog 32 #[.slice a n c] w fun v w' => Ext w w' ∧ v = .tuple #[.slice none 0 0, .int .i64 2] := by
  refine enter ttOk mixed (args := [.slice a n c]) Try.func32 rfl (by kernel_rfl) (by kernel_rfl) rfl ?_
  refine CallS.mono (Perm_ok hL hn) ?_
  rintro _ w1 ⟨hx1, rfl⟩
  rw [decide_eq_false hp]
  exact ⟨hx1, rfl⟩
end Go.Proofs.Ytpgagepleffjlaa
/-
  Contracts of the layer matrix: a vector moved by an order. Helpers; no statement of the program is proved here.
-/
set_option maxRecDepth 100000
set_option linter.unusedSimpArgs false
set_option linter.unusedVariables false
namespace Go.Tw
open Go Go.RowKit
theorem tcs_setAt {ts : List TmR} {R : List Value} {j : Nat} {t : TmR} (z : Int) (h : ts[j]? = some t) : splice (tcs ts ++ R) (j * 5) [.int .i64 z] = tcs (ts.set j ⟨z, t.x⟩) ++ R := by
  induction ts generalizing j with
  | nil => simp at h
  | cons s ts ih =>
    cases j with
    | zero =>
      simp only [List.getElem?_cons_zero, Option.some.injEq] at h
      subst h
      rw [Nat.zero_mul]
      simp [tcs, TmR.cs, splice, over]
    | succ j =>
      have := ih (j := j) (by simpa using h)
      simp only [tcs, List.set_cons_succ, List.append_assoc]
      rw [← this, show (j + 1) * 5 = s.cs.length + j * 5 by simp [TmR.cs]; omega]
      exact splice_append s.cs (tcs ts ++ R) [.int .i64 z] (j * 5)
theorem storeAt {T : TT} {w : World} {g e j ty : Nat} {ts : List TmR} {R : List Value} {z : Int} (hk : (known (tyAt T ty) && Nat.beq 1 (tyAt T ty).size) = true) (hb : Blk w g e (tcs ts ++ R)) (hj : j < ts.length) :
    StoreOk T w ty ⟨g, 0 + j * 5 + 0, none⟩ (.int .i64 z) := by
  simp only [Bool.and_eq_true] at hk
  have h1 := (beq_iff _ _).1 hk.2
  refine storeOk (i := j * 5) (by rw [Nat.zero_add, Nat.add_zero]) ?_ hb (by rw [List.length_append, tcs_length]; omega)
  rw [hk.1, ← h1]; rfl
theorem storedAt {w w' : World} {g e j : Nat} {ts : List TmR} {R : List Value} {t : TmR} {z : Int} (h : Stored w w' ⟨g, 0 + j * 5 + 0, none⟩ (Value.int .i64 z).cells.toList) (hb : Blk w g e (tcs ts ++ R)) (hj : ts[j]? = some t) :
    Blk w' g e (tcs (ts.set j ⟨z, t.x⟩) ++ R) ∧ w.grownBy w' (some g) := by
  rw [Nat.zero_add, Nat.add_zero] at h
  have h1 := Stored.blk h hb
  have h2 : splice (tcs ts ++ R) (j * 5) (Value.int .i64 z).cells.toList = tcs (ts.set j ⟨z, t.x⟩) ++ R := tcs_setAt z hj
  rw [h2] at h1
  exact ⟨h1, (Stored.grown h).1⟩
theorem TsCan.setAt {k : Nat} {H : Hd} {w : World} {ts : List TmR} {xs : VL} (h : TsCan k H w ts xs) {j : Nat} {t : TmR} {p : Int × Rat} (z : Int) (h1 : ts[j]? = some t) (h2 : xs[j]? = some p) : TsCan k H w (ts.set j ⟨z, t.x⟩) (xs.set j (z, p.2)) := by
  induction h generalizing j with
  | nil => simp at h1
  | cons a b c d ih =>
    cases j with
    | zero =>
      simp only [List.getElem?_cons_zero, Option.some.injEq] at h1 h2
      subst h1 h2
      exact .cons rfl b c d
    | succ j => exact .cons a b c (ih (by simpa using h1) (by simpa using h2))
end Go.Tw
namespace Go.Proofs.Ytpgagepleffjlaa
open Go Go.Tw Go.RowKit
attribute [local irreducible] LoadAt StoreOk Stored rawVC

/-- Places put by an order. -/
def mvL (L : List Int) (xs : VL) : VL := xs.map fun t => (L.getD t.1.toNat 0, t.2)
def InR (n : Nat) (xs : VL) : Prop := ∀ t ∈ xs, 0 ≤ t.1 ∧ t.1 < (n : Int)
instance (n : Nat) (xs : VL) : Decidable (InR n xs) := inferInstanceAs (Decidable (∀ t ∈ xs, _))
theorem inR_ends {n : Nat} {xs : VL} (h : Ris xs) (h0 : 0 < xs.length) : InR n xs ↔ 0 ≤ pl xs 0 ∧ pl xs (xs.length - 1) < (n : Int) := by
  have key : ∀ i (hi : i < xs.length), pl xs i = xs[i].1 := by
    intro i hi
    unfold pl
    rw [List.getD_eq_getElem?_getD, List.getElem?_eq_getElem hi]; rfl
  constructor
  · intro hr
    rw [key 0 h0, key _ (by omega)]
    exact ⟨(hr _ (List.getElem_mem _)).1, (hr _ (List.getElem_mem _)).2⟩
  · rintro ⟨h1, h2⟩ t ht
    obtain ⟨i, hi, rfl⟩ := List.getElem_of_mem ht
    rw [key 0 h0] at h1
    rw [key _ (by omega)] at h2
    have hm : ∀ p q (hp : p < xs.length) (hq : q < xs.length), p ≤ q → xs[p].1 ≤ xs[q].1 := by
      intro p q hp hq hpq
      rcases Nat.lt_or_eq_of_le hpq with h' | h'
      · exact Int.le_of_lt (List.pairwise_iff_getElem.1 h p q hp hq h')
      · subst h'; exact Int.le_refl _
    have := hm 0 i h0 hi (Nat.zero_le _)
    have := hm i (xs.length - 1) hi (by omega) (by omega)
    omega
theorem MoveNo_ok {k l : Nat} {w : World} {a : Option Addr} {n c : Nat} {L : List Int} {rx : SlR} {xs : VL} (hL : Ones w a n (ivs L)) (hn : n ≤ 1099511627776) (hx : VI k l w rx xs) (hk : k ≤ 16777216) (hl : l ≤ 21) (hno : ¬ (PermL L ∧ InR n (nrm xs))) :
    CallS Try.prog 35 #[.slice a n c, rx.v] w fun v w' => Ext w w' ∧ v = .tuple #[.slice none 0 0, .int .i64 2] := by
  have hlen := hL.len
  rw [ivs_length] at hlen
  have hxl := hx.len
  refine enter ttOk mixed (args := [.slice a n c, rx.v]) Try.func35 rfl (by kernel_rfl) (by kernel_rfl) rfl ?_
  refine CallS.mono (VNormA_ok (H0.hb w) hx.inv (by omega) (by omega) (.inl (by omega))) ?_
  rintro _ w1 ⟨hx1, s, rfl, hA⟩
  refine CallS.mono (Perm_ok (hL.ext hx1) hn) ?_
  rintro _ w2 ⟨hx2, rfl⟩
  by_cases hp : PermL L
  case neg =>
    rw [decide_eq_false hp]
    exact ⟨Ext.trans' hx1 hx2, rfl⟩
  rw [decide_eq_true hp]
  have hno : ¬ InR n (nrm xs) := fun h => hno ⟨hp, h⟩
  have hcn := nrm_cn xs
  have hnl := nrm_len xs
  have hsn := hA.n
  have hx02 := Ext.trans' hx1 hx2
  have hA2 := hA.ext hx2
  obtain ⟨⟨ts, ho, hC⟩, _⟩ := hA2
  obtain ⟨hT, hnc, hcm, hge⟩ := owns_tms ho hsn
  have htl : ts.length = (nrm xs).length := hC.length
  have hpl : ∀ i, i < (nrm xs).length → ∃ t, ts[i]? = some t ∧ t.at' = pl (nrm xs) i := by
    intro i hi
    obtain ⟨t, h1, h2, _⟩ := tsCan_get hC (vget hi)
    exact ⟨t, h1, h2⟩
  have hz0 : 0 < (nrm xs).length := by
    rcases Nat.eq_zero_or_pos (nrm xs).length with h | h
    · exfalso; apply hno; rw [List.eq_nil_of_length_eq_zero h]; intro t ht; simp at ht
    · exact h
  have hends := inR_ends (n := n) hcn.ris hz0
  obtain ⟨t0, e0, p0⟩ := hpl 0 hz0
  obtain ⟨t1, e1, p1⟩ := hpl ((nrm xs).length - 1) (by omega)
  refine And.intro (fun h1 => ?_) (fun h1 => ?_)
  · refine ⟨0, ⟨rfl, by omega, hT.base (by omega)⟩, _, hT.loadAt e0 rfl rfl, ?_⟩
    refine And.intro (fun h2 => ?_) (fun h2 => ?_)
    · exact ⟨hx02, rfl⟩
    · refine ⟨(((nrm xs).length - 1 : Nat) : Int), ⟨by omega, by omega, by omega⟩, (nrm xs).length - 1, ⟨rfl, by omega, hT.base (by omega)⟩, _, hT.loadAt e1 rfl rfl, ?_⟩
      refine And.intro (fun h3 => ?_) (fun h3 => ?_)
      · exact ⟨hx02, rfl⟩
      · exact absurd (hends.2 ⟨by omega, by omega⟩) hno
  · exfalso
    apply h1
    show (0 : Int) < (s.n : Int)
    omega
theorem mvL_length (L : List Int) (xs : VL) : (mvL L xs).length = xs.length := by simp [mvL]
/-- The first i moved, the rest as it was. -/
def mvP (L : List Int) (xs : VL) (i : Nat) : VL := (mvL L xs).take i ++ xs.drop i
theorem mvP_get {L : List Int} {xs : VL} {i : Nat} (h : i < xs.length) : (mvP L xs i)[i]? = some (pl xs i, xl xs i) := by
  unfold mvP
  rw [List.getElem?_append_right (by rw [List.length_take, mvL_length]; omega), List.length_take, mvL_length, Nat.min_eq_left (by omega), Nat.sub_self, List.getElem?_drop, Nat.add_zero]
  exact vget h
theorem mvP_set {L : List Int} {xs : VL} {i : Nat} (h : i < xs.length) : (mvP L xs i).set i (L.getD (pl xs i).toNat 0, xl xs i) = mvP L xs (i + 1) := by
  unfold mvP
  have hl : ((mvL L xs).take i).length = i := by rw [List.length_take, mvL_length]; omega
  rw [List.set_append_right _ _ (by omega), hl, Nat.sub_self, List.drop_eq_getElem_cons h, List.set_cons_zero, List.take_add_one, List.append_assoc]
  congr 1
  have hg := vget (ys := xs) h
  have e : (mvL L xs)[i]? = some (L.getD (pl xs i).toNat 0, xl xs i) := by
    unfold mvL
    rw [List.getElem?_map, hg]; rfl
  rw [e]; rfl
theorem Move_ok {k l : Nat} {w : World} {a : Option Addr} {n c : Nat} {L : List Int} {rx : SlR} {xs : VL} (hL : Ones w a n (ivs L)) (hn : n ≤ 1099511627776) (hx : VI k l w rx xs) (hk : k ≤ 16777216) (hl : l ≤ 21) (hp : PermL L) (hr : InR n (nrm xs)) :
    CallS Try.prog 35 #[.slice a n c, rx.v] w fun v w' => Ext w w' ∧ ∃ s : SlR, v = .tuple #[s.v, .int .i64 0] ∧ VC (nK (nK k)) l w' s (nrm (mvL L (nrm xs))) := by
  have hlen := hL.len
  rw [ivs_length] at hlen
  have hxl := hx.len
  refine enter ttOk mixed (args := [.slice a n c, rx.v]) Try.func35 rfl (by kernel_rfl) (by kernel_rfl) rfl ?_
  refine CallS.mono (VNormA_ok (H0.hb w) hx.inv (by omega) (by omega) (.inl (by omega))) ?_
  rintro _ w1 ⟨hx1, s, rfl, hA⟩
  refine CallS.mono (Perm_ok (hL.ext hx1) hn) ?_
  rintro _ w2 ⟨hx2, rfl⟩
  rw [decide_eq_true hp]
  have hcn := nrm_cn xs
  have hnl := nrm_len xs
  have hsn := hA.n
  have hx02 := Ext.trans' hx1 hx2
  have hA2 := hA.ext hx2
  obtain ⟨⟨ts, ho, hC⟩, _⟩ := hA2
  obtain ⟨hT, hnc, hcm, hge⟩ := owns_tms ho hsn
  have htl : ts.length = (nrm xs).length := hC.length
  have hpl : ∀ i, i < (nrm xs).length → ∃ t, ts[i]? = some t ∧ t.at' = pl (nrm xs) i := by
    intro i hi
    obtain ⟨t, h1, h2, _⟩ := tsCan_get hC (vget hi)
    exact ⟨t, h1, h2⟩
  have hnK : nK k ≤ 1073741824 := by unfold nK; omega
  rcases Nat.eq_zero_or_pos (nrm xs).length with hz0 | hz0
  · have hz : nrm xs = [] := List.eq_nil_of_length_eq_zero hz0
    refine And.intro (fun h1 => ?_) (fun h1 => ?_)
    · exfalso
      have h1 : (0 : Int) < (s.n : Int) := h1
      omega
    · refine ⟨Unit, fun x => [(0, .slice a n c), (1, s.v), (37, .int .i64 (s.n : Int)), (38, .int .i64 0)], fun _ w' => w' = w2, fun _ _ => 0, ⟨(), ⟨rfl, rfl, rfl, rfl, trivial⟩, rfl⟩, ?_⟩
      rintro u w3 rfl
      refine And.intro (fun h2 => ?_) (fun h2 => ?_)
      · exfalso; omega
      · have hv : VI (nK k) l w3 s (mvL L (nrm xs)) := by
          rw [hz]
          exact ⟨⟨⟨ts, hT, by
            have := hC
            rw [hz] at this
            cases this; exact .nil⟩, hnc, hcm, H0.av _ _⟩, Nat.zero_le _, .inl (Nat.zero_le _)⟩
        refine CallS.mono (norm_at hv ⟨hnK, hl⟩) ?_
        rintro _ w4 ⟨hx4, s', rfl, hs'⟩
        exact ⟨Ext.trans' hx02 hx4, s', rfl, hs'⟩
  · have hends := (inR_ends (n := n) hcn.ris hz0).1 hr
    obtain ⟨t0, e0, p0⟩ := hpl 0 hz0
    obtain ⟨t1, e1, p1⟩ := hpl ((nrm xs).length - 1) (by omega)
    refine And.intro (fun h1 => ?_) (fun h1 => ?_)
    · refine ⟨0, ⟨rfl, by omega, hT.base (by omega)⟩, _, hT.loadAt e0 rfl rfl, ?_⟩
      refine And.intro (fun h2 => ?_) (fun h2 => ?_)
      · exfalso; omega
      refine ⟨(((nrm xs).length - 1 : Nat) : Int), ⟨by omega, by omega, by omega⟩, (nrm xs).length - 1, ⟨rfl, by omega, hT.base (by omega)⟩, _, hT.loadAt e1 rfl rfl, ?_⟩
      refine And.intro (fun h3 => ?_) (fun h3 => ?_)
      · exfalso; omega
      obtain ⟨g, cap, R, hsv, hgb, hB, hgc, hgm, hgl⟩ := owns_blk5 ho (by omega)
      have hsg : s = ⟨some ⟨g, 0, none⟩, (nrm xs).length, cap⟩ := SlR.inj hsv
      subst hsg
      refine ⟨Nat × List TmR, fun x => [(0, .slice a n c), (1, (SlR.mk (some ⟨g, 0, none⟩) (nrm xs).length cap).v), (37, .int .i64 ((nrm xs).length : Int)), (38, .int .i64 (x.1 : Int))],
        fun x w' => Ext w w' ∧ Blk w' g tT (tcs x.2 ++ R) ∧ TsCan (nK k) (rowH H0 (SlR.mk (some ⟨g, 0, none⟩) (nrm xs).length cap).v) w' x.2 (mvP L (nrm xs) x.1) ∧ x.1 ≤ (nrm xs).length ∧ x.2.length = (nrm xs).length, fun x _ => (nrm xs).length - x.1,
        ⟨(0, ts), ⟨rfl, rfl, rfl, rfl, trivial⟩, hx02, hB, hC, Nat.zero_le _, htl⟩, ?_⟩
      rintro ⟨i, us⟩ w3 ⟨hx3, hB3, hC3, hi, hul⟩
      dsimp only at *
      refine And.intro (fun h4 => ?_) (fun h4 => ?_)
      · have hin := ltTo h4
        have hgi := mvP_get (L := L) hin
        obtain ⟨t, ht, hat, hq, hf⟩ := tsCan_get hC3 hgi
        have hT3 := Tms.blk hB3
        rw [hul] at hT3
        have hrg := hr _ (List.mem_of_getElem? (vget hin))
        obtain ⟨m, hm⟩ : ∃ m : Nat, pl (nrm xs) i = (m : Int) := ⟨(pl (nrm xs) i).toNat, by have := hrg.1; omega⟩
        have hmn : m < n := by have := hrg.2; omega
        have hg := ints_get hL hmn
        have hlat := hT3.loadAt (T := tt) (ty := 3) (sz := 5) ht rfl rfl
        have hat : t.at' = (m : Int) := hat.trans hm
        rw [hat] at hlat
        refine ⟨i, ⟨rfl, hin, ⟨_, rfl, rfl⟩⟩, _, hlat, m, ⟨rfl, hmn, hL.base (by omega)⟩, _, (hL.ext hx3).load (ivs_get hg) rfl rfl, i, ⟨rfl, hin, ⟨_, rfl, rfl⟩⟩, storeAt rfl hB3 (by omega), fun w4 hs4 => ?_⟩
        have hS := storedAt hs4 hB3 ht
        have hC4 := (hC3.map (k' := nK k) (H' := rowH H0 (SlR.mk (some ⟨g, 0, none⟩) (nrm xs).length cap).v) (w' := w4) (Nat.le_refl _) (fun h => h.grow hS.2 (fun b hb => .inr hb))).setAt (L.getD m 0) ht hgi
        have e := mvP_set (L := L) hin
        rw [hm, Int.toNat_natCast] at e
        have hC4 : TsCan (nK k) (rowH H0 (SlR.mk (some ⟨g, 0, none⟩) (nrm xs).length cap).v) w4 (us.set i ⟨L.getD m 0, t.x⟩) (mvP L (nrm xs) (i + 1)) := by rw [← e]; exact hC4
        exact ⟨((i + 1 : Nat) : Int), sucI i (by omega), (i + 1, us.set i ⟨L.getD m 0, t.x⟩), ⟨rfl, rfl, rfl, rfl, trivial⟩, ⟨Ext.grownB hx3 hS.2 hgb, hS.1, hC4, hin, by rw [List.length_set]; exact hul⟩, Nat.sub_lt_sub_left hin (Nat.lt_succ_self i)⟩
      · have hi' : i = (nrm xs).length := Nat.le_antisymm hi (geTo h4)
        have hT3 := Tms.blk hB3
        rw [hul] at hT3
        have e : mvP L (nrm xs) i = mvL L (nrm xs) := by
          unfold mvP
          rw [hi', List.drop_eq_nil_of_le (Nat.le_refl _), List.append_nil, List.take_of_length_le (by rw [mvL_length]; exact Nat.le_refl _)]
        rw [e] at hC3
        have hv : VI (nK k) l w3 ⟨some ⟨g, 0, none⟩, (nrm xs).length, cap⟩ (mvL L (nrm xs)) :=
          ⟨⟨⟨us, hT3, (hC3.map (H' := H0) (w' := w3) (Nat.le_refl _) (fun h => h.to (fun b hb => hb.elim))).inq (by omega)⟩, hgc, hgm, H0.av _ _⟩, by rw [mvL_length]; have := hx.len; omega, .inl (by rw [mvL_length]; have := hx.len; omega)⟩
        refine CallS.mono (norm_at hv ⟨hnK, hl⟩) ?_
        rintro _ w4 ⟨hx4, s', rfl, hs'⟩
        exact ⟨Ext.trans' hx3 hx4, s', rfl, hs'⟩
    · exfalso
      apply h1
      show (0 : Int) < (s.n : Int)
      omega
end Go.Proofs.Ytpgagepleffjlaa
/-
  Contracts of what compares rows of numbers, and picks a number below one. Helpers; no statement of the program is proved here.
-/
set_option maxRecDepth 100000
set_option linter.unusedSimpArgs false
set_option linter.unusedVariables false
namespace Go.Proofs.Ytpgagepleffjlaa
open Go Go.Tw Go.RowKit
attribute [local irreducible] LoadAt StoreOk Stored rawVC

theorem SameInts_ok {w : World} {a b : Option Addr} {n c m d : Nat} {L M : List Int} (hL : Ones w a n (ivs L)) (hM : Ones w b m (ivs M)) (hn : n ≤ 1099511627776) :
    CallS Try.prog 34 #[.slice a n c, .slice b m d] w fun v w' => Ext w w' ∧ v = .bool (decide (L = M)) := by
  have hl := hL.len
  have hm := hM.len
  rw [ivs_length] at hl hm
  refine enter ttOk mixed (args := [.slice a n c, .slice b m d]) Try.func34 rfl (by kernel_rfl) (by kernel_rfl) rfl ?_
  refine And.intro (fun h1 => ?_) (fun h1 => ?_)
  · have : ¬ L = M := fun h => h1 (by rw [← hl, ← hm, h])
    exact ⟨Ext.rfl w, by rw [decide_eq_false this]; rfl⟩
  · have hnm : n = m := by omega
    refine ⟨Nat, fun x => [(0, .slice a n c), (1, .slice b m d), (5, .int .i64 (x : Int))], fun x w' => Ext w w' ∧ x ≤ n ∧ L.take x = M.take x, fun x _ => n - x, ⟨0, ⟨rfl, rfl, rfl, trivial⟩, Ext.rfl w, Nat.zero_le _, rfl⟩, ?_⟩
    rintro i w1 ⟨hx1, hi, he⟩
    dsimp only at *
    refine And.intro (fun h2 => ?_) (fun h2 => ?_)
    · have hin := ltTo h2
      have gL := ints_get hL hin
      have gM := ints_get hM (i := i) (by omega)
      refine ⟨sq 9, by kernel_rfl, i, ⟨rfl, hin, hL.base (by omega)⟩, _, (hL.ext hx1).load (ivs_get gL) rfl rfl, i, ⟨rfl, by omega, hM.base (by omega)⟩, _, (hM.ext hx1).load (ivs_get gM) rfl rfl, fun h3 => ?_, fun h3 => ?_⟩
      · intro w2 hx2 _
        have : ¬ L = M := fun h => h3 (by rw [h])
        exact ⟨Ext.trans' hx1 hx2, by rw [decide_eq_false this]; rfl⟩
      · intro w2 hx2 _
        have e : L.getD i 0 = M.getD i 0 := by omega
        exact ⟨((i + 1 : Nat) : Int), sucI i (by omega), i + 1, ⟨rfl, rfl, rfl, trivial⟩, ⟨Ext.trans' hx1 hx2, hin, take_same he (by rw [gL, gM, e])⟩, Nat.sub_lt_sub_left hin (Nat.lt_succ_self i)⟩
    · have e : i = n := Nat.le_antisymm hi (geTo h2)
      have : L = M := by
        rw [List.take_of_length_le (by omega), List.take_of_length_le (by omega)] at he
        exact he
      exact ⟨hx1, by rw [decide_eq_true this]; rfl⟩
theorem Pick_ok {w : World} {x : Int} {n : Nat} (hn : 0 < n) (hm : n ≤ 4611686018427387904) (h1 : -9223372036854775808 ≤ x) (h2 : x ≤ 9223372036854775807) :
    CallS Try.prog 31 #[.int .i64 x, .int .i64 (n : Int)] w fun v w' => Ext w w' ∧ ∃ m : Nat, m < n ∧ v = .int .i64 (m : Int) := by
  have ht := Int.tmod_lt_of_pos x (show (0 : Int) < (n : Int) by omega)
  have ht2 : -(n : Int) < x.tmod (n : Int) := by
    have h3 := Int.natAbs_tmod x (n : Int)
    have h4 : (x.tmod (n : Int)).natAbs < n := by
      rw [h3, Int.natAbs_natCast]; exact Nat.mod_lt _ hn
    omega
  refine enter ttOk mixed (args := [.int .i64 x, .int .i64 (n : Int)]) Try.func31 rfl (by kernel_rfl) (by kernel_rfl) rfl ?_
  refine And.intro (fun h => ?_) (fun h => ?_)
  · exfalso; omega
  · refine ⟨x.tmod (n : Int), ⟨rfl, fun h => by omega⟩, ?_⟩
    generalize x.tmod (n : Int) = y at *
    refine And.intro (fun h3 => ?_) (fun h3 => ?_)
    · refine ⟨y + n, ⟨rfl, by omega, by omega⟩, ?_⟩
      exact ⟨Ext.rfl w, (y + n).toNat, by omega, by rw [Int.toNat_of_nonneg (by omega)]; rfl⟩
    · exact ⟨Ext.rfl w, y.toNat, by omega, by rw [Int.toNat_of_nonneg (by omega)]; rfl⟩
end Go.Proofs.Ytpgagepleffjlaa
/-
  Contracts of the layer sparse: one, and a multiple of another one, with a closer bound of the numbers. Helpers; no statement of the program is proved here.
-/
set_option maxRecDepth 100000
set_option linter.unusedSimpArgs false
set_option linter.unusedVariables false
namespace Go.Proofs.Ytpgagepleffjlaa
open Go Go.Tw Go.RowKit
attribute [local irreducible] LoadAt StoreOk Stored rawVC

/-- What may be put in order, and the bound of its numbers then. -/
def Srt (k j : Nat) (xs : VL) : Prop := (xs.length ≤ 21 ∧ k ≤ 1073741824 ∧ nK k ≤ j) ∨ (Ris xs ∧ k ≤ j)
theorem sortedF_ok {k j : Nat} {H : Hd} {w : World} {r : SlR} {xs : VL} (hH : HB H w) (hx : InV k H w r xs) (hn : xs.length ≤ 1099511627776) (h21 : Srt k j xs) :
    CallS Try.prog 63 #[r.v] w fun v w' => Ext w w' ∧ ∃ s : SlR, v = s.v ∧ InV j H w' s (srt xs) := by
  refine enter ttOk mixed (args := [r.v]) Try.func63 rfl (by kernel_rfl) (by kernel_rfl) rfl ?_
  refine CallS.mono (rising_ok hx hn) ?_
  rintro _ w2 ⟨hx2, b, rfl, hb⟩
  cases b
  · have hnr : ¬ Ris xs := fun h => by have := hb.2 h; cases this
    have e : srt xs = nrm xs := by unfold srt; exact if_neg hnr
    obtain ⟨hl, hk, hj⟩ := h21.elim id fun h => absurd h.1 hnr
    refine CallS.mono (VNorm_ok (HB.ext hH hx2) (hx.ext hx2) hk hl) ?_
    rintro _ w3 ⟨hx3, s, rfl, hs⟩
    rw [e]
    exact ⟨Ext.trans' hx2 hx3, s, rfl, (hs.inv (Nat.le_trans (nK_le hk) (by omega))).mono hj⟩
  · have e : srt xs = xs := by unfold srt; exact if_pos (hb.1 rfl)
    rw [e]
    have hj : k ≤ j := h21.elim (fun h => Nat.le_trans (k_le_nK k) h.2.2) (fun h => h.2)
    exact ⟨hx2, r, rfl, (hx.ext hx2).mono hj⟩
structure AxF (jx jy ka : Nat) (H : Hd) (w3 : World) (b4 b7 : Nat) (a : Rat) (xs ys : VL) (rx ry : SlR) (x y : VL) (s : SlR) (zs : VL) (w' : World) : Prop where
  ext : Ext w3 w'
  lt : b7 < w'.heap.size
  blk : Blk w' b7 25 [s.v]
  acc : Acc (jx + jy + ka + 8) (AH H b4 b7) (b7 + 1) tT w' s zs
  vx : InV jx (AH H b4 b7) w3 rx x
  vy : InV jy (AH H b4 b7) w3 ry y
  mrg : MrgI a x y (srt xs) (srt ys) zs
theorem AxF.hb {jx jy ka : Nat} {H : Hd} {w3 : World} {b4 b7 : Nat} {a : Rat} {xs ys : VL} {rx ry : SlR} {x y : VL} {s : SlR} {zs : VL} {w' : World} (h : AxF jx jy ka H w3 b4 b7 a xs ys rx ry x y s zs w') (hH : HB H w3) (h4 : b4 < w3.heap.size) : HB (rowH (AH H b4 b7) s.v) w' := by
  intro b hb
  have := h.ext.size
  rcases hb with ((hb | hb) | hb) | hb
  · exact Nat.lt_of_lt_of_le (hH b hb) this
  · omega
  · rw [hb]; exact h.lt
  · exact (h.acc.own_lt hb).1
theorem AxF.zl {jx jy ka : Nat} {H : Hd} {w3 : World} {b4 b7 : Nat} {a : Rat} {xs ys : VL} {rx ry : SlR} {x y : VL} {s : SlR} {zs : VL} {w' : World} (h : AxF jx jy ka H w3 b4 b7 a xs ys rx ry x y s zs w') (hx : xs.length ≤ 65536) (hy : ys.length ≤ 65536) : zs.length ≤ 1099511627775 := by
  have := h.mrg.len
  have := srt_len xs
  have := srt_len ys
  omega
theorem AxF.up {jx jy ka : Nat} {H : Hd} {w3 : World} {b4 b7 : Nat} {a : Rat} {xs ys : VL} {rx ry : SlR} {x y : VL} {s : SlR} {zs : VL} {w' : World} (h : AxF jx jy ka H w3 b4 b7 a xs ys rx ry x y s zs w') (h7 : w3.heap.size = b7) {j : Nat} {r : RatR} {q : Rat} (hq : InQ j (AH H b4 b7) w3 r q) : InQ j (rowH (AH H b4 b7) s.v) w' r q :=
  (hq.to fun b hb => hb.elim .inl fun e => .inr (by have := (h.acc.own_lt e).2; omega)).ext h.ext
theorem fitF_y {jx jy ka : Nat} {q : Rat} (h : FitQ (jy + 1) q) : FitQ (jx + jy + ka + 8) q := h.mono (by omega)
theorem fitF_x0 {jx ka : Nat} {a q : Rat} (ha : FitQ (ka + 1) a) (h : FitQ (jx + 1) q) : FitQ (ka + 1 + (jx + 1)) (a * q) := FitQ.mul ha h (by omega)
theorem fitF_x {jx jy ka : Nat} {a q : Rat} (ha : FitQ (ka + 1) a) (h : FitQ (jx + 1) q) : FitQ (jx + jy + ka + 8) (a * q) := (fitF_x0 ha h).mono (by omega)
theorem fitF_xy {jx jy ka : Nat} {a q u : Rat} (ha : FitQ (ka + 1) a) (h : FitQ (jx + 1) q) (h' : FitQ (jy + 1) u) : FitQ (jx + jy + ka + 8) (u + a * q) := (FitQ.add h' (fitF_x0 ha h)).mono (by omega)

theorem AxpyF_ok {kx ky ka jx jy : Nat} {H : Hd} {w : World} {ry rx : SlR} {ra : RatR} {xs ys : VL} {a : Rat} (hH : HB H w) (hy : InV ky H w ry ys) (hra : InQ ka H w ra a) (hx : InV kx H w rx xs) (hk : jx + jy + ka ≤ 68719476736) (hxl : xs.length ≤ 65536) (hyl : ys.length ≤ 65536) (ox : Srt kx jx xs) (oy : Srt ky jy ys) :
    CallS Try.prog 19 #[ry.v, ra.v, rx.v] w fun v w' => Ext w w' ∧ ∃ s : SlR, v = s.v ∧ CanV (jx + jy + ka + 8) H w' s (axp ys a xs) := by
  refine enter ttOk mixed (args := [ry.v, ra.v, rx.v]) Try.func19 rfl (by kernel_rfl) (by kernel_rfl) rfl ?_
  intro b4 w1 hb4
  have hH1 := hH.up hb4.ext
  refine CallS.mono (sortedF_ok hH1 (hx.up hb4.ext) (by omega) ox) ?_
  rintro _ w2 ⟨hx2, rx0, rfl, hvx⟩
  refine CallS.mono (sortedF_ok (HB.ext hH1 hx2) ((hy.up hb4.ext).ext hx2) (by omega) oy) ?_
  rintro _ w3 ⟨hx3, ry0, rfl, hvy⟩
  have hx13 := Ext.trans' hx2 hx3
  have hx03 := Ext.trans' hb4.ext hx13
  intro b7 w4 hb7
  have h7 : w3.heap.size = b7 := hb7.isNew.symm
  have hH3 := HB.ext hH hx03
  have hb4lt : b4 < w3.heap.size := Nat.lt_of_lt_of_le hb4.lt hx13.size
  have hB4 : Blk w3 b4 33 (rcs ra) := hb4.toBlk.ext hx13
  have toA : ∀ b, AH H b4 b7 b → upH H w w1 b ∨ w3.heap.size ≤ b := by
    intro b hb
    rcases hb with (hb | hb) | hb
    · exact .inl (.inl hb)
    · rw [hb]; exact .inl (hb4.inUp (Ext.rfl _) (Ext.rfl _))
    · rw [hb]; exact .inr (Nat.le_of_eq h7)
  have hra : InQ ka (AH H b4 b7) w3 ra a := ((hra.up hb4.ext).ext hx13).to toA
  refine ⟨SlR × SlR × VL × VL × SlR × VL, fun x => [(0, x.2.1.v), (2, x.1.v), (4, .pointer (some ⟨b4, 0, none⟩)), (7, .pointer (some ⟨b7, 0, none⟩)), (8, .func (.func 64) #[] #[.pointer (some ⟨b7, 0, none⟩)])],
    fun x w' => AxF jx jy ka H w3 b4 b7 a xs ys x.1 x.2.1 x.2.2.1 x.2.2.2.1 x.2.2.2.2.1 x.2.2.2.2.2 w', fun x _ => x.2.2.1.length + x.2.2.2.1.length,
    ⟨(rx0, ry0, srt xs, srt ys, ⟨none, 0, 0⟩, []), ⟨rfl, rfl, rfl, rfl, rfl, trivial⟩, ⟨hb7.ext, hb7.lt, hb7.toBlk, Acc.nil _ _ _ _ _, (hvx.ext hx3).to toA, hvy.to toA, MrgI.first (srt_ris xs) (srt_ris ys)⟩⟩, ?_⟩
  rintro ⟨rx, ry, x, y, s, zs⟩ w5 hI
  dsimp only at *
  have hnx := hI.vx.len
  have hny := hI.vy.len
  have hHs := hI.hb hH3 hb4lt
  have hzl := hI.zl hxl hyl
  cases x with
  | nil =>
    have hnx : rx.n = 0 := hnx
    refine And.intro (fun h1 => ?_) (fun h1 => ?_)
    · exfalso; omega
    cases y with
    | nil =>
      have hny : ry.n = 0 := hny
      refine And.intro (fun h2 => ?_) (fun h2 => ?_)
      · exfalso; omega
      have hd := hI.mrg.done
      have he : zs = axp ys a xs := axp_eq hd.1 fun p => by rw [hd.2.1, srt_get, srt_get]
      have hc := hI.acc.out (fun b hb => by rcases hb with (hb | hb) | hb; have := hH3 b hb; omega; omega; omega)
      rw [he] at hc
      refine ⟨s.v, hI.blk.one (off := 0) rfl rfl, ?_⟩
      exact ⟨Ext.trans' hx03 hI.ext, s, rfl, hc.to fun b hb => .inl (.inl (.inl hb))⟩
    | cons t y =>
      have hy0 := InV.head hI.vy
      refine And.intro (fun h2 => ?_) (fun h2 => ?_)
      rotate_left
      · exfalso; have := hy0.1; omega
      refine hy0.2.2.elim fun uy ly => ?_
      refine ⟨sq 20, by kernel_rfl, ?_⟩
      refine And.intro (fun h3 => ?_) (fun h3 => ?_)
      rotate_left
      · exfalso; omega
      intro w5' hx5 _
      have hI : AxF jx jy ka H w3 b4 b7 a xs ys rx ry [] (t :: y) s zs w5' := ⟨Ext.trans' hI.ext hx5, Nat.lt_of_lt_of_le hI.lt hx5.size, hI.blk.ext hx5, hI.acc.ext hx5, hI.vx, hI.vy, hI.mrg⟩
      have hHs := hI.hb hH3 hb4lt
      have hzl := hI.zl hxl hyl
      refine ⟨sqT 10, by kernel_rfl, 0, ⟨rfl, hy0.1, hy0.2.1⟩, _, ly.1.ext hI.ext, 0, ⟨rfl, hy0.1, hy0.2.1⟩, uy.x.v, ly.2.1.ext hI.ext, ?_⟩
      refine dcallR (mk := RatR.v) (Q := fun r w' => CanQ (rowH (AH H b4 b7) s.v) w' r t.2) RatR.inj (fun _ => CanQ.stable) (fun w' hw _ => Norm_ok (HB.ext hHs hw) ((hI.up h7 ly.2.2).is.ext hw)) ?_
      intro rn
      intro w6 hx6 hF6
      refine CallS.mono (putC_ok (t.1) (HB.ext hHs hx6) (hI.blk.ext hx6) (hI.acc.ext hx6) (.inr rfl) (Nat.lt_succ_self b7) (Nat.le_trans hI.lt hx6.size) hF6.1 (fitF_y ly.2.2.fit) (by omega) hzl) ?_
      rintro v7 w7 ⟨hB7, hs7, s', hb7', hA7⟩
      intro w8 hx8 _
      have hx38 : Ext w3 w8 := Ext.trans' (Ext.below (Ext.trans' hI.ext hx6) hB7 (Nat.le_of_eq h7)) hx8
      have hlt8 : b7 < w8.heap.size := Nat.lt_of_lt_of_le hI.lt (Nat.le_trans hx6.size (Nat.le_trans hs7 hx8.size))
      have hb8 := hb7'.ext hx8
      have hA8 := hA7.ext hx8
      refine ⟨1, ry.n, ⟨rfl, rfl, hy0.1, hI.vy.nc⟩, ?_⟩
      exact ⟨(rx, ⟨subA ry.a ry.c 1 5, ry.n - 1, ry.c - 1⟩, [], y, s', _), ⟨rfl, rfl, rfl, rfl, rfl, trivial⟩, ⟨hx38, hlt8, hb8, hA8, hI.vx, hI.vy.tail, (hI.mrg.takeY (fun s hs => by simp at hs))⟩, by show _ < _; simp only [List.length_cons]; omega⟩
  | cons u x =>
    have hx0 := InV.head hI.vx
    refine hx0.2.2.elim fun ux lx => ?_
    refine And.intro (fun h1 => ?_) (fun h1 => ?_)
    rotate_left
    · exfalso; have := hx0.1; omega
    refine ⟨sq 20, by kernel_rfl, ?_⟩
    refine And.intro (fun h2 => ?_) (fun h2 => ?_)
    · exfalso; have := hx0.1; omega
    cases y with
    | nil =>
      have hny : ry.n = 0 := hny
      refine And.intro (fun h3 => ?_) (fun h3 => ?_)
      · exfalso; omega
      intro w5' hx5 _
      have hI : AxF jx jy ka H w3 b4 b7 a xs ys rx ry (u :: x) [] s zs w5' := ⟨Ext.trans' hI.ext hx5, Nat.lt_of_lt_of_le hI.lt hx5.size, hI.blk.ext hx5, hI.acc.ext hx5, hI.vx, hI.vy, hI.mrg⟩
      have hHs := hI.hb hH3 hb4lt
      have hzl := hI.zl hxl hyl
      refine ⟨sq 15, by kernel_rfl, ?_⟩
      refine And.intro (fun h4 => ?_) (fun h4 => ?_)
      rotate_left
      · exfalso; omega
      intro w6' hx6 _
      have hI : AxF jx jy ka H w3 b4 b7 a xs ys rx ry (u :: x) [] s zs w6' := ⟨Ext.trans' hI.ext hx6, Nat.lt_of_lt_of_le hI.lt hx6.size, hI.blk.ext hx6, hI.acc.ext hx6, hI.vx, hI.vy, hI.mrg⟩
      have hHs := hI.hb hH3 hb4lt
      have hzl := hI.zl hxl hyl
      refine ⟨sqT 11, by kernel_rfl, 0, ⟨rfl, hx0.1, hx0.2.1⟩, _, lx.1.ext hI.ext, ra.v, loadQ (hB4.ext hI.ext), 0, ⟨rfl, hx0.1, hx0.2.1⟩, ux.x.v, lx.2.1.ext hI.ext, ?_⟩
      refine dcallR (mk := RatR.v) (Q := fun r w' => CanQ (rowH (AH H b4 b7) s.v) w' r (a * u.2)) RatR.inj (fun _ => CanQ.stable) (fun w' hw _ => RMul_ok (HB.ext hHs hw) (((hI.up h7 hra).ext hw).mono (by omega)) (((hI.up h7 lx.2.2).ext hw).mono (by omega))) ?_
      intro rn
      intro w6 hx6 hF6
      refine CallS.mono (putC_ok (u.1) (HB.ext hHs hx6) (hI.blk.ext hx6) (hI.acc.ext hx6) (.inr rfl) (Nat.lt_succ_self b7) (Nat.le_trans hI.lt hx6.size) hF6.1 (fitF_x hra.fit lx.2.2.fit) (by omega) hzl) ?_
      rintro v7 w7 ⟨hB7, hs7, s', hb7', hA7⟩
      intro w8 hx8 _
      have hx38 : Ext w3 w8 := Ext.trans' (Ext.below (Ext.trans' hI.ext hx6) hB7 (Nat.le_of_eq h7)) hx8
      have hlt8 : b7 < w8.heap.size := Nat.lt_of_lt_of_le hI.lt (Nat.le_trans hx6.size (Nat.le_trans hs7 hx8.size))
      have hb8 := hb7'.ext hx8
      have hA8 := hA7.ext hx8
      refine ⟨1, rx.n, ⟨rfl, rfl, hx0.1, hI.vx.nc⟩, ?_⟩
      exact ⟨(⟨subA rx.a rx.c 1 5, rx.n - 1, rx.c - 1⟩, ry, x, [], s', _), ⟨rfl, rfl, rfl, rfl, rfl, trivial⟩, ⟨hx38, hlt8, hb8, hA8, hI.vx.tail, hI.vy, hI.mrg.takeX (fun s hs => by simp at hs)⟩, by show _ < _; simp only [List.length_cons]; omega⟩
    | cons t y =>
      have hy0 := InV.head hI.vy
      refine hy0.2.2.elim fun uy ly => ?_
      refine And.intro (fun h3 => ?_) (fun h3 => ?_)
      rotate_left
      · exfalso; have := hy0.1; omega
      refine ⟨0, ⟨rfl, hy0.1, hy0.2.1⟩, _, ly.1.ext hI.ext, 0, ⟨rfl, hx0.1, hx0.2.1⟩, _, lx.1.ext hI.ext, ?_⟩
      refine And.intro (fun h4 => ?_) (fun h4 => ?_)
      · intro w5' hx5 _
        have hI : AxF jx jy ka H w3 b4 b7 a xs ys rx ry (u :: x) (t :: y) s zs w5' := ⟨Ext.trans' hI.ext hx5, Nat.lt_of_lt_of_le hI.lt hx5.size, hI.blk.ext hx5, hI.acc.ext hx5, hI.vx, hI.vy, hI.mrg⟩
        have hHs := hI.hb hH3 hb4lt
        have hzl := hI.zl hxl hyl
        have hbef : ∀ s ∈ u :: x, t.1 < s.1 := fun s hs => by
          rcases List.mem_cons.1 hs with rfl | hs
          · exact h4
          · exact Int.lt_trans h4 (hI.mrg.rx.head s hs)
        refine ⟨sqT 10, by kernel_rfl, 0, ⟨rfl, hy0.1, hy0.2.1⟩, _, ly.1.ext hI.ext, 0, ⟨rfl, hy0.1, hy0.2.1⟩, uy.x.v, ly.2.1.ext hI.ext, ?_⟩
        refine dcallR (mk := RatR.v) (Q := fun r w' => CanQ (rowH (AH H b4 b7) s.v) w' r t.2) RatR.inj (fun _ => CanQ.stable) (fun w' hw _ => Norm_ok (HB.ext hHs hw) ((hI.up h7 ly.2.2).is.ext hw)) ?_
        intro rn
        intro w6 hx6 hF6
        refine CallS.mono (putC_ok (t.1) (HB.ext hHs hx6) (hI.blk.ext hx6) (hI.acc.ext hx6) (.inr rfl) (Nat.lt_succ_self b7) (Nat.le_trans hI.lt hx6.size) hF6.1 (fitF_y ly.2.2.fit) (by omega) hzl) ?_
        rintro v7 w7 ⟨hB7, hs7, s', hb7', hA7⟩
        intro w8 hx8 _
        have hx38 : Ext w3 w8 := Ext.trans' (Ext.below (Ext.trans' hI.ext hx6) hB7 (Nat.le_of_eq h7)) hx8
        have hlt8 : b7 < w8.heap.size := Nat.lt_of_lt_of_le hI.lt (Nat.le_trans hx6.size (Nat.le_trans hs7 hx8.size))
        have hb8 := hb7'.ext hx8
        have hA8 := hA7.ext hx8
        refine ⟨1, ry.n, ⟨rfl, rfl, hy0.1, hI.vy.nc⟩, ?_⟩
        exact ⟨(rx, ⟨subA ry.a ry.c 1 5, ry.n - 1, ry.c - 1⟩, u :: x, y, s', _), ⟨rfl, rfl, rfl, rfl, rfl, trivial⟩, ⟨hx38, hlt8, hb8, hA8, hI.vx, hI.vy.tail, (hI.mrg.takeY hbef)⟩, by show _ < _; simp only [List.length_cons]; omega⟩
      · intro w5' hx5 _
        have hI : AxF jx jy ka H w3 b4 b7 a xs ys rx ry (u :: x) (t :: y) s zs w5' := ⟨Ext.trans' hI.ext hx5, Nat.lt_of_lt_of_le hI.lt hx5.size, hI.blk.ext hx5, hI.acc.ext hx5, hI.vx, hI.vy, hI.mrg⟩
        have hHs := hI.hb hH3 hb4lt
        have hzl := hI.zl hxl hyl
        refine ⟨sq 15, by kernel_rfl, ?_⟩
        refine And.intro (fun h5 => ?_) (fun h5 => ?_)
        · exfalso; have := hy0.1; omega
        refine ⟨0, ⟨rfl, hx0.1, hx0.2.1⟩, _, lx.1.ext hI.ext, 0, ⟨rfl, hy0.1, hy0.2.1⟩, _, ly.1.ext hI.ext, ?_⟩
        refine And.intro (fun h6 => ?_) (fun h6 => ?_)
        · intro w6' hx6 _
          have hI : AxF jx jy ka H w3 b4 b7 a xs ys rx ry (u :: x) (t :: y) s zs w6' := ⟨Ext.trans' hI.ext hx6, Nat.lt_of_lt_of_le hI.lt hx6.size, hI.blk.ext hx6, hI.acc.ext hx6, hI.vx, hI.vy, hI.mrg⟩
          have hHs := hI.hb hH3 hb4lt
          have hzl := hI.zl hxl hyl
          have hbef : ∀ s ∈ t :: y, u.1 < s.1 := fun s hs => by
            rcases List.mem_cons.1 hs with rfl | hs
            · exact h6
            · exact Int.lt_trans h6 (hI.mrg.ry.head s hs)
          refine ⟨sqT 11, by kernel_rfl, 0, ⟨rfl, hx0.1, hx0.2.1⟩, _, lx.1.ext hI.ext, ra.v, loadQ (hB4.ext hI.ext), 0, ⟨rfl, hx0.1, hx0.2.1⟩, ux.x.v, lx.2.1.ext hI.ext, ?_⟩
          refine dcallR (mk := RatR.v) (Q := fun r w' => CanQ (rowH (AH H b4 b7) s.v) w' r (a * u.2)) RatR.inj (fun _ => CanQ.stable) (fun w' hw _ => RMul_ok (HB.ext hHs hw) (((hI.up h7 hra).ext hw).mono (by omega)) (((hI.up h7 lx.2.2).ext hw).mono (by omega))) ?_
          intro rn
          intro w6 hx6 hF6
          refine CallS.mono (putC_ok (u.1) (HB.ext hHs hx6) (hI.blk.ext hx6) (hI.acc.ext hx6) (.inr rfl) (Nat.lt_succ_self b7) (Nat.le_trans hI.lt hx6.size) hF6.1 (fitF_x hra.fit lx.2.2.fit) (by omega) hzl) ?_
          rintro v7 w7 ⟨hB7, hs7, s', hb7', hA7⟩
          intro w8 hx8 _
          have hx38 : Ext w3 w8 := Ext.trans' (Ext.below (Ext.trans' hI.ext hx6) hB7 (Nat.le_of_eq h7)) hx8
          have hlt8 : b7 < w8.heap.size := Nat.lt_of_lt_of_le hI.lt (Nat.le_trans hx6.size (Nat.le_trans hs7 hx8.size))
          have hb8 := hb7'.ext hx8
          have hA8 := hA7.ext hx8
          refine ⟨1, rx.n, ⟨rfl, rfl, hx0.1, hI.vx.nc⟩, ?_⟩
          exact ⟨(⟨subA rx.a rx.c 1 5, rx.n - 1, rx.c - 1⟩, ry, x, t :: y, s', _), ⟨rfl, rfl, rfl, rfl, rfl, trivial⟩, ⟨hx38, hlt8, hb8, hA8, hI.vx.tail, hI.vy, hI.mrg.takeX hbef⟩, by show _ < _; simp only [List.length_cons]; omega⟩
        · intro w6' hx6 _
          have hI : AxF jx jy ka H w3 b4 b7 a xs ys rx ry (u :: x) (t :: y) s zs w6' := ⟨Ext.trans' hI.ext hx6, Nat.lt_of_lt_of_le hI.lt hx6.size, hI.blk.ext hx6, hI.acc.ext hx6, hI.vx, hI.vy, hI.mrg⟩
          have hHs := hI.hb hH3 hb4lt
          have hzl := hI.zl hxl hyl
          have heq : u.1 = t.1 := Int.le_antisymm (Int.not_lt.1 h4) (Int.not_lt.1 h6)
          refine ⟨sqT 16, by kernel_rfl, 0, ⟨rfl, hx0.1, hx0.2.1⟩, _, lx.1.ext hI.ext, 0, ⟨rfl, hy0.1, hy0.2.1⟩, uy.x.v, ly.2.1.ext hI.ext, ra.v, loadQ (hB4.ext hI.ext), 0, ⟨rfl, hx0.1, hx0.2.1⟩, ux.x.v, lx.2.1.ext hI.ext, ?_⟩
          refine dcallR (mk := RatR.v) (Q := fun r w' => CanQ (rowH (AH H b4 b7) s.v) w' r (a * u.2)) RatR.inj (fun _ => CanQ.stable) (fun w' hw _ => RMul_ok (HB.ext hHs hw) (((hI.up h7 hra).ext hw).mono (by omega)) (((hI.up h7 lx.2.2).ext hw).mono (by omega))) ?_
          intro rm
          refine dcallR (mk := RatR.v) (Q := fun r w' => CanQ (rowH (AH H b4 b7) s.v) w' r (t.2 + a * u.2)) RatR.inj (fun _ => CanQ.stable) (fun w' hw hF => RAdd_ok (HB.ext hHs hw) (((hI.up h7 ly.2.2).ext hw).mono (by omega)) (hF.1.inq ((fitF_x0 hra.fit lx.2.2.fit).mono (by omega)) (by omega))) ?_
          intro rn
          intro w6 hx6 hF6
          refine CallS.mono (putC_ok (u.1) (HB.ext hHs hx6) (hI.blk.ext hx6) (hI.acc.ext hx6) (.inr rfl) (Nat.lt_succ_self b7) (Nat.le_trans hI.lt hx6.size) hF6.1 (fitF_xy hra.fit lx.2.2.fit ly.2.2.fit) (by omega) hzl) ?_
          rintro v7 w7 ⟨hB7, hs7, s', hb7', hA7⟩
          intro w8 hx8 _
          have hx38 : Ext w3 w8 := Ext.trans' (Ext.below (Ext.trans' hI.ext hx6) hB7 (Nat.le_of_eq h7)) hx8
          have hlt8 : b7 < w8.heap.size := Nat.lt_of_lt_of_le hI.lt (Nat.le_trans hx6.size (Nat.le_trans hs7 hx8.size))
          have hb8 := hb7'.ext hx8
          have hA8 := hA7.ext hx8
          refine ⟨sq 6, by kernel_rfl, 1, rx.n, ⟨rfl, rfl, hx0.1, hI.vx.nc⟩, 1, ry.n, ⟨rfl, rfl, hy0.1, hI.vy.nc⟩, ?_⟩
          intro w9 hx9 _
          exact ⟨(⟨subA rx.a rx.c 1 5, rx.n - 1, rx.c - 1⟩, ⟨subA ry.a ry.c 1 5, ry.n - 1, ry.c - 1⟩, x, y, s', _), ⟨rfl, rfl, rfl, rfl, rfl, trivial⟩, ⟨Ext.trans' hx38 hx9, Nat.lt_of_lt_of_le hlt8 hx9.size, hb8.ext hx9, hA8.ext hx9, hI.vx.tail, hI.vy.tail, hI.mrg.both heq⟩, by show _ < _; simp only [List.length_cons]; omega⟩
end Go.Proofs.Ytpgagepleffjlaa
