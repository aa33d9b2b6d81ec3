/-
  Contracts of the layer whole, fourth part. Helpers; no statement of the program is proved here.
-/
import Derived.Test.YtlfdobjdlgebbaaK5
set_option maxRecDepth 100000
set_option linter.unusedSimpArgs false
set_option linter.unusedVariables false
namespace Go.Proofs.Ytlfdobjdlgebbaa
open Go Go.Tw Go.RowKit
attribute [local irreducible] LoadAt StoreOk Stored rawVC

theorem add_same {s t : Bool} {m n : Nat} (h : s = t) : sgnZ s (m + n) = sgnZ s m + sgnZ t n := by rw [← h, sgnZ_add]
theorem add_lt {s t : Bool} {m n : Nat} (h : ¬ s = t) (h2 : cmpN m n < 0) : sgnZ t (n - m) = sgnZ s m + sgnZ t n := by
  rw [not_of_ne h]
  unfold cmpN at h2
  have : m < n := by
    split at h2
    · assumption
    · split at h2 <;> omega
  cases s <;> simp [sgnZ] <;> omega
theorem add_ge {s t : Bool} {m n : Nat} (h : ¬ s = t) (h2 : ¬ cmpN m n < 0) : sgnZ s (m - n) = sgnZ s m + sgnZ t n := by
  rw [not_of_ne h]
  unfold cmpN at h2
  have : ¬ m < n := by
    intro h3; rw [if_pos h3] at h2; omega
  cases s <;> simp [sgnZ] <;> omega

theorem IsI.sg {H : Hd} {w : World} {x : IntR} {z : Int} {L : List Nat} (h : IsI H w x z) (hL : val L = z.natAbs) : z = sgnZ x.neg (val L) := by
  obtain ⟨L', h1, e⟩ := h.words
  rw [hL, e, sgnZ_abs]
theorem WAdd_ok {H : Hd} {w : World} {x y : IntR} {p q : Int} (hH : HB H w) (hx : IsI H w x p) (hy : IsI H w y q) :
    CallS Try.prog 83 #[x.v, y.v] w fun v w' => Ext w w' ∧ ∃ r : IntR, v = r.v ∧ CanI H w' r (p + q) := by
  refine enter ttOk mixed (args := [x.v, y.v]) Try.func83 rfl (by kernel_rfl) (by kernel_rfl) rfl ?_
  intro b1 w1 hb1 b2 w2 hb2 b3 w3 hb3
  have hx3 := hb3.extFrom (hb2.extFrom hb1.ext)
  have hX : Blk w3 b1 31 [.bool x.neg, .slice x.a x.n x.c] := hb1.toBlk.ext (hb3.extFrom hb2.ext)
  have hY : Blk w3 b2 31 [.bool y.neg, .slice y.a y.n y.c] := hb2.toBlk.ext hb3.ext
  have hZ := hb3.toBlk
  have hge := hb3.ge (hb2.extFrom hb1.ext)
  have hup : upH H w w3 b3 := hb3.inUp (hb2.extFrom hb1.ext) (Ext.rfl _)
  have hH3 := hH.up hx3
  obtain ⟨L, hL, eL⟩ := IsI.abs (hx.ext hx3)
  obtain ⟨M, hM, eM⟩ := IsI.abs (hy.ext hx3)
  have hLl := hL.len
  have hMl := hM.len
  have hn1 := hx.n40
  have hn2 := hy.n40
  have ep := IsI.sg hx eL
  have eq := IsI.sg hy eM
  have l1 := len_add (k := 1099511627776) hL.lt hM.lt (by omega) (by omega)
  have l2 := len_sub (M := M) hL.lt
  have l3 := len_sub (M := L) hM.lt
  refine ⟨_, hX.one (off := 0) rfl rfl, _, hY.one (off := 0) rfl rfl, ?_⟩
  refine And.intro (fun hne => ?_) (fun hne => ?_)
  · refine ⟨sq 9, by kernel_rfl, _, hX.one (off := 0) rfl rfl, _, hX.one (off := 1) rfl rfl, _, hY.one (off := 1) rfl rfl, ?_⟩
    have hxx := Ext.rfl w3
    refine dcallR (mk := SlR.v) (Q := fun r w => IsSl w r (dig (val L + val M))) SlR.inj (fun _ _ _ h k => h.ext k) (fun w' hw _ => slC (Add_ok (hL.ext hw) (hM.ext hw) hn1 hn2)) ?_
    intro u
    refine dcallR (mk := IntR.v) (Q := fun r w' => CanI (upH H w w3) w' r (p + q)) IntR.inj (fun _ => CanI.stable) (fun w' hw hF => CallS.mono (made_ok (s := x.neg) ((hH3.ext hxx).ext hw) hF.1.words hF.1.nc hF.1.cm (hF.1.fits (by omega))) fun v w'' ⟨h1, r, h2, h3⟩ => ⟨h1, r, h2, by rw [val_dig, add_same hne, ← ep, ← eq] at h3; exact h3⟩) ?_
    intro r
    intro w4 hx4 hF4
    have hx34 := Ext.trans' hxx hx4
    exact retD (fun _ => CanI.stable) (retI (hZ.ext hx34) (Ext.trans' hx3 hx34) hge rfl hup hF4.1)
  · refine ⟨_, hX.one (off := 1) rfl rfl, _, hY.one (off := 1) rfl rfl, ?_⟩
    refine CallS.mono (Cmp_ok hL hx.nc hx.cm hM hy.nc hy.cm) ?_
    rintro _ w5 ⟨hxx, rfl⟩
    refine And.intro (fun hcc => ?_) (fun hcc => ?_)
    · refine ⟨sq 9, by kernel_rfl, _, (hY.ext hxx).one (off := 0) rfl rfl, _, (hY.ext hxx).one (off := 1) rfl rfl, _, (hX.ext hxx).one (off := 1) rfl rfl, ?_⟩
      refine dcallR (mk := SlR.v) (Q := fun r w => IsSl w r (dig (val M - val L))) SlR.inj (fun _ _ _ h k => h.ext k) (fun w' hw _ => slC (Sub_ok ((hM.ext hxx).ext hw) hy.nc hy.cm ((hL.ext hxx).ext hw) hx.nc hx.cm (by omega))) ?_
      intro u
      refine dcallR (mk := IntR.v) (Q := fun r w' => CanI (upH H w w3) w' r (p + q)) IntR.inj (fun _ => CanI.stable) (fun w' hw hF => CallS.mono (made_ok (s := y.neg) ((hH3.ext hxx).ext hw) hF.1.words hF.1.nc hF.1.cm (hF.1.fits (by omega))) fun v w'' ⟨h1, r, h2, h3⟩ => ⟨h1, r, h2, by rw [val_dig, add_lt hne hcc, ← ep, ← eq] at h3; exact h3⟩) ?_
      intro r
      intro w4 hx4 hF4
      have hx34 := Ext.trans' hxx hx4
      exact retD (fun _ => CanI.stable) (retI (hZ.ext hx34) (Ext.trans' hx3 hx34) hge rfl hup hF4.1)
    · refine ⟨sq 9, by kernel_rfl, _, (hX.ext hxx).one (off := 0) rfl rfl, _, (hX.ext hxx).one (off := 1) rfl rfl, _, (hY.ext hxx).one (off := 1) rfl rfl, ?_⟩
      refine dcallR (mk := SlR.v) (Q := fun r w => IsSl w r (dig (val L - val M))) SlR.inj (fun _ _ _ h k => h.ext k) (fun w' hw _ => slC (Sub_ok ((hL.ext hxx).ext hw) hx.nc hx.cm ((hM.ext hxx).ext hw) hy.nc hy.cm (by omega))) ?_
      intro u
      refine dcallR (mk := IntR.v) (Q := fun r w' => CanI (upH H w w3) w' r (p + q)) IntR.inj (fun _ => CanI.stable) (fun w' hw hF => CallS.mono (made_ok (s := x.neg) ((hH3.ext hxx).ext hw) hF.1.words hF.1.nc hF.1.cm (hF.1.fits (by omega))) fun v w'' ⟨h1, r, h2, h3⟩ => ⟨h1, r, h2, by rw [val_dig, add_ge hne hcc, ← ep, ← eq] at h3; exact h3⟩) ?_
      intro r
      intro w4 hx4 hF4
      have hx34 := Ext.trans' hxx hx4
      exact retD (fun _ => CanI.stable) (retI (hZ.ext hx34) (Ext.trans' hx3 hx34) hge rfl hup hF4.1)

/-- What a rest by nought is. -/
def zmod (p q : Int) : Int := if q = 0 then 0 else p % q
theorem sgnZ_zero (s : Bool) : sgnZ s 0 = 0 := by cases s <;> rfl
theorem sgnZ_ne (s : Bool) {n : Nat} (h : n ≠ 0) : sgnZ s n ≠ 0 := by intro h0; have := sgnZ_abs s n; rw [h0] at this; simp at this; omega
theorem wdiv1 {s t : Bool} {m n : Nat} (h : n = 0 ∨ s = false ∨ modN m n = 0) : sgnZ (s != t) (m / n) = sgnZ s m / sgnZ t n ∧ sgnZ false (modN m n) = zmod (sgnZ s m) (sgnZ t n) := by
  by_cases hn : n = 0
  · subst hn
    refine ⟨?_, ?_⟩
    · rw [Nat.div_zero, sgnZ_zero, sgnZ_zero, Int.ediv_zero]
    · rw [zmod, if_pos (sgnZ_zero t), modN, if_pos rfl]; rfl
  · have hm : modN m n = m % n := if_neg hn
    have hz : zmod (sgnZ s m) (sgnZ t n) = sgnZ s m % sgnZ t n := if_neg (sgnZ_ne t hn)
    have hq : (n : Int) ≠ 0 := by omega
    rw [hm, hz]
    have habs : sgnZ s m % sgnZ t n = sgnZ s m % (n : Int) := by
      cases t
      · rfl
      · show sgnZ s m % (-(n : Int)) = _; rw [Int.emod_neg]
    have hdiv : sgnZ s m / sgnZ t n = sgnZ t 1 * (sgnZ s m / (n : Int)) := by
      cases t
      · show sgnZ s m / (n : Int) = ((1 : Nat) : Int) * _; simp
      · show sgnZ s m / (-(n : Int)) = -((1 : Nat) : Int) * _; rw [Int.ediv_neg]; simp
    rw [habs, hdiv]
    cases s
    · refine ⟨?_, ?_⟩
      · show sgnZ (false != t) (m / n) = sgnZ t 1 * ((m : Int) / (n : Int))
        rw [← Int.natCast_ediv]
        cases t <;> simp [sgnZ]
      · show ((m % n : Nat) : Int) = (m : Int) % (n : Int)
        exact Int.natCast_emod m n
    · have h0 : m % n = 0 := by
        rcases h with h | h | h
        · exact absurd h hn
        · cases h
        · rw [hm] at h; exact h
      have hd : m = n * (m / n) := by have := Nat.div_add_mod m n; omega
      have e1 : sgnZ true m = (n : Int) * (-((m / n : Nat) : Int)) := by
        show -((m : Nat) : Int) = _
        rw [Int.mul_neg, ← Int.natCast_mul, ← hd]
      rw [e1, Int.mul_ediv_cancel_left _ hq, Int.mul_emod_right, h0]
      refine ⟨?_, rfl⟩
      cases t <;> simp [sgnZ]
theorem wdiv2 {t : Bool} {m n : Nat} (hn : n ≠ 0) (hr : modN m n ≠ 0) : sgnZ (!t) (m / n + 1) = sgnZ true m / sgnZ t n ∧ sgnZ false (n - modN m n) = zmod (sgnZ true m) (sgnZ t n) := by
  have hm : modN m n = m % n := if_neg hn
  have hz : zmod (sgnZ true m) (sgnZ t n) = sgnZ true m % sgnZ t n := if_neg (sgnZ_ne t hn)
  have hq : (n : Int) ≠ 0 := by omega
  rw [hm] at hr ⊢
  rw [hz]
  have hlt := Nat.mod_lt m (Nat.pos_of_ne_zero hn)
  have hd := Nat.div_add_mod m n
  have e1 : sgnZ true m = ((n - m % n : Nat) : Int) + (n : Int) * (-((m / n : Nat) : Int) - 1) := by
    show -((m : Nat) : Int) = _
    have : (m : Int) = (n : Int) * ((m / n : Nat) : Int) + ((m % n : Nat) : Int) := by rw [← Int.natCast_mul, ← Int.natCast_add, hd]
    rw [this, Int.mul_sub, Int.mul_neg, Int.mul_one]
    omega
  have hdiv : sgnZ true m / (n : Int) = -((m / n : Nat) : Int) - 1 := by
    rw [e1, Int.add_mul_ediv_left _ _ hq, Int.ediv_eq_zero_of_lt (by omega) (by omega), Int.zero_add]
  have hmod : sgnZ true m % (n : Int) = ((n - m % n : Nat) : Int) := by
    rw [e1, Int.add_mul_emod_self_left, Int.emod_eq_of_lt (by omega) (by omega)]
  cases t
  · refine ⟨?_, ?_⟩
    · show -((m / n + 1 : Nat) : Int) = sgnZ true m / (n : Int)
      rw [hdiv]; omega
    · show ((n - m % n : Nat) : Int) = sgnZ true m % (n : Int)
      rw [hmod]
  · refine ⟨?_, ?_⟩
    · show ((m / n + 1 : Nat) : Int) = sgnZ true m / (-(n : Int))
      rw [Int.ediv_neg, hdiv]; omega
    · show ((n - m % n : Nat) : Int) = sgnZ true m % (-(n : Int))
      rw [Int.emod_neg, hmod]
end Go.Proofs.Ytlfdobjdlgebbaa
/-
  Contracts of the layer whole, fifth part: quotient and rest. Helpers; no statement of the program is proved here.
-/
set_option maxRecDepth 100000
set_option linter.unusedSimpArgs false
set_option linter.unusedVariables false
namespace Go.Proofs.Ytlfdobjdlgebbaa
open Go Go.Tw Go.RowKit
attribute [local irreducible] LoadAt StoreOk Stored rawVC

section
variable {w0 w : World} {b b' t t' : Nat} {cs cs' : List Value} {H : Hd}
/-- Two whole numbers stored, one after the other. -/
theorem storeTwo {r : IntR} {z : Int} {r' : IntR} {z' : Int} (hb : Blk w b t cs) (hb' : Blk w b' t' cs') (hne : b ≠ b') (hx : Ext w0 w) (hge : w0.heap.size ≤ b) (hk : (Nat.beq cs.length 2) = true) {u u' : World} (hH : upH H u u' b) (hr : CanI (upH H u u') w r z) (hr' : CanI (upH H u u') w r' z') :
    StoreOk tt w 31 ⟨b, 0, none⟩ r.v ∧ ∀ w', Stored w w' ⟨b, 0, none⟩ r.v.cells.toList → Blk w' b t [.bool r.neg, .slice r.a r.n r.c] ∧ Blk w' b' t' cs' ∧ Ext w0 w' ∧ CanI (upH H u u') w' r z ∧ CanI (upH H u u') w' r' z' := by
  have h3 := Nat.eq_of_beq_eq_true hk
  refine ⟨storeOk rfl rfl hb (by rw [h3]; exact Nat.le_refl 2), fun w' hs => ?_⟩
  have hg := (Stored.grown hs).1
  have hB := Stored.blk hs hb
  obtain ⟨c1, c2, rfl⟩ : ∃ c1 c2, cs = [c1, c2] := by
    match cs, h3 with
    | [c1, c2], _ => exact ⟨c1, c2, rfl⟩
  exact ⟨hB, hb'.grown hg (by intro e; exact hne (Option.some.inj e).symm), Ext.grownB hx hg hge, hr.far hg hH, hr'.far hg hH⟩
end
theorem loadI {w : World} {b t : Nat} {r : IntR} (h : Blk w b t [.bool r.neg, .slice r.a r.n r.c]) : LoadAt tt w 31 ⟨b, 0, none⟩ r.v := h.agg (sub := [.bool r.neg, .slice r.a r.n r.c]) rfl rfl
theorem len_div (m n : Nat) : (dig (m / n)).length ≤ (dig m).length := dig_len_mono (Nat.div_le_self ..)
theorem modN_le (m n : Nat) : modN m n ≤ m := by
  unfold modN; split
  · exact Nat.zero_le _
  · exact Nat.mod_le ..
theorem IsSl.of {w : World} {a : Option Addr} {n c : Nat} {L : List Nat} (h : Words w a n L) (h1 : n ≤ c) (h2 : c ≤ 9223372036854775807) : IsSl w ⟨a, n, c⟩ L := ⟨h, h1, h2⟩
theorem WDivMod_ok {H : Hd} {w : World} {x y : IntR} {p q : Int} (hH : HB H w) (hx : IsI H w x p) (hy : IsI H w y q) :
    CallS Try.prog 133 #[x.v, y.v] w fun v w' => Ext w w' ∧ ∃ r1 r2 : IntR, v = .tuple #[r1.v, r2.v] ∧ CanI H w' r1 (p / q) ∧ CanI H w' r2 (zmod p q) := by
  obtain ⟨s, xa, xn, xc⟩ := x
  refine enter ttOk mixed (args := [IntR.v ⟨s, xa, xn, xc⟩, y.v]) Try.func133 rfl (by kernel_rfl) (by kernel_rfl) rfl ?_
  intro b1 w1 hb1 b2 w2 hb2 b4 w3 hb4 b5 w4 hb5
  have hx23 := hb2.extFrom hb1.ext
  have hx33 := hb4.extFrom hx23
  have hx4 := hb5.extFrom hx33
  have hx24 := Ext.trans' hb4.ext hb5.ext
  have hX : Blk w4 b1 31 [.bool s, .slice xa xn xc] := hb1.toBlk.ext (Ext.trans' hb2.ext hx24)
  have hY : Blk w4 b2 31 [.bool y.neg, .slice y.a y.n y.c] := hb2.toBlk.ext hx24
  have hZ := hb4.toBlk.ext hb5.ext
  have hZ' := hb5.toBlk
  have hge := hb4.ge hx23
  have hge' := hb5.ge hx33
  have hup : upH H w w4 b4 := hb4.inUp hx23 hb5.ext
  have hup' : upH H w w4 b5 := hb5.inUp hx33 (Ext.rfl _)
  have hne45 : b4 ≠ b5 := by have := hb4.lt; have := hb5.isNew; omega
  have hH4 := hH.up hx4
  obtain ⟨L, hL, eL⟩ := IsI.abs (hx.ext hx4)
  obtain ⟨M, hM, eM⟩ := IsI.abs (hy.ext hx4)
  have ep := IsI.sg hx eL
  have eq := IsI.sg hy eM
  have hLl := hL.len
  have hMl := hM.len
  have hLt := hL.trim_le
  have hMt := hM.trim_le
  have hn1 := hx.n40
  have hn2 := hy.n40
  have l1 := len_div (val L) (val M)
  have l2 := dig_len_mono (modN_le (val L) (val M))
  dsimp only at hL ep hLl hLt hn1
  refine ⟨_, hX.one (off := 1) rfl rfl, _, hY.one (off := 1) rfl rfl, ?_⟩
  refine CallS.mono (DivMod_ok hL hx.nc hx.cm hn1 hM hy.nc hy.cm hn2) ?_
  rintro _ w5' ⟨hx45', qv, rv, rfl, ⟨qa, qn, qc, rfl, hqw, hq1, hq2⟩, ⟨ra, rn, rc, rfl, hrw, hr1', hr2'⟩⟩
  refine ⟨y.v, loadI (hY.ext hx45'), ?_⟩
  refine CallS.mono (WSign_ok ((hy.ext hx4).ext hx45')) ?_
  rintro _ w5 ⟨hx5, rfl⟩
  have hx45 := Ext.trans' hx45' hx5
  refine And.intro (fun h1 => ?_) (fun h1 => ?_)
  · have hM0 : val M = 0 := by
      have : q = 0 := by
        unfold sgI at h1
        split at h1
        · cases h1
        · split at h1
          · cases h1
          · omega
      rw [eM, this]; rfl
    refine ⟨_, (hX.ext hx45).one (off := 0) rfl rfl, _, (hY.ext hx45).one (off := 0) rfl rfl, ?_⟩
    have hdv := wdiv1 (s := s) (t := y.neg) (m := val L) (n := val M) (Or.inl hM0)
    rw [← ep, ← eq] at hdv
    have key : ∀ b, b = (s != y.neg) → sgnZ b (val L / val M) = p / q := by intro b hb; rw [hb]; exact hdv.1
    refine And.intro (fun hne => ?_) (fun hne => ?_)
    · refine CallS.mono (made_ok (s := true) (hH4.ext hx45) (hqw.ext hx5) hq1 hq2 (by rw [← hqw.len]; omega)) ?_
      rintro _ w6 ⟨hx6, r1, rfl, hr1⟩
      rw [val_dig, key true (bne_of_ne hne)] at hr1
      refine CallS.mono (made_ok (s := false) ((hH4.ext hx45).ext hx6) ((hrw.ext hx5).ext hx6) hr1' hr2' (by rw [← hrw.len]; omega)) ?_
      rintro _ w7 ⟨hx7, r2, rfl, hr2⟩
      rw [val_dig, hdv.2] at hr2
      have hx47 := Ext.trans' hx45 (Ext.trans' hx6 hx7)
      have hs1 := storeTwo (b := b4) (b' := b5) (hZ.ext hx47) (hZ'.ext hx47) hne45 (Ext.trans' hx4 hx47) hge rfl hup (hr1.ext hx7) hr2
      refine ⟨hs1.1, fun w8 hs8 => ?_⟩
      have hs2 := hs1.2 w8 hs8
      have hs3 := storeTwo (b := b5) (b' := b4) hs2.2.1 hs2.1 (Ne.symm hne45) hs2.2.2.1 hge' rfl hup' hs2.2.2.2.2 hs2.2.2.2.1
      refine ⟨hs3.1, fun w9 hs9 => ?_⟩
      have hs4 := hs3.2 w9 hs9
      exact ⟨r1.v, loadI hs4.2.1, r2.v, loadI hs4.1, hs4.2.2.1, r1, r2, rfl, hs4.2.2.2.2.less, hs4.2.2.2.1.less⟩
    · refine CallS.mono (made_ok (s := false) (hH4.ext hx45) (hqw.ext hx5) hq1 hq2 (by rw [← hqw.len]; omega)) ?_
      rintro _ w6 ⟨hx6, r1, rfl, hr1⟩
      rw [val_dig, key false (beq_of_eq (Classical.not_not.1 hne)).symm] at hr1
      refine CallS.mono (made_ok (s := false) ((hH4.ext hx45).ext hx6) ((hrw.ext hx5).ext hx6) hr1' hr2' (by rw [← hrw.len]; omega)) ?_
      rintro _ w7 ⟨hx7, r2, rfl, hr2⟩
      rw [val_dig, hdv.2] at hr2
      have hx47 := Ext.trans' hx45 (Ext.trans' hx6 hx7)
      have hs1 := storeTwo (b := b4) (b' := b5) (hZ.ext hx47) (hZ'.ext hx47) hne45 (Ext.trans' hx4 hx47) hge rfl hup (hr1.ext hx7) hr2
      refine ⟨hs1.1, fun w8 hs8 => ?_⟩
      have hs2 := hs1.2 w8 hs8
      have hs3 := storeTwo (b := b5) (b' := b4) hs2.2.1 hs2.1 (Ne.symm hne45) hs2.2.2.1 hge' rfl hup' hs2.2.2.2.2 hs2.2.2.2.1
      refine ⟨hs3.1, fun w9 hs9 => ?_⟩
      have hs4 := hs3.2 w9 hs9
      exact ⟨r1.v, loadI hs4.2.1, r2.v, loadI hs4.1, hs4.2.2.1, r1, r2, rfl, hs4.2.2.2.2.less, hs4.2.2.2.1.less⟩
  · have hM0 : val M ≠ 0 := by
      intro h0
      apply h1
      rw [eM] at h0
      have : q = 0 := by omega
      rw [this]; rfl
    refine ⟨_, (hX.ext hx45).one (off := 0) rfl rfl, ?_⟩
    cases s
    · refine ⟨_, (hX.ext hx45).one (off := 0) rfl rfl, _, (hY.ext hx45).one (off := 0) rfl rfl, ?_⟩
      have hdv := wdiv1 (s := false) (t := y.neg) (m := val L) (n := val M) (Or.inr (Or.inl rfl))
      rw [← ep, ← eq] at hdv
      have key : ∀ b, b = (false != y.neg) → sgnZ b (val L / val M) = p / q := by intro b hb; rw [hb]; exact hdv.1
      refine And.intro (fun hne => ?_) (fun hne => ?_)
      · refine CallS.mono (made_ok (s := true) (hH4.ext hx45) (hqw.ext hx5) hq1 hq2 (by rw [← hqw.len]; omega)) ?_
        rintro _ w6 ⟨hx6, r1, rfl, hr1⟩
        rw [val_dig, key true (bne_of_ne hne)] at hr1
        refine CallS.mono (made_ok (s := false) ((hH4.ext hx45).ext hx6) ((hrw.ext hx5).ext hx6) hr1' hr2' (by rw [← hrw.len]; omega)) ?_
        rintro _ w7 ⟨hx7, r2, rfl, hr2⟩
        rw [val_dig, hdv.2] at hr2
        have hx47 := Ext.trans' hx45 (Ext.trans' hx6 hx7)
        have hs1 := storeTwo (b := b4) (b' := b5) (hZ.ext hx47) (hZ'.ext hx47) hne45 (Ext.trans' hx4 hx47) hge rfl hup (hr1.ext hx7) hr2
        refine ⟨hs1.1, fun w8 hs8 => ?_⟩
        have hs2 := hs1.2 w8 hs8
        have hs3 := storeTwo (b := b5) (b' := b4) hs2.2.1 hs2.1 (Ne.symm hne45) hs2.2.2.1 hge' rfl hup' hs2.2.2.2.2 hs2.2.2.2.1
        refine ⟨hs3.1, fun w9 hs9 => ?_⟩
        have hs4 := hs3.2 w9 hs9
        exact ⟨r1.v, loadI hs4.2.1, r2.v, loadI hs4.1, hs4.2.2.1, r1, r2, rfl, hs4.2.2.2.2.less, hs4.2.2.2.1.less⟩
      · refine CallS.mono (made_ok (s := false) (hH4.ext hx45) (hqw.ext hx5) hq1 hq2 (by rw [← hqw.len]; omega)) ?_
        rintro _ w6 ⟨hx6, r1, rfl, hr1⟩
        rw [val_dig, key false (beq_of_eq (Classical.not_not.1 hne)).symm] at hr1
        refine CallS.mono (made_ok (s := false) ((hH4.ext hx45).ext hx6) ((hrw.ext hx5).ext hx6) hr1' hr2' (by rw [← hrw.len]; omega)) ?_
        rintro _ w7 ⟨hx7, r2, rfl, hr2⟩
        rw [val_dig, hdv.2] at hr2
        have hx47 := Ext.trans' hx45 (Ext.trans' hx6 hx7)
        have hs1 := storeTwo (b := b4) (b' := b5) (hZ.ext hx47) (hZ'.ext hx47) hne45 (Ext.trans' hx4 hx47) hge rfl hup (hr1.ext hx7) hr2
        refine ⟨hs1.1, fun w8 hs8 => ?_⟩
        have hs2 := hs1.2 w8 hs8
        have hs3 := storeTwo (b := b5) (b' := b4) hs2.2.1 hs2.1 (Ne.symm hne45) hs2.2.2.1 hge' rfl hup' hs2.2.2.2.2 hs2.2.2.2.1
        refine ⟨hs3.1, fun w9 hs9 => ?_⟩
        have hs4 := hs3.2 w9 hs9
        exact ⟨r1.v, loadI hs4.2.1, r2.v, loadI hs4.1, hs4.2.2.1, r1, r2, rfl, hs4.2.2.2.2.less, hs4.2.2.2.1.less⟩
    · refine And.intro (fun h2 => ?_) (fun h2 => ?_)
      · have hR0 : modN (val L) (val M) = 0 := by
          have : rn = 0 := by omega
          have hl := hrw.len
          rw [this] at hl
          exact dig_nil.1 (List.eq_nil_of_length_eq_zero hl)
        refine ⟨_, (hX.ext hx45).one (off := 0) rfl rfl, _, (hY.ext hx45).one (off := 0) rfl rfl, ?_⟩
        have hdv := wdiv1 (s := true) (t := y.neg) (m := val L) (n := val M) (Or.inr (Or.inr hR0))
        rw [← ep, ← eq] at hdv
        have key : ∀ b, b = (true != y.neg) → sgnZ b (val L / val M) = p / q := by intro b hb; rw [hb]; exact hdv.1
        refine And.intro (fun hne => ?_) (fun hne => ?_)
        · refine CallS.mono (made_ok (s := true) (hH4.ext hx45) (hqw.ext hx5) hq1 hq2 (by rw [← hqw.len]; omega)) ?_
          rintro _ w6 ⟨hx6, r1, rfl, hr1⟩
          rw [val_dig, key true (bne_of_ne hne)] at hr1
          refine CallS.mono (made_ok (s := false) ((hH4.ext hx45).ext hx6) ((hrw.ext hx5).ext hx6) hr1' hr2' (by rw [← hrw.len]; omega)) ?_
          rintro _ w7 ⟨hx7, r2, rfl, hr2⟩
          rw [val_dig, hdv.2] at hr2
          have hx47 := Ext.trans' hx45 (Ext.trans' hx6 hx7)
          have hs1 := storeTwo (b := b4) (b' := b5) (hZ.ext hx47) (hZ'.ext hx47) hne45 (Ext.trans' hx4 hx47) hge rfl hup (hr1.ext hx7) hr2
          refine ⟨hs1.1, fun w8 hs8 => ?_⟩
          have hs2 := hs1.2 w8 hs8
          have hs3 := storeTwo (b := b5) (b' := b4) hs2.2.1 hs2.1 (Ne.symm hne45) hs2.2.2.1 hge' rfl hup' hs2.2.2.2.2 hs2.2.2.2.1
          refine ⟨hs3.1, fun w9 hs9 => ?_⟩
          have hs4 := hs3.2 w9 hs9
          exact ⟨r1.v, loadI hs4.2.1, r2.v, loadI hs4.1, hs4.2.2.1, r1, r2, rfl, hs4.2.2.2.2.less, hs4.2.2.2.1.less⟩
        · refine CallS.mono (made_ok (s := false) (hH4.ext hx45) (hqw.ext hx5) hq1 hq2 (by rw [← hqw.len]; omega)) ?_
          rintro _ w6 ⟨hx6, r1, rfl, hr1⟩
          rw [val_dig, key false (beq_of_eq (Classical.not_not.1 hne)).symm] at hr1
          refine CallS.mono (made_ok (s := false) ((hH4.ext hx45).ext hx6) ((hrw.ext hx5).ext hx6) hr1' hr2' (by rw [← hrw.len]; omega)) ?_
          rintro _ w7 ⟨hx7, r2, rfl, hr2⟩
          rw [val_dig, hdv.2] at hr2
          have hx47 := Ext.trans' hx45 (Ext.trans' hx6 hx7)
          have hs1 := storeTwo (b := b4) (b' := b5) (hZ.ext hx47) (hZ'.ext hx47) hne45 (Ext.trans' hx4 hx47) hge rfl hup (hr1.ext hx7) hr2
          refine ⟨hs1.1, fun w8 hs8 => ?_⟩
          have hs2 := hs1.2 w8 hs8
          have hs3 := storeTwo (b := b5) (b' := b4) hs2.2.1 hs2.1 (Ne.symm hne45) hs2.2.2.1 hge' rfl hup' hs2.2.2.2.2 hs2.2.2.2.1
          refine ⟨hs3.1, fun w9 hs9 => ?_⟩
          have hs4 := hs3.2 w9 hs9
          exact ⟨r1.v, loadI hs4.2.1, r2.v, loadI hs4.1, hs4.2.2.1, r1, r2, rfl, hs4.2.2.2.2.less, hs4.2.2.2.1.less⟩
      · have hR0 : modN (val L) (val M) ≠ 0 := by
          intro h0
          apply h2
          have hl := hrw.len
          rw [h0] at hl
          have : rn = 0 := hl.symm
          rw [this]; rfl
        have hdv := wdiv2 (t := y.neg) hM0 hR0
        rw [← ep, ← eq] at hdv
        have hq5 := hqw.ext hx5
        have hr5 := hrw.ext hx5
        have hM5 := hM.ext hx45
        have hql := hqw.len
        have hrl := hrw.len
        have lA := len_add (L := dig (val L / val M)) (M := [1]) (k := 1099511627776) (dig_wd _) (wd_one (by omega)) (by omega) (by show 1 ≤ _; omega)
        have lS := len_sub (M := dig (modN (val L) (val M))) hM.lt
        rw [val_dig, val_one] at lA
        rw [val_dig] at lS
        refine ⟨sq 14, by kernel_rfl, _, (hY.ext hx45).one (off := 0) rfl rfl, ?_⟩
        intro b6 _
        refine dcallR (mk := SlR.v) (Q := fun r w => IsSl w r (dig (val L / val M + 1))) SlR.inj (fun _ _ _ h k => h.ext k) (fun w' hw hF => slC (by have hB6 : Blk w' b6 88 (wv [1]) := hF.1.1; have := Add_ok (hq5.ext hw) (Words.blkAll hB6 (wd_one (by omega))) (c := qc) (c' := 1) (by omega) (by show 1 ≤ _; omega); rw [val_dig, val_one] at this; exact this)) ?_
        intro u1
        refine dcallR (mk := IntR.v) (Q := fun r w' => CanI (upH H w w4) w' r (p / q)) IntR.inj (fun _ => CanI.stable) (fun w' hw hF => CallS.mono (made_ok (s := !y.neg) ((hH4.ext hx45).ext hw) hF.1.words hF.1.nc hF.1.cm (hF.1.fits (by omega))) fun v w'' ⟨h1, r, h2, h3⟩ => ⟨h1, r, h2, by rw [val_dig, hdv.1] at h3; exact h3⟩) ?_
        intro r1
        refine ⟨_, (hY.ext hx45).one (off := 1) rfl rfl, ?_⟩
        refine dcallR (mk := SlR.v) (Q := fun r w => IsSl w r (dig (val M - modN (val L) (val M)))) SlR.inj (fun _ _ _ h k => h.ext k) (fun w' hw hF => slC (by have := Sub_ok (hM5.ext hw) hy.nc hy.cm (hr5.ext hw) hr1' hr2' (by omega); rw [val_dig] at this; exact this)) ?_
        intro u2
        refine dcallR (mk := IntR.v) (Q := fun r w' => CanI (upH H w w4) w' r (zmod p q)) IntR.inj (fun _ => CanI.stable) (fun w' hw hF => CallS.mono (made_ok (s := false) ((hH4.ext hx45).ext hw) hF.1.words hF.1.nc hF.1.cm (hF.1.fits (by omega))) fun v w'' ⟨h1, r, h2, h3⟩ => ⟨h1, r, h2, by rw [val_dig, hdv.2] at h3; exact h3⟩) ?_
        intro r2 w7 hx7 hF7
        have hx47 := Ext.trans' hx45 hx7
        have hs1 := storeTwo (b := b4) (b' := b5) (hZ.ext hx47) (hZ'.ext hx47) hne45 (Ext.trans' hx4 hx47) hge rfl hup hF7.2.2.1 hF7.1
        refine ⟨hs1.1, fun w8 hs8 => ?_⟩
        have hs2 := hs1.2 w8 hs8
        intro w9 hx9 _
        have hs3 := storeTwo (b := b5) (b' := b4) (hs2.2.1.ext hx9) (hs2.1.ext hx9) (Ne.symm hne45) (Ext.trans' hs2.2.2.1 hx9) hge' rfl hup' (hs2.2.2.2.2.ext hx9) (hs2.2.2.2.1.ext hx9)
        refine ⟨hs3.1, fun w10 hs10 => ?_⟩
        have hs4 := hs3.2 w10 hs10
        intro w11 hx11 _
        exact ⟨r1.v, loadI (hs4.2.1.ext hx11), r2.v, loadI (hs4.1.ext hx11), Ext.trans' hs4.2.2.1 hx11, r1, r2, rfl, (hs4.2.2.2.2.ext hx11).less, (hs4.2.2.2.1.ext hx11).less⟩
end Go.Proofs.Ytlfdobjdlgebbaa
/-
  Contracts of the layer ratio, first part. Helpers; no statement of the program is proved here.
-/
set_option maxRecDepth 100000
set_option linter.unusedSimpArgs false
set_option linter.unusedVariables false
namespace Go.Proofs.Ytlfdobjdlgebbaa
open Go Go.Tw Go.RowKit
attribute [local irreducible] LoadAt StoreOk Stored rawVC

theorem Fit.mod_fit {H : Hd} {w : World} {x y : IntR} {p q : Int} (hx : IsI H w x p) (hy : IsI H w y q) : Fit 1099511627776 (zmod p q) := by
  unfold zmod; split
  · exact Fit.zero _
  · rename_i h
    refine Fit.le hy.fit ?_
    have h1 := Int.emod_nonneg p h
    have h2 := Int.emod_lt p h
    omega
theorem HB.grown {H : Hd} {w w' : World} {b : Nat} (h : HB H w) (k : w.grownBy w' (some b)) : HB H w' := fun i hi => Nat.lt_of_lt_of_le (h i hi) k.size
/-- A whole number stored. -/
theorem storeI {w0 w : World} {b t : Nat} {cs : List Value} {r : IntR} (hb : Blk w b t cs) (hx : Ext w0 w) (hge : w0.heap.size ≤ b) (hk : (Nat.beq cs.length 2) = true) :
    StoreOk tt w 31 ⟨b, 0, none⟩ r.v ∧ ∀ w', Stored w w' ⟨b, 0, none⟩ r.v.cells.toList → Blk w' b t [.bool r.neg, .slice r.a r.n r.c] ∧ w.grownBy w' (some b) ∧ Ext w0 w' := by
  have h3 := Nat.eq_of_beq_eq_true hk
  refine ⟨storeOk rfl rfl hb (by rw [h3]; exact Nat.le_refl 2), fun w' hs => ?_⟩
  have hg := (Stored.grown hs).1
  have hB := Stored.blk hs hb
  obtain ⟨c1, c2, rfl⟩ : ∃ c1 c2, cs = [c1, c2] := by
    match cs, h3 with
    | [c1, c2], _ => exact ⟨c1, c2, rfl⟩
  exact ⟨hB, hg, Ext.grownB hx hg hge⟩
theorem Blk.grownN {w w' : World} {b b' t : Nat} {cs : List Value} (h : Blk w b t cs) (k : w.grownBy w' (some b')) (hne : b ≠ b') : Blk w' b t cs := h.grown k (by intro e; exact hne (Option.some.inj e))

theorem one_ok {H : Hd} {w : World} (hH : HB H w) : CallS Try.prog 103 #[] w fun v w' => Ext w w' ∧ ∃ r : IntR, v = r.v ∧ CanI H w' r 1 := by
  refine enter ttOk mixed (args := []) Try.func103 rfl (by kernel_rfl) (by kernel_rfl) rfl ?_
  intro b w1 hb
  refine CallS.mono (WOf_ok (hH.up hb.ext) 1 (by omega) (by omega)) ?_
  rintro _ w2 ⟨hx2, r, rfl, hr⟩
  exact retI (hb.toBlk.ext hx2) (Ext.trans' hb.ext hx2) (hb.ge (Ext.rfl w)) rfl (hb.inUp (Ext.rfl w) (Ext.rfl w1)) hr
theorem den_ok {H : Hd} {w : World} {x : RatR} {d : Int} (hH : HB H w) (hd : IsI H w x.den d) :
    CallS Try.prog 69 #[x.v] w fun v w' => Ext w w' ∧ ∃ r : IntR, v = r.v ∧ IsI H w' r (denZ x.den d) := by
  refine enter ttOk mixed (args := [x.v]) Try.func69 rfl (by kernel_rfl) (by kernel_rfl) rfl ?_
  intro b1 w1 hb1 b2 w2 hb2
  have hx2 := hb2.extFrom hb1.ext
  have hB : Blk w2 b1 33 [.bool x.num.neg, .slice x.num.a x.num.n x.num.c, .bool x.den.neg, .slice x.den.a x.den.n x.den.c] := hb1.toBlk.ext hb2.ext
  have hup : upH H w w2 b2 := hb2.inUp hb1.ext (Ext.rfl _)
  refine ⟨_, hB.one (off := 3) rfl rfl, ?_⟩
  refine And.intro (fun h1 => ?_) (fun h1 => ?_)
  · refine CallS.mono (one_ok (hH.up hx2)) ?_
    rintro _ w3 ⟨hx3, r, rfl, hr⟩
    have e : denZ x.den d = 1 := if_pos (by omega)
    rw [e]
    have hs := storeI (r := r) (hb2.toBlk.ext hx3) (Ext.trans' hx2 hx3) (hb2.ge hb1.ext) rfl
    refine ⟨hs.1, fun w4 hs4 => ?_⟩
    have h4 := hs.2 w4 hs4
    exact ⟨r.v, loadI h4.1, h4.2.2, r, rfl, ((hr.far h4.2.1 hup).less).is (Fit.one.mono (by omega))⟩
  · refine ⟨x.den.v, hB.agg (off := 2) (sub := [.bool x.den.neg, .slice x.den.a x.den.n x.den.c]) rfl rfl, ?_⟩
    have e : denZ x.den d = d := if_neg (by omega)
    rw [e]
    have hs := storeI (r := x.den) hb2.toBlk hx2 (hb2.ge hb1.ext) rfl
    refine ⟨hs.1, fun w4 hs4 => ?_⟩
    have h4 := hs.2 w4 hs4
    exact ⟨x.den.v, loadI h4.1, h4.2.2, x.den, rfl, ((hd.up hx2).far h4.2.1 hup).less⟩
theorem exact_ok {H : Hd} {w : World} {x y : IntR} {p q : Int} (hH : HB H w) (hx : IsI H w x p) (hy : IsI H w y q) :
    CallS Try.prog 107 #[x.v, y.v] w fun v w' => Ext w w' ∧ ∃ (r : IntR) (b : Bool), v = .tuple #[r.v, .bool b] ∧ CanI H w' r (p / q) := by
  refine enter ttOk mixed (args := [x.v, y.v]) Try.func107 rfl (by kernel_rfl) (by kernel_rfl) rfl ?_
  intro b1 w1 hb1 b2 w2 hb2 b4 w3 hb4
  have hx3 := hb4.extFrom (hb2.extFrom hb1.ext)
  have hX : Blk w3 b1 31 [.bool x.neg, .slice x.a x.n x.c] := hb1.toBlk.ext (hb4.extFrom hb2.ext)
  have hY : Blk w3 b2 31 [.bool y.neg, .slice y.a y.n y.c] := hb2.toBlk.ext hb4.ext
  have hup : upH H w w3 b4 := hb4.inUp (hb2.extFrom hb1.ext) (Ext.rfl _)
  refine ⟨x.v, loadI hX, y.v, loadI hY, ?_⟩
  refine CallS.mono (WDivMod_ok (hH.up hx3) (hx.up hx3) (hy.up hx3)) ?_
  rintro _ w5 ⟨hx5, r1, r2, rfl, hr1, hr2⟩
  intro b6 w6 hb6 b7 w7 hb7
  have hx67 := hb7.extFrom hb6.ext
  have hx7 := Ext.trans' hx5 hx67
  have hx07 := Ext.trans' hx3 hx7
  have hne : b6 ≠ b7 := by have := hb6.lt; have := hb7.isNew; omega
  have hu6 : upH (upH H w w3) w5 w7 b6 := hb6.inUp (Ext.rfl _) hb7.ext
  have hu7 : upH (upH H w w3) w5 w7 b7 := hb7.inUp hb6.ext (Ext.rfl _)
  have hge6 := hb6.ge (Ext.trans' hx3 hx5)
  have hge7 := hb7.ge (Ext.trans' hx3 (Ext.trans' hx5 hb6.ext))
  have hs1 := storeTwo (w0 := w) (hb6.toBlk.ext hb7.ext) hb7.toBlk hne hx07 hge6 rfl hu6 (hr1.up hx67) (hr2.up hx67)
  refine ⟨hs1.1, fun w8 hs8 => ?_⟩
  have h8 := hs1.2 w8 hs8
  have hs2 := storeTwo h8.2.1 h8.1 (Ne.symm hne) h8.2.2.1 hge7 rfl hu7 h8.2.2.2.2 h8.2.2.2.1
  refine ⟨hs2.1, fun w9 hs9 => ?_⟩
  have h9 := hs2.2 w9 hs9
  have hq9 := h9.2.2.2.1
  have hZ9 : Blk w9 b4 31 (tyAt tt 31).zero := by
    have hZ7 := hb4.toBlk.ext hx7
    have l4 := hb4.lt
    have n6 := hb6.isNew
    have n7 := hb7.isNew
    have s5 := hx5.size
    have s6 := hb6.ext.size
    exact Blk.grownN (Blk.grownN hZ7 (Stored.grown hs8).1 (by omega)) (Stored.grown hs9).1 (by omega)
  refine ⟨sq 6, by kernel_rfl, r1.v, loadI h9.2.1, r2.v, loadI h9.1, ?_⟩
  refine dcallV (.int .i64 (sgI (zmod p q))) (fun w' hw _ => WSign_ok ((hq9.is (Fit.mod_fit hx hy)).ext hw)) ?_
  have fin : ∀ (bb : Bool) (w10 : World), Ext w9 w10 → StoreOk tt w10 31 ⟨b4, 0, none⟩ r1.v ∧ ∀ w', Stored w10 w' ⟨b4, 0, none⟩ r1.v.cells.toList → ∀ w'', Ext w' w'' → True → ∃ v, LoadAt tt w'' 31 ⟨b4, 0, none⟩ v ∧ (Ext w w'' ∧ ∃ (r : IntR) (b : Bool), Value.tuple #[v, .bool bb] = .tuple #[r.v, .bool b] ∧ CanI H w'' r (p / q)) := by
    intro bb w10 hx10
    have hs := storeI (r := r1) (hZ9.ext hx10) (Ext.trans' h9.2.2.1 hx10) (hb4.ge (hb2.extFrom hb1.ext)) rfl
    refine ⟨hs.1, fun w' hs' w'' hx'' _ => ?_⟩
    have h' := hs.2 w' hs'
    exact ⟨r1.v, (loadI h'.1).ext hx'', Ext.trans' h'.2.2 hx'', r1, bb, rfl, ((((h9.2.2.2.2.ext hx10).less).far h'.2.1 hup).less).ext hx''⟩
  refine And.intro (fun h1 => ?_) (fun h1 => ?_)
  · intro w10 hx10 _
    exact fin true w10 hx10
  · intro w10 hx10 _
    exact fin false w10 hx10
end Go.Proofs.Ytlfdobjdlgebbaa
/-
  Contracts of the layer ratio, second part: the one form. Helpers; no statement of the program is proved here.
-/
set_option maxRecDepth 100000
set_option linter.unusedSimpArgs false
set_option linter.unusedVariables false
namespace Go.Proofs.Ytlfdobjdlgebbaa
open Go Go.Tw Go.RowKit
attribute [local irreducible] LoadAt StoreOk Stored rawVC

theorem sgI_zero {q : Int} (h : sgI q = 0) : q = 0 := by
  unfold sgI at h
  split at h
  · omega
  · split at h <;> omega
theorem sgI_pos {q : Int} (h : ¬ sgI q < 0) (h0 : q ≠ 0) : 0 < q := by
  unfold sgI at h
  split at h
  · omega
  · split at h <;> omega
theorem Fit.gcd {k : Nat} {p q : Int} (h : q ≠ 0) (hq : Fit k q) : Fit k (Int.gcd p q : Int) := by
  refine Fit.le hq ?_
  rw [Int.natAbs_natCast]
  exact Nat.gcd_le_right _ (by omega)
theorem cmpZ_one {d : Int} (h : cmpZ d 1 = 0) : d = 1 := by
  unfold cmpZ at h
  split at h
  · omega
  · split at h <;> omega
theorem cmpZ_refl (d : Int) : cmpZ d d = 0 := by unfold cmpZ; rw [if_neg (by omega), if_neg (by omega)]
/-- A fraction stored and handed back. -/
theorem retRat {H : Hd} {w0 w : World} {b t : Nat} {cs : List Value} {r : RatR} {q : Rat} (hb : Blk w b t cs) (hx : Ext w0 w) (hge : w0.heap.size ≤ b) (hk : (Nat.beq cs.length 4) = true) {H' : Hd} (hH : H' b) (hless : ∀ {w : World} {r : RatR} {q : Rat}, CanQ H' w r q → CanQ H w r q) (hr : CanQ H' w r q) :
    StoreOk tt w 33 ⟨b, 0, none⟩ r.v ∧ ∀ w', Stored w w' ⟨b, 0, none⟩ r.v.cells.toList → ∃ v, LoadAt tt w' 33 ⟨b, 0, none⟩ v ∧ (Ext w0 w' ∧ ∃ r' : RatR, v = r'.v ∧ CanQ H w' r' q) := by
  have h3 := Nat.eq_of_beq_eq_true hk
  refine ⟨storeOk rfl rfl hb (by rw [h3]; exact Nat.le_refl 4), fun w' hs => ?_⟩
  have hg := (Stored.grown hs).1
  have hB := Stored.blk hs hb
  obtain ⟨c1, c2, c3, c4, rfl⟩ : ∃ c1 c2 c3 c4, cs = [c1, c2, c3, c4] := by
    match cs, h3 with
    | [c1, c2, c3, c4], _ => exact ⟨c1, c2, c3, c4, rfl⟩
  have hB : Blk w' b t [.bool r.num.neg, .slice r.num.a r.num.n r.num.c, .bool r.den.neg, .slice r.den.a r.den.n r.den.c] := hB
  exact ⟨r.v, hB.agg (sub := [.bool r.num.neg, .slice r.num.a r.num.n r.num.c, .bool r.den.neg, .slice r.den.a r.den.n r.den.c]) rfl rfl, Ext.grownB hx hg hge, r, rfl, hless (hr.far hg hH)⟩
theorem ratM {H : Hd} {w : World} {r d : IntR} {p q g : Int} (hq : q ≠ 0) (hg : g = (Int.gcd p q : Int) * q.sign) (h1 : CanI H w r (p / g)) (h2 : CanI H w d (q / g)) (h3 : q / g ≠ 1) : CanQ H w ⟨r, d⟩ (Rat.divInt p q) := by
  have e1 := make_num p q hq
  have e2 := make_den p q hq
  rw [← hg] at e1 e2
  refine ⟨by rw [e1]; exact h1, ?_⟩
  have : denC (Rat.divInt p q) = q / g := by
    unfold denC
    rw [if_neg (by intro h; rw [h] at e2; exact h3 e2.symm), e2]
  rw [this]; exact h2
theorem ratM1 {H : Hd} {w : World} {r : IntR} {p q g : Int} (hq : q ≠ 0) (hg : g = (Int.gcd p q : Int) * q.sign) (h1 : CanI H w r (p / g)) (h3 : q / g = 1) : CanQ H w ⟨r, IntR.zero⟩ (Rat.divInt p q) := by
  have e1 := make_num p q hq
  have e2 := make_den p q hq
  rw [← hg] at e1 e2
  refine ⟨by rw [e1]; exact h1, ?_⟩
  have : denC (Rat.divInt p q) = 0 := by
    unfold denC
    rw [if_pos (by omega)]
  rw [this]; exact CanI.zero H w
theorem gLe {p q : Int} (hq : q ≠ 0) : ((Int.gcd p q : Int) * q.sign).natAbs ≤ q.natAbs := by
  rw [Int.natAbs_mul, Int.natAbs_natCast]
  have h1 : q.sign.natAbs = 1 := by
    rcases Int.lt_or_lt_of_ne hq with h | h
    · rw [Int.sign_eq_neg_one_of_neg h]; rfl
    · rw [Int.sign_eq_one_of_pos h]; rfl
  rw [h1, Nat.mul_one]
  exact Nat.gcd_le_right _ (by omega)

theorem Make_ok {H : Hd} {w : World} {x y : IntR} {p q : Int} (hH : HB H w) (hx : IsI H w x p) (hy : IsI H w y q) :
    CallS Try.prog 76 #[x.v, y.v] w fun v w' => Ext w w' ∧ ∃ r : RatR, v = r.v ∧ CanQ H w' r (Rat.divInt p q) := by
  refine enter ttOk mixed (args := [x.v, y.v]) Try.func76 rfl (by kernel_rfl) (by kernel_rfl) rfl ?_
  intro b1 w1 hb1 b2 w2 hb2 b4 w3 hb4
  have hx3 := hb4.extFrom (hb2.extFrom hb1.ext)
  have hX : Blk w3 b1 31 [.bool x.neg, .slice x.a x.n x.c] := hb1.toBlk.ext (hb4.extFrom hb2.ext)
  have hY : Blk w3 b2 31 [.bool y.neg, .slice y.a y.n y.c] := hb2.toBlk.ext hb4.ext
  have hZ := hb4.toBlk
  have hup : upH H w w3 b4 := hb4.inUp (hb2.extFrom hb1.ext) (Ext.rfl _)
  have hx' := hx.up hx3
  have hy' := hy.up hx3
  have HH := hH.up hx3
  have zero : ∀ (w4 : World), Ext w3 w4 → Rat.divInt p q = 0 → StoreOk tt w4 33 ⟨b4, 0, none⟩ RatR.zero.v ∧ ∀ w', Stored w4 w' ⟨b4, 0, none⟩ RatR.zero.v.cells.toList → ∃ v, LoadAt tt w' 33 ⟨b4, 0, none⟩ v ∧ (Ext w w' ∧ ∃ r' : RatR, v = r'.v ∧ CanQ H w' r' (Rat.divInt p q)) := by
    intro w4 hx4 h0
    rw [h0]
    exact retRat (H' := upH H w w3) (hZ.ext hx4) (Ext.trans' hx3 hx4) (hb4.ge (hb2.extFrom hb1.ext)) rfl hup (fun h => h.less) (CanQ.zero _ _)
  refine ⟨y.v, loadI hY, ?_⟩
  refine CallS.mono (WSign_ok hy') ?_
  rintro _ w4 ⟨hx4, rfl⟩
  refine And.intro (fun h1 => ?_) (fun h1 => ?_)
  · exact zero w4 hx4 (by rw [sgI_zero h1, Rat.divInt_zero])
  have hq0 : q ≠ 0 := by intro h; rw [h] at h1; exact h1 rfl
  refine ⟨x.v, loadI (hX.ext hx4), ?_⟩
  refine CallS.mono (WSign_ok (hx'.ext hx4)) ?_
  rintro _ w5' ⟨hx5', rfl⟩
  have hx45 := Ext.trans' hx4 hx5'
  refine And.intro (fun h2 => ?_) (fun h2 => ?_)
  · exact zero w5' hx45 (by rw [sgI_zero h2, Rat.zero_divInt])
  refine ⟨x.v, loadI (hX.ext hx45), y.v, loadI (hY.ext hx45), ?_⟩
  refine CallS.mono (WGcd_ok (HH.ext hx45) (hx'.ext hx45) (hy'.ext hx45)) ?_
  rintro _ w5 ⟨hx5, rg, rfl, hrg⟩
  have hx35 := Ext.trans' hx45 hx5
  intro b5 w6 hb5
  have hx36 := hb5.extFrom hx35
  have hge5 := hb5.ge (Ext.trans' hx3 hx35)
  have hs5 := storeI (r := rg) hb5.toBlk (Ext.trans' hx3 hx36) hge5 rfl
  refine ⟨hs5.1, fun w7 hs7 => ?_⟩
  have h7 := hs5.2 w7 hs7
  have hu5 : upH (upH H w w3) w5 w6 b5 := hb5.inUp (Ext.rfl _) (Ext.rfl _)
  have hx7 := ((hx'.ext hx35).up hb5.ext).far h7.2.1 hu5
  have hy7 := ((hy'.ext hx35).up hb5.ext).far h7.2.1 hu5
  have hg7 := (hrg.up hb5.ext).far h7.2.1 hu5
  have HH7 := HB.grown (HB.up (HB.ext HH hx35) hb5.ext) h7.2.1
  have n5 := hb5.isNew
  have s5 := hx35.size
  have X7 := Blk.grownN (hX.ext hx36) h7.2.1 (by have := hX.lt; omega)
  have Y7 := Blk.grownN (hY.ext hx36) h7.2.1 (by have := hY.lt; omega)
  have Z7 := Blk.grownN (hZ.ext hx36) h7.2.1 (by have := hZ.lt; omega)
  refine ⟨y.v, loadI Y7, ?_⟩
  refine CallS.mono (WSign_ok hy7) ?_
  rintro _ w8 ⟨hx8, rfl⟩
  refine And.intro (fun h3 => ?_) (fun h3 => ?_)
  · have hqn := sgI_neg h3
    refine ⟨rg.v, loadI (h7.1.ext hx8), ?_⟩
    refine CallS.mono (WNeg_ok (HB.ext HH7 hx8) ((hg7.ext hx8).is (Fit.gcd hq0 hy.fit))) ?_
    rintro _ w9 ⟨hx9, rn, rfl, hrn⟩
    have hx89 := Ext.trans' hx8 hx9
    have e : -((Int.gcd p q : Nat) : Int) = (Int.gcd p q : Int) * q.sign := by rw [Int.sign_eq_neg_one_of_neg hqn, Int.mul_neg, Int.mul_one]
    rw [e] at hrn
    have hs10 := storeI (r := rn) (h7.1.ext hx89) (Ext.trans' h7.2.2 hx89) hge5 rfl
    refine ⟨hs10.1, fun w10 hsT => ?_⟩
    have h10 := hs10.2 w10 hsT
    have x10 := (hx7.ext hx89).far h10.2.1 hu5
    have y10 := (hy7.ext hx89).far h10.2.1 hu5
    have g10 := hrn.far h10.2.1 hu5
    have H10 := HB.grown (HB.ext HH7 hx89) h10.2.1
    have X10 := Blk.grownN (X7.ext hx89) h10.2.1 (by have := hX.lt; omega)
    have Y10 := Blk.grownN (Y7.ext hx89) h10.2.1 (by have := hY.lt; omega)
    have Z10 := Blk.grownN (Z7.ext hx89) h10.2.1 (by have := hZ.lt; omega)
    have W10 := h10.2.2
    have B10 := h10.1
    have hf := (Fit.le hy.fit (gLe (p := p) hq0))
    refine ⟨x.v, loadI X10, rn.v, loadI B10, ?_⟩
    refine CallS.mono (exact_ok H10 x10 (g10.is hf)) ?_
    rintro _ wA ⟨hxA, r6, bb6, rfl, hr6⟩
    intro b6 wB hb6
    have hxB := Ext.trans' W10 hxA
    have hge6 := hb6.ge hxB
    have hB6 := hb6.toBlk
    have hs6 := storeI (r := r6) hB6 (hb6.extFrom hxB) hge6 rfl
    refine ⟨hs6.1, fun wC hsC => ?_⟩
    have hC := hs6.2 wC hsC
    have hu6 : upH (upH (upH H w w3) w5 w6) wA wB b6 := hb6.inUp (Ext.rfl _) (Ext.rfl _)
    have yC := ((y10.ext hxA).up hb6.ext).far hC.2.1 hu6
    have gC := ((g10.ext hxA).up hb6.ext).far hC.2.1 hu6
    have r6C := (hr6.up hb6.ext).far hC.2.1 hu6
    have xAB := hb6.extFrom hxA
    have n6 := hb6.isNew
    have s6 := hxA.size
    have YC := Blk.grownN ((Y10).ext xAB) hC.2.1 (by have := (Y10).lt; omega)
    have B5C := Blk.grownN ((B10).ext xAB) hC.2.1 (by have := (B10).lt; omega)
    have ZC := Blk.grownN ((Z10).ext xAB) hC.2.1 (by have := (Z10).lt; omega)
    have HC := HB.grown (HB.up (HB.ext H10 hxA) hb6.ext) hC.2.1
    refine ⟨y.v, loadI YC, rn.v, loadI B5C, ?_⟩
    refine CallS.mono (exact_ok HC yC (gC.is hf)) ?_
    rintro _ wD ⟨hxD, r8, bb8, rfl, hr8⟩
    intro b8 wE hb8
    have hxE := Ext.trans' hC.2.2 hxD
    have hge8 := hb8.ge hxE
    have hs8 := storeI (r := r8) hb8.toBlk (hb8.extFrom hxE) hge8 rfl
    refine ⟨hs8.1, fun wF hsF => ?_⟩
    have hF := hs8.2 wF hsF
    have hu8 : upH (upH (upH (upH H w w3) w5 w6) wA wB) wD wE b8 := hb8.inUp (Ext.rfl _) (Ext.rfl _)
    have r6F := ((r6C.ext hxD).up hb8.ext).far hF.2.1 hu8
    have r8F := (hr8.up hb8.ext).far hF.2.1 hu8
    have xDE := hb8.extFrom hxD
    have n8 := hb8.isNew
    have s8 := hxD.size
    have B6F := Blk.grownN (hC.1.ext xDE) hF.2.1 (by have := hC.1.lt; omega)
    have ZF := Blk.grownN (ZC.ext xDE) hF.2.1 (by have := ZC.lt; omega)
    have HF := HB.grown (HB.up (HB.ext HC hxD) hb8.ext) hF.2.1
    have f8 : Fit 1099511627776 (q / ((Int.gcd p q : Int) * q.sign)) := Fit.div hy.fit
    refine ⟨sq 4, by kernel_rfl, r8.v, loadI hF.1, ?_⟩
    refine dcallR (mk := IntR.v) (Q := fun r w' => CanI (upH (upH (upH (upH H w w3) w5 w6) wA wB) wD wE) w' r 1) IntR.inj (fun _ => CanI.stable) (fun w' hw _ => one_ok (HB.ext HF hw)) ?_
    intro ro
    refine dcallV (.int .i64 (cmpZ (q / ((Int.gcd p q : Int) * q.sign)) 1)) (fun w' hw hFo => WCmp_ok ((r8F.ext hw).is f8) (hFo.1.is (Fit.one.mono (by omega)))) ?_
    have hgeZ := hb4.ge (hb2.extFrom hb1.ext)
    have hupZ : upH (upH (upH (upH H w w3) w5 w6) wA wB) wD wE b4 := .inl (.inl (.inl hup))
    have hless : ∀ {w' : World} {r : RatR} {q : Rat}, CanQ (upH (upH (upH (upH H w w3) w5 w6) wA wB) wD wE) w' r q → CanQ H w' r q := fun h => h.less.less.less.less
    refine And.intro (fun h1 => ?_) (fun h1 => ?_)
    · intro wG hxG _
      have hs9 := storeI (r := IntR.zero) (hF.1.ext hxG) (Ext.trans' hF.2.2 hxG) hge8 rfl
      refine ⟨hs9.1, fun wH hsH => ?_⟩
      have hH9 := hs9.2 wH hsH
      have hd := cmpZ_one h1
      refine ⟨r6.v, loadI (Blk.grownN (B6F.ext hxG) hH9.2.1 (by have := hC.1.lt; omega)), IntR.zero.v, loadI hH9.1, ?_⟩
      exact retRat (r := ⟨r6, IntR.zero⟩) (Blk.grownN (ZF.ext hxG) hH9.2.1 (by have := ZC.lt; omega)) hH9.2.2 hgeZ rfl hupZ hless (ratM1 hq0 rfl ((r6F.ext hxG).far hH9.2.1 hu8) hd)
    · intro wG hxG _
      refine ⟨r6.v, loadI (B6F.ext hxG), r8.v, loadI (hF.1.ext hxG), ?_⟩
      exact retRat (r := ⟨r6, r8⟩) (ZF.ext hxG) (Ext.trans' hF.2.2 hxG) hgeZ rfl hupZ hless (ratM hq0 rfl (r6F.ext hxG) (r8F.ext hxG) (fun h => h1 (by rw [h]; rfl)))
  · have hqp := sgI_pos h3 hq0
    have e : ((Int.gcd p q : Nat) : Int) = (Int.gcd p q : Int) * q.sign := by rw [Int.sign_eq_one_of_pos hqp, Int.mul_one]
    rw [e] at hg7
    have x10 := hx7.ext hx8
    have y10 := hy7.ext hx8
    have g10 := hg7.ext hx8
    have H10 := HB.ext HH7 hx8
    have X10 := X7.ext hx8
    have Y10 := Y7.ext hx8
    have Z10 := Z7.ext hx8
    have W10 := Ext.trans' h7.2.2 hx8
    have B10 := h7.1.ext hx8
    have hf := (Fit.le hy.fit (gLe (p := p) hq0))
    refine ⟨x.v, loadI X10, rg.v, loadI B10, ?_⟩
    refine CallS.mono (exact_ok H10 x10 (g10.is hf)) ?_
    rintro _ wA ⟨hxA, r6, bb6, rfl, hr6⟩
    intro b6 wB hb6
    have hxB := Ext.trans' W10 hxA
    have hge6 := hb6.ge hxB
    have hB6 := hb6.toBlk
    have hs6 := storeI (r := r6) hB6 (hb6.extFrom hxB) hge6 rfl
    refine ⟨hs6.1, fun wC hsC => ?_⟩
    have hC := hs6.2 wC hsC
    have hu6 : upH (upH (upH H w w3) w5 w6) wA wB b6 := hb6.inUp (Ext.rfl _) (Ext.rfl _)
    have yC := ((y10.ext hxA).up hb6.ext).far hC.2.1 hu6
    have gC := ((g10.ext hxA).up hb6.ext).far hC.2.1 hu6
    have r6C := (hr6.up hb6.ext).far hC.2.1 hu6
    have xAB := hb6.extFrom hxA
    have n6 := hb6.isNew
    have s6 := hxA.size
    have YC := Blk.grownN ((Y10).ext xAB) hC.2.1 (by have := (Y10).lt; omega)
    have B5C := Blk.grownN ((B10).ext xAB) hC.2.1 (by have := (B10).lt; omega)
    have ZC := Blk.grownN ((Z10).ext xAB) hC.2.1 (by have := (Z10).lt; omega)
    have HC := HB.grown (HB.up (HB.ext H10 hxA) hb6.ext) hC.2.1
    refine ⟨y.v, loadI YC, rg.v, loadI B5C, ?_⟩
    refine CallS.mono (exact_ok HC yC (gC.is hf)) ?_
    rintro _ wD ⟨hxD, r8, bb8, rfl, hr8⟩
    intro b8 wE hb8
    have hxE := Ext.trans' hC.2.2 hxD
    have hge8 := hb8.ge hxE
    have hs8 := storeI (r := r8) hb8.toBlk (hb8.extFrom hxE) hge8 rfl
    refine ⟨hs8.1, fun wF hsF => ?_⟩
    have hF := hs8.2 wF hsF
    have hu8 : upH (upH (upH (upH H w w3) w5 w6) wA wB) wD wE b8 := hb8.inUp (Ext.rfl _) (Ext.rfl _)
    have r6F := ((r6C.ext hxD).up hb8.ext).far hF.2.1 hu8
    have r8F := (hr8.up hb8.ext).far hF.2.1 hu8
    have xDE := hb8.extFrom hxD
    have n8 := hb8.isNew
    have s8 := hxD.size
    have B6F := Blk.grownN (hC.1.ext xDE) hF.2.1 (by have := hC.1.lt; omega)
    have ZF := Blk.grownN (ZC.ext xDE) hF.2.1 (by have := ZC.lt; omega)
    have HF := HB.grown (HB.up (HB.ext HC hxD) hb8.ext) hF.2.1
    have f8 : Fit 1099511627776 (q / ((Int.gcd p q : Int) * q.sign)) := Fit.div hy.fit
    refine ⟨sq 4, by kernel_rfl, r8.v, loadI hF.1, ?_⟩
    refine dcallR (mk := IntR.v) (Q := fun r w' => CanI (upH (upH (upH (upH H w w3) w5 w6) wA wB) wD wE) w' r 1) IntR.inj (fun _ => CanI.stable) (fun w' hw _ => one_ok (HB.ext HF hw)) ?_
    intro ro
    refine dcallV (.int .i64 (cmpZ (q / ((Int.gcd p q : Int) * q.sign)) 1)) (fun w' hw hFo => WCmp_ok ((r8F.ext hw).is f8) (hFo.1.is (Fit.one.mono (by omega)))) ?_
    have hgeZ := hb4.ge (hb2.extFrom hb1.ext)
    have hupZ : upH (upH (upH (upH H w w3) w5 w6) wA wB) wD wE b4 := .inl (.inl (.inl hup))
    have hless : ∀ {w' : World} {r : RatR} {q : Rat}, CanQ (upH (upH (upH (upH H w w3) w5 w6) wA wB) wD wE) w' r q → CanQ H w' r q := fun h => h.less.less.less.less
    refine And.intro (fun h1 => ?_) (fun h1 => ?_)
    · intro wG hxG _
      have hs9 := storeI (r := IntR.zero) (hF.1.ext hxG) (Ext.trans' hF.2.2 hxG) hge8 rfl
      refine ⟨hs9.1, fun wH hsH => ?_⟩
      have hH9 := hs9.2 wH hsH
      have hd := cmpZ_one h1
      refine ⟨r6.v, loadI (Blk.grownN (B6F.ext hxG) hH9.2.1 (by have := hC.1.lt; omega)), IntR.zero.v, loadI hH9.1, ?_⟩
      exact retRat (r := ⟨r6, IntR.zero⟩) (Blk.grownN (ZF.ext hxG) hH9.2.1 (by have := ZC.lt; omega)) hH9.2.2 hgeZ rfl hupZ hless (ratM1 hq0 rfl ((r6F.ext hxG).far hH9.2.1 hu8) hd)
    · intro wG hxG _
      refine ⟨r6.v, loadI (B6F.ext hxG), r8.v, loadI (hF.1.ext hxG), ?_⟩
      exact retRat (r := ⟨r6, r8⟩) (ZF.ext hxG) (Ext.trans' hF.2.2 hxG) hgeZ rfl hupZ hless (ratM hq0 rfl (r6F.ext hxG) (r8F.ext hxG) (fun h => h1 (by rw [h]; rfl)))
end Go.Proofs.Ytlfdobjdlgebbaa
/-
  Contracts of the layer ratio, third part: sums and products. Helpers; no statement of the program is proved here.
-/
set_option maxRecDepth 100000
set_option linter.unusedSimpArgs false
set_option linter.unusedVariables false
namespace Go.Proofs.Ytlfdobjdlgebbaa
open Go Go.Tw Go.RowKit
attribute [local irreducible] LoadAt StoreOk Stored rawVC

theorem addQ_eq (a b : Rat) : Rat.divInt (a.num * b.den + b.num * a.den) ((a.den : Int) * b.den) = a + b := by
  rw [← Int.natCast_mul]; exact (Rat.add_def' a b).symm
theorem subQ_eq (a b : Rat) : Rat.divInt (a.num * b.den + -(b.num * a.den)) ((a.den : Int) * b.den) = a - b := by
  rw [← Int.natCast_mul, ← Int.sub_eq_add_neg]; exact (Rat.sub_def' a b).symm
theorem mulQ_eq (m n d e : Int) : Rat.divInt (m * n) (d * e) = Rat.divInt m d * Rat.divInt n e := (Rat.divInt_mul_divInt ..).symm

theorem loadQ {w : World} {b t : Nat} {r : RatR} (h : Blk w b t [.bool r.num.neg, .slice r.num.a r.num.n r.num.c, .bool r.den.neg, .slice r.den.a r.den.n r.den.c]) : LoadAt tt w 33 ⟨b, 0, none⟩ r.v := h.agg (sub := [.bool r.num.neg, .slice r.num.a r.num.n r.num.c, .bool r.den.neg, .slice r.den.a r.den.n r.den.c]) rfl rfl
theorem loadQn {w : World} {b t : Nat} {r : RatR} (h : Blk w b t [.bool r.num.neg, .slice r.num.a r.num.n r.num.c, .bool r.den.neg, .slice r.den.a r.den.n r.den.c]) : LoadAt tt w 31 ⟨b, 0, none⟩ r.num.v := h.agg (sub := [.bool r.num.neg, .slice r.num.a r.num.n r.num.c]) rfl rfl
abbrev rcs (r : RatR) : List Value := [.bool r.num.neg, .slice r.num.a r.num.n r.num.c, .bool r.den.neg, .slice r.den.a r.den.n r.den.c]
/-- A fraction stored. -/
theorem storeQ {w0 w : World} {b t : Nat} {cs : List Value} {r : RatR} (hb : Blk w b t cs) (hx : Ext w0 w) (hge : w0.heap.size ≤ b) (hk : (Nat.beq cs.length 4) = true) :
    StoreOk tt w 33 ⟨b, 0, none⟩ r.v ∧ ∀ w', Stored w w' ⟨b, 0, none⟩ r.v.cells.toList → Blk w' b t (rcs r) ∧ w.grownBy w' (some b) ∧ Ext w0 w' := by
  have h3 := Nat.eq_of_beq_eq_true hk
  refine ⟨storeOk rfl rfl hb (by rw [h3]; exact Nat.le_refl 4), fun w' hs => ?_⟩
  have hg := (Stored.grown hs).1
  have hB := Stored.blk hs hb
  obtain ⟨c1, c2, c3, c4, rfl⟩ : ∃ c1 c2 c3 c4, cs = [c1, c2, c3, c4] := by
    match cs, h3 with
    | [c1, c2, c3, c4], _ => exact ⟨c1, c2, c3, c4, rfl⟩
  exact ⟨hB, hg, Ext.grownB hx hg hge⟩
/-- .. as the last thing that a call does. -/
theorem retQ {H : Hd} {w0 w : World} {b t : Nat} {cs : List Value} {r : RatR} {q : Rat} (hb : Blk w b t cs) (hx : Ext w0 w) (hge : w0.heap.size ≤ b) (hk : (Nat.beq cs.length 4) = true) {u u' : World} (hH : upH H u u' b) (hr : CanQ (upH H u u') w r q) :
    StoreOk tt w 33 ⟨b, 0, none⟩ r.v ∧ ∀ w', Stored w w' ⟨b, 0, none⟩ r.v.cells.toList → ∃ v, LoadAt tt w' 33 ⟨b, 0, none⟩ v ∧ (Ext w0 w' ∧ ∃ r' : RatR, v = r'.v ∧ CanQ H w' r' q) := retRat hb hx hge hk hH (fun h => h.less) hr

theorem Norm_ok {H : Hd} {w : World} {x : RatR} {q : Rat} (hH : HB H w) (hx : IsQ H w x q) :
    CallS Try.prog 64 #[x.v] w fun v w' => Ext w w' ∧ ∃ r : RatR, v = r.v ∧ CanQ H w' r q := by
  obtain ⟨n, d, hn, hd, rfl⟩ := hx
  refine enter ttOk mixed (args := [x.v]) Try.func64 rfl (by kernel_rfl) (by kernel_rfl) rfl ?_
  intro b1 w1 hb1 b2 w2 hb2
  have hx2 := hb2.extFrom hb1.ext
  have hX : Blk w2 b1 33 (rcs x) := hb1.toBlk.ext hb2.ext
  have hup : upH H w w2 b2 := hb2.inUp hb1.ext (Ext.rfl _)
  have H2 := hH.up hx2
  have hn2 := hn.up hx2
  have hd2 := hd.up hx2
  refine ⟨sq 6, by kernel_rfl, x.num.v, loadQn hX, x.v, loadQ hX, ?_⟩
  refine dcallR (mk := IntR.v) (Q := fun r w' => IsI (upH H w w2) w' r (denZ x.den d)) IntR.inj (fun _ => IsI.stable) (fun w' hw _ => den_ok (HB.ext H2 hw) (hd2.ext hw)) ?_
  intro i
  refine dcallR (mk := RatR.v) (Q := fun r w' => CanQ (upH H w w2) w' r (Rat.divInt n (denZ x.den d))) RatR.inj (fun _ => CanQ.stable) (fun w' hw hF => Make_ok (HB.ext H2 hw) (hn2.ext hw) hF.1) ?_
  intro r w3 hx3 hF3
  exact retD (fun _ => CanQ.stable) (retQ (hb2.toBlk.ext hx3) (Ext.trans' hx2 hx3) (hb2.ge hb1.ext) rfl hup hF3.1)
theorem den_can {H : Hd} {w : World} {x : RatR} {q : Rat} (hH : HB H w) (hx : CanQ H w x q) (hf : FitQ 1099511627776 q) :
    CallS Try.prog 69 #[x.v] w fun v w' => Ext w w' ∧ ∃ r : IntR, v = r.v ∧ IsI H w' r (q.den : Int) := by
  have hi : IsI H w x.den (denC q) := hx.den.is (by unfold denC; split; exact Fit.zero _; exact hf.den)
  have := den_ok (x := x) hH hi
  rw [denC_eq hx.den] at this
  exact this
/-- What joined is handed. -/
structure DoOk (g : Nat) (op : Int → Int → Int) : Prop where
  run : ∀ {H : Hd} {w : World} {x y : IntR} {p q : Int}, HB H w → IsI H w x p → IsI H w y q → CallS Try.prog g #[x.v, y.v] w fun v w' => Ext w w' ∧ ∃ r : IntR, v = r.v ∧ CanI H w' r (op p q)
  fit : ∀ {j : Nat} {p q : Int}, Fit j p → Fit j q → Fit (j + 1) (op p q)
theorem joined_ok {g : Nat} {op : Int → Int → Int} (hg : DoOk g op) {H : Hd} {w : World} {x y : RatR} {p q : Rat} (hH : HB H w) (hx : IsQ H w x p) (hy : IsQ H w y q) (fp : FitQ 274877906944 p) (fq : FitQ 274877906944 q) :
    CallS Try.prog 82 #[x.v, y.v, .func (.func g) #[] #[]] w fun v w' => Ext w w' ∧ ∃ r : RatR, v = r.v ∧ CanQ H w' r (Rat.divInt (op (p.num * q.den) (q.num * p.den)) ((p.den : Int) * q.den)) := by
  refine enter ttOk mixed (args := [x.v, y.v, .func (.func g) #[] #[]]) Try.func82 rfl (by kernel_rfl) (by kernel_rfl) rfl ?_
  intro b1 w1 hb1 b2 w2 hb2 b3 w3 hb3
  have hx3 := hb3.extFrom (hb2.extFrom hb1.ext)
  have hX : Blk w3 b1 33 (rcs x) := hb1.toBlk.ext (hb3.extFrom hb2.ext)
  have hY : Blk w3 b2 33 (rcs y) := hb2.toBlk.ext hb3.ext
  have hZ := hb3.toBlk
  have up1 : upH H w w3 b1 := hb1.inUp (Ext.rfl _) (hb3.extFrom hb2.ext)
  have up2 : upH H w w3 b2 := hb2.inUp hb1.ext hb3.ext
  have up3 : upH H w w3 b3 := hb3.inUp (hb2.extFrom hb1.ext) (Ext.rfl _)
  have n1 := hb1.lt; have n2 := hb2.isNew; have n2' := hb2.lt; have n3 := hb3.isNew
  have ge1 := hb1.ge (Ext.rfl w); have ge2 := hb2.ge hb1.ext; have ge3 := hb3.ge (hb2.extFrom hb1.ext)
  have ne12 : b1 ≠ b2 := by omega
  have ne13 : b1 ≠ b3 := by omega
  have ne23 : b2 ≠ b3 := by omega
  have H3 := hH.up hx3
  have hx' := hx.up hx3
  have hy' := hy.up hx3
  refine ⟨sq 6, by kernel_rfl, x.v, loadQ hX, ?_⟩
  refine dcallR (mk := RatR.v) (Q := fun r w' => CanQ (upH H w w3) w' r p) RatR.inj (fun _ => CanQ.stable) (fun w' hw _ => Norm_ok (HB.ext H3 hw) (hx'.ext hw)) ?_
  intro r1
  refine ⟨y.v, loadQ hY, ?_⟩
  refine dcallR (mk := RatR.v) (Q := fun r w' => CanQ (upH H w w3) w' r q) RatR.inj (fun _ => CanQ.stable) (fun w' hw _ => Norm_ok (HB.ext H3 hw) (hy'.ext hw)) ?_
  intro r2 w4 hx4 hF4
  have hs4 := storeQ (r := r1) (hX.ext hx4) (Ext.trans' hx3 hx4) ge1 rfl
  refine ⟨hs4.1, fun w5 hs5 => ?_⟩
  have h5 := hs4.2 w5 hs5
  intro w6 hx6 _
  have c1 := (hF4.2.1.far h5.2.1 up1).ext hx6
  have c2 := (hF4.1.far h5.2.1 up1).ext hx6
  have B2 := (Blk.grownN (hY.ext hx4) h5.2.1 (Ne.symm ne12)).ext hx6
  have B1 := h5.1.ext hx6
  have B3 := (Blk.grownN (hZ.ext hx4) h5.2.1 (Ne.symm ne13)).ext hx6
  have H6 := HB.ext (HB.grown (HB.ext H3 hx4) h5.2.1) hx6
  have hs7 := storeQ (r := r2) B2 (Ext.trans' h5.2.2 hx6) ge2 rfl
  refine ⟨hs7.1, fun w7 hs7' => ?_⟩
  have h7 := hs7.2 w7 hs7'
  intro w8 hx8 _
  have d1 := (c1.far h7.2.1 up2).ext hx8
  have d2 := (c2.far h7.2.1 up2).ext hx8
  have B1 := (Blk.grownN B1 h7.2.1 ne12).ext hx8
  have B2 := h7.1.ext hx8
  have B3 := (Blk.grownN B3 h7.2.1 (Ne.symm ne23)).ext hx8
  have H8 := HB.ext (HB.grown H6 h7.2.1) hx8
  have hx08 := Ext.trans' h7.2.2 hx8
  have fp' : FitQ 1099511627776 p := fp.mono (by omega)
  have fq' : FitQ 1099511627776 q := fq.mono (by omega)
  have i1 := d1.num.is fp'.num
  have i2 := d2.num.is fq'.num
  have m1 : Fit 549755813888 (p.num * (q.den : Int)) := Fit.mul fp.num fq.den
  have m2 : Fit 549755813888 (q.num * (p.den : Int)) := Fit.mul fq.num fp.den
  have m3 : Fit 549755813888 ((p.den : Int) * (q.den : Int)) := Fit.mul fp.den fq.den
  have m4 := hg.fit m1 m2
  refine ⟨sq 19, by kernel_rfl, r1.num.v, loadQn B1, r2.v, loadQ B2, ?_⟩
  refine dcallR (mk := IntR.v) (Q := fun r w' => IsI (upH H w w3) w' r (q.den : Int)) IntR.inj (fun _ => IsI.stable) (fun w' hw _ => den_can (HB.ext H8 hw) (d2.ext hw) fq') ?_
  intro e1
  refine dcallR (mk := IntR.v) (Q := fun r w' => CanI (upH H w w3) w' r (p.num * (q.den : Int))) IntR.inj (fun _ => CanI.stable) (fun w' hw hF => WMul_ok (HB.ext H8 hw) (i1.ext hw) hF.1) ?_
  intro e2
  refine ⟨r2.num.v, loadQn B2, r1.v, loadQ B1, ?_⟩
  refine dcallR (mk := IntR.v) (Q := fun r w' => IsI (upH H w w3) w' r (p.den : Int)) IntR.inj (fun _ => IsI.stable) (fun w' hw _ => den_can (HB.ext H8 hw) (d1.ext hw) fp') ?_
  intro e3
  refine dcallR (mk := IntR.v) (Q := fun r w' => CanI (upH H w w3) w' r (q.num * (p.den : Int))) IntR.inj (fun _ => CanI.stable) (fun w' hw hF => WMul_ok (HB.ext H8 hw) (i2.ext hw) hF.1) ?_
  intro e4
  refine dcallR (mk := IntR.v) (Q := fun r w' => CanI (upH H w w3) w' r (op (p.num * (q.den : Int)) (q.num * (p.den : Int)))) IntR.inj (fun _ => CanI.stable) (fun w' hw hF => hg.run (HB.ext H8 hw) (hF.2.2.1.is (m1.mono (by omega))) (hF.1.is (m2.mono (by omega)))) ?_
  intro e5
  refine ⟨r1.v, loadQ B1, ?_⟩
  refine dcallR (mk := IntR.v) (Q := fun r w' => IsI (upH H w w3) w' r (p.den : Int)) IntR.inj (fun _ => IsI.stable) (fun w' hw _ => den_can (HB.ext H8 hw) (d1.ext hw) fp') ?_
  intro e6
  refine ⟨r2.v, loadQ B2, ?_⟩
  refine dcallR (mk := IntR.v) (Q := fun r w' => IsI (upH H w w3) w' r (q.den : Int)) IntR.inj (fun _ => IsI.stable) (fun w' hw _ => den_can (HB.ext H8 hw) (d2.ext hw) fq') ?_
  intro e7
  refine dcallR (mk := IntR.v) (Q := fun r w' => CanI (upH H w w3) w' r ((p.den : Int) * (q.den : Int))) IntR.inj (fun _ => CanI.stable) (fun w' hw hF => WMul_ok (HB.ext H8 hw) hF.2.1 hF.1) ?_
  intro e8
  refine dcallR (mk := RatR.v) (Q := fun r w' => CanQ (upH H w w3) w' r (Rat.divInt (op (p.num * q.den) (q.num * p.den)) ((p.den : Int) * q.den))) RatR.inj (fun _ => CanQ.stable) (fun w' hw hF => Make_ok (HB.ext H8 hw) (hF.2.2.2.1.is (m4.mono (by omega))) (hF.1.is (m3.mono (by omega)))) ?_
  intro r w9 hx9 hF9
  exact retD (fun _ => CanQ.stable) (retQ (B3.ext hx9) (Ext.trans' hx08 hx9) ge3 rfl up3 hF9.1)
end Go.Proofs.Ytlfdobjdlgebbaa
/-
  Contracts of the layer ratio, fourth part. Helpers; no statement of the program is proved here.
-/
set_option maxRecDepth 100000
set_option linter.unusedSimpArgs false
set_option linter.unusedVariables false
namespace Go.Proofs.Ytlfdobjdlgebbaa
open Go Go.Tw Go.RowKit
attribute [local irreducible] LoadAt StoreOk Stored rawVC

theorem doAdd : DoOk 83 (fun m n => m + n) :=
  ⟨fun hH hx hy => WAdd_ok hH hx hy, fun {j p q} h h' => by have := Fit.add h h'; rw [Nat.max_self] at this; exact this⟩
theorem subC_ok {H : Hd} {w : World} {x y : IntR} {p q : Int} (hH : HB H w) (hx : IsI H w x p) (hy : IsI H w y q) :
    CallS Try.prog 93 #[x.v, y.v] w fun v w' => Ext w w' ∧ ∃ r : IntR, v = r.v ∧ CanI H w' r (p + -q) := by
  refine enter ttOk mixed (args := [x.v, y.v]) Try.func93 rfl (by kernel_rfl) (by kernel_rfl) rfl ?_
  intro b1 w1 hb1 b2 w2 hb2 b3 w3 hb3
  have hx3 := hb3.extFrom (hb2.extFrom hb1.ext)
  have hX : Blk w3 b1 31 [.bool x.neg, .slice x.a x.n x.c] := hb1.toBlk.ext (hb3.extFrom hb2.ext)
  have hY : Blk w3 b2 31 [.bool y.neg, .slice y.a y.n y.c] := hb2.toBlk.ext hb3.ext
  have up3 : upH H w w3 b3 := hb3.inUp (hb2.extFrom hb1.ext) (Ext.rfl _)
  have H3 := hH.up hx3
  have hx' := hx.up hx3
  have hy' := hy.up hx3
  refine ⟨sq 5, by kernel_rfl, x.v, loadI hX, y.v, loadI hY, ?_⟩
  refine dcallR (mk := IntR.v) (Q := fun r w' => CanI (upH H w w3) w' r (-q)) IntR.inj (fun _ => CanI.stable) (fun w' hw _ => WNeg_ok (HB.ext H3 hw) (hy'.ext hw)) ?_
  intro i
  refine dcallR (mk := IntR.v) (Q := fun r w' => CanI (upH H w w3) w' r (p + -q)) IntR.inj (fun _ => CanI.stable) (fun w' hw hF => WAdd_ok (HB.ext H3 hw) (hx'.ext hw) (hF.1.is hy.fit.neg)) ?_
  intro r w4 hx4 hF4
  exact retD (fun _ => CanI.stable) (retI (hb3.toBlk.ext hx4) (Ext.trans' hx3 hx4) (hb3.ge (hb2.extFrom hb1.ext)) rfl up3 hF4.1)
theorem doSub : DoOk 93 (fun m n => m + -n) :=
  ⟨fun hH hx hy => subC_ok hH hx hy, fun {j p q} h h' => by have := Fit.add h h'.neg; rw [Nat.max_self] at this; exact this⟩
theorem RAdd_ok {H : Hd} {w : World} {x y : RatR} {p q : Rat} (hH : HB H w) (hx : InQ 137438953472 H w x p) (hy : InQ 137438953472 H w y q) :
    CallS Try.prog 26 #[x.v, y.v] w fun v w' => Ext w w' ∧ ∃ r : RatR, v = r.v ∧ CanQ H w' r (p + q) := by
  refine enter ttOk mixed (args := [x.v, y.v]) Try.func26 rfl (by kernel_rfl) (by kernel_rfl) rfl ?_
  intro b1 w1 hb1 b2 w2 hb2 b3 w3 hb3
  have hx3 := hb3.extFrom (hb2.extFrom hb1.ext)
  have hX : Blk w3 b1 33 (rcs x) := hb1.toBlk.ext (hb3.extFrom hb2.ext)
  have hY : Blk w3 b2 33 (rcs y) := hb2.toBlk.ext hb3.ext
  have hZ := hb3.toBlk
  have up3 : upH H w w3 b3 := hb3.inUp (hb2.extFrom hb1.ext) (Ext.rfl _)
  have ge3 := hb3.ge (hb2.extFrom hb1.ext)
  have H3 := hH.up hx3
  have hx' := hx.up hx3
  have hy' := hy.up hx3
  refine ⟨x.v, loadQ hX, y.v, loadQ hY, ?_⟩
  refine CallS.mono (joined_ok doAdd H3 hx'.is hy'.is (hx.fit.mono (by omega)) (hy.fit.mono (by omega))) ?_
  rintro _ w4 ⟨hx4, r, rfl, hr⟩
  rw [addQ_eq] at hr
  exact retQ (hZ.ext hx4) (Ext.trans' hx3 hx4) ge3 rfl up3 hr
theorem RSub_ok {H : Hd} {w : World} {x y : RatR} {p q : Rat} (hH : HB H w) (hx : InQ 137438953472 H w x p) (hy : InQ 137438953472 H w y q) :
    CallS Try.prog 52 #[x.v, y.v] w fun v w' => Ext w w' ∧ ∃ r : RatR, v = r.v ∧ CanQ H w' r (p - q) := by
  refine enter ttOk mixed (args := [x.v, y.v]) Try.func52 rfl (by kernel_rfl) (by kernel_rfl) rfl ?_
  intro b1 w1 hb1 b2 w2 hb2 b3 w3 hb3
  have hx3 := hb3.extFrom (hb2.extFrom hb1.ext)
  have hX : Blk w3 b1 33 (rcs x) := hb1.toBlk.ext (hb3.extFrom hb2.ext)
  have hY : Blk w3 b2 33 (rcs y) := hb2.toBlk.ext hb3.ext
  have hZ := hb3.toBlk
  have up3 : upH H w w3 b3 := hb3.inUp (hb2.extFrom hb1.ext) (Ext.rfl _)
  have ge3 := hb3.ge (hb2.extFrom hb1.ext)
  have H3 := hH.up hx3
  have hx' := hx.up hx3
  have hy' := hy.up hx3
  refine ⟨x.v, loadQ hX, y.v, loadQ hY, ?_⟩
  refine CallS.mono (joined_ok doSub H3 hx'.is hy'.is (hx.fit.mono (by omega)) (hy.fit.mono (by omega))) ?_
  rintro _ w4 ⟨hx4, r, rfl, hr⟩
  rw [subQ_eq] at hr
  exact retQ (hZ.ext hx4) (Ext.trans' hx3 hx4) ge3 rfl up3 hr
theorem RMul_ok {H : Hd} {w : World} {x y : RatR} {p q : Rat} (hH : HB H w) (hx : InQ 137438953472 H w x p) (hy : InQ 137438953472 H w y q) :
    CallS Try.prog 27 #[x.v, y.v] w fun v w' => Ext w w' ∧ ∃ r : RatR, v = r.v ∧ CanQ H w' r (p * q) := by
  refine enter ttOk mixed (args := [x.v, y.v]) Try.func27 rfl (by kernel_rfl) (by kernel_rfl) rfl ?_
  intro b1 w1 hb1 b2 w2 hb2 b3 w3 hb3
  have hx3 := hb3.extFrom (hb2.extFrom hb1.ext)
  have hX : Blk w3 b1 33 (rcs x) := hb1.toBlk.ext (hb3.extFrom hb2.ext)
  have hY : Blk w3 b2 33 (rcs y) := hb2.toBlk.ext hb3.ext
  have hZ := hb3.toBlk
  have up3 : upH H w w3 b3 := hb3.inUp (hb2.extFrom hb1.ext) (Ext.rfl _)
  have ge3 := hb3.ge (hb2.extFrom hb1.ext)
  have H3 := hH.up hx3
  have hx' := hx.up hx3
  have hy' := hy.up hx3
  obtain ⟨⟨n, d, hn, hd, rfl⟩, l1, l2⟩ := hx'
  obtain ⟨⟨m, e, hm, he, rfl⟩, l3, l4⟩ := hy'
  have f1 : Fit 274877906944 (n * m) := (Fit.mul hn.fitN hm.fitN).mono (by omega)
  have f2 : Fit 549755813888 (denZ x.den d * denZ y.den e) := (Fit.mul (Fit.denZ hd.fitN) (Fit.denZ he.fitN)).mono (by omega)
  refine ⟨sq 12, by kernel_rfl, x.num.v, loadQn hX, y.num.v, loadQn hY, ?_⟩
  refine dcallR (mk := IntR.v) (Q := fun r w' => CanI (upH H w w3) w' r (n * m)) IntR.inj (fun _ => CanI.stable) (fun w' hw _ => WMul_ok (HB.ext H3 hw) (hn.ext hw) (hm.ext hw)) ?_
  intro i1
  refine ⟨x.v, loadQ hX, ?_⟩
  refine dcallR (mk := IntR.v) (Q := fun r w' => IsI (upH H w w3) w' r (denZ x.den d)) IntR.inj (fun _ => IsI.stable) (fun w' hw _ => den_ok (HB.ext H3 hw) (hd.ext hw)) ?_
  intro i2
  refine ⟨y.v, loadQ hY, ?_⟩
  refine dcallR (mk := IntR.v) (Q := fun r w' => IsI (upH H w w3) w' r (denZ y.den e)) IntR.inj (fun _ => IsI.stable) (fun w' hw _ => den_ok (HB.ext H3 hw) (he.ext hw)) ?_
  intro i3
  refine dcallR (mk := IntR.v) (Q := fun r w' => CanI (upH H w w3) w' r (denZ x.den d * denZ y.den e)) IntR.inj (fun _ => CanI.stable) (fun w' hw hF => WMul_ok (HB.ext H3 hw) hF.2.1 hF.1) ?_
  intro i4
  refine dcallR (mk := RatR.v) (Q := fun r w' => CanQ (upH H w w3) w' r (Rat.divInt n (denZ x.den d) * Rat.divInt m (denZ y.den e))) RatR.inj (fun _ => CanQ.stable) (fun w' hw hF => by have := Make_ok (HB.ext H3 hw) (hF.2.2.2.1.is (f1.mono (by omega))) (hF.1.is (f2.mono (by omega))); rw [mulQ_eq] at this; exact this) ?_
  intro r w4 hx4 hF4
  exact retD (fun _ => CanQ.stable) (retQ (hZ.ext hx4) (Ext.trans' hx3 hx4) ge3 rfl up3 hF4.1)
theorem sgI_bd (z : Int) : -1 ≤ sgI z ∧ sgI z ≤ 1 := by unfold sgI; split; omega; split <;> omega
theorem RSign_ok {H : Hd} {w : World} {x : RatR} {q : Rat} (hH : HB H w) (hx : IsQ H w x q) :
    CallS Try.prog 14 #[x.v] w fun v w' => Ext w w' ∧ v = .int .i64 (sgQ q) := by
  obtain ⟨n, d, hn, hd, rfl⟩ := hx
  refine enter ttOk mixed (args := [x.v]) Try.func14 rfl (by kernel_rfl) (by kernel_rfl) rfl ?_
  intro b1 w1 hb1
  have hX : Blk w1 b1 33 (rcs x) := hb1.toBlk
  have H1 := hH.up hb1.ext
  have hn1 := hn.up hb1.ext
  have hd1 := hd.up hb1.ext
  have hz : sgQ (Rat.divInt n (denZ x.den d)) = sgI n * sgI (denZ x.den d) := by rw [sgI_divInt, sgI_mul]
  have hbd := sgI_bd (n * denZ x.den d)
  rw [← sgI_mul] at hbd
  refine ⟨sq 8, by kernel_rfl, x.num.v, loadQn hX, ?_⟩
  refine dcallV (.int .i64 (sgI n)) (fun w' hw _ => WSign_ok (hn1.ext hw)) ?_
  refine ⟨x.v, loadQ hX, ?_⟩
  refine dcallR (mk := IntR.v) (Q := fun r w' => IsI (upH H w w1) w' r (denZ x.den d)) IntR.inj (fun _ => IsI.stable) (fun w' hw _ => den_ok (HB.ext H1 hw) (hd1.ext hw)) ?_
  intro i
  refine dcallV (.int .i64 (sgI (denZ x.den d))) (fun w' hw hF => WSign_ok hF.1) ?_
  refine ⟨sgQ (Rat.divInt n (denZ x.den d)), ⟨hz, by omega, by omega⟩, ?_⟩
  intro w4 hx4 _
  exact ⟨Ext.trans' hb1.ext hx4, rfl⟩
def cmpQ (p q : Rat) : Int := if p < q then -1 else if q < p then 1 else 0
theorem cmpQ_sub (p q : Rat) : sgQ (p - q) = cmpQ p q := by
  unfold sgQ cmpQ
  simp only [sub_lt, sub_gt]
theorem RCmp_ok {H : Hd} {w : World} {x y : RatR} {p q : Rat} (hH : HB H w) (hx : InQ 137438953472 H w x p) (hy : InQ 137438953472 H w y q) :
    CallS Try.prog 55 #[x.v, y.v] w fun v w' => Ext w w' ∧ v = .int .i64 (cmpQ p q) := by
  refine enter ttOk mixed (args := [x.v, y.v]) Try.func55 rfl (by kernel_rfl) (by kernel_rfl) rfl ?_
  intro b1 w1 hb1 b2 w2 hb2
  have hx3 := hb2.extFrom hb1.ext
  have hX : Blk w2 b1 33 (rcs x) := hb1.toBlk.ext hb2.ext
  have hY : Blk w2 b2 33 (rcs y) := hb2.toBlk
  have H3 := hH.up hx3
  have hx' := hx.up hx3
  have hy' := hy.up hx3
  refine ⟨x.v, loadQ hX, y.v, loadQ hY, ?_⟩
  refine CallS.mono (RSub_ok H3 hx' hy') ?_
  rintro _ w4 ⟨hx4, r, rfl, hr⟩
  refine CallS.mono (RSign_ok (HB.ext H3 hx4) (hr.is ((FitQ.sub hx.fit hy.fit).mono (by omega)))) ?_
  rintro _ w5 ⟨hx5, rfl⟩
  rw [cmpQ_sub]
  exact ⟨Ext.trans' hx3 (Ext.trans' hx4 hx5), rfl⟩
theorem cmpQ_zero {p q : Rat} : cmpQ p q = 0 ↔ p = q := by
  unfold cmpQ
  constructor
  · intro h
    by_cases h1 : p < q
    · rw [if_pos h1] at h; cases h
    · rw [if_neg h1] at h
      by_cases h2 : q < p
      · rw [if_pos h2] at h; cases h
      · exact Rat.le_antisymm (Rat.not_lt.1 h2) (Rat.not_lt.1 h1)
  · intro h; subst h
    rw [if_neg (Rat.lt_irrefl), if_neg (Rat.lt_irrefl)]
theorem RSame_ok {H : Hd} {w : World} {x y : RatR} {p q : Rat} (hH : HB H w) (hx : InQ 137438953472 H w x p) (hy : InQ 137438953472 H w y q) :
    CallS Try.prog 28 #[x.v, y.v] w fun v w' => Ext w w' ∧ v = .bool (decide (p = q)) := by
  refine enter ttOk mixed (args := [x.v, y.v]) Try.func28 rfl (by kernel_rfl) (by kernel_rfl) rfl ?_
  intro b1 w1 hb1 b2 w2 hb2
  have hx3 := hb2.extFrom hb1.ext
  have hX : Blk w2 b1 33 (rcs x) := hb1.toBlk.ext hb2.ext
  have hY : Blk w2 b2 33 (rcs y) := hb2.toBlk
  have H3 := hH.up hx3
  have hx' := hx.up hx3
  have hy' := hy.up hx3
  refine ⟨x.v, loadQ hX, y.v, loadQ hY, ?_⟩
  refine CallS.mono (RCmp_ok H3 hx' hy') ?_
  rintro _ w4 ⟨hx4, rfl⟩
  refine And.intro (fun h1 => ?_) (fun h1 => ?_)
  · exact ⟨Ext.trans' hx3 hx4, by rw [decide_eq_true (cmpQ_zero.1 h1)]; rfl⟩
  · exact ⟨Ext.trans' hx3 hx4, by rw [decide_eq_false (fun h => h1 (cmpQ_zero.2 h))]; rfl⟩
theorem cmpQ_neg {p q : Rat} : cmpQ p q < 0 ↔ p < q := by
  unfold cmpQ
  by_cases h1 : p < q
  · simp [h1]
  · by_cases h2 : q < p <;> simp [h1, h2]
theorem cmpQ_pos {p q : Rat} : cmpQ p q > 0 ↔ q < p := by
  unfold cmpQ
  by_cases h1 : p < q
  · have : ¬ q < p := by grind
    simp [h1, this]
  · by_cases h2 : q < p <;> simp [h1, h2]
theorem RMax_ok {H : Hd} {w : World} {x y : RatR} {p q : Rat} (hH : HB H w) (hx : InQ 137438953472 H w x p) (hy : InQ 137438953472 H w y q) :
    CallS Try.prog 65 #[x.v, y.v] w fun v w' => Ext w w' ∧ ∃ r : RatR, v = r.v ∧ CanQ H w' r (if p < q then q else p) := by
  refine enter ttOk mixed (args := [x.v, y.v]) Try.func65 rfl (by kernel_rfl) (by kernel_rfl) rfl ?_
  intro b1 w1 hb1 b2 w2 hb2 b3 w3 hb3
  have hx3 := hb3.extFrom (hb2.extFrom hb1.ext)
  have hX : Blk w3 b1 33 (rcs x) := hb1.toBlk.ext (hb3.extFrom hb2.ext)
  have hY : Blk w3 b2 33 (rcs y) := hb2.toBlk.ext hb3.ext
  have hZ := hb3.toBlk
  have up3 : upH H w w3 b3 := hb3.inUp (hb2.extFrom hb1.ext) (Ext.rfl _)
  have ge3 := hb3.ge (hb2.extFrom hb1.ext)
  have H3 := hH.up hx3
  have hx' := hx.up hx3
  have hy' := hy.up hx3
  refine ⟨x.v, loadQ hX, y.v, loadQ hY, ?_⟩
  refine CallS.mono (RCmp_ok H3 hx' hy') ?_
  rintro _ w4 ⟨hx4, rfl⟩
  refine And.intro (fun h1 => ?_) (fun h1 => ?_)
  · refine ⟨y.v, loadQ (hY.ext hx4), ?_⟩
    refine CallS.mono (Norm_ok (HB.ext H3 hx4) (hy'.is.ext hx4)) ?_
    rintro _ w5 ⟨hx5, r, rfl, hr⟩
    rw [if_pos (cmpQ_neg.1 h1)]
    have hx45 := Ext.trans' hx4 hx5
    exact retQ (hZ.ext hx45) (Ext.trans' hx3 hx45) ge3 rfl up3 hr
  · refine ⟨x.v, loadQ (hX.ext hx4), ?_⟩
    refine CallS.mono (Norm_ok (HB.ext H3 hx4) (hx'.is.ext hx4)) ?_
    rintro _ w5 ⟨hx5, r, rfl, hr⟩
    rw [if_neg (fun h => h1 (cmpQ_neg.2 h))]
    have hx45 := Ext.trans' hx4 hx5
    exact retQ (hZ.ext hx45) (Ext.trans' hx3 hx45) ge3 rfl up3 hr
theorem RMin_ok {H : Hd} {w : World} {x y : RatR} {p q : Rat} (hH : HB H w) (hx : InQ 137438953472 H w x p) (hy : InQ 137438953472 H w y q) :
    CallS Try.prog 66 #[x.v, y.v] w fun v w' => Ext w w' ∧ ∃ r : RatR, v = r.v ∧ CanQ H w' r (if q < p then q else p) := by
  refine enter ttOk mixed (args := [x.v, y.v]) Try.func66 rfl (by kernel_rfl) (by kernel_rfl) rfl ?_
  intro b1 w1 hb1 b2 w2 hb2 b3 w3 hb3
  have hx3 := hb3.extFrom (hb2.extFrom hb1.ext)
  have hX : Blk w3 b1 33 (rcs x) := hb1.toBlk.ext (hb3.extFrom hb2.ext)
  have hY : Blk w3 b2 33 (rcs y) := hb2.toBlk.ext hb3.ext
  have hZ := hb3.toBlk
  have up3 : upH H w w3 b3 := hb3.inUp (hb2.extFrom hb1.ext) (Ext.rfl _)
  have ge3 := hb3.ge (hb2.extFrom hb1.ext)
  have H3 := hH.up hx3
  have hx' := hx.up hx3
  have hy' := hy.up hx3
  refine ⟨x.v, loadQ hX, y.v, loadQ hY, ?_⟩
  refine CallS.mono (RCmp_ok H3 hx' hy') ?_
  rintro _ w4 ⟨hx4, rfl⟩
  refine And.intro (fun h1 => ?_) (fun h1 => ?_)
  · refine ⟨y.v, loadQ (hY.ext hx4), ?_⟩
    refine CallS.mono (Norm_ok (HB.ext H3 hx4) (hy'.is.ext hx4)) ?_
    rintro _ w5 ⟨hx5, r, rfl, hr⟩
    rw [if_pos (cmpQ_pos.1 h1)]
    have hx45 := Ext.trans' hx4 hx5
    exact retQ (hZ.ext hx45) (Ext.trans' hx3 hx45) ge3 rfl up3 hr
  · refine ⟨x.v, loadQ (hX.ext hx4), ?_⟩
    refine CallS.mono (Norm_ok (HB.ext H3 hx4) (hx'.is.ext hx4)) ?_
    rintro _ w5 ⟨hx5, r, rfl, hr⟩
    rw [if_neg (fun h => h1 (cmpQ_pos.2 h))]
    have hx45 := Ext.trans' hx4 hx5
    exact retQ (hZ.ext hx45) (Ext.trans' hx3 hx45) ge3 rfl up3 hr
theorem ROf_ok {H : Hd} {w : World} {n d : Int} (hH : HB H w) (n1 : -9223372036854775808 ≤ n) (n2 : n ≤ 9223372036854775807) (d1 : -9223372036854775808 ≤ d) (d2 : d ≤ 9223372036854775807) :
    CallS Try.prog 23 #[.int .i64 n, .int .i64 d] w fun v w' => Ext w w' ∧ ∃ r : RatR, v = r.v ∧ CanQ H w' r (Rat.divInt n d) := by
  refine enter ttOk mixed (args := [.int .i64 n, .int .i64 d]) Try.func23 rfl (by kernel_rfl) (by kernel_rfl) rfl ?_
  intro b w1 hb
  have H1 := hH.up hb.ext
  have fn : Fit 1 n := Fit_iff.2 (by rw [Nat.pow_one]; omega)
  have fd : Fit 1 d := Fit_iff.2 (by rw [Nat.pow_one]; omega)
  refine CallS.mono (WOf_ok H1 n n1 n2) ?_
  rintro _ w2 ⟨hx2, r1, rfl, h1⟩
  refine CallS.mono (WOf_ok (HB.ext H1 hx2) d d1 d2) ?_
  rintro _ w3 ⟨hx3, r2, rfl, h2⟩
  have hx23 := Ext.trans' hx2 hx3
  refine CallS.mono (Make_ok (HB.ext H1 hx23) ((h1.ext hx3).is (fn.mono (by omega))) (h2.is (fd.mono (by omega)))) ?_
  rintro _ w4 ⟨hx4, r, rfl, hr⟩
  have hx24 := Ext.trans' hx23 hx4
  exact retQ (hb.toBlk.ext hx24) (Ext.trans' hb.ext hx24) (hb.ge (Ext.rfl w)) rfl (hb.inUp (Ext.rfl w) (Ext.rfl w1)) hr
theorem RIsWhole_ok {H : Hd} {w : World} {x : RatR} {q : Rat} (hH : HB H w) (hx : IsQ H w x q) :
    CallS Try.prog 95 #[x.v] w fun v w' => Ext w w' ∧ v = .bool (decide (q.den = 1)) := by
  refine enter ttOk mixed (args := [x.v]) Try.func95 rfl (by kernel_rfl) (by kernel_rfl) rfl ?_
  intro b1 w1 hb1
  have hX : Blk w1 b1 33 (rcs x) := hb1.toBlk
  refine ⟨x.v, loadQ hX, ?_⟩
  refine CallS.mono (Norm_ok (hH.up hb1.ext) (hx.up hb1.ext)) ?_
  rintro _ w2 ⟨hx2, r, rfl, hr⟩
  have h0 := hr.den.n0
  have hd : denC q = 0 ↔ q.den = 1 := by
    unfold denC
    have := q.den_nz
    split
    · rename_i h; simp [h]
    · rename_i h
      constructor
      · intro h'; omega
      · intro h'; exact absurd h' h
  refine And.intro (fun h1 => ?_) (fun h1 => ?_)
  · exact ⟨Ext.trans' hb1.ext hx2, by rw [decide_eq_true (hd.1 (h0.1 (by omega)))]; rfl⟩
  · exact ⟨Ext.trans' hb1.ext hx2, by rw [decide_eq_false (fun h => h1 (by have := h0.2 (hd.2 h); omega))]; rfl⟩
end Go.Proofs.Ytlfdobjdlgebbaa
/-
  Plain vectors: lists of places and fractions, what stands at a place, the one form, products. No program in sight; helpers.
-/
set_option maxRecDepth 100000
set_option linter.unusedSimpArgs false
set_option linter.unusedVariables false
namespace Go.Tw

abbrev VL := List (Int × Rat)
/-- What stands at a place. -/
def getL (x : VL) (at' : Int) : Rat :=
  match x with
  | [] => 0
  | t :: x => (if t.1 = at' then t.2 else 0) + getL x at'
/-- The one form: by rising places, nothing of 0. -/
def Cn (x : VL) : Prop := x.Pairwise (fun s t => s.1 < t.1) ∧ ∀ t ∈ x, t.2 ≠ 0

theorem getL_append (x y : VL) (p : Int) : getL (x ++ y) p = getL x p + getL y p := by
  induction x with
  | nil => simp [getL, Rat.zero_add]
  | cons t x ih => simp only [List.cons_append, getL, ih, Rat.add_assoc]
theorem getL_none {x : VL} {p : Int} (h : ∀ t ∈ x, t.1 ≠ p) : getL x p = 0 := by
  induction x with
  | nil => rfl
  | cons t x ih =>
    simp only [getL]
    rw [if_neg (h t (by simp)), ih (fun s hs => h s (by simp [hs])), Rat.zero_add]
theorem Cn.nil : Cn [] := ⟨List.Pairwise.nil, fun t h => by simp at h⟩
theorem Cn.tail {t : Int × Rat} {x : VL} (h : Cn (t :: x)) : Cn x := ⟨(List.pairwise_cons.1 h.1).2, fun s hs => h.2 s (by simp [hs])⟩
theorem Cn.head {t : Int × Rat} {x : VL} (h : Cn (t :: x)) : getL (t :: x) t.1 = t.2 := by
  simp only [getL, if_true]
  rw [getL_none, Rat.add_zero]
  intro s hs
  have := (List.pairwise_cons.1 h.1).1 s hs
  omega
theorem Cn.before {t : Int × Rat} {x : VL} (h : Cn (t :: x)) {p : Int} (hp : p < t.1) : getL (t :: x) p = 0 := by
  apply getL_none
  intro s hs
  rcases List.mem_cons.1 hs with rfl | hs
  · omega
  · have := (List.pairwise_cons.1 h.1).1 s hs
    omega
theorem addL_cancel {a b c : Rat} (h : a + b = a + c) : b = c := by grind
/-- The one form is the only one. -/
theorem Cn.ext : ∀ {x y : VL}, Cn x → Cn y → (∀ p, getL x p = getL y p) → x = y
  | [], [], _, _, _ => rfl
  | [], t :: y, _, hy, h => by
    have := h t.1
    rw [hy.head] at this
    exact absurd this.symm (hy.2 t (by simp))
  | t :: x, [], hx, _, h => by
    have := h t.1
    rw [hx.head] at this
    exact absurd this (hx.2 t (by simp))
  | s :: x, t :: y, hx, hy, h => by
    have h1 : s.1 = t.1 := by
      rcases Int.lt_trichotomy s.1 t.1 with h' | h' | h'
      · have := h s.1
        rw [hx.head, hy.before h'] at this
        exact absurd this (hx.2 s (by simp))
      · exact h'
      · have := h t.1
        rw [hy.head, hx.before h'] at this
        exact absurd this.symm (hy.2 t (by simp))
    have h2 : s.2 = t.2 := by
      have := h s.1
      rw [hx.head, h1, hy.head] at this
      exact this
    have h3 : s = t := Prod.ext h1 h2
    subst h3
    have : x = y := Cn.ext hx.tail hy.tail (fun p => by
      have := h p
      simp only [getL] at this
      exact addL_cancel this)
    rw [this]
theorem Cn.snoc {x : VL} {t : Int × Rat} (h : Cn x) (hl : ∀ s ∈ x, s.1 < t.1) (ht : t.2 ≠ 0) : Cn (x ++ [t]) := by
  refine ⟨?_, ?_⟩
  · rw [List.pairwise_append]
    exact ⟨h.1, by simp, fun s hs u hu => by rw [List.mem_singleton] at hu; subst hu; exact hl s hs⟩
  · intro s hs
    rcases List.mem_append.1 hs with hs | hs
    · exact h.2 s hs
    · rw [List.mem_singleton] at hs; subst hs; exact ht

/-- The products' sum. -/
def dotL (x y : VL) : Rat :=
  match x with
  | [] => 0
  | t :: x => t.2 * getL y t.1 + dotL x y
/-- A sum over places. -/
def sumP (S : List Int) (f : Int → Rat) : Rat :=
  match S with
  | [] => 0
  | p :: S => f p + sumP S f
theorem sumP_add (S : List Int) (f g : Int → Rat) : sumP S (fun p => f p + g p) = sumP S f + sumP S g := by
  induction S with
  | nil => simp [sumP, Rat.add_zero]
  | cons p S ih => simp only [sumP, ih]; grind
theorem sumP_mul (S : List Int) (a : Rat) (f : Int → Rat) : sumP S (fun p => a * f p) = a * sumP S f := by
  induction S with
  | nil => simp [sumP, Rat.mul_zero]
  | cons p S ih => simp only [sumP, ih]; grind
theorem sumP_zero {S : List Int} {f : Int → Rat} (h : ∀ p ∈ S, f p = 0) : sumP S f = 0 := by
  induction S with
  | nil => rfl
  | cons p S ih => simp only [sumP]; rw [h p (by simp), ih (fun q hq => h q (by simp [hq])), Rat.add_zero]
theorem sumP_one {S : List Int} (hS : S.Nodup) {p : Int} (hp : p ∈ S) (a : Rat) (f : Int → Rat) : sumP S (fun q => (if p = q then a else 0) * f q) = a * f p := by
  induction S with
  | nil => simp at hp
  | cons q S ih =>
    simp only [sumP]
    by_cases hq : p = q
    · subst hq
      have hn := (List.nodup_cons.1 hS).1
      rw [if_pos rfl, sumP_zero (f := fun q => (if p = q then a else 0) * f q), Rat.add_zero]
      intro r hr
      have : p ≠ r := fun e => hn (e ▸ hr)
      simp only [if_neg this, Rat.zero_mul]
    · rw [if_neg hq, Rat.zero_mul, Rat.zero_add]
      exact ih (List.nodup_cons.1 hS).2 ((List.mem_cons.1 hp).resolve_left hq)
theorem dotL_sum {S : List Int} (hS : S.Nodup) : ∀ {x : VL} (y : VL), (∀ t ∈ x, t.1 ∈ S) → dotL x y = sumP S (fun p => getL x p * getL y p)
  | [], y, _ => by simp only [dotL, getL, Rat.zero_mul]; exact (sumP_zero fun _ _ => rfl).symm
  | t :: x, y, h => by
    simp only [dotL, getL]
    rw [dotL_sum hS y (fun s hs => h s (by simp [hs]))]
    have : (fun p => ((if t.1 = p then t.2 else 0) + getL x p) * getL y p) = fun p => (if t.1 = p then t.2 else 0) * getL y p + getL x p * getL y p := by funext p; rw [Rat.add_mul]
    rw [this, sumP_add, sumP_one hS (h t (by simp))]
def placesL (x y : VL) : List Int := (x.map (·.1) ++ y.map (·.1)).eraseDups
theorem eraseDups_nodup : ∀ (l : List Int), l.eraseDups.Nodup := by
  intro l
  induction h : l.length using Nat.strongRecOn generalizing l with
  | _ n ih =>
    cases l with
    | nil => simp
    | cons a l =>
      rw [List.eraseDups_cons, List.nodup_cons]
      have hl : (List.filter (fun b => !b == a) l).length < n := by
        have := List.length_filter_le (fun b => !b == a) l
        simp at h; omega
      refine ⟨?_, ih _ hl _ rfl⟩
      intro hm
      rw [List.mem_eraseDups] at hm
      simp at hm
theorem mem_places {x y : VL} {t : Int × Rat} (h : t ∈ x ∨ t ∈ y) : t.1 ∈ placesL x y := by
  unfold placesL
  rw [List.mem_eraseDups, List.mem_append]
  rcases h with h | h
  · exact .inl (List.mem_map.2 ⟨t, h, rfl⟩)
  · exact .inr (List.mem_map.2 ⟨t, h, rfl⟩)
theorem dotL_comm (x y : VL) : dotL x y = dotL y x := by
  rw [dotL_sum (eraseDups_nodup _) y (fun t ht => mem_places (x := x) (y := y) (.inl ht)), dotL_sum (S := placesL x y) (eraseDups_nodup _) x (fun t ht => mem_places (x := x) (y := y) (.inr ht))]
  congr 1
  funext p
  exact Rat.mul_comm ..
theorem dotL_congr {x x' y y' : VL} (h : ∀ p, getL x p = getL x' p) (h' : ∀ p, getL y p = getL y' p) : dotL x y = dotL x' y' := by
  have e1 : ∀ (z : VL) , dotL z y = dotL z y' := by
    intro z
    induction z with
    | nil => rfl
    | cons t z ih => simp only [dotL, ih, h']
  rw [e1, dotL_comm x, dotL_comm x']
  induction y' with
  | nil => rfl
  | cons t z ih => simp only [dotL, h]; congr 1; exact dotL_congr_aux z h
where
  dotL_congr_aux (z : VL) {x x' : VL} (h : ∀ p, getL x p = getL x' p) : dotL z x = dotL z x' := by
    induction z with
    | nil => rfl
    | cons t z ih => simp only [dotL, ih, h]
theorem dotL_lin {x y z u : VL} {a : Rat} (h : ∀ p, getL u p = getL y p + a * getL x p) : dotL u z = dotL y z + a * dotL x z := by
  rw [dotL_comm u, dotL_comm y, dotL_comm x]
  induction z with
  | nil => simp only [dotL]; grind
  | cons t z ih => simp only [dotL, h, ih]; grind
end Go.Tw
