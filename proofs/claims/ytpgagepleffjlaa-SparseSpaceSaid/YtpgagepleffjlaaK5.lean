/-
  Whole numbers and fractions as the program's values have them; blocks that a call keeps to itself. Helpers; no statement of the program is proved here.
-/
import Derived.Test.YtpgagepleffjlaaK4
set_option maxRecDepth 100000
set_option linter.unusedSimpArgs false
set_option linter.unusedVariables false
namespace Go.Tw
open Go Go.RowKit

/-! ### blocks that are kept apart -/
/-- Blocks that no value that is handed about may lie in. -/
abbrev Hd := Nat → Prop
def HB (H : Hd) (w : World) : Prop := ∀ b, H b → b < w.heap.size
/-- With what has been made between two worlds. -/
def upH (H : Hd) (w w' : World) : Hd := fun b => H b ∨ (w.heap.size ≤ b ∧ b < w'.heap.size)
theorem HB.up {H : Hd} {w w' : World} (h : HB H w) (k : Ext w w') : HB (upH H w w') w' := by
  intro b hb
  rcases hb with hb | hb
  · have := h b hb; have := k.size; omega
  · exact hb.2
theorem HB.ext {H : Hd} {w w' : World} (h : HB H w) (k : Ext w w') : HB H w' := fun b hb => Nat.lt_of_lt_of_le (h b hb) k.size
def Av (H : Hd) (a : Option Addr) (n : Nat) : Prop := 0 < n → ¬ H (Tw.blk a)
theorem Words.lt_size {w : World} {a : Option Addr} {n : Nat} {L : List Nat} (h : Words w a n L) (hn : 0 < n) : Tw.blk a < w.heap.size := by
  have hl := h.len
  have h0 : L[0]? = some (L[0]'(by omega)) := List.getElem?_eq_getElem (by omega)
  exact World.block_lt_of_cell? w _ (h.get 0 _ h0)
theorem Av.up {H : Hd} {w w' : World} {a : Option Addr} {n : Nat} {L : List Nat} (h : Av H a n) (hw : Words w a n L) : Av (upH H w w') a n := by
  intro hn hb
  rcases hb with hb | hb
  · exact h hn hb
  · have := hw.lt_size hn; omega
theorem Av.less {H : Hd} {w w' : World} {a : Option Addr} {n : Nat} (h : Av (upH H w w') a n) : Av H a n := fun hn hb => h hn (.inl hb)
theorem Words.farH {H : Hd} {w w' : World} {a : Option Addr} {n b : Nat} {L : List Nat} (h : Words w a n L) (k : w.grownBy w' (some b)) (hv : Av H a n) (hb : H b) : Words w' a n L := by
  refine ⟨h.len, h.base, fun j x hj => ?_, h.lt⟩
  have hc := h.get j x hj
  have hlt := World.block_lt_of_cell? w _ hc
  have hn : 0 < n := by
    have := h.len
    rcases Nat.eq_zero_or_pos n with h0 | h0
    · rw [h0] at this; rw [List.eq_nil_of_length_eq_zero this] at hj; simp at hj
    · exact h0
  rw [World.cell?_of_block (k.block _ hlt (by intro e; exact hv hn (by rw [show Tw.blk a = b from Option.some.inj e]; exact hb)))]
  exact hc

theorem New.lt {w w' : World} {b t : Nat} {cs : List Value} (h : New w w' b t cs) : b < w'.heap.size := by rw [h.isNew, h.size]; exact Nat.lt_succ_self _
theorem New.inUp {H : Hd} {w wa wb w3 : World} {b t : Nat} {cs : List Value} (h : New wa wb b t cs) (h1 : Ext w wa) (h2 : Ext wb w3) : upH H w w3 b := .inr ⟨h.ge h1, Nat.lt_of_lt_of_le h.lt h2.size⟩
theorem owns_av {H : Hd} {w : World} {base e n : Nat} {v : Value} {L : List Nat} (h : w.ownsRow base e 1 v n (wv L)) (hL : WdL L) (hH : ∀ b, H b → b < base) : ∃ a c, v = .slice a n c ∧ Words w a n L ∧ n ≤ c ∧ c ≤ 9223372036854775807 ∧ Av H a n := by
  obtain ⟨a, m, c, rfl, h1, h2, h3⟩ := owns_sl h hL
  have hl := h.1
  rw [wv_length, Nat.mul_one, h1.len] at hl
  subst hl
  refine ⟨a, c, rfl, h1, h2, h3, fun h0 hb => ?_⟩
  rcases h.2 with ⟨he, hz⟩ | ⟨g, cap, cur, he, hg, _⟩
  · omega
  · simp only [Value.slice.injEq] at he
    have := hH _ hb
    rw [he.1] at this
    exact absurd this (Nat.not_lt.2 hg)

/-- The parts of a whole number: a sign, a slice. -/
structure IntR where
  neg : Bool
  a : Option Addr
  n : Nat
  c : Nat
def IntR.v (r : IntR) : Value := .agg #[.bool r.neg, .slice r.a r.n r.c]
def IntR.zero : IntR := ⟨false, none, 0, 0⟩
structure RatR where
  num : IntR
  den : IntR
def RatR.v (r : RatR) : Value := .agg #[.bool r.num.neg, .slice r.num.a r.num.n r.num.c, .bool r.den.neg, .slice r.den.a r.den.n r.den.c]
def RatR.zero : RatR := ⟨IntR.zero, IntR.zero⟩
theorem IntR.inj {x y : IntR} (h : x.v = y.v) : x = y := by
  obtain ⟨a, b, c, d⟩ := x
  obtain ⟨a', b', c', d'⟩ := y
  simp [IntR.v] at h
  obtain ⟨rfl, rfl, rfl, rfl⟩ := h
  rfl
theorem RatR.inj {x y : RatR} (h : x.v = y.v) : x = y := by
  obtain ⟨⟨a, b, c, d⟩, ⟨e, f, g, i⟩⟩ := x
  obtain ⟨⟨a', b', c', d'⟩, ⟨e', f', g', i'⟩⟩ := y
  simp [RatR.v] at h
  obtain ⟨rfl, ⟨rfl, rfl, rfl⟩, rfl, rfl, rfl, rfl⟩ := h
  rfl
theorem IntR.of {Q : IntR → Prop} {x : IntR} (h : ∃ r : IntR, x.v = r.v ∧ Q r) : Q x := by
  obtain ⟨r, he, h⟩ := h
  rw [IntR.inj he]; exact h
theorem RatR.of {Q : RatR → Prop} {x : RatR} (h : ∃ r : RatR, x.v = r.v ∧ Q r) : Q x := by
  obtain ⟨r, he, h⟩ := h
  rw [RatR.inj he]; exact h

/-- It says z, in whatever form. -/
structure IsI (H : Hd) (w : World) (r : IntR) (z : Int) : Prop where
  words : ∃ L, Words w r.a r.n L ∧ z = sgnZ r.neg (val L)
  nc : r.n ≤ r.c
  cm : r.c ≤ 9223372036854775807
  n40 : r.n ≤ 1099511627776
  av : Av H r.a r.n
/-- It is z's one form. -/
structure CanI (H : Hd) (w : World) (r : IntR) (z : Int) : Prop where
  neg : r.neg = decide (z < 0)
  words : Words w r.a r.n (dig z.natAbs)
  nc : r.n ≤ r.c
  cm : r.c ≤ 9223372036854775807
  av : Av H r.a r.n
section
variable {H : Hd} {w w' : World} {r : IntR} {z : Int}
theorem CanI.is (h : CanI H w r z) (hf : Fit 1099511627776 z) : IsI H w r z := by
  refine ⟨⟨_, h.words, ?_⟩, h.nc, h.cm, ?_, h.av⟩
  · rw [val_dig, h.neg, sgnZ_self]
  · rw [← h.words.len]; exact hf.len
theorem CanI.n0 (h : CanI H w r z) : r.n = 0 ↔ z = 0 := by
  rw [← h.words.len]
  constructor
  · intro h0
    have := dig_nil.1 (List.eq_nil_of_length_eq_zero h0)
    omega
  · intro h0; subst h0; rfl
theorem IsI.fitN (h : IsI H w r z) : Fit r.n z := by
  obtain ⟨⟨L, h1, rfl⟩, h2, h3, h4, _⟩ := h
  unfold Fit
  rw [sgnZ_abs]
  exact h1.trim_le
theorem IsI.fit (h : IsI H w r z) : Fit 1099511627776 z := h.fitN.mono h.n40
theorem IsI.ext (h : IsI H w r z) (k : Ext w w') : IsI H w' r z := by
  obtain ⟨⟨L, h1, h2⟩, h3, h4, h5, h6⟩ := h
  exact ⟨⟨L, h1.ext k, h2⟩, h3, h4, h5, h6⟩
theorem CanI.ext (h : CanI H w r z) (k : Ext w w') : CanI H w' r z := ⟨h.neg, h.words.ext k, h.nc, h.cm, h.av⟩
theorem IsI.up (h : IsI H w r z) (k : Ext w w') : IsI (upH H w w') w' r z := by
  obtain ⟨⟨L, h1, h2⟩, h3, h4, h5, h6⟩ := h
  exact ⟨⟨L, h1.ext k, h2⟩, h3, h4, h5, h6.up h1⟩
theorem CanI.up (h : CanI H w r z) (k : Ext w w') : CanI (upH H w w') w' r z := ⟨h.neg, h.words.ext k, h.nc, h.cm, h.av.up h.words⟩
theorem CanI.less {u u' : World} (h : CanI (upH H u u') w r z) : CanI H w r z := ⟨h.neg, h.words, h.nc, h.cm, h.av.less⟩
theorem IsI.less {u u' : World} (h : IsI (upH H u u') w r z) : IsI H w r z := ⟨h.words, h.nc, h.cm, h.n40, h.av.less⟩
theorem CanI.far {b : Nat} (h : CanI H w r z) (k : w.grownBy w' (some b)) (hb : H b) : CanI H w' r z := ⟨h.neg, h.words.farH k h.av hb, h.nc, h.cm, h.av⟩
theorem IsI.far {b : Nat} (h : IsI H w r z) (k : w.grownBy w' (some b)) (hb : H b) : IsI H w' r z := by
  obtain ⟨⟨L, h1, h2⟩, h3, h4, h5, h6⟩ := h
  exact ⟨⟨L, h1.farH k h6 hb, h2⟩, h3, h4, h5, h6⟩
theorem CanI.stable : Stable (fun w => CanI H w r z) := fun _ _ h k => h.ext k
theorem IsI.stable : Stable (fun w => IsI H w r z) := fun _ _ h k => h.ext k
end
theorem CanI.zero (H : Hd) (w : World) : CanI H w IntR.zero 0 := ⟨rfl, Words.nil w, Nat.le_refl _, by show 0 ≤ _; omega, fun h => absurd h (Nat.lt_irrefl 0)⟩
theorem IsI.zero (H : Hd) (w : World) : IsI H w IntR.zero 0 := (CanI.zero H w).is (Fit.zero _)

/-- What a fraction is divided by, none told being 1. -/
def denZ (r : IntR) (d : Int) : Int := if r.n = 0 then 1 else d
structure IsQ (H : Hd) (w : World) (r : RatR) (q : Rat) : Prop where
  parts : ∃ n d, IsI H w r.num n ∧ IsI H w r.den d ∧ q = Rat.divInt n (denZ r.den d)
def denC (q : Rat) : Int := if q.den = 1 then 0 else q.den
structure CanQ (H : Hd) (w : World) (r : RatR) (q : Rat) : Prop where
  num : CanI H w r.num q.num
  den : CanI H w r.den (denC q)
section
variable {H : Hd} {w w' : World} {r : RatR} {q : Rat}
theorem denC_eq {r : IntR} (h : CanI H w r (denC q)) : denZ r (denC q) = q.den := by
  have h0 := h.n0
  have hd := q.den_nz
  unfold denZ denC at *
  by_cases h1 : q.den = 1
  · rw [if_pos h1] at *
    rw [if_pos (h0.2 rfl), h1]; rfl
  · rw [if_neg h1] at *
    rw [if_neg]
    intro h2
    have := h0.1 h2
    omega
theorem CanQ.is (h : CanQ H w r q) (hf : FitQ 1099511627776 q) : IsQ H w r q := by
  refine ⟨_, _, h.num.is hf.num, h.den.is ?_, ?_⟩
  · unfold denC; split
    · exact Fit.zero _
    · exact hf.den
  · rw [denC_eq h.den, q_eq]
theorem IsQ.ext (h : IsQ H w r q) (k : Ext w w') : IsQ H w' r q := by
  obtain ⟨n, d, h1, h2, h3⟩ := h
  exact ⟨n, d, h1.ext k, h2.ext k, h3⟩
theorem IsQ.up (h : IsQ H w r q) (k : Ext w w') : IsQ (upH H w w') w' r q := by
  obtain ⟨n, d, h1, h2, h3⟩ := h
  exact ⟨n, d, h1.up k, h2.up k, h3⟩
theorem IsQ.far {b : Nat} (h : IsQ H w r q) (k : w.grownBy w' (some b)) (hb : H b) : IsQ H w' r q := by
  obtain ⟨n, d, h1, h2, h3⟩ := h
  exact ⟨n, d, h1.far k hb, h2.far k hb, h3⟩
theorem IsQ.less {u u' : World} (h : IsQ (upH H u u') w r q) : IsQ H w r q := by
  obtain ⟨n, d, h1, h2, h3⟩ := h
  exact ⟨n, d, h1.less, h2.less, h3⟩
theorem CanQ.ext (h : CanQ H w r q) (k : Ext w w') : CanQ H w' r q := ⟨h.num.ext k, h.den.ext k⟩
theorem CanQ.up (h : CanQ H w r q) (k : Ext w w') : CanQ (upH H w w') w' r q := ⟨h.num.up k, h.den.up k⟩
theorem CanQ.less {u u' : World} (h : CanQ (upH H u u') w r q) : CanQ H w r q := ⟨h.num.less, h.den.less⟩
theorem CanQ.far {b : Nat} (h : CanQ H w r q) (k : w.grownBy w' (some b)) (hb : H b) : CanQ H w' r q := ⟨h.num.far k hb, h.den.far k hb⟩
theorem CanQ.stable : Stable (fun w => CanQ H w r q) := fun _ _ h k => h.ext k
theorem IsQ.stable : Stable (fun w => IsQ H w r q) := fun _ _ h k => h.ext k
end
theorem CanQ.zero (H : Hd) (w : World) : CanQ H w RatR.zero 0 := ⟨CanI.zero H w, by show CanI H w IntR.zero (denC 0); exact CanI.zero H w⟩
theorem FitQ.zero {k : Nat} (h : 1 ≤ k) : FitQ k 0 := ⟨Fit.zero k, Fit.one.mono h⟩
theorem IsQ.zero (H : Hd) (w : World) : IsQ H w RatR.zero 0 := (CanQ.zero H w).is (FitQ.zero (by omega))

/-- It says q, by parts of at most k digits. -/
structure InQ (k : Nat) (H : Hd) (w : World) (r : RatR) (q : Rat) : Prop where
  is : IsQ H w r q
  num : r.num.n ≤ k
  den : r.den.n ≤ k
section
variable {H : Hd} {w w' : World} {r : RatR} {q : Rat} {k : Nat}
theorem InQ.ext (h : InQ k H w r q) (e : Ext w w') : InQ k H w' r q := ⟨h.is.ext e, h.num, h.den⟩
theorem InQ.up (h : InQ k H w r q) (e : Ext w w') : InQ k (upH H w w') w' r q := ⟨h.is.up e, h.num, h.den⟩
theorem InQ.less {u u' : World} (h : InQ k (upH H u u') w r q) : InQ k H w r q := ⟨h.is.less, h.num, h.den⟩
theorem InQ.far {b : Nat} (h : InQ k H w r q) (e : w.grownBy w' (some b)) (hb : H b) : InQ k H w' r q := ⟨h.is.far e hb, h.num, h.den⟩
theorem InQ.mono {j : Nat} (h : InQ j H w r q) (hk : j ≤ k) : InQ k H w r q := ⟨h.is, Nat.le_trans h.num hk, Nat.le_trans h.den hk⟩
theorem InQ.stable : Stable (fun w => InQ k H w r q) := fun _ _ h e => h.ext e
theorem Fit.denZ {r : IntR} {d : Int} (h : Fit r.n d) : Fit (r.n + 1) (denZ r d) := by
  unfold Go.Tw.denZ; split
  · exact Fit.one.mono (by omega)
  · exact h.mono (by omega)
theorem InQ.fit (h : InQ k H w r q) : FitQ (k + 1) q := by
  obtain ⟨⟨n, d, hn, hd, rfl⟩, h1, h2⟩ := h
  exact FitQ.make (hn.fitN.mono (by omega)) ((Fit.denZ hd.fitN).mono (by omega)) (by omega)
theorem CanQ.inq (h : CanQ H w r q) (hf : FitQ k q) (hk : k ≤ 1099511627776) : InQ k H w r q := by
  refine ⟨h.is (hf.mono hk), ?_, ?_⟩
  · rw [← h.num.words.len]; exact hf.num
  · rw [← h.den.words.len]
    have : Fit k (denC q) := by unfold denC; split; exact Fit.zero _; exact hf.den
    exact this
end
theorem InQ.zero (H : Hd) (w : World) (k : Nat) : InQ k H w RatR.zero 0 := ⟨IsQ.zero H w, Nat.zero_le _, Nat.zero_le _⟩

/-! ### slices of words, by their parts -/
structure SlR where
  a : Option Addr
  n : Nat
  c : Nat
def SlR.v (r : SlR) : Value := .slice r.a r.n r.c
theorem SlR.inj {x y : SlR} (h : x.v = y.v) : x = y := by
  obtain ⟨a, b, c⟩ := x
  obtain ⟨a', b', c'⟩ := y
  simp [SlR.v] at h
  obtain ⟨rfl, rfl, rfl⟩ := h
  rfl
structure IsSl (w : World) (r : SlR) (L : List Nat) : Prop where
  words : Words w r.a r.n L
  nc : r.n ≤ r.c
  cm : r.c ≤ 9223372036854775807
theorem IsSl.ext {w w' : World} {r : SlR} {L : List Nat} (h : IsSl w r L) (k : Ext w w') : IsSl w' r L := ⟨h.words.ext k, h.nc, h.cm⟩
theorem slC {P : Program} {f : FuncId} {args : Array Value} {w : World} {L : List Nat} (h : CallS P f args w fun v w' => Ext w w' ∧ Sl w' v L) : CallS P f args w fun v w' => Ext w w' ∧ ∃ r : SlR, v = r.v ∧ IsSl w' r L :=
  CallS.mono h fun v w' ⟨hx, a, n, c, he, h1, h2, h3⟩ => ⟨hx, ⟨a, n, c⟩, he, h1, h2, h3⟩
theorem len_mul {L M : List Nat} (hL : WdL L) (hM : WdL M) : (dig (val L * val M)).length ≤ L.length + M.length :=
  dig_len_le _ _ (by rw [Nat.pow_add]; exact Nat.mul_lt_mul'' (val_lt L hL) (val_lt M hM))
theorem len_add {L M : List Nat} {k : Nat} (hL : WdL L) (hM : WdL M) (h1 : L.length ≤ k) (h2 : M.length ≤ k) : (dig (val L + val M)).length ≤ k + 1 := by
  refine dig_len_le _ _ ?_
  have a := Nat.lt_of_lt_of_le (val_lt L hL) (Nat.pow_le_pow_right (by omega) h1)
  have b := Nat.lt_of_lt_of_le (val_lt M hM) (Nat.pow_le_pow_right (by omega) h2)
  rw [Nat.pow_succ]; omega
theorem len_sub {L M : List Nat} (hL : WdL L) : (dig (val L - val M)).length ≤ L.length :=
  Nat.le_trans (dig_len_mono (Nat.sub_le ..)) (dig_len_le _ _ (val_lt L hL))
theorem IsSl.fits {w : World} {r : SlR} {m : Nat} (h : IsSl w r (dig m)) {k : Nat} (hk : (dig m).length ≤ k) : r.n ≤ k := by rw [← h.words.len]; exact hk

/-! ### calls in statements whose order is drawn -/
section
variable {P : Program} {f : FuncId} {args : Array Value} {base : World} {F : World → Prop} {ih : DK} {dst : Option Nat} {e : Env}
theorem dcallV (V : Value) (hc : ∀ w, Ext base w → F w → CallS P f args w fun v w' => Ext w w' ∧ v = V) (hk : ih base (fun w => V = V ∧ F w) (putO dst V e)) :
    ∃ Post : Value → World → Prop, (∀ v, Stable (Post v)) ∧ (∀ w, Ext base w → F w → CallS P f args w fun v w' => Ext w w' ∧ Post v w') ∧ ∀ v, Sat base (fun w => Post v w ∧ F w) → ih base (fun w => Post v w ∧ F w) (putO dst v e) := by
  refine ⟨fun v _ => v = V, fun _ _ _ h _ => h, hc, fun v hs => ?_⟩
  obtain ⟨w, hw, hv, hF⟩ := hs
  subst hv
  exact hk
theorem dcallR {α : Type} {mk : α → Value} {Q : α → World → Prop} (inj : ∀ {x y}, mk x = mk y → x = y) (hst : ∀ a, Stable (Q a)) (hc : ∀ w, Ext base w → F w → CallS P f args w fun v w' => Ext w w' ∧ ∃ r, v = mk r ∧ Q r w') (hk : ∀ r, ih base (fun w => Q r w ∧ F w) (putO dst (mk r) e)) :
    ∃ Post : Value → World → Prop, (∀ v, Stable (Post v)) ∧ (∀ w, Ext base w → F w → CallS P f args w fun v w' => Ext w w' ∧ Post v w') ∧ ∀ v, Sat base (fun w => Post v w ∧ F w) → ih base (fun w => Post v w ∧ F w) (putO dst v e) := by
  refine ⟨fun v w => ∃ r, v = mk r ∧ Q r w, fun v w w' ⟨r, h1, h2⟩ k => ⟨r, h1, hst r _ _ h2 k⟩, hc, fun v hs => ?_⟩
  obtain ⟨w, hw, ⟨r, rfl, hv⟩, hF⟩ := hs
  have e1 : (fun w => (∃ r', mk r = mk r' ∧ Q r' w) ∧ F w) = (fun w => Q r w ∧ F w) := by
    funext w
    apply propext
    constructor
    · rintro ⟨⟨r', h1, h2⟩, h3⟩
      rw [← inj h1] at h2
      exact ⟨h2, h3⟩
    · rintro ⟨h2, h3⟩; exact ⟨⟨r, rfl, h2⟩, h3⟩
  rw [e1]
  exact hk r
end

/-! ### loads and stores of blocks whose cells are listed -/
section
variable {T : TT} {w w' : World} {b t ty off : Nat} {cs sub : List Value} {v : Value}
theorem Blk.agg (hb : Blk w b t cs) (hk : (known (tyAt T ty) && (tyAt T ty).agg && Nat.beq sub.length (tyAt T ty).size) = true) (hs : (cs.drop off).take sub.length = sub) : LoadAt T w ty ⟨b, off, none⟩ (.agg sub.toArray) := by
  refine loadAgg hk fun j u hj => ?_
  rw [Addr.add_lit]
  refine hb.cell ?_
  rw [← hs, List.getElem?_take] at hj
  split at hj
  · rw [List.getElem?_drop] at hj; exact hj
  · cases hj
theorem Blk.one (hb : Blk w b t cs) (hk : (known (tyAt T ty) && !(tyAt T ty).agg) = true) (hv : cs[off]? = some v) : LoadAt T w ty ⟨b, off, none⟩ v := loadScalar hk (hb.cell hv)
end

/-! ### a result of one cell after another, stored and handed back -/
section
variable {T : TT} {w0 w : World} {b t ty : Nat} {cs : List Value} {H : Hd}
theorem retI {r : IntR} {z : Int} (hb : Blk w b t cs) (hx : Ext w0 w) (hge : w0.heap.size ≤ b) (hk : (known (tyAt T ty) && (tyAt T ty).agg && Nat.beq 2 (tyAt T ty).size && Nat.beq cs.length 2) = true) {u u' : World} (hH : upH H u u' b) (hr : CanI (upH H u u') w r z) :
    StoreOk T w ty ⟨b, 0, none⟩ r.v ∧ ∀ w', Stored w w' ⟨b, 0, none⟩ r.v.cells.toList → ∃ v, LoadAt T w' ty ⟨b, 0, none⟩ v ∧ (Ext w0 w' ∧ ∃ r' : IntR, v = r'.v ∧ CanI H w' r' z) := by
  simp only [Bool.and_eq_true] at hk
  have h2 := Nat.eq_of_beq_eq_true hk.1.2
  have h3 := Nat.eq_of_beq_eq_true hk.2
  refine ⟨storeOk rfl (by rw [hk.1.1.1, ← h2]; rfl) hb (by omega), fun w' hs => ?_⟩
  have hg := (Stored.grown hs).1
  have hB := Stored.blk hs hb
  obtain ⟨c1, c2, rfl⟩ : ∃ c1 c2, cs = [c1, c2] := by
    match cs, h3 with
    | [c1, c2], _ => exact ⟨c1, c2, rfl⟩
  have hB : Blk w' b t [.bool r.neg, .slice r.a r.n r.c] := hB
  exact ⟨r.v, hB.agg (sub := [.bool r.neg, .slice r.a r.n r.c]) (by rw [hk.1.1.1, hk.1.1.2, ← h2]; rfl) rfl, Ext.grownB hx hg hge, r, rfl, (hr.far hg hH).less⟩
theorem retD {α : Type} {mk : α → Value} {Q : α → World → Prop} {p : Addr} {vs : List Value} {v0 : Value} (hst : ∀ a, Stable (Q a)) (h : StoreOk T w ty p v0 ∧ ∀ w', Stored w w' p vs → ∃ v, LoadAt T w' ty p v ∧ (Ext w0 w' ∧ ∃ r, v = mk r ∧ Q r w')) :
    StoreOk T w ty p v0 ∧ ∀ w', Stored w w' p vs → ∀ w'', Ext w' w'' → True → ∃ v, LoadAt T w'' ty p v ∧ (Ext w0 w'' ∧ ∃ r, v = mk r ∧ Q r w'') := by
  refine ⟨h.1, fun w' hs w'' hx _ => ?_⟩
  obtain ⟨v, hl, hx0, r, he, hQ⟩ := h.2 w' hs
  exact ⟨v, hl.ext hx, Ext.trans' hx0 hx, r, he, hst r _ _ hQ hx⟩
theorem retQ' {r : RatR} {q : Rat} (hb : Blk w b t cs) (hx : Ext w0 w) (hge : w0.heap.size ≤ b) (hk : (known (tyAt T ty) && (tyAt T ty).agg && Nat.beq 4 (tyAt T ty).size && Nat.beq cs.length 4) = true) {u u' : World} (hH : upH H u u' b) (hr : CanQ (upH H u u') w r q) :
    StoreOk T w ty ⟨b, 0, none⟩ r.v ∧ ∀ w', Stored w w' ⟨b, 0, none⟩ r.v.cells.toList → ∃ v, LoadAt T w' ty ⟨b, 0, none⟩ v ∧ (Ext w0 w' ∧ ∃ r' : RatR, v = r'.v ∧ CanQ H w' r' q) := by
  simp only [Bool.and_eq_true] at hk
  have h2 := Nat.eq_of_beq_eq_true hk.1.2
  have h3 := Nat.eq_of_beq_eq_true hk.2
  refine ⟨storeOk rfl (by rw [hk.1.1.1, ← h2]; rfl) hb (by omega), fun w' hs => ?_⟩
  have hg := (Stored.grown hs).1
  have hB := Stored.blk hs hb
  obtain ⟨c1, c2, c3, c4, rfl⟩ : ∃ c1 c2 c3 c4, cs = [c1, c2, c3, c4] := by
    match cs, h3 with
    | [c1, c2, c3, c4], _ => exact ⟨c1, c2, c3, c4, rfl⟩
  have hB : Blk w' b t [.bool r.num.neg, .slice r.num.a r.num.n r.num.c, .bool r.den.neg, .slice r.den.a r.den.n r.den.c] := hB
  exact ⟨r.v, hB.agg (sub := [.bool r.num.neg, .slice r.num.a r.num.n r.num.c, .bool r.den.neg, .slice r.den.a r.den.n r.den.c]) (by rw [hk.1.1.1, hk.1.1.2, ← h2]; rfl) rfl, Ext.grownB hx hg hge, r, rfl, (hr.far hg hH).less⟩
end
end Go.Tw
/-
  Vectors as the program's values have them: rows of terms. Helpers; no statement of the program is proved here.
-/
set_option maxRecDepth 100000
set_option linter.unusedSimpArgs false
set_option linter.unusedVariables false
namespace Go.Tw
open Go Go.RowKit

/-- The text's own order, the last one a call that writes. -/
def sqTF (i n : Nat) : List (Nat × Bool) :=
  match n with
  | 0 => [(i, true)]
  | n + 1 => (i, false) :: sqTF (i + 1) n
def sqT (n : Nat) : List (Nat × Bool) := sqTF 0 n
structure TmR where
  at' : Int
  x : RatR
def TmR.cs (t : TmR) : List Value := [.int .i64 t.at', .bool t.x.num.neg, .slice t.x.num.a t.x.num.n t.x.num.c, .bool t.x.den.neg, .slice t.x.den.a t.x.den.n t.x.den.c]
def TmR.v (t : TmR) : Value := .agg #[.int .i64 t.at', .bool t.x.num.neg, .slice t.x.num.a t.x.num.n t.x.num.c, .bool t.x.den.neg, .slice t.x.den.a t.x.den.n t.x.den.c]
/-- The cells of terms, one after the other. -/
def tcs (ts : List TmR) : List Value :=
  match ts with
  | [] => []
  | t :: ts => t.cs ++ tcs ts
theorem tcs_append (a b : List TmR) : tcs (a ++ b) = tcs a ++ tcs b := by
  induction a with
  | nil => rfl
  | cons t a ih => simp only [List.cons_append, tcs, ih, List.append_assoc]
theorem tcs_one (t : TmR) : tcs [t] = t.cs := by simp [tcs]
theorem tcs_length (ts : List TmR) : (tcs ts).length = ts.length * 5 := by
  induction ts with
  | nil => rfl
  | cons t ts ih => simp only [tcs, List.length_append, ih, List.length_cons]; simp [TmR.cs]; omega
theorem tcs_get {ts : List TmR} {j k : Nat} {t : TmR} {v : Value} (hj : ts[j]? = some t) (hk : t.cs[k]? = some v) : (tcs ts)[j * 5 + k]? = some v := by
  have hk5 : k < 5 := by
    rcases Nat.lt_or_ge k 5 with h | h
    · exact h
    · rw [List.getElem?_eq_none (by simpa [TmR.cs] using h)] at hk; cases hk
  induction ts generalizing j with
  | nil => simp at hj
  | cons s ts ih =>
    cases j with
    | zero =>
      simp at hj; subst hj
      simp only [tcs]
      rw [List.getElem?_append_left (by simpa [TmR.cs] using hk5)]
      simpa using hk
    | succ j =>
      simp only [tcs]
      rw [List.getElem?_append_right (by simp [TmR.cs]; omega)]
      have e : (j + 1) * 5 + k - s.cs.length = j * 5 + k := by simp [TmR.cs]; omega
      rw [e]
      exact ih (by simpa using hj)
theorem tcs_mem_one (ts : List TmR) : ∀ v ∈ tcs ts, v.oneCell' = true := by
  induction ts with
  | nil => intro v hv; simp [tcs] at hv
  | cons t ts ih =>
    intro v hv
    simp only [tcs, List.mem_append] at hv
    rcases hv with hv | hv
    · simp only [TmR.cs, List.mem_cons, List.not_mem_nil, or_false] at hv
      rcases hv with rfl | rfl | rfl | rfl | rfl <;> rfl
    · exact ih v hv
theorem tcs_at {ts : List TmR} {i : Nat} {v : Value} (h : (tcs ts)[i]? = some v) : ∃ t, ts[i / 5]? = some t ∧ t.cs[i % 5]? = some v := by
  induction ts generalizing i with
  | nil => simp [tcs] at h
  | cons s ts ih =>
    simp only [tcs] at h
    by_cases hi : i < 5
    · rw [List.getElem?_append_left (by simpa [TmR.cs] using hi)] at h
      exact ⟨s, by rw [Nat.div_eq_of_lt hi]; rfl, by rw [Nat.mod_eq_of_lt hi]; exact h⟩
    · rw [List.getElem?_append_right (by simp [TmR.cs]; omega)] at h
      have e : i - s.cs.length = i - 5 := rfl
      rw [e] at h
      obtain ⟨t, h1, h2⟩ := ih h
      refine ⟨t, ?_, ?_⟩
      · rw [show i / 5 = (i - 5) / 5 + 1 by omega]; exact h1
      · rw [show i % 5 = (i - 5) % 5 by omega]; exact h2

/-- Terms lie in a row. -/
structure Tms (w : World) (a : Option Addr) (n : Nat) (ts : List TmR) : Prop where
  len : ts.length = n
  base : 0 < n → okB a
  get : ∀ (i : Nat) (v : Value), (tcs ts)[i]? = some v → w.cell? (addrAt a i) = some v
theorem Tms.ext {w w' : World} {a : Option Addr} {n : Nat} {ts : List TmR} (h : Tms w a n ts) (k : Ext w w') : Tms w' a n ts := ⟨h.len, h.base, fun i v hv => k.cellEq (h.get i v hv)⟩
theorem Tms.nil (w : World) (a : Option Addr) : Tms w a 0 [] := ⟨rfl, fun h => by omega, fun i v h => by simp [tcs] at h⟩
theorem Tms.lt_size {w : World} {a : Option Addr} {n : Nat} {ts : List TmR} (h : Tms w a n ts) (hn : 0 < n) : Tw.blk a < w.heap.size := by
  have hl := h.len
  have hl2 := tcs_length ts
  have h0 : (tcs ts)[0]? = some ((tcs ts)[0]'(by omega)) := List.getElem?_eq_getElem (by omega)
  exact World.block_lt_of_cell? w _ (h.get 0 _ h0)
theorem Tms.grow {w w' : World} {a : Option Addr} {n : Nat} {ts : List TmR} {row : Option Nat} {H : Hd} (h : Tms w a n ts) (k : w.grownBy w' row) (hr : ∀ b, row = some b → H b) (hv : Av H a n) : Tms w' a n ts := by
  refine ⟨h.len, h.base, fun i v hi => ?_⟩
  have hc := h.get i v hi
  have hlt := World.block_lt_of_cell? w _ hc
  have hn : 0 < n := by
    have := h.len
    rcases Nat.eq_zero_or_pos n with h0 | h0
    · rw [h0] at this; rw [List.eq_nil_of_length_eq_zero this] at hi; simp [tcs] at hi
    · exact h0
  rw [World.cell?_of_block (k.block _ hlt (fun e => hv hn (hr _ e.symm)))]
  exact hc
theorem Tms.tail {w : World} {a : Option Addr} {n c : Nat} {t : TmR} {ts : List TmR} (h : Tms w a n (t :: ts)) (hc : n ≤ c) : Tms w (subA a c 1 5) (n - 1) ts := by
  have hl := h.len
  simp at hl
  by_cases hc1 : c = 1
  · have : ts = [] := List.eq_nil_of_length_eq_zero (by omega)
    subst this
    rw [show n - 1 = 0 by simp at hl; omega]
    exact Tms.nil _ _
  · obtain ⟨p, rfl, hp⟩ := h.base (by omega)
    have e : subA (some p) c 1 5 = some (p.add 5) := by
      unfold subA; rw [if_neg hc1]; rfl
    rw [e, add_eq_addrAt hp]
    refine ⟨by omega, fun _ => ⟨_, rfl, rfl⟩, fun i v hi => ?_⟩
    have e2 : addrAt (some (addrAt (some p) 5)) i = addrAt (some p) (5 + i) := by
      show (⟨p.block, p.off + 5 + i, none⟩ : Addr) = ⟨p.block, p.off + (5 + i), none⟩
      rw [Nat.add_assoc]
    rw [e2]
    refine h.get (5 + i) v ?_
    simp only [tcs]
    rw [List.getElem?_append_right (by simp [TmR.cs])]
    simpa [TmR.cs] using hi
theorem Tms.news {w : World} {a : Option Addr} {n : Nat} {ts : List TmR} (h : Tms w a n ts) : ∀ (j : Nat) v, (tcs ts)[j]? = some v → w.cell? (addrAt a j) = some v := h.get

/-- Each term says its place and its fraction. -/
inductive TsIn (k : Nat) (H : Hd) (w : World) : List TmR → VL → Prop
  | nil : TsIn k H w [] []
  | cons {t : TmR} {p : Int × Rat} {ts : List TmR} {xs : VL} : t.at' = p.1 → InQ k H w t.x p.2 → TsIn k H w ts xs → TsIn k H w (t :: ts) (p :: xs)
theorem TsIn.length {k : Nat} {H : Hd} {w : World} {ts : List TmR} {xs : VL} (h : TsIn k H w ts xs) : ts.length = xs.length := by
  induction h with
  | nil => rfl
  | cons _ _ _ ih => simp [ih]
theorem TsIn.map {k k' : Nat} {H H' : Hd} {w w' : World} (f : ∀ {r q}, InQ k H w r q → InQ k' H' w' r q) {ts : List TmR} {xs : VL} (h : TsIn k H w ts xs) : TsIn k' H' w' ts xs := by
  induction h with
  | nil => exact .nil
  | cons h1 h2 _ ih => exact .cons h1 (f h2) ih
theorem TsIn.get {k : Nat} {H : Hd} {w : World} {ts : List TmR} {xs : VL} (h : TsIn k H w ts xs) {j : Nat} {p : Int × Rat} (hj : xs[j]? = some p) : ∃ t, ts[j]? = some t ∧ t.at' = p.1 ∧ InQ k H w t.x p.2 := by
  induction h generalizing j with
  | nil => simp at hj
  | cons h1 h2 _ ih =>
    cases j with
    | zero => simp at hj; subst hj; exact ⟨_, rfl, h1, h2⟩
    | succ j => simpa using ih (by simpa using hj)
theorem TsIn.append {k : Nat} {H : Hd} {w : World} {ts us : List TmR} {xs ys : VL} (h : TsIn k H w ts xs) (h' : TsIn k H w us ys) : TsIn k H w (ts ++ us) (xs ++ ys) := by
  induction h with
  | nil => exact h'
  | cons h1 h2 _ ih => exact .cons h1 h2 ih
/-- .. in the one form, of at most k digits. -/
inductive TsCan (k : Nat) (H : Hd) (w : World) : List TmR → VL → Prop
  | nil : TsCan k H w [] []
  | cons {t : TmR} {p : Int × Rat} {ts : List TmR} {xs : VL} : t.at' = p.1 → CanQ H w t.x p.2 → FitQ k p.2 → TsCan k H w ts xs → TsCan k H w (t :: ts) (p :: xs)
theorem TsCan.length {k : Nat} {H : Hd} {w : World} {ts : List TmR} {xs : VL} (h : TsCan k H w ts xs) : ts.length = xs.length := by
  induction h with
  | nil => rfl
  | cons _ _ _ _ ih => simp [ih]
theorem TsCan.map {k k' : Nat} {H H' : Hd} {w w' : World} (hk : k ≤ k') (f : ∀ {r q}, CanQ H w r q → CanQ H' w' r q) {ts : List TmR} {xs : VL} (h : TsCan k H w ts xs) : TsCan k' H' w' ts xs := by
  induction h with
  | nil => exact .nil
  | cons h1 h2 h3 _ ih => exact .cons h1 (f h2) (h3.mono hk) ih
theorem TsCan.snoc {k : Nat} {H : Hd} {w : World} {ts : List TmR} {xs : VL} (h : TsCan k H w ts xs) {t : TmR} {p : Int × Rat} (h1 : t.at' = p.1) (h2 : CanQ H w t.x p.2) (h3 : FitQ k p.2) : TsCan k H w (ts ++ [t]) (xs ++ [p]) := by
  induction h with
  | nil => exact .cons h1 h2 h3 .nil
  | cons a b c _ ih => exact .cons a b c ih
theorem TsCan.inq {k : Nat} {H : Hd} {w : World} {ts : List TmR} {xs : VL} (h : TsCan k H w ts xs) (hk : k ≤ 1099511627776) : TsIn k H w ts xs := by
  induction h with
  | nil => exact .nil
  | cons h1 h2 h3 _ ih => exact .cons h1 (h2.inq h3 hk) ih

/-! ### worlds that grow but for a row -/
section
variable {H H' : Hd} {w w' : World} {row : Option Nat}
theorem Words.grow {a : Option Addr} {n : Nat} {L : List Nat} (h : Words w a n L) (k : w.grownBy w' row) (hr : ∀ b, row = some b → H b) (hv : Av H a n) : Words w' a n L := by
  refine ⟨h.len, h.base, fun j x hj => ?_, h.lt⟩
  have hc := h.get j x hj
  have hlt := World.block_lt_of_cell? w _ hc
  have hn : 0 < n := by
    have := h.len
    rcases Nat.eq_zero_or_pos n with h0 | h0
    · rw [h0] at this; rw [List.eq_nil_of_length_eq_zero this] at hj; simp at hj
    · exact h0
  rw [World.cell?_of_block (k.block _ hlt (fun e => hv hn (hr _ e.symm)))]
  exact hc
theorem Av.to {a : Option Addr} {n : Nat} {L : List Nat} (h : Av H a n) (hw : Words w a n L) (hH : ∀ b, H' b → H b ∨ w.heap.size ≤ b) : Av H' a n := by
  intro hn hb
  rcases hH _ hb with hb | hb
  · exact h hn hb
  · have := hw.lt_size hn; omega
theorem CanI.grow {r : IntR} {z : Int} (h : CanI H w r z) (k : w.grownBy w' row) (hr : ∀ b, row = some b → H b) : CanI H w' r z := ⟨h.neg, h.words.grow k hr h.av, h.nc, h.cm, h.av⟩
theorem CanI.to {r : IntR} {z : Int} (h : CanI H w r z) (hH : ∀ b, H' b → H b ∨ w.heap.size ≤ b) : CanI H' w r z := ⟨h.neg, h.words, h.nc, h.cm, h.av.to h.words hH⟩
theorem CanQ.grow {r : RatR} {q : Rat} (h : CanQ H w r q) (k : w.grownBy w' row) (hr : ∀ b, row = some b → H b) : CanQ H w' r q := ⟨h.num.grow k hr, h.den.grow k hr⟩
theorem CanQ.to {r : RatR} {q : Rat} (h : CanQ H w r q) (hH : ∀ b, H' b → H b ∨ w.heap.size ≤ b) : CanQ H' w r q := ⟨h.num.to hH, h.den.to hH⟩
theorem IsI.grow {r : IntR} {z : Int} (h : IsI H w r z) (k : w.grownBy w' row) (hr : ∀ b, row = some b → H b) : IsI H w' r z := by
  obtain ⟨⟨L, h1, h2⟩, h3, h4, h5, h6⟩ := h
  exact ⟨⟨L, h1.grow k hr h6, h2⟩, h3, h4, h5, h6⟩
theorem IsI.to {r : IntR} {z : Int} (h : IsI H w r z) (hH : ∀ b, H' b → H b ∨ w.heap.size ≤ b) : IsI H' w r z := by
  obtain ⟨⟨L, h1, h2⟩, h3, h4, h5, h6⟩ := h
  exact ⟨⟨L, h1, h2⟩, h3, h4, h5, h6.to h1 hH⟩
theorem IsQ.grow {r : RatR} {q : Rat} (h : IsQ H w r q) (k : w.grownBy w' row) (hr : ∀ b, row = some b → H b) : IsQ H w' r q := by
  obtain ⟨n, d, h1, h2, h3⟩ := h
  exact ⟨n, d, h1.grow k hr, h2.grow k hr, h3⟩
theorem IsQ.to {r : RatR} {q : Rat} (h : IsQ H w r q) (hH : ∀ b, H' b → H b ∨ w.heap.size ≤ b) : IsQ H' w r q := by
  obtain ⟨n, d, h1, h2, h3⟩ := h
  exact ⟨n, d, h1.to hH, h2.to hH, h3⟩
theorem InQ.grow {k : Nat} {r : RatR} {q : Rat} (h : InQ k H w r q) (e : w.grownBy w' row) (hr : ∀ b, row = some b → H b) : InQ k H w' r q := ⟨h.is.grow e hr, h.num, h.den⟩
theorem InQ.to {k : Nat} {r : RatR} {q : Rat} (h : InQ k H w r q) (hH : ∀ b, H' b → H b ∨ w.heap.size ≤ b) : InQ k H' w r q := ⟨h.is.to hH, h.num, h.den⟩
end

/-! ### vectors that come in, and that go out -/
structure InV (k : Nat) (H : Hd) (w : World) (r : SlR) (xs : VL) : Prop where
  ts : ∃ ts, Tms w r.a r.n ts ∧ TsIn k H w ts xs
  nc : r.n ≤ r.c
  cm : r.c ≤ 9223372036854775807
  av : Av H r.a r.n
structure CanV (k : Nat) (H : Hd) (w : World) (r : SlR) (xs : VL) : Prop where
  ts : ∃ ts, Tms w r.a r.n ts ∧ TsCan k H w ts xs
  nc : r.n ≤ r.c
  cm : r.c ≤ 9223372036854775807
  av : Av H r.a r.n
section
variable {k k' : Nat} {H H' : Hd} {w w' : World} {r : SlR} {xs : VL}
theorem InV.len (h : InV k H w r xs) : r.n = xs.length := by
  obtain ⟨⟨ts, h1, h2⟩, _⟩ := h
  rw [← h1.len, h2.length]
theorem CanV.len (h : CanV k H w r xs) : r.n = xs.length := by
  obtain ⟨⟨ts, h1, h2⟩, _⟩ := h
  rw [← h1.len, h2.length]
theorem CanV.inv (h : CanV k H w r xs) (hk : k ≤ 1099511627776) : InV k H w r xs := by
  obtain ⟨⟨ts, h1, h2⟩, h3, h4, h5⟩ := h
  exact ⟨⟨ts, h1, h2.inq hk⟩, h3, h4, h5⟩
theorem InV.ext (h : InV k H w r xs) (e : Ext w w') : InV k H w' r xs := by
  obtain ⟨⟨ts, h1, h2⟩, h3, h4, h5⟩ := h
  exact ⟨⟨ts, h1.ext e, h2.map fun h => h.ext e⟩, h3, h4, h5⟩
theorem CanV.ext (h : CanV k H w r xs) (e : Ext w w') : CanV k H w' r xs := by
  obtain ⟨⟨ts, h1, h2⟩, h3, h4, h5⟩ := h
  exact ⟨⟨ts, h1.ext e, h2.map (Nat.le_refl _) fun h => h.ext e⟩, h3, h4, h5⟩
theorem Tms.avTo {a : Option Addr} {n : Nat} {ts : List TmR} (h : Tms w a n ts) (hv : Av H a n) (hH : ∀ b, H' b → H b ∨ w.heap.size ≤ b) : Av H' a n := by
  intro hn hb
  rcases hH _ hb with hb | hb
  · exact hv hn hb
  · have := h.lt_size hn; omega
theorem InV.to (h : InV k H w r xs) (hH : ∀ b, H' b → H b ∨ w.heap.size ≤ b) : InV k H' w r xs := by
  obtain ⟨⟨ts, h1, h2⟩, h3, h4, h5⟩ := h
  exact ⟨⟨ts, h1, h2.map fun h => h.to hH⟩, h3, h4, h1.avTo h5 hH⟩
theorem CanV.to (h : CanV k H w r xs) (hH : ∀ b, H' b → H b ∨ w.heap.size ≤ b) : CanV k H' w r xs := by
  obtain ⟨⟨ts, h1, h2⟩, h3, h4, h5⟩ := h
  exact ⟨⟨ts, h1, h2.map (Nat.le_refl _) fun h => h.to hH⟩, h3, h4, h1.avTo h5 hH⟩
theorem upTo : ∀ b, upH H w w' b → H b ∨ w.heap.size ≤ b := fun b h => h.elim .inl fun h => .inr h.1
theorem InV.up (h : InV k H w r xs) (e : Ext w w') : InV k (upH H w w') w' r xs := (h.to upTo).ext e
theorem CanV.up (h : CanV k H w r xs) (e : Ext w w') : CanV k (upH H w w') w' r xs := (h.to upTo).ext e
theorem InV.less {u u' : World} (h : InV k (upH H u u') w r xs) : InV k H w r xs := h.to fun b hb => .inl (.inl hb)
theorem CanV.less {u u' : World} (h : CanV k (upH H u u') w r xs) : CanV k H w r xs := h.to fun b hb => .inl (.inl hb)
theorem InV.grow {row : Option Nat} (h : InV k H w r xs) (e : w.grownBy w' row) (hr : ∀ b, row = some b → H b) : InV k H w' r xs := by
  obtain ⟨⟨ts, h1, h2⟩, h3, h4, h5⟩ := h
  exact ⟨⟨ts, h1.grow e hr h5, h2.map fun h => h.grow e hr⟩, h3, h4, h5⟩
theorem CanV.grow {row : Option Nat} (h : CanV k H w r xs) (e : w.grownBy w' row) (hr : ∀ b, row = some b → H b) : CanV k H w' r xs := by
  obtain ⟨⟨ts, h1, h2⟩, h3, h4, h5⟩ := h
  exact ⟨⟨ts, h1.grow e hr h5, h2.map (Nat.le_refl _) fun h => h.grow e hr⟩, h3, h4, h5⟩
theorem InV.mono (h : InV k H w r xs) (hk : k ≤ k') : InV k' H w r xs := by
  obtain ⟨⟨ts, h1, h2⟩, h3, h4, h5⟩ := h
  exact ⟨⟨ts, h1, h2.map fun h => h.mono hk⟩, h3, h4, h5⟩
theorem CanV.mono (h : CanV k H w r xs) (hk : k ≤ k') : CanV k' H w r xs := by
  obtain ⟨⟨ts, h1, h2⟩, h3, h4, h5⟩ := h
  exact ⟨⟨ts, h1, h2.map hk fun h => h⟩, h3, h4, h5⟩
theorem InV.stable : Stable (fun w => InV k H w r xs) := fun _ _ h e => h.ext e
theorem CanV.stable : Stable (fun w => CanV k H w r xs) := fun _ _ h e => h.ext e
theorem InV.tail {p : Int × Rat} (h : InV k H w r (p :: xs)) : InV k H w ⟨subA r.a r.c 1 5, r.n - 1, r.c - 1⟩ xs := by
  obtain ⟨⟨ts, h1, h2⟩, h3, h4, h5⟩ := h
  cases h2 with
  | cons a b c =>
    have ht := h1.tail h3
    refine ⟨⟨_, ht, c⟩, Nat.sub_le_sub_right h3 1, by show r.c - 1 ≤ _; omega, fun hn => ?_⟩
    have hn : 0 < r.n - 1 := hn
    have e : Tw.blk (subA r.a r.c 1 5) = Tw.blk r.a := by
      unfold subA
      split
      · rfl
      · cases hra : r.a with
        | none => rfl
        | some q =>
          obtain ⟨_, hq, hs⟩ := h1.base (by omega)
          rw [hra] at hq
          cases hq
          rw [Option.map_some, add_eq_addrAt hs]; rfl
    show ¬ H (Tw.blk (subA r.a r.c 1 5))
    rw [e]; exact h5 (by omega)
end
theorem InV.nil (k : Nat) (H : Hd) (w : World) : InV k H w ⟨none, 0, 0⟩ [] := ⟨⟨[], Tms.nil _ _, .nil⟩, Nat.le_refl _, by show 0 ≤ _; omega, fun h => absurd h (Nat.lt_irrefl 0)⟩
theorem CanV.nil (k : Nat) (H : Hd) (w : World) : CanV k H w ⟨none, 0, 0⟩ [] := ⟨⟨[], Tms.nil _ _, .nil⟩, Nat.le_refl _, by show 0 ≤ _; omega, fun h => absurd h (Nat.lt_irrefl 0)⟩

/-! ### a vector that is built by a call -/
/-- With the row of a slice. -/
def rowH (H : Hd) (v : Value) : Hd := fun b => H b ∨ v.ownBlock = some b
structure Acc (k : Nat) (H : Hd) (base e : Nat) (w : World) (s : SlR) (zs : VL) : Prop where
  ts : ∃ ts, w.ownsRow base e 5 s.v zs.length (tcs ts) ∧ TsCan k (rowH H s.v) w ts zs
  n : s.n = zs.length
theorem owns_tms {w : World} {base e n : Nat} {s : SlR} {ts : List TmR} (h : w.ownsRow base e 5 s.v n (tcs ts)) (hn : s.n = n) : Tms w s.a s.n ts ∧ s.n ≤ s.c ∧ s.c ≤ 9223372036854775807 ∧ (0 < s.n → base ≤ Tw.blk s.a) := by
  obtain ⟨hl, h⟩ := h
  rw [tcs_length] at hl
  rcases h with ⟨he, h0⟩ | ⟨g, cap, cur, he, hg, hb, hnc, hcm, hcs, htk⟩
  · simp only [SlR.v, Value.slice.injEq] at he
    have : ts = [] := List.eq_nil_of_length_eq_zero (by omega)
    subst this
    rw [show s.n = 0 by omega]
    exact ⟨Tms.nil _ _, by omega, by omega, fun h => by omega⟩
  · simp only [SlR.v, Value.slice.injEq] at he
    refine ⟨⟨by omega, fun _ => ⟨_, he.1, rfl⟩, fun i v hi => ?_⟩, by omega, by unfold maxLen at hcm; omega, fun _ => by rw [he.1]; exact hg⟩
    rw [he.1]
    rw [← htk, List.getElem?_take] at hi
    split at hi
    · show w.cell? ⟨g, 0 + i, none⟩ = _
      simp only [World.cell?, hb, Nat.zero_add]
      simpa using hi
    · cases hi
theorem Acc.ext {k : Nat} {H : Hd} {base e : Nat} {w w' : World} {s : SlR} {zs : VL} (h : Acc k H base e w s zs) (x : Ext w w') : Acc k H base e w' s zs := by
  obtain ⟨⟨ts, h1, h2⟩, h3⟩ := h
  refine ⟨⟨ts, ?_, h2.map (Nat.le_refl _) fun h => h.ext x⟩, h3⟩
  obtain ⟨hl, h⟩ := h1
  refine ⟨hl, ?_⟩
  rcases h with h | ⟨g, cap, cur, he, hg, hb, h⟩
  · exact .inl h
  · refine .inr ⟨g, cap, cur, he, hg, ?_, h⟩
    have hlt : g < w.heap.size := by
      rcases Nat.lt_or_ge g w.heap.size with h' | h'
      · exact h'
      · rw [Array.getElem?_eq_none h'] at hb; cases hb
    rw [x.block g hlt]; exact hb
theorem Acc.out {k : Nat} {H : Hd} {base e : Nat} {w : World} {s : SlR} {zs : VL} (h : Acc k H base e w s zs) (hH : ∀ b, H b → b < base) : CanV k H w s zs := by
  obtain ⟨⟨ts, h1, h2⟩, h3⟩ := h
  obtain ⟨a, b, c, d⟩ := owns_tms h1 h3
  exact ⟨⟨ts, a, h2.map (Nat.le_refl _) fun h => h.to fun b hb => .inl (.inl hb)⟩, b, c, fun hn hb => by have := hH _ hb; have := d hn; omega⟩
theorem Acc.nil (k : Nat) (H : Hd) (base e : Nat) (w : World) : Acc k H base e w ⟨none, 0, 0⟩ [] := ⟨⟨[], ⟨rfl, .inl ⟨rfl, rfl⟩⟩, .nil⟩, rfl⟩
theorem Acc.push {k : Nat} {H : Hd} {base e : Nat} {w w' : World} {s : SlR} {zs ts0} {v' : Value} {t : TmR} {p : Int × Rat} (h1 : w.ownsRow base e 5 s.v (zs : VL).length (tcs ts0)) (h2 : TsCan k (rowH H s.v) w ts0 zs)
    (ho : w'.ownsRow base e 5 v' (zs.length + 1) (tcs ts0 ++ t.cs)) (hg : w.grownBy w' s.v.ownBlock) (hn : rowNew w s.v v') (ht : t.at' = p.1) (hq : CanQ (rowH H s.v) w t.x p.2) (hf : FitQ k p.2) :
    ∃ s' : SlR, v' = s'.v ∧ Acc k H base e w' s' (zs ++ [p]) := by
  have hv : ∃ s' : SlR, v' = s'.v ∧ s'.n = zs.length + 1 := by
    rcases ho.2 with ⟨rfl, h0⟩ | ⟨g, cap, cur, rfl, _⟩
    · omega
    · exact ⟨⟨_, _, _⟩, rfl, rfl⟩
  obtain ⟨s', rfl, hs'⟩ := hv
  have hto : ∀ b, (rowH H s.v b ∨ rowH H s'.v b) → rowH H s.v b ∨ w.heap.size ≤ b := by
    intro b hb
    rcases hb with hb | hb | hb
    · exact .inl hb
    · exact .inl (.inl hb)
    · rcases hn with hn | hn
      · exact .inl (.inr (by rw [← hn]; exact hb))
      · exact .inr (hn b hb)
  have mv : ∀ {r : RatR} {q : Rat}, CanQ (rowH H s.v) w r q → CanQ (rowH H s'.v) w' r q := fun h => ((h.to (H' := fun b => rowH H s.v b ∨ rowH H s'.v b) hto).grow hg (fun b hb => .inl (.inr hb))).to fun b hb => .inl (.inr hb)
  refine ⟨s', rfl, ⟨⟨ts0 ++ [t], ?_, ?_⟩, by rw [hs', List.length_append]; rfl⟩⟩
  · rw [tcs_append, tcs_one, List.length_append]; exact ho
  · exact TsCan.snoc (h2.map (Nat.le_refl _) mv) ht (mv hq) hf
end Go.Tw
/-
  Rows of terms put in order, in plain lists; and terms loaded and stored. Helpers; no statement of the program is proved here.
-/
set_option maxRecDepth 100000
set_option linter.unusedSimpArgs false
set_option linter.unusedVariables false
namespace Go.Tw
open Go Go.RowKit

instance : Inhabited TmR := ⟨⟨0, RatR.zero⟩⟩
def ky (ts : List TmR) (j : Nat) : Int := (ts.getD j default).at'
theorem getD_some {ts : List TmR} {j : Nat} (h : j < ts.length) : ts[j]? = some (ts.getD j default) := by
  rw [List.getD_eq_getElem?_getD, List.getElem?_eq_getElem h]; rfl
/-- The first m are in order. -/
def SP (ts : List TmR) (m : Nat) : Prop := ∀ p q, p < q → q < m → ky ts p ≤ ky ts q
/-- Two neighbours exchanged. -/
def swp (ts : List TmR) (j : Nat) : List TmR := (ts.set (j + 1) (ts.getD j default)).set j (ts.getD (j + 1) default)
theorem swp_length (ts : List TmR) (j : Nat) : (swp ts j).length = ts.length := by simp [swp]
theorem ky_swp {ts : List TmR} {j : Nat} (h : j + 1 < ts.length) (k : Nat) : ky (swp ts j) k = if k = j then ky ts (j + 1) else if k = j + 1 then ky ts j else ky ts k := by
  unfold ky swp
  by_cases h1 : k = j
  · subst h1
    rw [if_pos rfl, List.getD_eq_getElem?_getD, List.getElem?_set_self (by rw [List.length_set]; omega)]; rfl
  · rw [if_neg h1, List.getD_eq_getElem?_getD, List.getElem?_set_ne (fun e => h1 e.symm)]
    by_cases h2 : k = j + 1
    · subst h2
      rw [if_pos rfl, List.getElem?_set_self h]; rfl
    · rw [if_neg h2, List.getElem?_set_ne (fun e => h2 e.symm), ← List.getD_eq_getElem?_getD]
theorem swp_perm {ts : List TmR} {j : Nat} (h : j + 1 < ts.length) : (swp ts j).Perm ts := by
  have e1 : ts = ts.take j ++ (ts.getD j default :: ts.getD (j + 1) default :: ts.drop (j + 2)) := by
    apply List.ext_getElem?
    intro k
    have lt : (ts.take j).length = j := by rw [List.length_take]; omega
    rcases Nat.lt_or_ge k j with hk | hk
    · rw [List.getElem?_append_left (by omega), List.getElem?_take_of_lt hk]
    · rw [List.getElem?_append_right (by omega), lt]
      obtain ⟨i, rfl⟩ : ∃ i, k = j + i := ⟨k - j, by omega⟩
      rw [Nat.add_sub_cancel_left]
      match i with
      | 0 => simp [List.getD_eq_getElem?_getD]; rw [List.getElem?_eq_getElem (by omega)]; rfl
      | 1 => simp [List.getD_eq_getElem?_getD]; rw [List.getElem?_eq_getElem (by omega)]; rfl
      | i + 2 => simp [List.getElem?_drop]; congr 1; omega
  have e2 : swp ts j = ts.take j ++ (ts.getD (j + 1) default :: ts.getD j default :: ts.drop (j + 2)) := by
    have lt : (ts.take j).length = j := by rw [List.length_take]; omega
    unfold swp
    conv => lhs; rw [e1]
    generalize ts.getD j default = x
    generalize ts.getD (j + 1) default = y
    rw [List.getD_eq_getElem?_getD, List.getD_eq_getElem?_getD]
    rw [List.set_append_right _ _ (by omega), List.set_append_right _ _ (by omega), lt, Nat.sub_self, Nat.add_sub_cancel_left]
    simp only [List.set_cons_succ, List.set_cons_zero]
    rw [List.getElem?_append_right (by omega), List.getElem?_append_right (by omega), lt, Nat.sub_self, Nat.add_sub_cancel_left]
    rfl
  rw [e2]
  conv => rhs; rw [e1]
  exact List.Perm.append_left _ (List.Perm.swap ..)
/-- The inner loop of an insertion: all up to i in order, but for what stands at j, which is at most what stands behind it. -/
structure Ins (ts : List TmR) (i j : Nat) : Prop where
  le : j ≤ i
  others : ∀ p q, p < q → q ≤ i → p ≠ j → q ≠ j → ky ts p ≤ ky ts q
  behind : ∀ q, j < q → q ≤ i → ky ts j ≤ ky ts q
theorem Ins.first {ts : List TmR} {i : Nat} (h : SP ts i) : Ins ts i i := ⟨Nat.le_refl _, fun p q h1 h2 h3 h4 => h p q h1 (by omega), fun q h1 h2 => by omega⟩
theorem Ins.stop0 {ts : List TmR} {i : Nat} (h : Ins ts i 0) : SP ts (i + 1) := by
  intro p q h1 h2
  by_cases hp : p = 0
  · subst hp; exact h.behind q h1 (by omega)
  · exact h.others p q h1 (by omega) hp (by omega)
theorem Ins.stop {ts : List TmR} {i j : Nat} (h : Ins ts i (j + 1)) (hc : ky ts j ≤ ky ts (j + 1)) : SP ts (i + 1) := by
  intro p q h1 h2
  by_cases hp : p = j + 1
  · subst hp; exact h.behind q h1 (by omega)
  · by_cases hq : q = j + 1
    · subst hq
      by_cases hpj : p = j
      · subst hpj; exact hc
      · have := h.le
        exact Int.le_trans (h.others p j (by omega) (by omega) hp (by omega)) hc
    · exact h.others p q h1 (by omega) hp hq
theorem Ins.down {ts : List TmR} {i j : Nat} (h : Ins ts i (j + 1)) (hl : i < ts.length) (hc : ky ts (j + 1) < ky ts j) : Ins (swp ts j) i j := by
  have hle := h.le
  have e := ky_swp (ts := ts) (j := j) (by omega)
  refine ⟨by omega, fun p q h1 h2 h3 h4 => ?_, fun q h1 h2 => ?_⟩
  · rw [e p, e q, if_neg h3, if_neg h4]
    by_cases hp : p = j + 1
    · rw [if_pos hp, if_neg (by omega)]
      exact h.others j q (by omega) h2 (by omega) (by omega)
    · rw [if_neg hp]
      by_cases hq : q = j + 1
      · rw [if_pos hq]
        exact h.others p j (by omega) (by omega) hp (by omega)
      · rw [if_neg hq]
        exact h.others p q h1 h2 hp hq
  · rw [e j, e q, if_pos rfl, if_neg (by omega)]
    by_cases hq : q = j + 1
    · rw [if_pos hq]; omega
    · rw [if_neg hq]; exact h.behind q (by omega) h2
/-- The last one moved to its place, among the others in order: all up to i and all behind it in order, but for what stands at k. -/
structure Mv (ts : List TmR) (n i k : Nat) : Prop where
  il : i ≤ k
  kl : k < n
  others : ∀ p q, p < q → q < n → p ≠ k → q ≠ k → ky ts p ≤ ky ts q
  below : ∀ p, p < i → ky ts p ≤ ky ts k
  above : ∀ p, i ≤ p → p < n → p ≠ k → ky ts k ≤ ky ts p
theorem Mv.down {ts : List TmR} {n i k : Nat} (h : Mv ts n i (k + 1)) (hl : n ≤ ts.length) (hi : i < k + 1) : Mv (swp ts k) n i k := by
  have kl := h.kl
  have e := ky_swp (ts := ts) (j := k) (by omega)
  refine ⟨by omega, by omega, fun p q h1 h2 h3 h4 => ?_, fun p hp => ?_, fun p h1 h2 h3 => ?_⟩
  · rw [e p, e q, if_neg h3, if_neg h4]
    by_cases hp : p = k + 1
    · rw [if_pos hp, if_neg (by omega)]
      exact h.others k q (by omega) h2 (by omega) (by omega)
    · rw [if_neg hp]
      by_cases hq : q = k + 1
      · rw [if_pos hq]
        exact h.others p k (by omega) (by omega) hp (by omega)
      · rw [if_neg hq]; exact h.others p q h1 h2 hp hq
  · rw [e p, e k, if_pos rfl, if_neg (by omega), if_neg (by omega)]
    exact h.below p hp
  · rw [e p, e k, if_pos rfl, if_neg h3]
    by_cases hp : p = k + 1
    · rw [if_pos hp]; exact h.above k (by omega) (by omega) (by omega)
    · rw [if_neg hp]; exact h.above p h1 h2 hp
theorem Mv.done {ts : List TmR} {n k : Nat} (h : Mv ts n k k) : SP ts n := by
  intro p q h1 h2
  by_cases hp : p = k
  · subst hp; exact h.above q (by omega) h2 (by omega)
  · by_cases hq : q = k
    · subst hq; exact h.below p (by omega)
    · exact h.others p q h1 h2 hp hq

/-! ### terms in blocks -/
theorem splice_append (A B vs : List Value) (o : Nat) : splice (A ++ B) (A.length + o) vs = A ++ splice B o vs := by
  induction A with
  | nil => simp
  | cons a A ih =>
    rw [List.length_cons, show A.length + 1 + o = (A.length + o) + 1 by omega]
    simp only [List.cons_append, splice, ih]
theorem tcs_set {ts : List TmR} {R : List Value} {j : Nat} {t : TmR} (h : j < ts.length) : splice (tcs ts ++ R) (j * 5) t.cs = tcs (ts.set j t) ++ R := by
  induction ts generalizing j with
  | nil => simp at h
  | cons s ts ih =>
    cases j with
    | zero =>
      rw [Nat.zero_mul]
      simp [tcs, TmR.cs, splice, over]
    | succ j =>
      have := ih (j := j) (by simpa using h)
      simp only [tcs, List.set_cons_succ, List.append_assoc]
      rw [← this, show (j + 1) * 5 = s.cs.length + j * 5 by simp [TmR.cs]; omega]
      exact splice_append s.cs (tcs ts ++ R) t.cs (j * 5)
theorem Tms.blk {w : World} {g e : Nat} {ts : List TmR} {R : List Value} (h : Blk w g e (tcs ts ++ R)) : Tms w (some ⟨g, 0, none⟩) ts.length ts := by
  refine ⟨rfl, fun _ => ⟨_, rfl, rfl⟩, fun i v hi => ?_⟩
  have hlt : i < (tcs ts).length := by
    rcases Nat.lt_or_ge i (tcs ts).length with h' | h'
    · exact h'
    · rw [List.getElem?_eq_none h'] at hi; cases hi
  refine h.cell (i := 0 + i) ?_
  rw [Nat.zero_add, List.getElem?_append_left hlt]; exact hi
section
variable {T : TT} {w : World} {a : Option Addr} {n j sz ty : Nat} {ts : List TmR} {t : TmR}
theorem Tms.load (h : Tms w a n ts) (hj : ts[j]? = some t) (hk : (known (tyAt T ty) && (tyAt T ty).agg && Nat.beq 5 (tyAt T ty).size) = true) (hs : sz = 5) : LoadAt T w ty (addrAt a (j * sz)) t.v := by
  subst hs
  refine loadAgg (cs := t.cs) hk fun k u hu => ?_
  show w.cell? ((⟨Tw.blk a, ofs a + j * 5, none⟩ : Addr).add k) = _
  rw [Addr.add_lit]
  have := h.get (j * 5 + k) u (tcs_get hj hu)
  rw [← this]
  show _ = w.cell? ⟨Tw.blk a, ofs a + (j * 5 + k), none⟩
  rw [Nat.add_assoc]
theorem Tms.loadAt (h : Tms w a n ts) (hj : ts[j]? = some t) (hk : (known (tyAt T ty) && !(tyAt T ty).agg) = true) (hs : sz = 5) : LoadAt T w ty ⟨Tw.blk a, ofs a + j * sz + 0, none⟩ (.int .i64 t.at') := by
  subst hs
  exact loadScalar hk (h.get (j * 5) _ (tcs_get (k := 0) hj rfl))
theorem Tms.loadX (h : Tms w a n ts) (hj : ts[j]? = some t) (hk : (known (tyAt T ty) && (tyAt T ty).agg && Nat.beq 4 (tyAt T ty).size) = true) (hs : sz = 5) : LoadAt T w ty ⟨Tw.blk a, ofs a + j * sz + 1, none⟩ t.x.v := by
  subst hs
  refine loadAgg (cs := [.bool t.x.num.neg, .slice t.x.num.a t.x.num.n t.x.num.c, .bool t.x.den.neg, .slice t.x.den.a t.x.den.n t.x.den.c]) hk fun k u hu => ?_
  rw [Addr.add_lit]
  have := h.get (j * 5 + (k + 1)) u (tcs_get hj (by simpa [TmR.cs] using hu))
  rw [← this]
  show _ = w.cell? ⟨Tw.blk a, ofs a + (j * 5 + (k + 1)), none⟩
  congr 2; omega
end
theorem storeTm {T : TT} {w : World} {g e j sz ty : Nat} {ts : List TmR} {R : List Value} {t : TmR} (hk : (known (tyAt T ty) && Nat.beq 5 (tyAt T ty).size) = true) (hs : sz = 5) (hb : Blk w g e (tcs ts ++ R)) (hj : j < ts.length) :
    StoreOk T w ty (addrAt (some ⟨g, 0, none⟩) (j * sz)) t.v := by
  subst hs
  simp only [Bool.and_eq_true] at hk
  have h1 := (beq_iff _ _).1 hk.2
  refine storeOk (i := j * 5) (by show (⟨g, 0 + j * 5, none⟩ : Addr) = _; rw [Nat.zero_add]) ?_ hb (by rw [List.length_append, tcs_length]; omega)
  rw [hk.1, ← h1]; rfl
theorem storedTm {w w' : World} {g e j sz : Nat} {ts : List TmR} {R : List Value} {t : TmR} (h : Stored w w' (addrAt (some ⟨g, 0, none⟩) (j * sz)) t.v.cells.toList) (hs : sz = 5) (hb : Blk w g e (tcs ts ++ R)) (hj : j < ts.length) :
    Blk w' g e (tcs (ts.set j t) ++ R) ∧ w.grownBy w' (some g) := by
  subst hs
  have e1 : addrAt (some ⟨g, 0, none⟩) (j * 5) = ⟨g, j * 5, none⟩ := by show (⟨g, 0 + j * 5, none⟩ : Addr) = _; rw [Nat.zero_add]
  rw [e1] at h
  have h1 := Stored.blk h hb
  have h2 : splice (tcs ts ++ R) (j * 5) t.v.cells.toList = tcs (ts.set j t) ++ R := tcs_set hj
  rw [h2] at h1
  exact ⟨h1, (Stored.grown h).1⟩
theorem TsIn.perm {k : Nat} {H : Hd} {w : World} {ts us : List TmR} (h : us.Perm ts) : ∀ {xs : VL}, TsIn k H w ts xs → ∃ ys : VL, ys.Perm xs ∧ TsIn k H w us ys := by
  have key : ∀ {a b : List TmR}, a.Perm b → ∀ {xs : VL}, TsIn k H w a xs → ∃ ys : VL, ys.Perm xs ∧ TsIn k H w b ys := by
    intro a b hab
    induction hab with
    | nil => intro xs hx; exact ⟨xs, List.Perm.refl _, hx⟩
    | cons t _ ih =>
      intro xs hx
      cases hx with
      | cons h1 h2 h3 =>
        obtain ⟨ys, hp, hy⟩ := ih h3
        exact ⟨_, hp.cons _, .cons h1 h2 hy⟩
    | swap s t l =>
      intro xs hx
      cases hx with
      | cons h1 h2 h3 =>
        cases h3 with
        | cons h4 h5 h6 => exact ⟨_, List.Perm.swap .., .cons h4 h5 (.cons h1 h2 h6)⟩
    | trans _ _ ih1 ih2 =>
      intro xs hx
      obtain ⟨ys, hp, hy⟩ := ih1 hx
      obtain ⟨zs, hq, hz⟩ := ih2 hy
      exact ⟨zs, hq.trans hp, hz⟩
  intro xs hx
  exact key h.symm hx
theorem Acc.to {k : Nat} {H H' : Hd} {base e : Nat} {w : World} {s : SlR} {zs : VL} (h : Acc k H base e w s zs) (hH : ∀ b, H' b → H b ∨ w.heap.size ≤ b) : Acc k H' base e w s zs := by
  obtain ⟨⟨ts, h1, h2⟩, h3⟩ := h
  refine ⟨⟨ts, h1, h2.map (Nat.le_refl _) fun h => h.to fun b hb => ?_⟩, h3⟩
  rcases hb with hb | hb
  · rcases hH b hb with h | h
    · exact .inl (.inl h)
    · exact .inr h
  · exact .inl (.inr hb)
theorem Acc.grow {k : Nat} {H : Hd} {base e b : Nat} {w w' : World} {s : SlR} {zs : VL} (h : Acc k H base e w s zs) (hg : w.grownBy w' (some b)) (hb : H b) (hne : s.v.ownBlock ≠ some b) : Acc k H base e w' s zs := by
  obtain ⟨⟨ts, h1, h2⟩, h3⟩ := h
  refine ⟨⟨ts, ?_, h2.map (Nat.le_refl _) fun h => h.grow hg (fun i hi => by rw [← Option.some.inj hi]; exact .inl hb)⟩, h3⟩
  obtain ⟨hl, h⟩ := h1
  refine ⟨hl, ?_⟩
  rcases h with h | ⟨g, cap, cur, he, hge, hbl, h⟩
  · exact .inl h
  · refine .inr ⟨g, cap, cur, he, hge, ?_, h⟩
    have hlt : g < w.heap.size := by
      rcases Nat.lt_or_ge g w.heap.size with h' | h'
      · exact h'
      · rw [Array.getElem?_eq_none h'] at hbl; cases hbl
    rw [hg.block g hlt (by intro e; apply hne; rw [he]; exact e)]; exact hbl
theorem Acc.own_lt {k : Nat} {H : Hd} {base e b : Nat} {w : World} {s : SlR} {zs : VL} (h : Acc k H base e w s zs) (hb : s.v.ownBlock = some b) : b < w.heap.size ∧ base ≤ b := by
  obtain ⟨⟨ts, h1, h2⟩, h3⟩ := h
  rcases h1.2 with ⟨he, _⟩ | ⟨g, cap, cur, he, hg, hbl, _⟩
  · rw [he] at hb; simp [Value.ownBlock] at hb
  · rw [he] at hb
    simp only [Value.ownBlock, Option.some.injEq] at hb
    subst hb
    refine ⟨?_, hg⟩
    rcases Nat.lt_or_ge g w.heap.size with h' | h'
    · exact h'
    · rw [Array.getElem?_eq_none h'] at hbl; cases hbl
theorem owns_blk5 {w : World} {base e n : Nat} {v : Value} {ts : List TmR} (h : w.ownsRow base e 5 v n (tcs ts)) (hn : 0 < n) :
    ∃ g cap R, v = .slice (some ⟨g, 0, none⟩) n cap ∧ base ≤ g ∧ Blk w g e (tcs ts ++ R) ∧ n ≤ cap ∧ cap ≤ 9223372036854775807 ∧ ts.length = n := by
  obtain ⟨hl, h⟩ := h
  rw [tcs_length] at hl
  rcases h with ⟨rfl, rfl⟩ | ⟨g, cap, cur, rfl, hg, hb, hnc, hcm, hcs, htk⟩
  · omega
  · refine ⟨g, cap, cur.toList.drop (n * 5), rfl, hg, ?_, hnc, by unfold maxLen at hcm; exact hcm, by omega⟩
    unfold Blk
    rw [← htk, List.take_append_drop]
    simpa using hb
theorem owns_zero5 {w : World} {base e sz : Nat} {v : Value} {xs : List Value} (h : w.ownsRow base e sz v 0 xs) : ∃ a c, v = .slice a 0 c ∧ c ≤ 9223372036854775807 := by
  rcases h.2 with ⟨rfl, _⟩ | ⟨g, cap, cur, rfl, hg, hb, hnc, hcm, _⟩
  · exact ⟨_, _, rfl, by omega⟩
  · exact ⟨_, _, rfl, by unfold maxLen at hcm; exact hcm⟩
end Go.Tw
