/-
  Vectors as the program's values have them: rows of terms. Helpers; no statement of the program is proved here.
-/
import Derived.Test.YtlfdobjdlgebbaaK6
set_option maxRecDepth 100000
set_option linter.unusedSimpArgs false
set_option linter.unusedVariables false
namespace Go.Tw
open Go Go.RowKit

/-- The text's own order, the last one a call that writes. -/
def sqTF (i n : Nat) : List (Nat × Bool) :=
  match n with
  | 0 => [(i, true)]
  | n + 1 => (i, false) :: sqTF (i + 1) n
def sqT (n : Nat) : List (Nat × Bool) := sqTF 0 n
structure TmR where
  at' : Int
  x : RatR
def TmR.cs (t : TmR) : List Value := [.int .i64 t.at', .bool t.x.num.neg, .slice t.x.num.a t.x.num.n t.x.num.c, .bool t.x.den.neg, .slice t.x.den.a t.x.den.n t.x.den.c]
def TmR.v (t : TmR) : Value := .agg #[.int .i64 t.at', .bool t.x.num.neg, .slice t.x.num.a t.x.num.n t.x.num.c, .bool t.x.den.neg, .slice t.x.den.a t.x.den.n t.x.den.c]
/-- The cells of terms, one after the other. -/
def tcs (ts : List TmR) : List Value :=
  match ts with
  | [] => []
  | t :: ts => t.cs ++ tcs ts
theorem tcs_append (a b : List TmR) : tcs (a ++ b) = tcs a ++ tcs b := by
  induction a with
  | nil => rfl
  | cons t a ih => simp only [List.cons_append, tcs, ih, List.append_assoc]
theorem tcs_one (t : TmR) : tcs [t] = t.cs := by simp [tcs]
theorem tcs_length (ts : List TmR) : (tcs ts).length = ts.length * 5 := by
  induction ts with
  | nil => rfl
  | cons t ts ih => simp only [tcs, List.length_append, ih, List.length_cons]; simp [TmR.cs]; omega
theorem tcs_get {ts : List TmR} {j k : Nat} {t : TmR} {v : Value} (hj : ts[j]? = some t) (hk : t.cs[k]? = some v) : (tcs ts)[j * 5 + k]? = some v := by
  have hk5 : k < 5 := by
    rcases Nat.lt_or_ge k 5 with h | h
    · exact h
    · rw [List.getElem?_eq_none (by simpa [TmR.cs] using h)] at hk; cases hk
  induction ts generalizing j with
  | nil => simp at hj
  | cons s ts ih =>
    cases j with
    | zero =>
      simp at hj; subst hj
      simp only [tcs]
      rw [List.getElem?_append_left (by simpa [TmR.cs] using hk5)]
      simpa using hk
    | succ j =>
      simp only [tcs]
      rw [List.getElem?_append_right (by simp [TmR.cs]; omega)]
      have e : (j + 1) * 5 + k - s.cs.length = j * 5 + k := by simp [TmR.cs]; omega
      rw [e]
      exact ih (by simpa using hj)
theorem tcs_mem_one (ts : List TmR) : ∀ v ∈ tcs ts, v.oneCell' = true := by
  induction ts with
  | nil => intro v hv; simp [tcs] at hv
  | cons t ts ih =>
    intro v hv
    simp only [tcs, List.mem_append] at hv
    rcases hv with hv | hv
    · simp only [TmR.cs, List.mem_cons, List.not_mem_nil, or_false] at hv
      rcases hv with rfl | rfl | rfl | rfl | rfl <;> rfl
    · exact ih v hv
theorem tcs_at {ts : List TmR} {i : Nat} {v : Value} (h : (tcs ts)[i]? = some v) : ∃ t, ts[i / 5]? = some t ∧ t.cs[i % 5]? = some v := by
  induction ts generalizing i with
  | nil => simp [tcs] at h
  | cons s ts ih =>
    simp only [tcs] at h
    by_cases hi : i < 5
    · rw [List.getElem?_append_left (by simpa [TmR.cs] using hi)] at h
      exact ⟨s, by rw [Nat.div_eq_of_lt hi]; rfl, by rw [Nat.mod_eq_of_lt hi]; exact h⟩
    · rw [List.getElem?_append_right (by simp [TmR.cs]; omega)] at h
      have e : i - s.cs.length = i - 5 := rfl
      rw [e] at h
      obtain ⟨t, h1, h2⟩ := ih h
      refine ⟨t, ?_, ?_⟩
      · rw [show i / 5 = (i - 5) / 5 + 1 by omega]; exact h1
      · rw [show i % 5 = (i - 5) % 5 by omega]; exact h2

/-- Terms lie in a row. -/
structure Tms (w : World) (a : Option Addr) (n : Nat) (ts : List TmR) : Prop where
  len : ts.length = n
  base : 0 < n → okB a
  get : ∀ (i : Nat) (v : Value), (tcs ts)[i]? = some v → w.cell? (addrAt a i) = some v
theorem Tms.ext {w w' : World} {a : Option Addr} {n : Nat} {ts : List TmR} (h : Tms w a n ts) (k : Ext w w') : Tms w' a n ts := ⟨h.len, h.base, fun i v hv => k.cellEq (h.get i v hv)⟩
theorem Tms.nil (w : World) (a : Option Addr) : Tms w a 0 [] := ⟨rfl, fun h => by omega, fun i v h => by simp [tcs] at h⟩
theorem Tms.lt_size {w : World} {a : Option Addr} {n : Nat} {ts : List TmR} (h : Tms w a n ts) (hn : 0 < n) : Tw.blk a < w.heap.size := by
  have hl := h.len
  have hl2 := tcs_length ts
  have h0 : (tcs ts)[0]? = some ((tcs ts)[0]'(by omega)) := List.getElem?_eq_getElem (by omega)
  exact World.block_lt_of_cell? w _ (h.get 0 _ h0)
theorem Tms.grow {w w' : World} {a : Option Addr} {n : Nat} {ts : List TmR} {row : Option Nat} {H : Hd} (h : Tms w a n ts) (k : w.grownBy w' row) (hr : ∀ b, row = some b → H b) (hv : Av H a n) : Tms w' a n ts := by
  refine ⟨h.len, h.base, fun i v hi => ?_⟩
  have hc := h.get i v hi
  have hlt := World.block_lt_of_cell? w _ hc
  have hn : 0 < n := by
    have := h.len
    rcases Nat.eq_zero_or_pos n with h0 | h0
    · rw [h0] at this; rw [List.eq_nil_of_length_eq_zero this] at hi; simp [tcs] at hi
    · exact h0
  rw [World.cell?_of_block (k.block _ hlt (fun e => hv hn (hr _ e.symm)))]
  exact hc
theorem Tms.tail {w : World} {a : Option Addr} {n c : Nat} {t : TmR} {ts : List TmR} (h : Tms w a n (t :: ts)) (hc : n ≤ c) : Tms w (subA a c 1 5) (n - 1) ts := by
  have hl := h.len
  simp at hl
  by_cases hc1 : c = 1
  · have : ts = [] := List.eq_nil_of_length_eq_zero (by omega)
    subst this
    rw [show n - 1 = 0 by simp at hl; omega]
    exact Tms.nil _ _
  · obtain ⟨p, rfl, hp⟩ := h.base (by omega)
    have e : subA (some p) c 1 5 = some (p.add 5) := by
      unfold subA; rw [if_neg hc1]; rfl
    rw [e, add_eq_addrAt hp]
    refine ⟨by omega, fun _ => ⟨_, rfl, rfl⟩, fun i v hi => ?_⟩
    have e2 : addrAt (some (addrAt (some p) 5)) i = addrAt (some p) (5 + i) := by
      show (⟨p.block, p.off + 5 + i, none⟩ : Addr) = ⟨p.block, p.off + (5 + i), none⟩
      rw [Nat.add_assoc]
    rw [e2]
    refine h.get (5 + i) v ?_
    simp only [tcs]
    rw [List.getElem?_append_right (by simp [TmR.cs])]
    simpa [TmR.cs] using hi
theorem Tms.news {w : World} {a : Option Addr} {n : Nat} {ts : List TmR} (h : Tms w a n ts) : ∀ (j : Nat) v, (tcs ts)[j]? = some v → w.cell? (addrAt a j) = some v := h.get

/-- Each term says its place and its fraction. -/
inductive TsIn (k : Nat) (H : Hd) (w : World) : List TmR → VL → Prop
  | nil : TsIn k H w [] []
  | cons {t : TmR} {p : Int × Rat} {ts : List TmR} {xs : VL} : t.at' = p.1 → InQ k H w t.x p.2 → TsIn k H w ts xs → TsIn k H w (t :: ts) (p :: xs)
theorem TsIn.length {k : Nat} {H : Hd} {w : World} {ts : List TmR} {xs : VL} (h : TsIn k H w ts xs) : ts.length = xs.length := by
  induction h with
  | nil => rfl
  | cons _ _ _ ih => simp [ih]
theorem TsIn.map {k k' : Nat} {H H' : Hd} {w w' : World} (f : ∀ {r q}, InQ k H w r q → InQ k' H' w' r q) {ts : List TmR} {xs : VL} (h : TsIn k H w ts xs) : TsIn k' H' w' ts xs := by
  induction h with
  | nil => exact .nil
  | cons h1 h2 _ ih => exact .cons h1 (f h2) ih
theorem TsIn.get {k : Nat} {H : Hd} {w : World} {ts : List TmR} {xs : VL} (h : TsIn k H w ts xs) {j : Nat} {p : Int × Rat} (hj : xs[j]? = some p) : ∃ t, ts[j]? = some t ∧ t.at' = p.1 ∧ InQ k H w t.x p.2 := by
  induction h generalizing j with
  | nil => simp at hj
  | cons h1 h2 _ ih =>
    cases j with
    | zero => simp at hj; subst hj; exact ⟨_, rfl, h1, h2⟩
    | succ j => simpa using ih (by simpa using hj)
theorem TsIn.append {k : Nat} {H : Hd} {w : World} {ts us : List TmR} {xs ys : VL} (h : TsIn k H w ts xs) (h' : TsIn k H w us ys) : TsIn k H w (ts ++ us) (xs ++ ys) := by
  induction h with
  | nil => exact h'
  | cons h1 h2 _ ih => exact .cons h1 h2 ih
/-- .. in the one form, of at most k digits. -/
inductive TsCan (k : Nat) (H : Hd) (w : World) : List TmR → VL → Prop
  | nil : TsCan k H w [] []
  | cons {t : TmR} {p : Int × Rat} {ts : List TmR} {xs : VL} : t.at' = p.1 → CanQ H w t.x p.2 → FitQ k p.2 → TsCan k H w ts xs → TsCan k H w (t :: ts) (p :: xs)
theorem TsCan.length {k : Nat} {H : Hd} {w : World} {ts : List TmR} {xs : VL} (h : TsCan k H w ts xs) : ts.length = xs.length := by
  induction h with
  | nil => rfl
  | cons _ _ _ _ ih => simp [ih]
theorem TsCan.map {k k' : Nat} {H H' : Hd} {w w' : World} (hk : k ≤ k') (f : ∀ {r q}, CanQ H w r q → CanQ H' w' r q) {ts : List TmR} {xs : VL} (h : TsCan k H w ts xs) : TsCan k' H' w' ts xs := by
  induction h with
  | nil => exact .nil
  | cons h1 h2 h3 _ ih => exact .cons h1 (f h2) (h3.mono hk) ih
theorem TsCan.snoc {k : Nat} {H : Hd} {w : World} {ts : List TmR} {xs : VL} (h : TsCan k H w ts xs) {t : TmR} {p : Int × Rat} (h1 : t.at' = p.1) (h2 : CanQ H w t.x p.2) (h3 : FitQ k p.2) : TsCan k H w (ts ++ [t]) (xs ++ [p]) := by
  induction h with
  | nil => exact .cons h1 h2 h3 .nil
  | cons a b c _ ih => exact .cons a b c ih
theorem TsCan.inq {k : Nat} {H : Hd} {w : World} {ts : List TmR} {xs : VL} (h : TsCan k H w ts xs) (hk : k ≤ 1099511627776) : TsIn k H w ts xs := by
  induction h with
  | nil => exact .nil
  | cons h1 h2 h3 _ ih => exact .cons h1 (h2.inq h3 hk) ih

/-! ### worlds that grow but for a row -/
section
variable {H H' : Hd} {w w' : World} {row : Option Nat}
theorem Words.grow {a : Option Addr} {n : Nat} {L : List Nat} (h : Words w a n L) (k : w.grownBy w' row) (hr : ∀ b, row = some b → H b) (hv : Av H a n) : Words w' a n L := by
  refine ⟨h.len, h.base, fun j x hj => ?_, h.lt⟩
  have hc := h.get j x hj
  have hlt := World.block_lt_of_cell? w _ hc
  have hn : 0 < n := by
    have := h.len
    rcases Nat.eq_zero_or_pos n with h0 | h0
    · rw [h0] at this; rw [List.eq_nil_of_length_eq_zero this] at hj; simp at hj
    · exact h0
  rw [World.cell?_of_block (k.block _ hlt (fun e => hv hn (hr _ e.symm)))]
  exact hc
theorem Av.to {a : Option Addr} {n : Nat} {L : List Nat} (h : Av H a n) (hw : Words w a n L) (hH : ∀ b, H' b → H b ∨ w.heap.size ≤ b) : Av H' a n := by
  intro hn hb
  rcases hH _ hb with hb | hb
  · exact h hn hb
  · have := hw.lt_size hn; omega
theorem CanI.grow {r : IntR} {z : Int} (h : CanI H w r z) (k : w.grownBy w' row) (hr : ∀ b, row = some b → H b) : CanI H w' r z := ⟨h.neg, h.words.grow k hr h.av, h.nc, h.cm, h.av⟩
theorem CanI.to {r : IntR} {z : Int} (h : CanI H w r z) (hH : ∀ b, H' b → H b ∨ w.heap.size ≤ b) : CanI H' w r z := ⟨h.neg, h.words, h.nc, h.cm, h.av.to h.words hH⟩
theorem CanQ.grow {r : RatR} {q : Rat} (h : CanQ H w r q) (k : w.grownBy w' row) (hr : ∀ b, row = some b → H b) : CanQ H w' r q := ⟨h.num.grow k hr, h.den.grow k hr⟩
theorem CanQ.to {r : RatR} {q : Rat} (h : CanQ H w r q) (hH : ∀ b, H' b → H b ∨ w.heap.size ≤ b) : CanQ H' w r q := ⟨h.num.to hH, h.den.to hH⟩
theorem IsI.grow {r : IntR} {z : Int} (h : IsI H w r z) (k : w.grownBy w' row) (hr : ∀ b, row = some b → H b) : IsI H w' r z := by
  obtain ⟨⟨L, h1, h2⟩, h3, h4, h5, h6⟩ := h
  exact ⟨⟨L, h1.grow k hr h6, h2⟩, h3, h4, h5, h6⟩
theorem IsI.to {r : IntR} {z : Int} (h : IsI H w r z) (hH : ∀ b, H' b → H b ∨ w.heap.size ≤ b) : IsI H' w r z := by
  obtain ⟨⟨L, h1, h2⟩, h3, h4, h5, h6⟩ := h
  exact ⟨⟨L, h1, h2⟩, h3, h4, h5, h6.to h1 hH⟩
theorem IsQ.grow {r : RatR} {q : Rat} (h : IsQ H w r q) (k : w.grownBy w' row) (hr : ∀ b, row = some b → H b) : IsQ H w' r q := by
  obtain ⟨n, d, h1, h2, h3⟩ := h
  exact ⟨n, d, h1.grow k hr, h2.grow k hr, h3⟩
theorem IsQ.to {r : RatR} {q : Rat} (h : IsQ H w r q) (hH : ∀ b, H' b → H b ∨ w.heap.size ≤ b) : IsQ H' w r q := by
  obtain ⟨n, d, h1, h2, h3⟩ := h
  exact ⟨n, d, h1.to hH, h2.to hH, h3⟩
theorem InQ.grow {k : Nat} {r : RatR} {q : Rat} (h : InQ k H w r q) (e : w.grownBy w' row) (hr : ∀ b, row = some b → H b) : InQ k H w' r q := ⟨h.is.grow e hr, h.num, h.den⟩
theorem InQ.to {k : Nat} {r : RatR} {q : Rat} (h : InQ k H w r q) (hH : ∀ b, H' b → H b ∨ w.heap.size ≤ b) : InQ k H' w r q := ⟨h.is.to hH, h.num, h.den⟩
end

/-! ### vectors that come in, and that go out -/
structure InV (k : Nat) (H : Hd) (w : World) (r : SlR) (xs : VL) : Prop where
  ts : ∃ ts, Tms w r.a r.n ts ∧ TsIn k H w ts xs
  nc : r.n ≤ r.c
  cm : r.c ≤ 9223372036854775807
  av : Av H r.a r.n
structure CanV (k : Nat) (H : Hd) (w : World) (r : SlR) (xs : VL) : Prop where
  ts : ∃ ts, Tms w r.a r.n ts ∧ TsCan k H w ts xs
  nc : r.n ≤ r.c
  cm : r.c ≤ 9223372036854775807
  av : Av H r.a r.n
section
variable {k k' : Nat} {H H' : Hd} {w w' : World} {r : SlR} {xs : VL}
theorem InV.len (h : InV k H w r xs) : r.n = xs.length := by
  obtain ⟨⟨ts, h1, h2⟩, _⟩ := h
  rw [← h1.len, h2.length]
theorem CanV.len (h : CanV k H w r xs) : r.n = xs.length := by
  obtain ⟨⟨ts, h1, h2⟩, _⟩ := h
  rw [← h1.len, h2.length]
theorem CanV.inv (h : CanV k H w r xs) (hk : k ≤ 1099511627776) : InV k H w r xs := by
  obtain ⟨⟨ts, h1, h2⟩, h3, h4, h5⟩ := h
  exact ⟨⟨ts, h1, h2.inq hk⟩, h3, h4, h5⟩
theorem InV.ext (h : InV k H w r xs) (e : Ext w w') : InV k H w' r xs := by
  obtain ⟨⟨ts, h1, h2⟩, h3, h4, h5⟩ := h
  exact ⟨⟨ts, h1.ext e, h2.map fun h => h.ext e⟩, h3, h4, h5⟩
theorem CanV.ext (h : CanV k H w r xs) (e : Ext w w') : CanV k H w' r xs := by
  obtain ⟨⟨ts, h1, h2⟩, h3, h4, h5⟩ := h
  exact ⟨⟨ts, h1.ext e, h2.map (Nat.le_refl _) fun h => h.ext e⟩, h3, h4, h5⟩
theorem Tms.avTo {a : Option Addr} {n : Nat} {ts : List TmR} (h : Tms w a n ts) (hv : Av H a n) (hH : ∀ b, H' b → H b ∨ w.heap.size ≤ b) : Av H' a n := by
  intro hn hb
  rcases hH _ hb with hb | hb
  · exact hv hn hb
  · have := h.lt_size hn; omega
theorem InV.to (h : InV k H w r xs) (hH : ∀ b, H' b → H b ∨ w.heap.size ≤ b) : InV k H' w r xs := by
  obtain ⟨⟨ts, h1, h2⟩, h3, h4, h5⟩ := h
  exact ⟨⟨ts, h1, h2.map fun h => h.to hH⟩, h3, h4, h1.avTo h5 hH⟩
theorem CanV.to (h : CanV k H w r xs) (hH : ∀ b, H' b → H b ∨ w.heap.size ≤ b) : CanV k H' w r xs := by
  obtain ⟨⟨ts, h1, h2⟩, h3, h4, h5⟩ := h
  exact ⟨⟨ts, h1, h2.map (Nat.le_refl _) fun h => h.to hH⟩, h3, h4, h1.avTo h5 hH⟩
theorem upTo : ∀ b, upH H w w' b → H b ∨ w.heap.size ≤ b := fun b h => h.elim .inl fun h => .inr h.1
theorem InV.up (h : InV k H w r xs) (e : Ext w w') : InV k (upH H w w') w' r xs := (h.to upTo).ext e
theorem CanV.up (h : CanV k H w r xs) (e : Ext w w') : CanV k (upH H w w') w' r xs := (h.to upTo).ext e
theorem InV.less {u u' : World} (h : InV k (upH H u u') w r xs) : InV k H w r xs := h.to fun b hb => .inl (.inl hb)
theorem CanV.less {u u' : World} (h : CanV k (upH H u u') w r xs) : CanV k H w r xs := h.to fun b hb => .inl (.inl hb)
theorem InV.grow {row : Option Nat} (h : InV k H w r xs) (e : w.grownBy w' row) (hr : ∀ b, row = some b → H b) : InV k H w' r xs := by
  obtain ⟨⟨ts, h1, h2⟩, h3, h4, h5⟩ := h
  exact ⟨⟨ts, h1.grow e hr h5, h2.map fun h => h.grow e hr⟩, h3, h4, h5⟩
theorem CanV.grow {row : Option Nat} (h : CanV k H w r xs) (e : w.grownBy w' row) (hr : ∀ b, row = some b → H b) : CanV k H w' r xs := by
  obtain ⟨⟨ts, h1, h2⟩, h3, h4, h5⟩ := h
  exact ⟨⟨ts, h1.grow e hr h5, h2.map (Nat.le_refl _) fun h => h.grow e hr⟩, h3, h4, h5⟩
theorem InV.mono (h : InV k H w r xs) (hk : k ≤ k') : InV k' H w r xs := by
  obtain ⟨⟨ts, h1, h2⟩, h3, h4, h5⟩ := h
  exact ⟨⟨ts, h1, h2.map fun h => h.mono hk⟩, h3, h4, h5⟩
theorem CanV.mono (h : CanV k H w r xs) (hk : k ≤ k') : CanV k' H w r xs := by
  obtain ⟨⟨ts, h1, h2⟩, h3, h4, h5⟩ := h
  exact ⟨⟨ts, h1, h2.map hk fun h => h⟩, h3, h4, h5⟩
theorem InV.stable : Stable (fun w => InV k H w r xs) := fun _ _ h e => h.ext e
theorem CanV.stable : Stable (fun w => CanV k H w r xs) := fun _ _ h e => h.ext e
theorem InV.tail {p : Int × Rat} (h : InV k H w r (p :: xs)) : InV k H w ⟨subA r.a r.c 1 5, r.n - 1, r.c - 1⟩ xs := by
  obtain ⟨⟨ts, h1, h2⟩, h3, h4, h5⟩ := h
  cases h2 with
  | cons a b c =>
    have ht := h1.tail h3
    refine ⟨⟨_, ht, c⟩, Nat.sub_le_sub_right h3 1, by show r.c - 1 ≤ _; omega, fun hn => ?_⟩
    have hn : 0 < r.n - 1 := hn
    have e : Tw.blk (subA r.a r.c 1 5) = Tw.blk r.a := by
      unfold subA
      split
      · rfl
      · cases hra : r.a with
        | none => rfl
        | some q =>
          obtain ⟨_, hq, hs⟩ := h1.base (by omega)
          rw [hra] at hq
          cases hq
          rw [Option.map_some, add_eq_addrAt hs]; rfl
    show ¬ H (Tw.blk (subA r.a r.c 1 5))
    rw [e]; exact h5 (by omega)
end
theorem InV.nil (k : Nat) (H : Hd) (w : World) : InV k H w ⟨none, 0, 0⟩ [] := ⟨⟨[], Tms.nil _ _, .nil⟩, Nat.le_refl _, by show 0 ≤ _; omega, fun h => absurd h (Nat.lt_irrefl 0)⟩
theorem CanV.nil (k : Nat) (H : Hd) (w : World) : CanV k H w ⟨none, 0, 0⟩ [] := ⟨⟨[], Tms.nil _ _, .nil⟩, Nat.le_refl _, by show 0 ≤ _; omega, fun h => absurd h (Nat.lt_irrefl 0)⟩

/-! ### a vector that is built by a call -/
/-- With the row of a slice. -/
def rowH (H : Hd) (v : Value) : Hd := fun b => H b ∨ v.ownBlock = some b
structure Acc (k : Nat) (H : Hd) (base e : Nat) (w : World) (s : SlR) (zs : VL) : Prop where
  ts : ∃ ts, w.ownsRow base e 5 s.v zs.length (tcs ts) ∧ TsCan k (rowH H s.v) w ts zs
  n : s.n = zs.length
theorem owns_tms {w : World} {base e n : Nat} {s : SlR} {ts : List TmR} (h : w.ownsRow base e 5 s.v n (tcs ts)) (hn : s.n = n) : Tms w s.a s.n ts ∧ s.n ≤ s.c ∧ s.c ≤ 9223372036854775807 ∧ (0 < s.n → base ≤ Tw.blk s.a) := by
  obtain ⟨hl, h⟩ := h
  rw [tcs_length] at hl
  rcases h with ⟨he, h0⟩ | ⟨g, cap, cur, he, hg, hb, hnc, hcm, hcs, htk⟩
  · simp only [SlR.v, Value.slice.injEq] at he
    have : ts = [] := List.eq_nil_of_length_eq_zero (by omega)
    subst this
    rw [show s.n = 0 by omega]
    exact ⟨Tms.nil _ _, by omega, by omega, fun h => by omega⟩
  · simp only [SlR.v, Value.slice.injEq] at he
    refine ⟨⟨by omega, fun _ => ⟨_, he.1, rfl⟩, fun i v hi => ?_⟩, by omega, by unfold maxLen at hcm; omega, fun _ => by rw [he.1]; exact hg⟩
    rw [he.1]
    rw [← htk, List.getElem?_take] at hi
    split at hi
    · show w.cell? ⟨g, 0 + i, none⟩ = _
      simp only [World.cell?, hb, Nat.zero_add]
      simpa using hi
    · cases hi
theorem Acc.ext {k : Nat} {H : Hd} {base e : Nat} {w w' : World} {s : SlR} {zs : VL} (h : Acc k H base e w s zs) (x : Ext w w') : Acc k H base e w' s zs := by
  obtain ⟨⟨ts, h1, h2⟩, h3⟩ := h
  refine ⟨⟨ts, ?_, h2.map (Nat.le_refl _) fun h => h.ext x⟩, h3⟩
  obtain ⟨hl, h⟩ := h1
  refine ⟨hl, ?_⟩
  rcases h with h | ⟨g, cap, cur, he, hg, hb, h⟩
  · exact .inl h
  · refine .inr ⟨g, cap, cur, he, hg, ?_, h⟩
    have hlt : g < w.heap.size := by
      rcases Nat.lt_or_ge g w.heap.size with h' | h'
      · exact h'
      · rw [Array.getElem?_eq_none h'] at hb; cases hb
    rw [x.block g hlt]; exact hb
theorem Acc.out {k : Nat} {H : Hd} {base e : Nat} {w : World} {s : SlR} {zs : VL} (h : Acc k H base e w s zs) (hH : ∀ b, H b → b < base) : CanV k H w s zs := by
  obtain ⟨⟨ts, h1, h2⟩, h3⟩ := h
  obtain ⟨a, b, c, d⟩ := owns_tms h1 h3
  exact ⟨⟨ts, a, h2.map (Nat.le_refl _) fun h => h.to fun b hb => .inl (.inl hb)⟩, b, c, fun hn hb => by have := hH _ hb; have := d hn; omega⟩
theorem Acc.nil (k : Nat) (H : Hd) (base e : Nat) (w : World) : Acc k H base e w ⟨none, 0, 0⟩ [] := ⟨⟨[], ⟨rfl, .inl ⟨rfl, rfl⟩⟩, .nil⟩, rfl⟩
theorem Acc.push {k : Nat} {H : Hd} {base e : Nat} {w w' : World} {s : SlR} {zs ts0} {v' : Value} {t : TmR} {p : Int × Rat} (h1 : w.ownsRow base e 5 s.v (zs : VL).length (tcs ts0)) (h2 : TsCan k (rowH H s.v) w ts0 zs)
    (ho : w'.ownsRow base e 5 v' (zs.length + 1) (tcs ts0 ++ t.cs)) (hg : w.grownBy w' s.v.ownBlock) (hn : rowNew w s.v v') (ht : t.at' = p.1) (hq : CanQ (rowH H s.v) w t.x p.2) (hf : FitQ k p.2) :
    ∃ s' : SlR, v' = s'.v ∧ Acc k H base e w' s' (zs ++ [p]) := by
  have hv : ∃ s' : SlR, v' = s'.v ∧ s'.n = zs.length + 1 := by
    rcases ho.2 with ⟨rfl, h0⟩ | ⟨g, cap, cur, rfl, _⟩
    · omega
    · exact ⟨⟨_, _, _⟩, rfl, rfl⟩
  obtain ⟨s', rfl, hs'⟩ := hv
  have hto : ∀ b, (rowH H s.v b ∨ rowH H s'.v b) → rowH H s.v b ∨ w.heap.size ≤ b := by
    intro b hb
    rcases hb with hb | hb | hb
    · exact .inl hb
    · exact .inl (.inl hb)
    · rcases hn with hn | hn
      · exact .inl (.inr (by rw [← hn]; exact hb))
      · exact .inr (hn b hb)
  have mv : ∀ {r : RatR} {q : Rat}, CanQ (rowH H s.v) w r q → CanQ (rowH H s'.v) w' r q := fun h => ((h.to (H' := fun b => rowH H s.v b ∨ rowH H s'.v b) hto).grow hg (fun b hb => .inl (.inr hb))).to fun b hb => .inl (.inr hb)
  refine ⟨s', rfl, ⟨⟨ts0 ++ [t], ?_, ?_⟩, by rw [hs', List.length_append]; rfl⟩⟩
  · rw [tcs_append, tcs_one, List.length_append]; exact ho
  · exact TsCan.snoc (h2.map (Nat.le_refl _) mv) ht (mv hq) hf
end Go.Tw
/-
  Rows of terms put in order, in plain lists; and terms loaded and stored. Helpers; no statement of the program is proved here.
-/
set_option maxRecDepth 100000
set_option linter.unusedSimpArgs false
set_option linter.unusedVariables false
namespace Go.Tw
open Go Go.RowKit

instance : Inhabited TmR := ⟨⟨0, RatR.zero⟩⟩
def ky (ts : List TmR) (j : Nat) : Int := (ts.getD j default).at'
theorem getD_some {ts : List TmR} {j : Nat} (h : j < ts.length) : ts[j]? = some (ts.getD j default) := by
  rw [List.getD_eq_getElem?_getD, List.getElem?_eq_getElem h]; rfl
/-- The first m are in order. -/
def SP (ts : List TmR) (m : Nat) : Prop := ∀ p q, p < q → q < m → ky ts p ≤ ky ts q
/-- Two neighbours exchanged. -/
def swp (ts : List TmR) (j : Nat) : List TmR := (ts.set (j + 1) (ts.getD j default)).set j (ts.getD (j + 1) default)
theorem swp_length (ts : List TmR) (j : Nat) : (swp ts j).length = ts.length := by simp [swp]
theorem ky_swp {ts : List TmR} {j : Nat} (h : j + 1 < ts.length) (k : Nat) : ky (swp ts j) k = if k = j then ky ts (j + 1) else if k = j + 1 then ky ts j else ky ts k := by
  unfold ky swp
  by_cases h1 : k = j
  · subst h1
    rw [if_pos rfl, List.getD_eq_getElem?_getD, List.getElem?_set_self (by rw [List.length_set]; omega)]; rfl
  · rw [if_neg h1, List.getD_eq_getElem?_getD, List.getElem?_set_ne (fun e => h1 e.symm)]
    by_cases h2 : k = j + 1
    · subst h2
      rw [if_pos rfl, List.getElem?_set_self h]; rfl
    · rw [if_neg h2, List.getElem?_set_ne (fun e => h2 e.symm), ← List.getD_eq_getElem?_getD]
theorem swp_perm {ts : List TmR} {j : Nat} (h : j + 1 < ts.length) : (swp ts j).Perm ts := by
  have e1 : ts = ts.take j ++ (ts.getD j default :: ts.getD (j + 1) default :: ts.drop (j + 2)) := by
    apply List.ext_getElem?
    intro k
    have lt : (ts.take j).length = j := by rw [List.length_take]; omega
    rcases Nat.lt_or_ge k j with hk | hk
    · rw [List.getElem?_append_left (by omega), List.getElem?_take_of_lt hk]
    · rw [List.getElem?_append_right (by omega), lt]
      obtain ⟨i, rfl⟩ : ∃ i, k = j + i := ⟨k - j, by omega⟩
      rw [Nat.add_sub_cancel_left]
      match i with
      | 0 => simp [List.getD_eq_getElem?_getD]; rw [List.getElem?_eq_getElem (by omega)]; rfl
      | 1 => simp [List.getD_eq_getElem?_getD]; rw [List.getElem?_eq_getElem (by omega)]; rfl
      | i + 2 => simp [List.getElem?_drop]; congr 1; omega
  have e2 : swp ts j = ts.take j ++ (ts.getD (j + 1) default :: ts.getD j default :: ts.drop (j + 2)) := by
    have lt : (ts.take j).length = j := by rw [List.length_take]; omega
    unfold swp
    conv => lhs; rw [e1]
    generalize ts.getD j default = x
    generalize ts.getD (j + 1) default = y
    rw [List.getD_eq_getElem?_getD, List.getD_eq_getElem?_getD]
    rw [List.set_append_right _ _ (by omega), List.set_append_right _ _ (by omega), lt, Nat.sub_self, Nat.add_sub_cancel_left]
    simp only [List.set_cons_succ, List.set_cons_zero]
    rw [List.getElem?_append_right (by omega), List.getElem?_append_right (by omega), lt, Nat.sub_self, Nat.add_sub_cancel_left]
    rfl
  rw [e2]
  conv => rhs; rw [e1]
  exact List.Perm.append_left _ (List.Perm.swap ..)
/-- The inner loop of an insertion: all up to i in order, but for what stands at j, which is at most what stands behind it. -/
structure Ins (ts : List TmR) (i j : Nat) : Prop where
  le : j ≤ i
  others : ∀ p q, p < q → q ≤ i → p ≠ j → q ≠ j → ky ts p ≤ ky ts q
  behind : ∀ q, j < q → q ≤ i → ky ts j ≤ ky ts q
theorem Ins.first {ts : List TmR} {i : Nat} (h : SP ts i) : Ins ts i i := ⟨Nat.le_refl _, fun p q h1 h2 h3 h4 => h p q h1 (by omega), fun q h1 h2 => by omega⟩
theorem Ins.stop0 {ts : List TmR} {i : Nat} (h : Ins ts i 0) : SP ts (i + 1) := by
  intro p q h1 h2
  by_cases hp : p = 0
  · subst hp; exact h.behind q h1 (by omega)
  · exact h.others p q h1 (by omega) hp (by omega)
theorem Ins.stop {ts : List TmR} {i j : Nat} (h : Ins ts i (j + 1)) (hc : ky ts j ≤ ky ts (j + 1)) : SP ts (i + 1) := by
  intro p q h1 h2
  by_cases hp : p = j + 1
  · subst hp; exact h.behind q h1 (by omega)
  · by_cases hq : q = j + 1
    · subst hq
      by_cases hpj : p = j
      · subst hpj; exact hc
      · have := h.le
        exact Int.le_trans (h.others p j (by omega) (by omega) hp (by omega)) hc
    · exact h.others p q h1 (by omega) hp hq
theorem Ins.down {ts : List TmR} {i j : Nat} (h : Ins ts i (j + 1)) (hl : i < ts.length) (hc : ky ts (j + 1) < ky ts j) : Ins (swp ts j) i j := by
  have hle := h.le
  have e := ky_swp (ts := ts) (j := j) (by omega)
  refine ⟨by omega, fun p q h1 h2 h3 h4 => ?_, fun q h1 h2 => ?_⟩
  · rw [e p, e q, if_neg h3, if_neg h4]
    by_cases hp : p = j + 1
    · rw [if_pos hp, if_neg (by omega)]
      exact h.others j q (by omega) h2 (by omega) (by omega)
    · rw [if_neg hp]
      by_cases hq : q = j + 1
      · rw [if_pos hq]
        exact h.others p j (by omega) (by omega) hp (by omega)
      · rw [if_neg hq]
        exact h.others p q h1 h2 hp hq
  · rw [e j, e q, if_pos rfl, if_neg (by omega)]
    by_cases hq : q = j + 1
    · rw [if_pos hq]; omega
    · rw [if_neg hq]; exact h.behind q (by omega) h2
/-- The last one moved to its place, among the others in order: all up to i and all behind it in order, but for what stands at k. -/
structure Mv (ts : List TmR) (n i k : Nat) : Prop where
  il : i ≤ k
  kl : k < n
  others : ∀ p q, p < q → q < n → p ≠ k → q ≠ k → ky ts p ≤ ky ts q
  below : ∀ p, p < i → ky ts p ≤ ky ts k
  above : ∀ p, i ≤ p → p < n → p ≠ k → ky ts k ≤ ky ts p
theorem Mv.down {ts : List TmR} {n i k : Nat} (h : Mv ts n i (k + 1)) (hl : n ≤ ts.length) (hi : i < k + 1) : Mv (swp ts k) n i k := by
  have kl := h.kl
  have e := ky_swp (ts := ts) (j := k) (by omega)
  refine ⟨by omega, by omega, fun p q h1 h2 h3 h4 => ?_, fun p hp => ?_, fun p h1 h2 h3 => ?_⟩
  · rw [e p, e q, if_neg h3, if_neg h4]
    by_cases hp : p = k + 1
    · rw [if_pos hp, if_neg (by omega)]
      exact h.others k q (by omega) h2 (by omega) (by omega)
    · rw [if_neg hp]
      by_cases hq : q = k + 1
      · rw [if_pos hq]
        exact h.others p k (by omega) (by omega) hp (by omega)
      · rw [if_neg hq]; exact h.others p q h1 h2 hp hq
  · rw [e p, e k, if_pos rfl, if_neg (by omega), if_neg (by omega)]
    exact h.below p hp
  · rw [e p, e k, if_pos rfl, if_neg h3]
    by_cases hp : p = k + 1
    · rw [if_pos hp]; exact h.above k (by omega) (by omega) (by omega)
    · rw [if_neg hp]; exact h.above p h1 h2 hp
theorem Mv.done {ts : List TmR} {n k : Nat} (h : Mv ts n k k) : SP ts n := by
  intro p q h1 h2
  by_cases hp : p = k
  · subst hp; exact h.above q (by omega) h2 (by omega)
  · by_cases hq : q = k
    · subst hq; exact h.below p (by omega)
    · exact h.others p q h1 h2 hp hq

/-! ### terms in blocks -/
theorem splice_append (A B vs : List Value) (o : Nat) : splice (A ++ B) (A.length + o) vs = A ++ splice B o vs := by
  induction A with
  | nil => simp
  | cons a A ih =>
    rw [List.length_cons, show A.length + 1 + o = (A.length + o) + 1 by omega]
    simp only [List.cons_append, splice, ih]
theorem tcs_set {ts : List TmR} {R : List Value} {j : Nat} {t : TmR} (h : j < ts.length) : splice (tcs ts ++ R) (j * 5) t.cs = tcs (ts.set j t) ++ R := by
  induction ts generalizing j with
  | nil => simp at h
  | cons s ts ih =>
    cases j with
    | zero =>
      rw [Nat.zero_mul]
      simp [tcs, TmR.cs, splice, over]
    | succ j =>
      have := ih (j := j) (by simpa using h)
      simp only [tcs, List.set_cons_succ, List.append_assoc]
      rw [← this, show (j + 1) * 5 = s.cs.length + j * 5 by simp [TmR.cs]; omega]
      exact splice_append s.cs (tcs ts ++ R) t.cs (j * 5)
theorem Tms.blk {w : World} {g e : Nat} {ts : List TmR} {R : List Value} (h : Blk w g e (tcs ts ++ R)) : Tms w (some ⟨g, 0, none⟩) ts.length ts := by
  refine ⟨rfl, fun _ => ⟨_, rfl, rfl⟩, fun i v hi => ?_⟩
  have hlt : i < (tcs ts).length := by
    rcases Nat.lt_or_ge i (tcs ts).length with h' | h'
    · exact h'
    · rw [List.getElem?_eq_none h'] at hi; cases hi
  refine h.cell (i := 0 + i) ?_
  rw [Nat.zero_add, List.getElem?_append_left hlt]; exact hi
section
variable {T : TT} {w : World} {a : Option Addr} {n j sz ty : Nat} {ts : List TmR} {t : TmR}
theorem Tms.load (h : Tms w a n ts) (hj : ts[j]? = some t) (hk : (known (tyAt T ty) && (tyAt T ty).agg && Nat.beq 5 (tyAt T ty).size) = true) (hs : sz = 5) : LoadAt T w ty (addrAt a (j * sz)) t.v := by
  subst hs
  refine loadAgg (cs := t.cs) hk fun k u hu => ?_
  show w.cell? ((⟨Tw.blk a, ofs a + j * 5, none⟩ : Addr).add k) = _
  rw [Addr.add_lit]
  have := h.get (j * 5 + k) u (tcs_get hj hu)
  rw [← this]
  show _ = w.cell? ⟨Tw.blk a, ofs a + (j * 5 + k), none⟩
  rw [Nat.add_assoc]
theorem Tms.loadAt (h : Tms w a n ts) (hj : ts[j]? = some t) (hk : (known (tyAt T ty) && !(tyAt T ty).agg) = true) (hs : sz = 5) : LoadAt T w ty ⟨Tw.blk a, ofs a + j * sz + 0, none⟩ (.int .i64 t.at') := by
  subst hs
  exact loadScalar hk (h.get (j * 5) _ (tcs_get (k := 0) hj rfl))
theorem Tms.loadX (h : Tms w a n ts) (hj : ts[j]? = some t) (hk : (known (tyAt T ty) && (tyAt T ty).agg && Nat.beq 4 (tyAt T ty).size) = true) (hs : sz = 5) : LoadAt T w ty ⟨Tw.blk a, ofs a + j * sz + 1, none⟩ t.x.v := by
  subst hs
  refine loadAgg (cs := [.bool t.x.num.neg, .slice t.x.num.a t.x.num.n t.x.num.c, .bool t.x.den.neg, .slice t.x.den.a t.x.den.n t.x.den.c]) hk fun k u hu => ?_
  rw [Addr.add_lit]
  have := h.get (j * 5 + (k + 1)) u (tcs_get hj (by simpa [TmR.cs] using hu))
  rw [← this]
  show _ = w.cell? ⟨Tw.blk a, ofs a + (j * 5 + (k + 1)), none⟩
  congr 2; omega
end
theorem storeTm {T : TT} {w : World} {g e j sz ty : Nat} {ts : List TmR} {R : List Value} {t : TmR} (hk : (known (tyAt T ty) && Nat.beq 5 (tyAt T ty).size) = true) (hs : sz = 5) (hb : Blk w g e (tcs ts ++ R)) (hj : j < ts.length) :
    StoreOk T w ty (addrAt (some ⟨g, 0, none⟩) (j * sz)) t.v := by
  subst hs
  simp only [Bool.and_eq_true] at hk
  have h1 := (beq_iff _ _).1 hk.2
  refine storeOk (i := j * 5) (by show (⟨g, 0 + j * 5, none⟩ : Addr) = _; rw [Nat.zero_add]) ?_ hb (by rw [List.length_append, tcs_length]; omega)
  rw [hk.1, ← h1]; rfl
theorem storedTm {w w' : World} {g e j sz : Nat} {ts : List TmR} {R : List Value} {t : TmR} (h : Stored w w' (addrAt (some ⟨g, 0, none⟩) (j * sz)) t.v.cells.toList) (hs : sz = 5) (hb : Blk w g e (tcs ts ++ R)) (hj : j < ts.length) :
    Blk w' g e (tcs (ts.set j t) ++ R) ∧ w.grownBy w' (some g) := by
  subst hs
  have e1 : addrAt (some ⟨g, 0, none⟩) (j * 5) = ⟨g, j * 5, none⟩ := by show (⟨g, 0 + j * 5, none⟩ : Addr) = _; rw [Nat.zero_add]
  rw [e1] at h
  have h1 := Stored.blk h hb
  have h2 : splice (tcs ts ++ R) (j * 5) t.v.cells.toList = tcs (ts.set j t) ++ R := tcs_set hj
  rw [h2] at h1
  exact ⟨h1, (Stored.grown h).1⟩
theorem TsIn.perm {k : Nat} {H : Hd} {w : World} {ts us : List TmR} (h : us.Perm ts) : ∀ {xs : VL}, TsIn k H w ts xs → ∃ ys : VL, ys.Perm xs ∧ TsIn k H w us ys := by
  have key : ∀ {a b : List TmR}, a.Perm b → ∀ {xs : VL}, TsIn k H w a xs → ∃ ys : VL, ys.Perm xs ∧ TsIn k H w b ys := by
    intro a b hab
    induction hab with
    | nil => intro xs hx; exact ⟨xs, List.Perm.refl _, hx⟩
    | cons t _ ih =>
      intro xs hx
      cases hx with
      | cons h1 h2 h3 =>
        obtain ⟨ys, hp, hy⟩ := ih h3
        exact ⟨_, hp.cons _, .cons h1 h2 hy⟩
    | swap s t l =>
      intro xs hx
      cases hx with
      | cons h1 h2 h3 =>
        cases h3 with
        | cons h4 h5 h6 => exact ⟨_, List.Perm.swap .., .cons h4 h5 (.cons h1 h2 h6)⟩
    | trans _ _ ih1 ih2 =>
      intro xs hx
      obtain ⟨ys, hp, hy⟩ := ih1 hx
      obtain ⟨zs, hq, hz⟩ := ih2 hy
      exact ⟨zs, hq.trans hp, hz⟩
  intro xs hx
  exact key h.symm hx
theorem Acc.to {k : Nat} {H H' : Hd} {base e : Nat} {w : World} {s : SlR} {zs : VL} (h : Acc k H base e w s zs) (hH : ∀ b, H' b → H b ∨ w.heap.size ≤ b) : Acc k H' base e w s zs := by
  obtain ⟨⟨ts, h1, h2⟩, h3⟩ := h
  refine ⟨⟨ts, h1, h2.map (Nat.le_refl _) fun h => h.to fun b hb => ?_⟩, h3⟩
  rcases hb with hb | hb
  · rcases hH b hb with h | h
    · exact .inl (.inl h)
    · exact .inr h
  · exact .inl (.inr hb)
theorem Acc.grow {k : Nat} {H : Hd} {base e b : Nat} {w w' : World} {s : SlR} {zs : VL} (h : Acc k H base e w s zs) (hg : w.grownBy w' (some b)) (hb : H b) (hne : s.v.ownBlock ≠ some b) : Acc k H base e w' s zs := by
  obtain ⟨⟨ts, h1, h2⟩, h3⟩ := h
  refine ⟨⟨ts, ?_, h2.map (Nat.le_refl _) fun h => h.grow hg (fun i hi => by rw [← Option.some.inj hi]; exact .inl hb)⟩, h3⟩
  obtain ⟨hl, h⟩ := h1
  refine ⟨hl, ?_⟩
  rcases h with h | ⟨g, cap, cur, he, hge, hbl, h⟩
  · exact .inl h
  · refine .inr ⟨g, cap, cur, he, hge, ?_, h⟩
    have hlt : g < w.heap.size := by
      rcases Nat.lt_or_ge g w.heap.size with h' | h'
      · exact h'
      · rw [Array.getElem?_eq_none h'] at hbl; cases hbl
    rw [hg.block g hlt (by intro e; apply hne; rw [he]; exact e)]; exact hbl
theorem Acc.own_lt {k : Nat} {H : Hd} {base e b : Nat} {w : World} {s : SlR} {zs : VL} (h : Acc k H base e w s zs) (hb : s.v.ownBlock = some b) : b < w.heap.size ∧ base ≤ b := by
  obtain ⟨⟨ts, h1, h2⟩, h3⟩ := h
  rcases h1.2 with ⟨he, _⟩ | ⟨g, cap, cur, he, hg, hbl, _⟩
  · rw [he] at hb; simp [Value.ownBlock] at hb
  · rw [he] at hb
    simp only [Value.ownBlock, Option.some.injEq] at hb
    subst hb
    refine ⟨?_, hg⟩
    rcases Nat.lt_or_ge g w.heap.size with h' | h'
    · exact h'
    · rw [Array.getElem?_eq_none h'] at hbl; cases hbl
theorem owns_blk5 {w : World} {base e n : Nat} {v : Value} {ts : List TmR} (h : w.ownsRow base e 5 v n (tcs ts)) (hn : 0 < n) :
    ∃ g cap R, v = .slice (some ⟨g, 0, none⟩) n cap ∧ base ≤ g ∧ Blk w g e (tcs ts ++ R) ∧ n ≤ cap ∧ cap ≤ 9223372036854775807 ∧ ts.length = n := by
  obtain ⟨hl, h⟩ := h
  rw [tcs_length] at hl
  rcases h with ⟨rfl, rfl⟩ | ⟨g, cap, cur, rfl, hg, hb, hnc, hcm, hcs, htk⟩
  · omega
  · refine ⟨g, cap, cur.toList.drop (n * 5), rfl, hg, ?_, hnc, by unfold maxLen at hcm; exact hcm, by omega⟩
    unfold Blk
    rw [← htk, List.take_append_drop]
    simpa using hb
theorem owns_zero5 {w : World} {base e sz : Nat} {v : Value} {xs : List Value} (h : w.ownsRow base e sz v 0 xs) : ∃ a c, v = .slice a 0 c ∧ c ≤ 9223372036854775807 := by
  rcases h.2 with ⟨rfl, _⟩ | ⟨g, cap, cur, rfl, hg, hb, hnc, hcm, _⟩
  · exact ⟨_, _, rfl, by omega⟩
  · exact ⟨_, _, rfl, by unfold maxLen at hcm; exact hcm⟩
end Go.Tw
/-
  Contracts of the stable sort of terms by place, of at most 21. Helpers; no statement of the program is proved here.
-/
set_option maxRecDepth 100000
set_option linter.unusedSimpArgs false
set_option linter.unusedVariables false
namespace Go.Proofs.Ytlfdobjdlgebbaa
open Go Go.Tw Go.RowKit
attribute [local irreducible] LoadAt StoreOk Stored rawVC

theorem isNaN_ok (z : Int) (w : World) : CallS Try.prog 111 #[.int .i64 z] w fun v w' => w' = w ∧ v = .bool false := by
  refine enter ttOk mixed (args := [.int .i64 z]) Try.func111 rfl (by kernel_rfl) (by kernel_rfl) rfl ?_
  exact And.intro (fun h => absurd rfl h) (fun h => ⟨rfl, rfl⟩)
theorem Compare_ok (x y : Int) (w : World) : CallS Try.prog 81 #[.int .i64 x, .int .i64 y] w fun v w' => w' = w ∧ v = .int .i64 (cmpZ x y) := by
  refine enter ttOk mixed (args := [.int .i64 x, .int .i64 y]) Try.func81 rfl (by kernel_rfl) (by kernel_rfl) rfl ?_
  refine CallS.mono (isNaN_ok x w) ?_
  rintro _ w ⟨rfl, rfl⟩
  refine CallS.mono (isNaN_ok y w) ?_
  rintro _ w ⟨rfl, rfl⟩
  refine And.intro (fun h => ?_) (fun h => ?_)
  · exact ⟨rfl, by unfold cmpZ; rw [if_pos h]; rfl⟩
  · refine And.intro (fun h2 => ?_) (fun h2 => ?_)
    · exact ⟨rfl, by unfold cmpZ; rw [if_neg h, if_pos h2]; rfl⟩
    · exact ⟨rfl, by unfold cmpZ; rw [if_neg h, if_neg h2]; rfl⟩
theorem NormC_ok (a b : TmR) (w : World) : CallS Try.prog 80 #[a.v, b.v] w fun v w' => Ext w w' ∧ v = .int .i64 (cmpZ a.at' b.at') := by
  refine enter ttOk mixed (args := [a.v, b.v]) Try.func80 rfl (by kernel_rfl) (by kernel_rfl) rfl ?_
  intro b1 w1 hb1 b2 w2 hb2
  have hX : Blk w2 b1 77 a.cs := hb1.toBlk.ext hb2.ext
  have hY : Blk w2 b2 77 b.cs := hb2.toBlk
  refine ⟨_, hX.one (off := 0) rfl rfl, _, hY.one (off := 0) rfl rfl, ?_⟩
  refine CallS.mono (Compare_ok a.at' b.at' w2) ?_
  rintro _ w3 ⟨rfl, rfl⟩
  exact ⟨hb2.extFrom hb1.ext, rfl⟩
theorem cmpZ_lss {x y : Int} : cmpZ x y < 0 ↔ x < y := by
  unfold cmpZ
  by_cases h1 : x < y
  · simp [h1]
  · by_cases h2 : y < x <;> simp [h1, h2]
theorem ofNatI (j : Nat) (h : j ≤ 4398046511104) : ((j : Nat) : Int) = ((j + 1 : Nat) : Int) - 1 ∧ (-9223372036854775808 ≤ ((j + 1 : Nat) : Int) - 1 ∧ ((j + 1 : Nat) : Int) - 1 ≤ 9223372036854775807) := by omega
theorem sucI (j : Nat) (h : j ≤ 4398046511104) : ((j + 1 : Nat) : Int) = ((j : Nat) : Int) + 1 ∧ (-9223372036854775808 ≤ ((j : Nat) : Int) + 1 ∧ ((j : Nat) : Int) + 1 ≤ 9223372036854775807) := by omega
abbrev fnV : Value := .func (.func 80) #[] #[]
abbrev tT : Nat := 77
theorem ins_ok {w : World} {g c n b : Nat} {ts : List TmR} {R : List Value} (hB : Blk w g tT (tcs ts ++ R)) (hn : ts.length = n) (hb : b ≤ n) (hn40 : n ≤ 1099511627776) :
    CallS Try.prog 135 #[.slice (some ⟨g, 0, none⟩) n c, .int .i64 0, .int .i64 (b : Int), fnV] w fun v w' => w.grownBy w' (some g) ∧ ∃ us, us.Perm ts ∧ SP us b ∧ Blk w' g tT (tcs us ++ R) := by
  refine enter ttOk mixed (args := [.slice (some ⟨g, 0, none⟩) n c, .int .i64 0, .int .i64 (b : Int), fnV]) Try.func135 rfl (by kernel_rfl) (by kernel_rfl) rfl ?_
  refine ⟨1, by omega, ?_⟩
  refine ⟨Nat × List TmR, fun x => [(0, .slice (some ⟨g, 0, none⟩) n c), (1, .int .i64 0), (2, .int .i64 (b : Int)), (3, fnV), (8, .int .i64 ((x.1 : Nat) : Int))],
    fun x w' => w.grownBy w' (some g) ∧ Blk w' g tT (tcs x.2 ++ R) ∧ x.2.Perm ts ∧ SP x.2 x.1 ∧ 1 ≤ x.1 ∧ (x.1 ≤ b ∨ x.1 = 1), fun x _ => b - x.1,
    ⟨(1, ts), ⟨rfl, rfl, rfl, rfl, rfl, trivial⟩, Wr.refl _ _, hB, List.Perm.refl _, fun p q h1 h2 => by omega, Nat.le_refl _, .inr rfl⟩, ?_⟩
  rintro ⟨i, us⟩ w2 ⟨hg2, hB2, hP, hS, hi1, hib⟩
  dsimp only at *
  refine And.intro (fun h1 => ?_) (fun h1 => ?_)
  · have hlt : i < b := by omega
    refine ⟨Nat × List TmR, fun x => [(0, .slice (some ⟨g, 0, none⟩) n c), (1, .int .i64 0), (2, .int .i64 (b : Int)), (3, fnV), (8, .int .i64 (i : Int)), (9, .int .i64 ((x.1 : Nat) : Int))],
      fun x w' => w.grownBy w' (some g) ∧ Blk w' g tT (tcs x.2 ++ R) ∧ x.2.Perm ts ∧ Ins x.2 i x.1, fun x _ => x.1,
      ⟨(i, us), ⟨rfl, rfl, rfl, rfl, rfl, rfl, trivial⟩, hg2, hB2, hP, Ins.first hS⟩, ?_⟩
    clear hg2 hB2 hP hS
    rintro ⟨j, us⟩ w3 ⟨hg3, hB3, hP, hI⟩
    dsimp only at *
    have hlen : us.length = n := by rw [hP.length_eq, hn]
    have hjle := hI.le
    have hT2 := Tms.blk hB3
    rw [hlen] at hT2
    refine ⟨sq 17, by kernel_rfl, ?_⟩
    refine And.intro (fun h2 => ?_) (fun h2 => ?_)
    · obtain ⟨j, rfl⟩ : ∃ k, j = k + 1 := ⟨j - 1, by omega⟩
      have hj40 : j ≤ 4398046511104 := by omega
      have hj1 : j + 1 < n := by omega
      have hj0 : j < n := by omega
      have hj1' : j + 1 < us.length := by omega
      have hj0' : j < us.length := by omega
      have hil : i < us.length := by omega
      refine ⟨j + 1, ⟨rfl, hj1, ⟨_, rfl, rfl⟩⟩, _, hT2.load (ty := tT) (getD_some hj1') rfl rfl, ((j : Nat) : Int), ofNatI j hj40, j, ⟨rfl, hj0, ⟨_, rfl, rfl⟩⟩, _, hT2.load (ty := tT) (getD_some hj0') rfl rfl, ?_⟩
      refine dcallV (.int .i64 (cmpZ (ky us (j + 1)) (ky us j))) (fun w' hw _ => NormC_ok _ _ w') ?_
      refine And.intro (fun h3 => ?_) (fun h3 => ?_)
      · intro w4' hx4' _
        have hB3' := hB3.ext hx4'
        have hg3' := Wr.ext hg3 hx4'
        have hT2 := Tms.blk hB3'
        rw [hlen] at hT2
        refine ⟨sq 18, by kernel_rfl, ((j : Nat) : Int), ofNatI j hj40, ((j : Nat) : Int), ofNatI j hj40, j, ⟨rfl, hj0, ⟨_, rfl, rfl⟩⟩, _, hT2.load (ty := tT) (getD_some hj0') rfl rfl, j + 1, ⟨rfl, hj1, ⟨_, rfl, rfl⟩⟩, _, hT2.load (ty := tT) (getD_some hj1') rfl rfl, j + 1, ⟨rfl, hj1, ⟨_, rfl, rfl⟩⟩, ?_⟩
        intro w4 hx4 _
        have hB4 := hB3'.ext hx4
        refine ⟨storeTm rfl rfl hB4 hj1', ?_⟩
        intro w5 hs5
        have hS5 := storedTm hs5 rfl hB4 hj1'
        refine ⟨j, ⟨rfl, hj0, ⟨_, rfl, rfl⟩⟩, ?_⟩
        intro w6 hx6 _
        have hB6 := hS5.1.ext hx6
        have hj0'' : j < (List.set us (j + 1) (us.getD j default)).length := by rw [List.length_set]; exact hj0'
        refine ⟨storeTm rfl rfl hB6 hj0'', ?_⟩
        intro w7 hs7
        have hS7 := storedTm hs7 rfl hB6 hj0''
        intro w8 hx8 _
        have hB8 : Blk w8 g tT (tcs (swp us j) ++ R) := hS7.1.ext hx8
        have hg8 := Wr.ext (Wr.trans (Wr.ext (Wr.trans (Wr.ext hg3' hx4) hS5.2) hx6) hS7.2) hx8
        refine ⟨((j : Nat) : Int), ofNatI j hj40, (j, swp us j), ⟨rfl, rfl, rfl, rfl, rfl, rfl, trivial⟩, ⟨hg8, hB8, (swp_perm hj1').trans hP, hI.down hil (cmpZ_lss.1 h3)⟩, Nat.lt_succ_self j⟩
      · intro w4 hx4 _
        exact ⟨((i + 1 : Nat) : Int), sucI i (by omega), (i + 1, us), ⟨rfl, rfl, rfl, rfl, rfl, trivial⟩, ⟨Wr.ext hg3 hx4, hB3.ext hx4, hP, hI.stop (Int.not_lt.1 (fun h => h3 (cmpZ_lss.2 h))), by show 1 ≤ i + 1; omega, .inl hlt⟩, Nat.sub_lt_sub_left hlt (Nat.lt_succ_self i)⟩
    · have hj0 : j = 0 := by omega
      rw [hj0] at hI
      intro w4 hx4 _
      exact ⟨((i + 1 : Nat) : Int), sucI i (by omega), (i + 1, us), ⟨rfl, rfl, rfl, rfl, rfl, trivial⟩, ⟨Wr.ext hg3 hx4, hB3.ext hx4, hP, hI.stop0, by show 1 ≤ i + 1; omega, .inl hlt⟩, Nat.sub_lt_sub_left hlt (Nat.lt_succ_self i)⟩
  · exact ⟨hg2, us, hP, fun p q hp hq => hS p q hp (by omega), hB2⟩
end Go.Proofs.Ytlfdobjdlgebbaa
/-
  Contracts of the stable sort of terms by place, of at most 21, second part. Helpers; no statement of the program is proved here.
-/
set_option maxRecDepth 100000
set_option linter.unusedSimpArgs false
set_option linter.unusedVariables false
namespace Go.Proofs.Ytlfdobjdlgebbaa
open Go Go.Tw Go.RowKit
attribute [local irreducible] LoadAt StoreOk Stored rawVC

theorem insNone_ok {w : World} {s : Value} {a b : Nat} (hab : b ≤ a + 1) (ha : a ≤ 1099511627776) :
    CallS Try.prog 135 #[s, .int .i64 (a : Int), .int .i64 (b : Int), fnV] w fun v w' => w' = w := by
  refine enter ttOk mixed (args := [s, .int .i64 (a : Int), .int .i64 (b : Int), fnV]) Try.func135 rfl (by kernel_rfl) (by kernel_rfl) rfl ?_
  refine ⟨((a + 1 : Nat) : Int), by omega, ?_⟩
  refine ⟨Unit, fun x => [(0, s), (1, .int .i64 (a : Int)), (2, .int .i64 (b : Int)), (3, fnV), (8, .int .i64 ((a + 1 : Nat) : Int))], fun _ w' => w' = w, fun _ _ => 0, ⟨(), ⟨rfl, rfl, rfl, rfl, rfl, trivial⟩, rfl⟩, ?_⟩
  rintro _ w2 rfl
  refine And.intro (fun h1 => ?_) (fun h1 => ?_)
  · omega
  · rfl
theorem midI (a b : Nat) (h : a + b ≤ 4398046511104) : (((a + b) / 2 ^ 1 : Nat) : Int) = (((((a + b) / 2 ^ 1 : Nat) : Int) + 9223372036854775808) % 18446744073709551616 - 9223372036854775808) := by omega
structure BS (us : List TmR) (m lo hi : Nat) : Prop where
  lh : lo ≤ hi
  hm : hi ≤ m
  below : ∀ p, p < lo → ky us p ≤ ky us m
  above : ∀ p, hi ≤ p → p < m → ky us m ≤ ky us p
theorem BS.up {us : List TmR} {m lo hi h : Nat} (b : BS us m lo hi) (hs : SP us m) (h1 : h < hi) (h2 : lo ≤ h) (hc : ¬ ky us m < ky us h) : BS us m (h + 1) hi := by
  have := b.hm
  refine ⟨h1, b.hm, fun p hp => ?_, b.above⟩
  by_cases hph : p = h
  · subst hph; omega
  · have := hs p h (by omega) (by omega); omega
theorem BS.dn {us : List TmR} {m lo hi h : Nat} (b : BS us m lo hi) (hs : SP us m) (h1 : h < hi) (h2 : lo ≤ h) (hc : ky us m < ky us h) : BS us m lo h := by
  have := b.hm
  refine ⟨h2, by omega, b.below, fun p hp hp2 => ?_⟩
  by_cases hph : p = h
  · subst hph; omega
  · have := hs h p (by omega) hp2; omega
theorem BS.mv {us : List TmR} {m i : Nat} (b : BS us m i i) (hs : SP us m) : Mv us (m + 1) i m :=
  ⟨b.hm, Nat.lt_succ_self m, fun p q h1 h2 h3 h4 => hs p q h1 (by omega), b.below, fun p h1 h2 h3 => b.above p h1 (by omega)⟩
theorem mid1 {a b : Nat} (h : a < b) : a ≤ (a + b) / 2 ^ 1 ∧ (a + b) / 2 ^ 1 < b := by omega
theorem exSucc {k lo : Nat} (h : (k : Int) > (lo : Int)) : ∃ j, k = j + 1 := ⟨k - 1, by omega⟩
theorem subLt1 {a k b : Nat} (h1 : a ≤ k) (h2 : k < b) : k - a < b - a := by omega
theorem subLt2 {a k b : Nat} (h1 : a ≤ k) (h2 : k < b) : b - (k + 1) < b - a := by omega
theorem midL {a b : Nat} (h : a < b) (hb : a + b ≤ 4398046511104) : ∃ k : Nat, a ≤ k ∧ k < b ∧ (k : Int) = shrZ .u64 ((a + b : Nat) : Int) 1 ∧ (k : Int) = (((k : Int) + 9223372036854775808) % 18446744073709551616 - 9223372036854775808) ∧
    (((a + b : Nat) : Int) = (a : Int) + (b : Int) ∧ (-9223372036854775808 ≤ (a : Int) + (b : Int) ∧ (a : Int) + (b : Int) ≤ 9223372036854775807)) ∧ ((a + b : Nat) : Int) = ((a + b : Nat) : Int) % 18446744073709551616 :=
  ⟨(a + b) / 2 ^ 1, (mid1 h).1, (mid1 h).2, (shrZn _ 1 (by omega)).symm, midI a b hb, by omega, by omega⟩
theorem merge_ok {w : World} {g c m : Nat} {us : List TmR} {R : List Value} (hB : Blk w g tT (tcs us ++ R)) (hn : us.length = m + 1) (hS : SP us m) (hm : 2 ≤ m) (hm40 : m ≤ 1099511627776) :
    CallS Try.prog 136 #[.slice (some ⟨g, 0, none⟩) (m + 1) c, .int .i64 0, .int .i64 (m : Int), .int .i64 ((m + 1 : Nat) : Int), fnV] w fun v w' => w.grownBy w' (some g) ∧ ∃ vs, vs.Perm us ∧ SP vs (m + 1) ∧ Blk w' g tT (tcs vs ++ R) := by
  refine enter ttOk mixed (args := [.slice (some ⟨g, 0, none⟩) (m + 1) c, .int .i64 0, .int .i64 (m : Int), .int .i64 ((m + 1 : Nat) : Int), fnV]) Try.func136 rfl (by kernel_rfl) (by kernel_rfl) rfl ?_
  refine ⟨(m : Int), by omega, ?_⟩
  refine And.intro (fun h1 => ?_) (fun h1 => ?_)
  · exact absurd h1 (by omega)
  refine ⟨1, by omega, ?_⟩
  refine And.intro (fun h2 => ?_) (fun h2 => ?_)
  · have hT := Tms.blk hB
    rw [hn] at hT
    have hmm : m < m + 1 := Nat.lt_succ_self m
    have hmm' : m < us.length := by omega
    refine ⟨Nat × Nat, fun x => [(0, .slice (some ⟨g, 0, none⟩) (m + 1) c), (1, .int .i64 0), (2, .int .i64 (m : Int)), (3, .int .i64 ((m + 1 : Nat) : Int)), (4, fnV), (14, .int .i64 (x.1 : Int)), (15, .int .i64 (x.2 : Int))],
      fun x w' => Ext w w' ∧ BS us m x.1 x.2, fun x _ => x.2 - x.1, ⟨(0, m), ⟨rfl, rfl, rfl, rfl, rfl, rfl, rfl, trivial⟩, Ext.rfl w, ⟨Nat.zero_le _, Nat.le_refl _, fun p hp => by omega, fun p h1 h2 => by omega⟩⟩, ?_⟩
    rintro ⟨lo, hi⟩ w2 ⟨hx2, hb⟩
    dsimp only at *
    have hlh := hb.lh
    have hhm := hb.hm
    refine And.intro (fun h3 => ?_) (fun h3 => ?_)
    · have hlt := lt_of_ilt h3
      have hsm : lo + hi ≤ 4398046511104 := by omega
      refine (midL hlt hsm).elim fun h hmid => ?_
      have hhm1 : h < m + 1 := by have := hmid.2.1; omega
      have hhl : h < us.length := by have := hmid.2.1; omega
      have h40 : h ≤ 4398046511104 := by have := hmid.2.1; omega
      have hT2 := hT.ext hx2
      refine ⟨((lo + hi : Nat) : Int), hmid.2.2.2.2.1, ((lo + hi : Nat) : Int), hmid.2.2.2.2.2, ((h : Nat) : Int), ⟨hmid.2.2.1, by omega⟩, ((h : Nat) : Int), hmid.2.2.2.1, ?_⟩
      refine ⟨sq 12, by kernel_rfl, m, ⟨rfl, hmm, ⟨_, rfl, rfl⟩⟩, _, hT2.load (ty := tT) (getD_some hmm') rfl rfl, h, ⟨rfl, hhm1, ⟨_, rfl, rfl⟩⟩, _, hT2.load (ty := tT) (getD_some hhl) rfl rfl, ?_⟩
      refine dcallV (.int .i64 (cmpZ (ky us m) (ky us h))) (fun w' hw _ => NormC_ok _ _ w') ?_
      refine And.intro (fun h4 => ?_) (fun h4 => ?_)
      · intro w3 hx3 _
        exact ⟨(lo, h), ⟨rfl, rfl, rfl, rfl, rfl, rfl, rfl, trivial⟩, ⟨Ext.trans' hx2 hx3, hb.dn hS hmid.2.1 hmid.1 (cmpZ_lss.1 h4)⟩, subLt1 hmid.1 hmid.2.1⟩
      · intro w3 hx3 _
        exact ⟨((h + 1 : Nat) : Int), sucI h h40, (h + 1, hi), ⟨rfl, rfl, rfl, rfl, rfl, rfl, rfl, trivial⟩, ⟨Ext.trans' hx2 hx3, hb.up hS hmid.2.1 hmid.1 (fun h => h4 (cmpZ_lss.2 h))⟩, subLt2 hmid.1 hmid.2.1⟩
    · have e9 : hi = lo := by omega
      rw [e9] at hb
      have hmv := hb.mv hS
      refine ⟨Nat × List TmR, fun x => [(0, .slice (some ⟨g, 0, none⟩) (m + 1) c), (14, .int .i64 (lo : Int)), (17, .int .i64 (x.1 : Int))],
        fun x w' => w.grownBy w' (some g) ∧ Blk w' g tT (tcs x.2 ++ R) ∧ x.2.Perm us ∧ Mv x.2 (m + 1) lo x.1, fun x _ => x.1,
        ⟨(m, us), ⟨rfl, rfl, rfl, trivial⟩, Wr.ext (Wr.refl _ _) hx2, hB.ext hx2, List.Perm.refl _, hmv⟩, ?_⟩
      clear hmv hb hT hS hx2
      rintro ⟨k, us⟩ w3 ⟨hg3, hB3, hP, hI⟩
      dsimp only at *
      have hlen : us.length = m + 1 := by rw [hP.length_eq, hn]
      have hkl := hI.kl
      refine And.intro (fun h5 => ?_) (fun h5 => ?_)
      · refine (exSucc h5).elim fun j hj => ?_
        rw [hj] at hI hkl
        have hk : (k : Int) = ((j + 1 : Nat) : Int) := by rw [hj]
        have hT2 := Tms.blk hB3
        rw [hlen] at hT2
        have hj40 : j ≤ 4398046511104 := by omega
        have hsub := ofNatI j hj40
        rw [← hk] at hsub
        have hj1 : j + 1 < m + 1 := hkl
        have hj0 : j < m + 1 := by omega
        have hj1' : j + 1 < us.length := by omega
        have hj0' : j < us.length := by omega
        have hij : lo < j + 1 := by rw [← hj]; exact Int.ofNat_lt.1 h5
        have hln : m + 1 ≤ us.length := by omega
        refine ⟨sq 18, by kernel_rfl, ((j : Nat) : Int), hsub, ((j : Nat) : Int), hsub, j, ⟨rfl, hj0, ⟨_, rfl, rfl⟩⟩, _, hT2.load (ty := tT) (getD_some hj0') rfl rfl, j + 1, ⟨hk, hj1, ⟨_, rfl, rfl⟩⟩, _, hT2.load (ty := tT) (getD_some hj1') rfl rfl, j + 1, ⟨hk, hj1, ⟨_, rfl, rfl⟩⟩, ?_⟩
        intro w4 hx4 _
        have hB4 := hB3.ext hx4
        refine ⟨storeTm rfl rfl hB4 hj1', ?_⟩
        intro w5 hs5
        have hS5 := storedTm hs5 rfl hB4 hj1'
        refine ⟨j, ⟨rfl, hj0, ⟨_, rfl, rfl⟩⟩, ?_⟩
        intro w6 hx6 _
        have hB6 := hS5.1.ext hx6
        have hj0'' : j < (List.set us (j + 1) (us.getD j default)).length := by rw [List.length_set]; exact hj0'
        refine ⟨storeTm rfl rfl hB6 hj0'', ?_⟩
        intro w7 hs7
        have hS7 := storedTm hs7 rfl hB6 hj0''
        intro w8 hx8 _
        have hB8 : Blk w8 g tT (tcs (swp us j) ++ R) := hS7.1.ext hx8
        have hg8 := Wr.ext (Wr.trans (Wr.ext (Wr.trans (Wr.ext hg3 hx4) hS5.2) hx6) hS7.2) hx8
        exact ⟨((j : Nat) : Int), hsub, (j, swp us j), ⟨rfl, rfl, rfl, trivial⟩, ⟨hg8, hB8, (swp_perm hj1').trans hP, hI.down hln hij⟩, by rw [hj]; exact Nat.lt_succ_self j⟩
      · have e8 : k = lo := by have := hI.il; omega
        rw [e8] at hI
        exact ⟨hg3, us, hP, hI.done, hB3⟩
  · exact absurd rfl h2
end Go.Proofs.Ytlfdobjdlgebbaa
/-
  Contracts of the stable sort of terms by place, of at most 21, third part. Helpers; no statement of the program is proved here.
-/
set_option maxRecDepth 100000
set_option linter.unusedSimpArgs false
set_option linter.unusedVariables false
namespace Go.Proofs.Ytlfdobjdlgebbaa
open Go Go.Tw Go.RowKit
attribute [local irreducible] LoadAt StoreOk Stored rawVC

/-- What holds at the heads of the two loops of the sort. -/
structure St (w : World) (g n : Nat) (ts : List TmR) (R : List Value) (w' : World) (us : List TmR) : Prop where
  gr : w.grownBy w' (some g)
  bk : Blk w' g tT (tcs us ++ R)
  pm : us.Perm ts
theorem St.of {w w1 w2 : World} {g n : Nat} {ts us vs : List TmR} {R : List Value} (h : St w g n ts R w1 us) (h1 : w1.grownBy w2 (some g)) (h2 : vs.Perm us) (h3 : Blk w2 g tT (tcs vs ++ R)) : St w g n ts R w2 vs := ⟨Wr.trans h.gr h1, h3, h2.trans h.pm⟩
theorem stable_ok {w : World} {g c n : Nat} {ts : List TmR} {R : List Value} (hB : Blk w g tT (tcs ts ++ R)) (hn : ts.length = n) (h21 : n ≤ 21) :
    CallS Try.prog 110 #[.slice (some ⟨g, 0, none⟩) n c, .int .i64 (n : Int), fnV] w fun v w' => w.grownBy w' (some g) ∧ ∃ us, us.Perm ts ∧ SP us n ∧ Blk w' g tT (tcs us ++ R) := by
  refine enter ttOk mixed (args := [.slice (some ⟨g, 0, none⟩) n c, .int .i64 (n : Int), fnV]) Try.func110 rfl (by kernel_rfl) (by kernel_rfl) rfl ?_
  refine ⟨Nat × Nat × List TmR, fun x => [(0, .slice (some ⟨g, 0, none⟩) n c), (1, .int .i64 (n : Int)), (2, fnV), (6, .int .i64 20), (7, .int .i64 (x.1 : Int)), (8, .int .i64 (x.2.1 : Int))],
    fun x w' => St w g n ts R w' x.2.2 ∧ ((x.1 = 0 ∧ x.2.1 = 20) ∨ (x.1 = 20 ∧ x.2.1 = 40 ∧ 20 ≤ n ∧ SP x.2.2 20)), fun x _ => 60 - x.2.1,
    ⟨(0, 20, ts), ⟨rfl, rfl, rfl, rfl, rfl, rfl, trivial⟩, ⟨Wr.refl _ _, hB, List.Perm.refl _⟩, .inl ⟨rfl, rfl⟩⟩, ?_⟩
  rintro ⟨a, b, us⟩ w2 ⟨hS, hab⟩
  dsimp only at *
  have hlen : us.length = n := by rw [hS.pm.length_eq, hn]
  refine And.intro (fun h1 => ?_) (fun h1 => ?_)
  · have hab' : a = 0 ∧ b = 20 := by
      rcases hab with h | h
      · exact h
      · exfalso; omega
    have h20 : 20 ≤ n := by omega
    have hc := ins_ok (c := c) (b := 20) hS.bk hlen h20 (by omega)
    have e1 : (a : Int) = 0 := by omega
    have e2 : (b : Int) = ((20 : Nat) : Int) := by omega
    rw [← e2, ← e1] at hc
    refine CallS.mono hc ?_
    rintro v w3 ⟨hg3, vs, hP, hSP, hB3⟩
    exact ⟨((40 : Nat) : Int), by omega, (20, 40, vs), ⟨rfl, rfl, rfl, rfl, congrArg (fun z => some (Value.int .i64 z)) e2, rfl, trivial⟩, ⟨hS.of hg3 hP hB3, .inr ⟨rfl, rfl, h20, hSP⟩⟩, by show 60 - 40 < 60 - b; omega⟩
  · have key : ∀ (Q : Value → World → Prop), (∀ v w3 us3, St w g n ts R w3 us3 → ((n ≤ 20 ∧ SP us3 n) ∨ (n = 21 ∧ SP us3 20)) → Q v w3) → CallS Try.prog 135 #[.slice (some ⟨g, 0, none⟩) n c, .int .i64 (a : Int), .int .i64 (n : Int), fnV] w2 Q := by
      intro Q hQ
      rcases hab with ⟨h2, h3⟩ | ⟨h2, h3, h4, h5⟩
      · have hc := ins_ok (c := c) (b := n) hS.bk hlen (Nat.le_refl _) (by omega)
        have e1 : (a : Int) = 0 := by omega
        rw [← e1] at hc
        refine CallS.mono hc ?_
        rintro v w3 ⟨hg3, vs, hP, hSP, hB3⟩
        exact hQ v w3 vs (hS.of hg3 hP hB3) (.inl ⟨by omega, hSP⟩)
      · refine CallS.mono (insNone_ok (by omega) (by omega)) ?_
        rintro v w3 rfl
        refine hQ v w3 us hS ?_
        rcases Nat.lt_or_ge n 21 with h | h
        · have : n = 20 := by omega
          rw [this]; exact .inl ⟨Nat.le_refl _, h5⟩
        · exact .inr ⟨by omega, h5⟩
    refine key _ ?_
    clear key hS hab hlen
    intro v w3 us3 hS3 hc3
    refine ⟨Nat × List TmR, fun x => [(0, .slice (some ⟨g, 0, none⟩) n c), (1, .int .i64 (n : Int)), (2, fnV), (6, .int .i64 (x.1 : Int))],
      fun x w' => St w g n ts R w' x.2 ∧ ((x.1 = 20 ∧ ((n ≤ 20 ∧ SP x.2 n) ∨ (n = 21 ∧ SP x.2 20))) ∨ (x.1 = 40 ∧ SP x.2 n)), fun x _ => 40 - x.1,
      ⟨(20, us3), ⟨rfl, rfl, rfl, rfl, trivial⟩, hS3, .inl ⟨rfl, hc3⟩⟩, ?_⟩
    clear hS3 hc3
    rintro ⟨bs, us⟩ w4 ⟨hS, hc⟩
    dsimp only at *
    have hlen : us.length = n := by rw [hS.pm.length_eq, hn]
    refine And.intro (fun h2 => ?_) (fun h2 => ?_)
    · have hc' : bs = 20 ∧ n = 21 ∧ SP us 20 := by
        rcases hc with ⟨h, h3 | h3⟩ | ⟨h, h3⟩
        · exfalso; omega
        · exact ⟨h, h3⟩
        · exfalso; omega
      have e1 : (bs : Int) = 20 := by omega
      refine ⟨40, by omega, ?_⟩
      refine ⟨Unit, fun x => [(0, .slice (some ⟨g, 0, none⟩) n c), (1, .int .i64 (n : Int)), (2, fnV), (6, .int .i64 (bs : Int)), (7, .int .i64 0), (8, .int .i64 40)], fun _ w' => w' = w4, fun _ _ => 0, ⟨(), ⟨rfl, rfl, rfl, rfl, rfl, rfl, trivial⟩, rfl⟩, ?_⟩
      intro u w5 hw5
      have hw5 : w5 = w4 := hw5
      refine And.intro (fun h3 => ?_) (fun h3 => ?_)
      · exfalso; omega
      · refine ⟨20, by omega, ?_⟩
        refine And.intro (fun h4 => ?_) (fun h4 => ?_)
        · have hB := hS.bk
          have hm := merge_ok (c := c) (m := 20) hB (by omega) hc'.2.2 (by omega) (by omega)
          have e2 : n = 20 + 1 := by omega
          have e3 : (n : Int) = ((20 + 1 : Nat) : Int) := by omega
          rw [← e2, ← hw5] at hm
          refine CallS.mono hm ?_
          rintro v6 w6 ⟨hg6, vs, hP, hSP, hB6⟩
          rw [hw5] at hg6
          exact ⟨((40 : Nat) : Int), by omega, (40, vs), ⟨rfl, rfl, rfl, rfl, trivial⟩, ⟨hS.of hg6 hP hB6, .inr ⟨rfl, hSP⟩⟩, by show 40 - 40 < 40 - bs; omega⟩
        · exfalso; omega
    · refine ⟨hS.gr, us, hS.pm, ?_, hS.bk⟩
      rcases hc with ⟨h, h3 | h3⟩ | ⟨h, h3⟩
      · exact h3.2
      · exfalso; omega
      · exact h3
theorem Sort_ok {w : World} {g c n : Nat} {ts : List TmR} {R : List Value} (hB : Blk w g tT (tcs ts ++ R)) (hn : ts.length = n) (h21 : n ≤ 21) :
    CallS Try.prog 79 #[.slice (some ⟨g, 0, none⟩) n c, fnV] w fun v w' => w.grownBy w' (some g) ∧ ∃ us, us.Perm ts ∧ SP us n ∧ Blk w' g tT (tcs us ++ R) := by
  refine enter ttOk mixed (args := [.slice (some ⟨g, 0, none⟩) n c, fnV]) Try.func79 rfl (by kernel_rfl) (by kernel_rfl) rfl ?_
  refine CallS.mono (stable_ok (c := c) hB hn h21) ?_
  rintro v w2 h
  exact h
/-- Of none. -/
theorem stableNil_ok {w : World} {s : Value} : CallS Try.prog 110 #[s, .int .i64 0, fnV] w fun v w' => w' = w := by
  refine enter ttOk mixed (args := [s, .int .i64 0, fnV]) Try.func110 rfl (by kernel_rfl) (by kernel_rfl) rfl ?_
  refine ⟨Unit, fun x => [(0, s), (1, .int .i64 0), (2, fnV), (6, .int .i64 20), (7, .int .i64 0), (8, .int .i64 20)], fun _ w' => w' = w, fun _ _ => 0, ⟨(), ⟨rfl, rfl, rfl, rfl, rfl, rfl, trivial⟩, rfl⟩, ?_⟩
  intro u w2 hw2
  have hw2 : w2 = w := hw2
  refine And.intro (fun h1 => ?_) (fun h1 => ?_)
  · exfalso; omega
  · refine CallS.mono (insNone_ok (a := 0) (b := 0) (by omega) (by omega)) ?_
    intro v w3 hw3
    refine ⟨Unit, fun x => [(0, s), (1, .int .i64 0), (2, fnV), (6, .int .i64 20)], fun _ w' => w' = w, fun _ _ => 0, ⟨(), ⟨rfl, rfl, rfl, rfl, trivial⟩, hw3.trans hw2⟩, ?_⟩
    intro u w4 hw4
    refine And.intro (fun h2 => ?_) (fun h2 => ?_)
    · exfalso; omega
    · exact hw4
theorem SortNil_ok {w : World} {a : Option Addr} {c : Nat} :
    CallS Try.prog 79 #[.slice a 0 c, fnV] w fun v w' => w' = w := by
  refine enter ttOk mixed (args := [.slice a 0 c, fnV]) Try.func79 rfl (by kernel_rfl) (by kernel_rfl) rfl ?_
  refine CallS.mono stableNil_ok ?_
  intro v w2 h
  exact h
end Go.Proofs.Ytlfdobjdlgebbaa
/-
  Plain vectors: sums by places of a list in order; lists merged. No program in sight; helpers.
-/
set_option maxRecDepth 100000
set_option linter.unusedSimpArgs false
set_option linter.unusedVariables false
namespace Go.Tw

def pl (ys : VL) (j : Nat) : Int := (ys.getD j (0, 0)).1
def xl (ys : VL) (j : Nat) : Rat := (ys.getD j (0, 0)).2
theorem vget {ys : VL} {j : Nat} (h : j < ys.length) : ys[j]? = some (pl ys j, xl ys j) := by
  unfold pl xl
  rw [List.getD_eq_getElem?_getD, List.getElem?_eq_getElem h]; rfl
/-- By places that do not fall. -/
def Asc (ys : VL) : Prop := ∀ p q, p < q → q < ys.length → pl ys p ≤ pl ys q
theorem getL_take_succ {ys : VL} {j : Nat} (h : j < ys.length) (p : Int) : getL (ys.take (j + 1)) p = getL (ys.take j) p + (if pl ys j = p then xl ys j else 0) := by
  rw [List.take_succ_eq_append_getElem h, getL_append]
  have e : ys[j] = (pl ys j, xl ys j) := by
    have := vget h
    rw [List.getElem?_eq_getElem h] at this
    exact Option.some.inj this
  rw [e]
  simp only [getL, Rat.add_zero]
theorem getL_perm {x y : VL} (h : x.Perm y) (p : Int) : getL x p = getL y p := by
  induction h with
  | nil => rfl
  | cons a _ ih => simp only [getL, ih]
  | swap a b l => simp only [getL]; rw [← Rat.add_assoc, ← Rat.add_assoc, Rat.add_comm (if b.1 = p then b.2 else 0)]
  | trans _ _ h1 h2 => exact h1.trans h2

/-- What Norm knows at the head of its loop. -/
structure NormI (ys zs : VL) (i : Nat) : Prop where
  il : i ≤ ys.length
  cn : Cn zs
  get : ∀ p, getL zs p = getL (ys.take i) p
  low : ∀ s ∈ zs, ∀ j, i ≤ j → j < ys.length → s.1 < pl ys j
  sub : ∀ s ∈ zs, ∃ t ∈ ys, t.1 = s.1
  len : zs.length ≤ i
theorem NormI.first (ys : VL) : NormI ys [] 0 := ⟨Nat.zero_le _, Cn.nil, fun p => rfl, fun s h => by simp at h, fun s h => by simp at h, Nat.le_refl _⟩
structure SumI (ys zs : VL) (i0 i : Nat) (q : Rat) : Prop where
  il : i ≤ ys.length
  ge : i0 ≤ i
  lt0 : i0 < ys.length
  cn : Cn zs
  low : ∀ s ∈ zs, ∀ j, i0 ≤ j → j < ys.length → s.1 < pl ys j
  sub : ∀ s ∈ zs, ∃ t ∈ ys, t.1 = s.1
  same : ∀ j, i0 ≤ j → j < i → pl ys j = pl ys i0
  get : ∀ p, getL (ys.take i) p = getL zs p + (if pl ys i0 = p then q else 0)
  len : zs.length ≤ i0
theorem NormI.sum {ys zs : VL} {i : Nat} (h : NormI ys zs i) (hi : i < ys.length) : SumI ys zs i i 0 :=
  ⟨h.il, Nat.le_refl _, hi, h.cn, h.low, h.sub, fun j h1 h2 => by omega, fun p => by rw [← h.get]; split <;> rw [Rat.add_zero], h.len⟩
theorem SumI.step {ys zs : VL} {i0 i : Nat} {q : Rat} (h : SumI ys zs i0 i q) (hi : i < ys.length) (he : pl ys i = pl ys i0) : SumI ys zs i0 (i + 1) (q + xl ys i) := by
  refine ⟨hi, by have := h.ge; omega, h.lt0, h.cn, h.low, h.sub, fun j h1 h2 => ?_, fun p => ?_, h.len⟩
  · by_cases hj : j = i
    · subst hj; exact he
    · exact h.same j h1 (by omega)
  · rw [getL_take_succ hi, h.get, he]
    split
    · rw [Rat.add_assoc]
    · rw [Rat.add_zero, Rat.add_zero]
theorem SumI.out {ys zs : VL} {i0 i : Nat} {q : Rat} (h : SumI ys zs i0 i q) (ha : Asc ys) (hx : i = ys.length ∨ (i < ys.length ∧ pl ys i ≠ pl ys i0)) : i0 < i ∧ ∀ j, i ≤ j → j < ys.length → pl ys i0 < pl ys j := by
  have h0 := h.ge
  have hlt := h.lt0
  refine ⟨?_, fun j h1 h2 => ?_⟩
  · rcases hx with hx | ⟨hx1, hx2⟩
    · omega
    · rcases Nat.lt_or_ge i0 i with h' | h'
      · exact h'
      · exfalso; apply hx2
        have : i = i0 := by omega
        rw [this]
  · rcases hx with hx | ⟨hx1, hx2⟩
    · omega
    · have a1 : pl ys i0 ≤ pl ys i := by
        rcases Nat.lt_or_ge i0 i with h' | h'
        · exact ha i0 i h' hx1
        · have : i = i0 := by omega
          rw [this]; exact Int.le_refl _
      have a2 : pl ys i ≤ pl ys j := by
        rcases Nat.lt_or_ge i j with h' | h'
        · exact ha i j h' h2
        · have : i = j := by omega
          rw [this]; exact Int.le_refl _
      omega
theorem SumI.keep {ys zs : VL} {i0 i : Nat} {q : Rat} (h : SumI ys zs i0 i q) (hq : q = 0) (hi : i0 < i) : NormI ys zs i := by
  refine ⟨h.il, h.cn, fun p => ?_, fun s hs j h1 h2 => h.low s hs j (by omega) h2, h.sub, by have := h.len; omega⟩
  rw [h.get, hq]; split <;> rw [Rat.add_zero]
theorem SumI.push {ys zs : VL} {i0 i : Nat} {q : Rat} (h : SumI ys zs i0 i q) (hq : q ≠ 0) (ho : i0 < i ∧ ∀ j, i ≤ j → j < ys.length → pl ys i0 < pl ys j) : NormI ys (zs ++ [(pl ys i0, q)]) i := by
  refine ⟨h.il, h.cn.snoc (fun s hs => h.low s hs i0 (Nat.le_refl _) h.lt0) hq, fun p => ?_, fun s hs j h1 h2 => ?_, fun s hs => ?_, by have := h.len; have := ho.1; rw [List.length_append, List.length_singleton]; omega⟩
  · rw [getL_append, h.get]
    simp only [getL, Rat.add_zero]
  · rcases List.mem_append.1 hs with hs | hs
    · exact h.low s hs j (by omega) h2
    · rw [List.mem_singleton] at hs; subst hs; exact ho.2 j h1 h2
  · rcases List.mem_append.1 hs with hs | hs
    · exact h.sub s hs
    · rw [List.mem_singleton] at hs; subst hs
      exact ⟨_, List.mem_of_getElem? (vget h.lt0), rfl⟩
theorem NormI.done {ys zs : VL} {i : Nat} (h : NormI ys zs i) (hi : ys.length ≤ i) : Cn zs ∧ (∀ p, getL zs p = getL ys p) ∧ ∀ s ∈ zs, ∃ t ∈ ys, t.1 = s.1 :=
  ⟨h.cn, fun p => by rw [h.get, List.take_of_length_le hi], h.sub⟩

/-! ### two lists merged -/
/-- By rising places. -/
def Ris (x : VL) : Prop := x.Pairwise (fun s t => s.1 < t.1)
theorem Ris.tail {t : Int × Rat} {x : VL} (h : Ris (t :: x)) : Ris x := (List.pairwise_cons.1 h).2
theorem Ris.head {t : Int × Rat} {x : VL} (h : Ris (t :: x)) : ∀ s ∈ x, t.1 < s.1 := (List.pairwise_cons.1 h).1
/-- What Axpy knows: what is left of both, what is there, and the whole. -/
structure MrgI (a : Rat) (x y xs ys zs : VL) : Prop where
  rx : Ris x
  ry : Ris y
  cn : Cn zs
  lx : ∀ s ∈ zs, ∀ t ∈ x, s.1 < t.1
  ly : ∀ s ∈ zs, ∀ t ∈ y, s.1 < t.1
  get : ∀ p, getL zs p + (getL y p + a * getL x p) = getL ys p + a * getL xs p
  len : zs.length + (y.length + x.length) ≤ ys.length + xs.length
theorem MrgI.first {a : Rat} {xs ys : VL} (hx : Ris xs) (hy : Ris ys) : MrgI a xs ys xs ys [] :=
  ⟨hx, hy, Cn.nil, fun s h => by simp at h, fun s h => by simp at h, fun p => by simp only [getL]; rw [Rat.zero_add], by simp⟩
/-- A term told, if it is not 0. -/
def putL (zs : VL) (at' : Int) (v : Rat) : VL := if v = 0 then zs else zs ++ [(at', v)]
theorem getL_put (zs : VL) (at' : Int) (v : Rat) (p : Int) : getL (putL zs at' v) p = getL zs p + (if at' = p then v else 0) := by
  unfold putL
  split
  · rename_i h; rw [h]; split <;> rw [Rat.add_zero]
  · rw [getL_append]; simp only [getL, Rat.add_zero]
theorem put_len (zs : VL) (at' : Int) (v : Rat) : (putL zs at' v).length ≤ zs.length + 1 := by
  unfold putL; split
  · omega
  · simp
theorem put_cn {zs : VL} {at' : Int} {v : Rat} (h : Cn zs) (hl : ∀ s ∈ zs, s.1 < at') : Cn (putL zs at' v) := by
  unfold putL; split
  · exact h
  · rename_i hv; exact h.snoc hl hv
theorem put_mem {zs : VL} {at' : Int} {v : Rat} {s : Int × Rat} (h : s ∈ putL zs at' v) : s ∈ zs ∨ s.1 = at' := by
  unfold putL at h; split at h
  · exact .inl h
  · rcases List.mem_append.1 h with h | h
    · exact .inl h
    · rw [List.mem_singleton] at h; subst h; exact .inr rfl
theorem MrgI.takeY {a : Rat} {x y xs ys zs : VL} {t : Int × Rat} (h : MrgI a x (t :: y) xs ys zs) (hx : ∀ s ∈ x, t.1 < s.1) : MrgI a x y xs ys (putL zs t.1 t.2) := by
  refine ⟨h.rx, h.ry.tail, put_cn h.cn fun s hs => h.ly s hs t (by simp), fun s hs u hu => ?_, fun s hs u hu => ?_, fun p => ?_, ?_⟩
  · rcases put_mem hs with hs | hs
    · exact h.lx s hs u hu
    · rw [hs]; exact hx u hu
  · rcases put_mem hs with hs | hs
    · exact h.ly s hs u (by simp [hu])
    · rw [hs]; exact h.ry.head u hu
  · rw [← h.get p, getL_put]
    simp only [getL]
    grind
  · have := put_len zs t.1 t.2
    have := h.len
    simp at this ⊢
    omega
theorem MrgI.takeX {a : Rat} {x y xs ys zs : VL} {t : Int × Rat} (h : MrgI a (t :: x) y xs ys zs) (hy : ∀ s ∈ y, t.1 < s.1) : MrgI a x y xs ys (putL zs t.1 (a * t.2)) := by
  refine ⟨h.rx.tail, h.ry, put_cn h.cn fun s hs => h.lx s hs t (by simp), fun s hs u hu => ?_, fun s hs u hu => ?_, fun p => ?_, ?_⟩
  · rcases put_mem hs with hs | hs
    · exact h.lx s hs u (by simp [hu])
    · rw [hs]; exact h.rx.head u hu
  · rcases put_mem hs with hs | hs
    · exact h.ly s hs u hu
    · rw [hs]; exact hy u hu
  · rw [← h.get p, getL_put]
    simp only [getL]
    split <;> grind
  · have := put_len zs t.1 (a * t.2)
    have := h.len
    simp at this ⊢
    omega
theorem MrgI.both {a : Rat} {x y xs ys zs : VL} {s t : Int × Rat} (h : MrgI a (s :: x) (t :: y) xs ys zs) (he : s.1 = t.1) : MrgI a x y xs ys (putL zs s.1 (t.2 + a * s.2)) := by
  refine ⟨h.rx.tail, h.ry.tail, put_cn h.cn fun u hu => h.lx u hu s (by simp), fun v hv u hu => ?_, fun v hv u hu => ?_, fun p => ?_, ?_⟩
  · rcases put_mem hv with hv | hv
    · exact h.lx v hv u (by simp [hu])
    · rw [hv]; exact h.rx.head u hu
  · rcases put_mem hv with hv | hv
    · exact h.ly v hv u (by simp [hu])
    · rw [hv, he]; exact h.ry.head u hu
  · rw [← h.get p, getL_put]
    simp only [getL]
    rw [he]
    split <;> grind
  · have := put_len zs s.1 (t.2 + a * s.2)
    have := h.len
    simp at this ⊢
    omega
theorem MrgI.done {a : Rat} {xs ys zs : VL} (h : MrgI a [] [] xs ys zs) : Cn zs ∧ (∀ p, getL zs p = getL ys p + a * getL xs p) ∧ zs.length ≤ ys.length + xs.length := by
  refine ⟨h.cn, fun p => ?_, by have := h.len; simpa using this⟩
  rw [← h.get p]
  simp only [getL]
  grind
/-- What Dot knows. -/
structure DotI (x y xs ys : VL) (s : Rat) : Prop where
  rx : Ris x
  ry : Ris y
  sum : s + dotL x y = dotL xs ys
theorem DotI.dropX {x y xs ys : VL} {s : Rat} {t : Int × Rat} (h : DotI (t :: x) y xs ys s) (hy : ∀ u ∈ y, t.1 < u.1) : DotI x y xs ys s := by
  refine ⟨h.rx.tail, h.ry, ?_⟩
  rw [← h.sum]
  simp only [dotL]
  rw [getL_none (fun u hu => by have := hy u hu; omega), Rat.mul_zero, Rat.zero_add]
theorem dotL_dropY {x y : VL} {t : Int × Rat} (hx : ∀ u ∈ x, t.1 < u.1) : dotL x (t :: y) = dotL x y := by
  induction x with
  | nil => rfl
  | cons s x ih =>
    simp only [dotL, getL]
    rw [ih (fun u hu => hx u (by simp [hu])), if_neg (by have := hx s (by simp); omega), Rat.zero_add]
theorem DotI.dropY {x y xs ys : VL} {s : Rat} {t : Int × Rat} (h : DotI x (t :: y) xs ys s) (hx : ∀ u ∈ x, t.1 < u.1) : DotI x y xs ys s := by
  refine ⟨h.rx, h.ry.tail, ?_⟩
  rw [← h.sum, dotL_dropY hx]
theorem DotI.both {x y xs ys : VL} {q : Rat} {s t : Int × Rat} (h : DotI (s :: x) (t :: y) xs ys q) (he : s.1 = t.1) : DotI x y xs ys (q + s.2 * t.2) := by
  refine ⟨h.rx.tail, h.ry.tail, ?_⟩
  rw [← h.sum]
  have h1 : dotL x (t :: y) = dotL x y := dotL_dropY (fun u hu => by have := h.rx.head u hu; omega)
  simp only [dotL, getL]
  rw [h1, if_pos he.symm, getL_none (x := y) (fun u hu => by have := h.ry.head u hu; omega), Rat.add_zero]
  grind
theorem DotI.done {x y xs ys : VL} {s : Rat} (h : DotI x y xs ys s) (he : x = [] ∨ y = []) : s = dotL xs ys := by
  rw [← h.sum]
  rcases he with rfl | rfl
  · simp only [dotL, Rat.add_zero]
  · rw [dotL_comm]; simp only [dotL, Rat.add_zero]
end Go.Tw
/-
  Plain vectors: the one form of a list. No program in sight; helpers.
-/
set_option maxRecDepth 100000
set_option linter.unusedSimpArgs false
set_option linter.unusedVariables false
namespace Go.Tw

def insL (t : Int × Rat) (zs : VL) : VL :=
  match zs with
  | [] => if t.2 = 0 then [] else [t]
  | s :: zs => if t.1 < s.1 then (if t.2 = 0 then s :: zs else t :: s :: zs) else if t.1 = s.1 then (if t.2 + s.2 = 0 then zs else (s.1, t.2 + s.2) :: zs) else s :: insL t zs
def nrm (xs : VL) : VL :=
  match xs with
  | [] => []
  | t :: xs => insL t (nrm xs)
theorem insL_mem {t : Int × Rat} {zs : VL} {u : Int × Rat} (h : u ∈ insL t zs) : u.1 = t.1 ∨ ∃ s ∈ zs, s.1 = u.1 := by
  induction zs with
  | nil =>
    simp only [insL] at h
    split at h
    · simp at h
    · rw [List.mem_singleton] at h; subst h; exact .inl rfl
  | cons s zs ih =>
    simp only [insL] at h
    split at h
    · split at h
      · exact .inr ⟨u, h, rfl⟩
      · rcases List.mem_cons.1 h with rfl | h
        · exact .inl rfl
        · exact .inr ⟨u, h, rfl⟩
    · split at h
      · split at h
        · exact .inr ⟨u, by simp [h], rfl⟩
        · rcases List.mem_cons.1 h with rfl | h
          · exact .inr ⟨s, by simp, rfl⟩
          · exact .inr ⟨u, by simp [h], rfl⟩
      · rcases List.mem_cons.1 h with rfl | h
        · exact .inr ⟨u, by simp, rfl⟩
        · rcases ih h with h | ⟨v, hv, he⟩
          · exact .inl h
          · exact .inr ⟨v, by simp [hv], he⟩
theorem insL_cn {t : Int × Rat} {zs : VL} (h : Cn zs) : Cn (insL t zs) := by
  induction zs with
  | nil =>
    simp only [insL]
    split
    · exact Cn.nil
    · rename_i ht
      exact ⟨by simp, fun s hs => by rw [List.mem_singleton] at hs; subst hs; exact ht⟩
  | cons s zs ih =>
    have hh := List.pairwise_cons.1 h.1
    simp only [insL]
    split
    · rename_i hlt
      split
      · exact h
      · rename_i ht
        refine ⟨List.pairwise_cons.2 ⟨fun u hu => ?_, h.1⟩, fun u hu => ?_⟩
        · rcases List.mem_cons.1 hu with rfl | hu
          · exact hlt
          · exact Int.lt_trans hlt (hh.1 u hu)
        · rcases List.mem_cons.1 hu with rfl | hu
          · exact ht
          · exact h.2 u hu
    · split
      · split
        · exact h.tail
        · rename_i hne
          refine ⟨List.pairwise_cons.2 ⟨hh.1, hh.2⟩, fun u hu => ?_⟩
          rcases List.mem_cons.1 hu with rfl | hu
          · exact hne
          · exact h.2 u (by simp [hu])
      · rename_i h1 h2
        have ih := ih h.tail
        refine ⟨List.pairwise_cons.2 ⟨fun u hu => ?_, ih.1⟩, fun u hu => ?_⟩
        · rcases insL_mem hu with hu | ⟨v, hv, he⟩
          · omega
          · rw [← he]; exact hh.1 v hv
        · rcases List.mem_cons.1 hu with rfl | hu
          · exact h.2 _ (by simp)
          · exact ih.2 u hu
theorem insL_get (t : Int × Rat) (zs : VL) (p : Int) : getL (insL t zs) p = (if t.1 = p then t.2 else 0) + getL zs p := by
  induction zs with
  | nil =>
    simp only [insL]
    split
    · rename_i h; simp only [getL, h]; split <;> rw [Rat.add_zero]
    · simp only [getL]
  | cons s zs ih =>
    simp only [insL]
    split
    · split
      · rename_i h; simp only [getL, h]; (repeat' split) <;> grind
      · simp only [getL]
    · split
      · rename_i h
        split
        · rename_i h0
          simp only [getL, h]
          split
          · rw [← Rat.add_assoc, h0, Rat.zero_add]
          · rw [Rat.zero_add, Rat.zero_add]
        · simp only [getL, h]
          split
          · rw [Rat.add_assoc]
          · rw [Rat.zero_add, Rat.zero_add]
      · simp only [getL, ih]; grind
theorem nrm_cn (xs : VL) : Cn (nrm xs) := by
  induction xs with
  | nil => exact Cn.nil
  | cons t xs ih => exact insL_cn ih
theorem nrm_get (xs : VL) (p : Int) : getL (nrm xs) p = getL xs p := by
  induction xs with
  | nil => rfl
  | cons t xs ih => simp only [nrm, insL_get, ih, getL]
theorem nrm_eq {xs zs : VL} (h : Cn zs) (hg : ∀ p, getL zs p = getL xs p) : zs = nrm xs := Cn.ext h (nrm_cn xs) fun p => by rw [hg, nrm_get]
theorem nrm_congr {xs ys : VL} (h : ∀ p, getL xs p = getL ys p) : nrm xs = nrm ys := nrm_eq (nrm_cn xs) fun p => by rw [nrm_get, h]
theorem nrm_self {zs : VL} (h : Cn zs) : nrm zs = zs := (nrm_eq h fun _ => rfl).symm
theorem nrm_sub {xs : VL} : ∀ {s : Int × Rat}, s ∈ nrm xs → ∃ t ∈ xs, t.1 = s.1 := by
  induction xs with
  | nil => intro s h; simp [nrm] at h
  | cons t xs ih =>
    intro s h
    rcases insL_mem h with h | ⟨v, hv, he⟩
    · exact ⟨t, by simp, h.symm⟩
    · obtain ⟨u, hu, hue⟩ := ih hv
      exact ⟨u, by simp [hu], hue.trans he⟩
/-- Of a list without a place: as many at most. -/
theorem insL_off (t : Int × Rat) (zs : VL) (p : Int) : ((insL t zs).filter (fun s => !decide (s.1 = p))).length ≤ ([t].filter (fun s => !decide (s.1 = p))).length + (zs.filter (fun s => !decide (s.1 = p))).length := by
  induction zs with
  | nil =>
    simp only [insL]
    split
    · simp
    · simp
  | cons s zs ih =>
    simp only [insL]
    by_cases hs : s.1 = p <;> by_cases ht : t.1 = p <;> simp only [List.filter_cons, List.filter_nil, hs, ht, decide_true, decide_false, Bool.not_true, Bool.not_false, if_true, if_false, Bool.false_eq_true] at ih ⊢ <;>
      (repeat' split) <;> simp only [List.filter_cons, hs, ht, decide_true, decide_false, Bool.not_true, Bool.not_false, if_true, if_false, Bool.false_eq_true, List.length_cons, List.length_nil] at ih ⊢ <;> (try omega)
theorem nrm_off (xs : VL) (p : Int) : ((nrm xs).filter (fun s => !decide (s.1 = p))).length ≤ (xs.filter (fun s => !decide (s.1 = p))).length := by
  induction xs with
  | nil => simp [nrm]
  | cons t xs ih =>
    have := insL_off t (nrm xs) p
    simp only [nrm]
    have e : ((t :: xs).filter (fun s => !decide (s.1 = p))).length = ([t].filter (fun s => !decide (s.1 = p))).length + (xs.filter (fun s => !decide (s.1 = p))).length := by
      simp only [List.filter_cons, List.filter_nil]
      split <;> simp <;> omega
    omega
theorem insL_len (t : Int × Rat) (zs : VL) : (insL t zs).length ≤ zs.length + 1 := by
  induction zs with
  | nil => simp only [insL]; split <;> simp
  | cons s zs ih => simp only [insL]; (repeat' split) <;> simp <;> omega
theorem nrm_len (xs : VL) : (nrm xs).length ≤ xs.length := by
  induction xs with
  | nil => exact Nat.le_refl _
  | cons t xs ih => have := insL_len t (nrm xs); simp only [nrm, List.length_cons]; omega
def smul (a : Rat) (x : VL) : VL := x.map fun t => (t.1, a * t.2)
theorem getL_smul (a : Rat) (x : VL) (p : Int) : getL (smul a x) p = a * getL x p := by
  induction x with
  | nil => simp only [smul, List.map_nil, getL, Rat.mul_zero]
  | cons t x ih =>
    have ih : getL (List.map (fun t => (t.1, a * t.2)) x) p = a * getL x p := ih
    simp only [smul, List.map_cons, getL, ih, Rat.mul_add]
    split
    · rfl
    · rw [Rat.mul_zero]
/-- One, and a multiple of another one. -/
def axp (y : VL) (a : Rat) (x : VL) : VL := nrm (y ++ smul a x)
theorem axp_get (y : VL) (a : Rat) (x : VL) (p : Int) : getL (axp y a x) p = getL y p + a * getL x p := by
  unfold axp; rw [nrm_get, getL_append, getL_smul]
theorem axp_eq {y x zs : VL} {a : Rat} (h : Cn zs) (hg : ∀ p, getL zs p = getL y p + a * getL x p) : zs = axp y a x := Cn.ext h (nrm_cn _) fun p => by rw [hg, ← axp_get, axp]
theorem Cn.ris {x : VL} (h : Cn x) : Ris x := h.1
end Go.Tw
/-
  Contracts of the layer sparse: copies of rows of terms. Helpers; no statement of the program is proved here.
-/
set_option maxRecDepth 100000
set_option linter.unusedSimpArgs false
set_option linter.unusedVariables false
namespace Go.Proofs.Ytlfdobjdlgebbaa
open Go Go.Tw Go.RowKit
attribute [local irreducible] LoadAt StoreOk Stored rawVC

theorem cloneT_own {w : World} {a : Option Addr} {n c : Nat} {ts : List TmR} (h : Tms w a n ts) (hn : n ≤ 1099511627776) :
    CallS Try.prog 78 #[.slice a n c] w fun v w' => Ext w w' ∧ w'.ownsRow w.heap.size tT 5 v n (tcs ts) := by
  refine enter ttOk mixed (args := [.slice a n c]) Try.func78 rfl (by kernel_rfl) (by kernel_rfl) rfl ?_
  refine And.intro (fun h1 => ?_) (fun h1 => ?_)
  · have : n = 0 := by
      rcases Nat.eq_zero_or_pos n with h0 | h0
      · exact h0
      · obtain ⟨p, hp, _⟩ := h.base h0; rw [h1] at hp; cases hp
    subst this
    have : ts = [] := List.eq_nil_of_length_eq_zero h.len
    subst this
    exact ⟨Ext.rfl w, rfl, .inl ⟨rfl, rfl⟩⟩
  · intro b w1 hb
    have hown := owns_new hb (Nat.le_refl b) 0 5 rfl (by omega)
    refine ⟨rfl, b, 0, [], tcs ts, ⟨hown, ?_, (h.ext hb.ext).news, tcs_mem_one ts, h.base, ?_, ?_, ?_⟩, ?_⟩
    · rw [tcs_length, h.len]; rfl
    · omega
    · show (0 + n) * 72 ≤ _; omega
    · rw [hb.size, hb.isNew]; omega
    · intro v w2 ho hg _
      refine ⟨Ext.grown hb.ext hg ?_, ?_⟩
      · intro b' hb'
        simp only [Value.ownBlock, Option.some.injEq] at hb'
        rw [← hb', hb.isNew]; exact Nat.le_refl _
      · have := hb.isNew
        rw [← this]
        have ho' : w2.ownsRow b tT 5 v (0 + n) ([] ++ tcs ts) := ho
        rw [Nat.zero_add, List.nil_append] at ho'
        exact ho'
theorem cloneV_own {w : World} {a : Option Addr} {n c : Nat} {ts : List TmR} (h : Tms w a n ts) (hn : n ≤ 1099511627776) :
    CallS Try.prog 86 #[.slice a n c] w fun v w' => Ext w w' ∧ w'.ownsRow w.heap.size tT 5 v n (tcs ts) := by
  refine enter ttOk mixed (args := [.slice a n c]) Try.func86 rfl (by kernel_rfl) (by kernel_rfl) rfl ?_
  refine And.intro (fun h1 => ?_) (fun h1 => ?_)
  · have : n = 0 := by
      rcases Nat.eq_zero_or_pos n with h0 | h0
      · exact h0
      · obtain ⟨p, hp, _⟩ := h.base h0; rw [h1] at hp; cases hp
    subst this
    have : ts = [] := List.eq_nil_of_length_eq_zero h.len
    subst this
    exact ⟨Ext.rfl w, rfl, .inl ⟨rfl, rfl⟩⟩
  · intro b w1 hb
    have hown := owns_new hb (Nat.le_refl b) 0 5 rfl (by omega)
    refine ⟨rfl, b, 0, [], tcs ts, ⟨hown, ?_, (h.ext hb.ext).news, tcs_mem_one ts, h.base, ?_, ?_, ?_⟩, ?_⟩
    · rw [tcs_length, h.len]; rfl
    · omega
    · show (0 + n) * 72 ≤ _; omega
    · rw [hb.size, hb.isNew]; omega
    · intro v w2 ho hg _
      refine ⟨Ext.grown hb.ext hg ?_, ?_⟩
      · intro b' hb'
        simp only [Value.ownBlock, Option.some.injEq] at hb'
        rw [← hb', hb.isNew]; exact Nat.le_refl _
      · have := hb.isNew
        rw [← this]
        have ho' : w2.ownsRow b tT 5 v (0 + n) ([] ++ tcs ts) := ho
        rw [Nat.zero_add, List.nil_append] at ho'
        exact ho'
end Go.Proofs.Ytlfdobjdlgebbaa
