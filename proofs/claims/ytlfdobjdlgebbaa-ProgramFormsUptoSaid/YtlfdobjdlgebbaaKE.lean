/-
  Contracts of the layer program: the form of a program. Helpers; no statement of the program is proved here.
-/
import Derived.Test.YtlfdobjdlgebbaaKD
set_option maxRecDepth 100000
set_option linter.unusedSimpArgs false
set_option linter.unusedVariables false
namespace Go.Proofs.Ytlfdobjdlgebbaa
open Go Go.Tw Go.RowKit
attribute [local irreducible] LoadAt StoreOk Stored rawVC

/-! ### what a form says -/
def putT (X : List VL) (i : Int) (t : Int × Rat) : List VL := X.set t.1.toNat (X.getD t.1.toNat [] ++ [(i, t.2)])
/-- A row's first q terms in the columns. -/
def rowT (X : List VL) (i : Int) (xs : VL) (q : Nat) : List VL :=
  match q with
  | 0 => X
  | q + 1 => putT (rowT X i xs q) i (pl xs q, xl xs q)
def rowX (X : List VL) (i : Int) (xs : VL) : List VL := rowT X i xs xs.length ++ [[(i, 1)]]
def formX (rws : RWS) (n : Nat) (i : Nat) : List VL :=
  match i with
  | 0 => List.replicate n []
  | i + 1 => rowX (formX rws n i) (i : Int) (rws.getD i default).1
def sideL (vs : VS) (r : VL × Int × Rat) : Rat := if r.2.1 = 1 then 0 else if r.2.1 = 3 then minQ 0 (r.2.2 - (spanQ vs r.1 r.1.length).2) else 0
def sideU (vs : VS) (r : VL × Int × Rat) : Rat := if r.2.1 = 1 then maxQ 0 (r.2.2 - (spanQ vs r.1 r.1.length).1) else 0
def formL (vs : VS) (rws : RWS) (i : Nat) : List Rat := vs.map (fun x => x.1) ++ (rws.take i).map (sideL vs)
def formU (vs : VS) (rws : RWS) (i : Nat) : List Rat := vs.map (fun x => x.2.1) ++ (rws.take i).map (sideU vs)
def formC (vs : VS) (rws : RWS) (cost : VL) (i : Nat) : List Rat := (List.range vs.length).map (fun j : Nat => getL cost (j : Int)) ++ (rws.take i).map fun _ => 0
def formB (rws : RWS) (i : Nat) : List Rat := (rws.take i).map fun r => r.2.2
theorem rowT_length (X : List VL) (i : Int) (xs : VL) (q : Nat) : (rowT X i xs q).length = X.length := by
  induction q with
  | zero => rfl
  | succ q ih => simp only [rowT, putT, List.length_set, ih]
theorem formX_length (rws : RWS) (n i : Nat) : (formX rws n i).length = n + i := by
  induction i with
  | zero => simp [formX]
  | succ i ih => simp only [formX, rowX, List.length_append, rowT_length, ih, List.length_singleton]; omega
theorem rowT_le {X : List VL} {B : Nat} (h : ∀ z ∈ X, z.length ≤ B) (i : Int) (xs : VL) (q : Nat) : ∀ z ∈ rowT X i xs q, z.length ≤ B + q := by
  induction q with
  | zero => exact h
  | succ q ih =>
    intro z hz
    simp only [rowT, putT] at hz
    rcases List.mem_or_eq_of_mem_set hz with hz | rfl
    · have := ih z hz; omega
    · rw [List.length_append, List.length_singleton]
      rcases Nat.lt_or_ge (pl xs q).toNat (rowT X i xs q).length with hj | hj
      · have := ih ((rowT X i xs q).getD (pl xs q).toNat []) (by rw [List.getD_eq_getElem?_getD, List.getElem?_eq_getElem hj]; exact List.getElem_mem hj)
        omega
      · rw [List.getD_eq_getElem?_getD, List.getElem?_eq_none hj]
        show 0 + 1 ≤ _; omega
theorem formX_le {rws : RWS} {l : Nat} (h : ∀ (j : Nat) y, rws[j]? = some y → y.1.length ≤ l) (n i : Nat) : ∀ z ∈ formX rws n i, z.length ≤ i * (l + 1) := by
  induction i with
  | zero =>
    intro z hz
    rw [show formX rws n 0 = List.replicate n [] from rfl] at hz
    rw [(List.mem_replicate.1 hz).2]; exact Nat.zero_le _
  | succ i ih =>
    intro z hz
    have hl : (rws.getD i default).1.length ≤ l := by
      rcases Nat.lt_or_ge i rws.length with hj | hj
      · rw [List.getD_eq_getElem?_getD, List.getElem?_eq_getElem hj]; exact h i _ (List.getElem?_eq_getElem hj)
      · rw [List.getD_eq_getElem?_getD, List.getElem?_eq_none hj]; exact Nat.zero_le _
    simp only [formX, rowX, List.mem_append, List.mem_singleton] at hz
    rw [Nat.add_mul]
    rcases hz with hz | rfl
    · have := rowT_le ih (i : Int) (rws.getD i default).1 _ z hz; omega
    · show 1 ≤ _; omega
/-- The matrix stored in the form's cell. -/
theorem storeFC {w : World} {b : Nat} {f : FormR} {v : SlR} (hb : Blk w b tFrm f.cs) :
    StoreOk tt w 36 ⟨b, 1, none⟩ v.v ∧ ∀ w', Stored w w' ⟨b, 1, none⟩ v.v.cells.toList → Blk w' b tFrm (f.cs.set 1 v.v) ∧ w.grownBy w' (some b) := by
  refine ⟨storeOk (Eq.refl _) (Eq.refl _) hb (by show 1 + 1 ≤ 6; omega), fun w' hs => ⟨?_, (Stored.grown hs).1⟩⟩
  have := Stored.blk hs hb
  rw [show v.v.cells.toList = [v.v] from Eq.refl _, splice_one] at this
  exact this
/-- A form at its beginning. -/
def FS.start (g n : Nat) : FS := ⟨⟨none, 0, 0⟩, ⟨none, 0, 0⟩, ⟨none, 0, 0⟩, ⟨none, 0, 0⟩, ⟨some ⟨g, 0, none⟩, n, n⟩, List.replicate n ⟨none, 0, 0⟩, List.replicate n ⟨none, 0, 0⟩, [], [], [], [], List.replicate n []⟩
theorem FI.start {k base g n : Nat} {H : Hd} {w : World} (hH : HB H w) (hb : Blk w g tV (rep n [.slice none 0 0])) (hg : base ≤ g) (hn : n ≤ 1048576) (hno : ¬ H g) : FI k H base w (FS.start g n) [] [] [] [] (List.replicate n []) := by
  have key : ∀ (i : Nat) t c, (FS.start g n).ss[i]? = some t → t.v.ownBlock = some c → i = 4 ∧ c = g := by
    intro i t c h1 h2
    have : i = 4 ∨ t = ⟨none, 0, 0⟩ := by
      match i, h1 with
      | 0, h1 => right; exact (Option.some.inj h1).symm
      | 1, h1 => right; exact (Option.some.inj h1).symm
      | 2, h1 => right; exact (Option.some.inj h1).symm
      | 3, h1 => right; exact (Option.some.inj h1).symm
      | 4, h1 => left; rfl
      | i + 5, h1 =>
        right
        have h1 : (List.replicate n (⟨none, 0, 0⟩ : SlR))[i]? = some t := h1
        rw [List.getElem?_replicate] at h1
        split at h1
        · exact (Option.some.inj h1).symm
        · cases h1
    rcases this with rfl | rfl
    · have h1 : some (⟨some ⟨g, 0, none⟩, n, n⟩ : SlR) = some t := h1
      cases h1
      exact ⟨rfl, (Option.some.inj h2).symm⟩
    · cases h2
  refine ⟨hH, ⟨?_, ?_, fun i j t u c h1 h2 h3 h4 => by rw [(key i t c h1 h3).1, (key j u c h2 h4).1]⟩, ?_, Vals.nil _ _, Vals.nil _ _, Vals.nil _ _, Vals.nil _ _, by simp [FS.start], ?_⟩
  · simp [FS.start, FS.ss, FS.rs]
  · intro i t r h1 h2
    match i, h1, h2 with
    | 0, h1, h2 => cases h1; cases h2; exact nil_own
    | 1, h1, h2 => cases h1; cases h2; exact nil_own
    | 2, h1, h2 => cases h1; cases h2; exact nil_own
    | 3, h1, h2 => cases h1; cases h2; exact nil_own
    | 4, h1, h2 =>
      cases h1; cases h2
      have e : rep n [Value.slice none 0 0] = svs (List.replicate n (⟨none, 0, 0⟩ : SlR)) := by rw [rep_one]; simp [svs, SlR.v]
      rw [e] at hb
      show w.ownsRow base tV 1 (.slice (some ⟨g, 0, none⟩) n n) (List.replicate n (⟨none, 0, 0⟩ : SlR)).length (svs (List.replicate n ⟨none, 0, 0⟩))
      rw [List.length_replicate]
      exact owns_of_blk1 (R := []) (by rw [List.append_nil]; exact hb) hg (by simp [svs]) (Nat.le_refl _) (by omega) (by simp [svs])
    | i + 5, h1, h2 =>
      have h1 : (List.replicate n (⟨none, 0, 0⟩ : SlR))[i]? = some t := h1
      have h2 : ((List.replicate n ([] : List TmR)).map rt)[i]? = some r := h2
      rw [List.map_replicate] at h2
      rw [List.getElem?_replicate] at h1 h2
      split at h1
      · rename_i hi
        rw [if_pos hi] at h2
        cases h1; cases h2
        exact nil_own
      · cases h1
  · intro c hc t ht e
    obtain ⟨i, hi, rfl⟩ := List.getElem_of_mem ht
    have := (key i _ c (List.getElem?_eq_getElem hi) e).2
    exact hno (this ▸ hc)
  · intro j t z h1 h2
    have h1 : (List.replicate n ([] : List TmR))[j]? = some t := h1
    rw [List.getElem?_replicate] at h1 h2
    split at h1
    · rename_i hj
      rw [if_pos hj] at h2
      cases h1; cases h2
      exact .nil
    · cases h1

theorem take_snoc {α : Type} {L : List α} {i : Nat} {a : α} (h : L[i]? = some a) : L.take (i + 1) = L.take i ++ [a] := by rw [List.take_add_one, h]; rfl
instance : Enc FormR where
  cs := FormR.cs
  k := 6
  len := fun _ => rfl
  pos := by decide
  one := fun x v hv => by
    simp only [FormR.cs, List.mem_cons, List.not_mem_nil, or_false] at hv
    rcases hv with rfl | rfl | rfl | rfl | rfl | rfl <;> rfl
def FormR.zero : FormR := ⟨0, ⟨none, 0, 0⟩, ⟨none, 0, 0⟩, ⟨none, 0, 0⟩, ⟨none, 0, 0⟩, ⟨none, 0, 0⟩⟩
def h3 (b1 b2 fb : Nat) : Hd := fun c => c = b1 ∨ c = b2 ∨ c = fb
theorem formL_succ {vs : VS} {rws : RWS} {i : Nat} {y : VL × Int × Rat} (h : rws[i]? = some y) : formL vs rws (i + 1) = formL vs rws i ++ [sideL vs y] := by
  rw [formL, formL, take_snoc h, List.map_append, List.append_assoc]; rfl
theorem formU_succ {vs : VS} {rws : RWS} {i : Nat} {y : VL × Int × Rat} (h : rws[i]? = some y) : formU vs rws (i + 1) = formU vs rws i ++ [sideU vs y] := by
  rw [formU, formU, take_snoc h, List.map_append, List.append_assoc]; rfl
theorem formC_succ {vs : VS} {rws : RWS} {cost : VL} {i : Nat} {y : VL × Int × Rat} (h : rws[i]? = some y) : formC vs rws cost (i + 1) = formC vs rws cost i ++ [0] := by
  rw [formC, formC, take_snoc h, List.map_append, List.append_assoc]; rfl
theorem formB_succ {rws : RWS} {i : Nat} {y : VL × Int × Rat} (h : rws[i]? = some y) : formB rws (i + 1) = formB rws i ++ [y.2.2] := by
  rw [formB, formB, take_snoc h, List.map_append]; rfl
theorem formX_succ {rws : RWS} {n i : Nat} {y : VL × Int × Rat} (h : rws[i]? = some y) : formX rws n (i + 1) = rowT (formX rws n i) (i : Int) y.1 y.1.length ++ [[((i : Int), 1)]] := by
  have e : rws.getD i default = y := by rw [List.getD_eq_getElem?_getD, h]; rfl
  rw [formX, e, rowX]
/-- A row's end: the form of one row more. -/
theorem FI.rowEnd {k base b1 b2 fb b10 n i q : Nat} {w : World} {s : FS} {vs : VS} {rws : RWS} {cost : VL} {y : VL × Int × Rat} {ql qh : Rat}
    (h : FI k (fun c => h3 b1 b2 fb c ∨ c = b10) base w s (formL vs rws i ++ [ql]) (formU vs rws i ++ [qh]) (formC vs rws cost i ++ [0]) (formB rws i ++ [y.2.2]) (rowT (formX rws n i) (i : Int) y.1 q ++ [[((i : Int), 1)]]))
    (hy : rws[i]? = some y) (hq : q = y.1.length) (hl : ql = sideL vs y) (hh : qh = sideU vs y) :
    FI k (h3 b1 b2 fb) base w s (formL vs rws (i + 1)) (formU vs rws (i + 1)) (formC vs rws cost (i + 1)) (formB rws (i + 1)) (formX rws n (i + 1)) := by
  subst hq
  rw [formL_succ hy, formU_succ hy, formC_succ hy, formB_succ hy, formX_succ hy, ← hl, ← hh]
  exact h.to (fun b hb => h.hb b (.inl hb)) (fun b hb => .inl (.inl hb)) (Ext.rfl w)
theorem FI.toBase {k base : Nat} {H : Hd} {w : World} {s : FS} {L U C B : List Rat} {X : List VL} (h : FI k H base w s L U C B X) (hH : ∀ c, H c → base ≤ c) : ∀ b, gH H s.ss b → H0 b ∨ base ≤ b := by
  rintro b (hb | ⟨t, ht, hb⟩)
  · exact .inr (hH b hb)
  · obtain ⟨i, hi, rfl⟩ := List.getElem_of_mem ht
    exact .inr (h.gd.lt (List.getElem?_eq_getElem hi) hb).1
theorem Form_ok {k l k0 l0 : Nat} {w : World} {p : PrgR} {vr : List VarR} {rr : List RowR} {vs : VS} {rws : RWS} {cost : VL} {RC : Bool} {RR : Nat → Bool} (hP0 : PrgI k0 l0 w p vr rr vs rws cost) (hup : Good vs rws RC RR → PrgI k l w p vr rr vs rws cost) (hk : k ≤ 16777216 ∧ l ≤ 65536 ∧ pK k l ≤ 34359738368 ∧ k0 ≤ 16777216)
    (hn : p.vars.n ≤ 1099511627776 ∧ p.rows.n ≤ 1099511627776)
    (hRC : ∀ w', Ext w w' → CallS Try.prog 50 #[p.cost.v, .int .i64 (vs.length : Int)] w' fun v w'' => Ext w' w'' ∧ v = .bool RC)
    (hRR : ∀ (j : Nat) r, rr[j]? = some r → ∀ w', Ext w w' → CallS Try.prog 50 #[r.a.v, .int .i64 (vs.length : Int)] w' fun v w'' => Ext w' w'' ∧ v = .bool (RR j))
    (hin : ∀ (j : Nat) x, rws[j]? = some x → RR j = true → ∀ q, q < x.1.length → 0 ≤ pl x.1 q ∧ pl x.1 q < (vs.length : Int)) :
    CallS Try.prog 12 #[p.v] w fun v w' => Ext w w' ∧ ∃ (f : FormR) (e : Int), v = .tuple #[f.v, .int .i64 e] ∧ ((¬ Good vs rws RC RR ∧ e = 100 ∧ f = FormR.zero) ∨
      (Good vs rws RC RR ∧ e = 0 ∧ ∃ s : FS, f = s.form (rws.length : Int) ∧ s.cv = s.cs ∧ FI (k + 1) H0 w.heap.size w' s (formL vs rws rws.length) (formU vs rws rws.length) (formC vs rws cost rws.length) (formB rws rws.length) (formX rws vs.length rws.length))) := by
  obtain ⟨hk1, hl1, hK, hk0⟩ := hk
  obtain ⟨hn1, hn2⟩ := hn
  have hvn := hP0.vars.len
  have hvl := hP0.vlen
  have hrn := hP0.rows.len
  have hrl := hP0.rlen
  refine enter ttOk mixed (args := [p.v]) Try.func12 rfl (by kernel_rfl) (by kernel_rfl) rfl ?_
  intro b1 w1 hb1 b2 w2 hb2
  have x1 := hb1.ext
  have x2 := hb2.extFrom x1
  have hB1 : Blk w2 b1 tPrg p.cs := hb1.toBlk.ext hb2.ext
  have hB2 : Blk w2 b2 tFrm FormR.zero.cs := hb2.toBlk
  have ne12 : b1 ≠ b2 := by have := hb1.lt; have := hb2.isNew; omega
  refine ⟨p.v, hB1.agg (sub := p.cs) rfl rfl, ?_⟩
  refine CallS.mono (PRight_ok (hP0.ext x2) ⟨by omega, hn1, hn2⟩ (fun w' hx => hRC w' (Ext.trans' x2 hx)) (fun j r hj w' hx => hRR j r hj w' (Ext.trans' x2 hx))) ?_
  rintro _ w3 ⟨hx3, e, rfl, hg⟩
  have x3 := Ext.trans' x2 hx3
  refine And.intro (fun h1 => ?_) (fun h1 => ?_)
  · rcases hg with hg | hg
    · exact absurd (by rw [hg.2]) h1
    obtain ⟨hgood, he⟩ := hg
    subst he
    have st := storeE (T := tt) (ty := tFrm) FormR.zero (hB2.ext hx3) rfl
    refine ⟨st.1, fun w4 hs4 => ?_⟩
    obtain ⟨hB4, hg4⟩ := st.2 w4 hs4
    refine ⟨FormR.zero.v, hB4.agg (sub := FormR.zero.cs) rfl rfl, ?_⟩
    exact ⟨Ext.grownB x3 hg4 (hb2.ge x1), FormR.zero, 100, rfl, .inl ⟨hgood, rfl, rfl⟩⟩
  rcases hg with hg | hg
  case inr => exact absurd hg.2 (fun h => h1 (by rw [h]; decide))
  obtain ⟨hgood, he⟩ := hg
  subst he
  have hP := hup hgood
  refine ⟨sq 10, by kernel_rfl, ?_⟩
  refine ⟨_, (hB1.ext hx3).one (off := 1) rfl rfl, _, (hB1.ext hx3).one (off := 0) rfl rfl, ?_⟩
  refine ⟨⟨by omega, by omega, by show p.vars.n * 24 ≤ _; have := hgood.nv; omega, by show p.vars.n ≤ _; omega⟩, ?_⟩
  intro g hg4 fb hfb w4 hx4 hF4
  have hBg : Blk w4 g tV (rep p.vars.n [.slice none 0 0]) := hF4.2.1.1
  have hBf : Blk w4 fb tFrm FormR.zero.cs := hF4.1.1
  have nefg : fb ≠ g := fun h => hfb.1 (.inl h)
  have st := storeE (T := tt) (ty := tFrm) (FS.form (FS.start g p.vars.n) (p.rows.n : Int)) hBf rfl
  refine ⟨st.1, fun w5 hs5 => ?_⟩
  obtain ⟨hBf5, hg5⟩ := st.2 w5 hs5
  intro w6 hx6 _
  have gge : w3.heap.size ≤ g := hF4.2.1.2
  have fge : w3.heap.size ≤ fb := hF4.1.2
  have x4 := Ext.trans' x3 hx4
  have x36 : Ext w3 w6 := Ext.trans' (Ext.grownB hx4 hg5 fge) hx6
  have x6 := Ext.trans' x3 x36
  have hs3 := x3.size
  have l1 := hb1.lt
  have l2 := hb2.lt
  have g1 := hb1.ge (Ext.rfl w)
  have g2 := hb2.ge x1
  have s12 := hb2.ext.size
  have s23 := hx3.size
  have hBg6 : Blk w6 g tV (rep p.vars.n [.slice none 0 0]) := (Blk.grownN hBg hg5 (Ne.symm nefg)).ext hx6
  have hBf6 := hBf5.ext hx6
  have hB16 : Blk w6 b1 tPrg p.cs := (hB1.ext hx3).ext x36
  have hB26 : Blk w6 b2 tFrm FormR.zero.cs := (hB2.ext hx3).ext x36
  have lf := hBf6.lt
  have hHB : HB (h3 b1 b2 fb) w6 := by
    intro c hc
    have := x36.size
    rcases hc with rfl | rfl | rfl <;> omega
  have hS : FI (k + 1) (h3 b1 b2 fb) w.heap.size w6 (FS.start g p.vars.n) [] [] [] [] (List.replicate p.vars.n []) := FI.start hHB hBg6 (by omega) (by have := hgood.nv; omega) (by
    intro hc
    rcases hc with h | h | h
    · omega
    · omega
    · exact nefg h.symm)
  refine ⟨_, hB16.one (off := 0) rfl rfl, ?_⟩
  have ne1f : b1 ≠ fb := by omega
  have ne2f : b2 ≠ fb := by omega
  have toH : ∀ {w' : World} {s : FS} {L U C B : List Rat} {X : List VL}, FI (k + 1) (h3 b1 b2 fb) w.heap.size w' s L U C B X → ∀ b, gH (h3 b1 b2 fb) s.ss b → H0 b ∨ w.heap.size ≤ b := by
    intro w' s L U C B X h b hb
    rcases hb with hb | ⟨t, ht, hb⟩
    · right; rcases hb with rfl | rfl | rfl <;> omega
    · obtain ⟨i, hi, rfl⟩ := List.getElem_of_mem ht
      exact .inr (h.gd.lt (List.getElem?_eq_getElem hi) hb).1
  have hnv := hgood.nv
  have hnr := hgood.nr
  have hcl : 1 + cost.length * (k + 2) ≤ 137438953472 := by
    have h1 := hP.cost.len
    have h2 := Nat.mul_le_mul_right (k + 2) h1
    have h3 : l * (k + 2) ≤ l * (2 * k + 5) := Nat.mul_le_mul_left _ (by omega)
    unfold pK at hK
    omega
  refine ⟨Nat × FS, fun x => [(1, .pointer (some ⟨b1, 0, none⟩)), (2, .pointer (some ⟨b2, 0, none⟩)), (5, .pointer (some ⟨fb, 0, none⟩)), (6, .func (.func 63) #[] #[.pointer (some ⟨fb, 0, none⟩)]), (32, p.vars.v), (33, .int .i64 (p.vars.n : Int)), (34, .int .i64 (x.1 : Int))],
    fun x w' => Ext w w' ∧ FI (k + 1) (h3 b1 b2 fb) w.heap.size w' x.2 ((vs.map fun x => x.1).take x.1) ((vs.map fun x => x.2.1).take x.1) (((List.range vs.length).map fun j : Nat => getL cost (j : Int)).take x.1) [] (List.replicate p.vars.n []) ∧ Blk w' fb tFrm (x.2.form (p.rows.n : Int)).cs ∧ Blk w' b1 tPrg p.cs ∧ Blk w' b2 tFrm FormR.zero.cs ∧ x.1 ≤ p.vars.n ∧ x.2.cv = x.2.cs, fun x _ => p.vars.n - x.1,
    ⟨(0, FS.start g p.vars.n), ⟨rfl, rfl, rfl, rfl, rfl, rfl, rfl, trivial⟩, ⟨x6, hS, hBf6, hB16, hB26, Nat.zero_le _, rfl⟩⟩, ?_⟩
  clear hS hBf6 hB16 hB26 hBg6 x36 hx6 hBf5 hs5 hg5 st hBg hBf hF4 hx4
  rintro ⟨i, s⟩ w7 ⟨x7, hF7, hBf7, hB17, hB27, hi, hcv⟩
  dsimp only at *
  refine And.intro (fun h2 => ?_) (fun h2 => ?_)
  · have hin := ltTo h2
    refine (show ∃ v, vr[i]? = some v from ⟨_, gr_getD hP.vars hin⟩).elim fun v hgv => ?_
    refine (show ∃ y, vs[i]? = some y from ⟨_, List.getElem?_eq_getElem (by omega)⟩).elim fun y hgx => ?_
    have hvar := hP.var i v y hgv hgx
    have hlo := hvar.1
    have hhi := hvar.2.1
    refine ⟨i, ⟨rfl, hin, hP.vars.base (by omega)⟩, v.v, (hP.vars.ext x7).load hgv rfl rfl, ?_⟩
    intro b8 w8 hb8
    have st := storeE (T := tt) (ty := tVar) v hb8.toBlk rfl
    refine ⟨st.1, fun w9 hs9 => ?_⟩
    have hB89 := (st.2 w9 hs9).1
    have hg9 := (st.2 w9 hs9).2
    have hx79 : Ext w7 w9 := Ext.grownB hb8.ext hg9 (hb8.ge (Ext.rfl w7))
    have x9 := Ext.trans' x7 hx79
    have hF9 := hF7.ext hx79
    have ht9 := toH hF9
    refine ⟨sqK 10 [9], by kernel_rfl, v.lo.v, hB89.agg (sub := rcs v.lo) rfl rfl, v.hi.v, hB89.agg (sub := rcs v.hi) rfl rfl, p.cost.v, (hB17.ext hx79).one (off := 2) rfl rfl, ?_⟩
    refine dcallR (mk := RatR.v) (Q := fun r' w' => CanQ (gH (h3 b1 b2 fb) s.ss) w' r' (getL cost (i : Int))) RatR.inj (fun _ => CanQ.stable) (fun w' hw hF => CallS.mono (VGet_ok (HB.ext hF9.hbs hw) ((hP.cost.inv.to ht9).ext (Ext.trans' x9 hw)) (i : Int) (by omega) hcl) (fun v' w'' h => ⟨h.1, h.2.elim fun r hr => ⟨r, hr.1, hr.2.1⟩⟩)) ?_
    intro rc w10 hx10 hF10
    have x10 := Ext.trans' x9 hx10
    have hlL := hF7.vl.len
    have hlU := hF7.vu.len
    have hlC := hF7.vc.len
    rw [List.length_take] at hlL hlU hlC
    refine CallS.mono (Side_ok (K := k) (hF9.ext hx10) (hBf7.ext (Ext.trans' hx79 hx10)) (.inr (.inr rfl)) x10.size ((hlo.to ht9).ext x10) ((hhi.to ht9).ext x10) hF10.1 ⟨by omega, by omega, by omega⟩) ?_
    intro vv w11 hpost
    refine hpost.2.2.elim fun s' hpost' => ?_
    have hKH := hpost.2.1
    have hBf' := hpost'.1
    have hF' := hpost'.2.1
    have e4 := hpost'.2.2.2.2.1
    have e5 := hpost'.2.2.2.2.2.1
    intro w12 hx12 _
    refine ⟨((i + 1 : Nat) : Int), sucI i (by omega), (i + 1, s'), ⟨rfl, rfl, rfl, rfl, rfl, rfl, rfl, trivial⟩, ⟨?_, ?_, hBf'.ext hx12, ?_, ?_, hin, ?_⟩, Nat.sub_lt_sub_left hin (Nat.lt_succ_self i)⟩
    · exact Ext.trans' (KH.ext x10 (Nat.le_refl _) (by omega) hKH) hx12
    · have t1 : (vs.map fun x => x.1).take (i + 1) = (vs.map fun x => x.1).take i ++ [y.1] := take_snoc (by rw [List.getElem?_map, hgx]; rfl)
      have t2 : (vs.map fun x => x.2.1).take (i + 1) = (vs.map fun x => x.2.1).take i ++ [y.2.1] := take_snoc (by rw [List.getElem?_map, hgx]; rfl)
      have t3 : ((List.range vs.length).map fun j : Nat => getL cost (j : Int)).take (i + 1) = ((List.range vs.length).map fun j : Nat => getL cost (j : Int)).take i ++ [getL cost (i : Int)] := take_snoc (by rw [List.getElem?_map, List.getElem?_range (by omega)]; rfl)
      show FI (k + 1) (h3 b1 b2 fb) w.heap.size w12 s' ((vs.map fun x => x.1).take (i + 1)) ((vs.map fun x => x.2.1).take (i + 1)) (((List.range vs.length).map fun j : Nat => getL cost (j : Int)).take (i + 1)) [] (List.replicate p.vars.n [])
      rw [t1, t2, t3]
      exact hF'.ext hx12
    · exact (((hB17.ext (Ext.trans' hx79 hx10)).kh hKH (.inr (.inl rfl)) ne1f)).ext hx12
    · exact (((hB27.ext (Ext.trans' hx79 hx10)).kh hKH (.inr (.inr (.inl rfl))) ne2f)).ext hx12
    · show s'.cv = s'.cs
      rw [e5, e4]; exact hcv
  · have hi' : i = p.vars.n := Nat.le_antisymm hi (geTo h2)
    refine ⟨_, hB17.one (off := 1) rfl rfl, ?_⟩
    have hS2 : FI (k + 1) (h3 b1 b2 fb) w.heap.size w7 s (formL vs rws 0) (formU vs rws 0) (formC vs rws cost 0) (formB rws 0) (formX rws vs.length 0) := by
      have e1 : formL vs rws 0 = (vs.map fun x => x.1).take i := by rw [List.take_of_length_le (by rw [List.length_map]; omega)]; simp [formL]
      have e2 : formU vs rws 0 = (vs.map fun x => x.2.1).take i := by rw [List.take_of_length_le (by rw [List.length_map]; omega)]; simp [formU]
      have e3 : formC vs rws cost 0 = ((List.range vs.length).map fun j : Nat => getL cost (j : Int)).take i := by rw [List.take_of_length_le (by rw [List.length_map, List.length_range]; omega)]; simp [formC]
      have e4 : formX rws vs.length 0 = List.replicate p.vars.n [] := by show List.replicate vs.length [] = _; rw [show vs.length = p.vars.n by omega]
      rw [e1, e2, e3, e4]
      exact hF7
    refine ⟨Nat × FS, fun x => [(1, .pointer (some ⟨b1, 0, none⟩)), (2, .pointer (some ⟨b2, 0, none⟩)), (5, .pointer (some ⟨fb, 0, none⟩)), (6, .func (.func 63) #[] #[.pointer (some ⟨fb, 0, none⟩)]), (51, p.rows.v), (52, .int .i64 (p.rows.n : Int)), (53, .int .i64 (x.1 : Int))],
      fun x w' => Ext w w' ∧ FI (k + 1) (h3 b1 b2 fb) w.heap.size w' x.2 (formL vs rws x.1) (formU vs rws x.1) (formC vs rws cost x.1) (formB rws x.1) (formX rws vs.length x.1) ∧ Blk w' fb tFrm (x.2.form (p.rows.n : Int)).cs ∧ Blk w' b1 tPrg p.cs ∧ Blk w' b2 tFrm FormR.zero.cs ∧ x.1 ≤ p.rows.n ∧ x.2.cv = x.2.cs, fun x _ => p.rows.n - x.1,
      ⟨(0, s), ⟨rfl, rfl, rfl, rfl, rfl, rfl, rfl, trivial⟩, ⟨x7, hS2, hBf7, hB17, hB27, Nat.zero_le _, hcv⟩⟩, ?_⟩
    clear hS2 hBf7 hB17 hB27 hF7 x7 hcv
    rintro ⟨i, s⟩ w8 ⟨x8, hF8, hBf8, hB18, hB28, hi, hcv⟩
    dsimp only at *
    refine And.intro (fun h3' => ?_) (fun h3' => ?_)
    · have hin2 := ltTo h3'
      refine (show ∃ r, rr[i]? = some r from ⟨_, gr_getD hP.rows hin2⟩).elim fun r hgr => ?_
      refine (show ∃ y, rws[i]? = some y from ⟨_, List.getElem?_eq_getElem (by omega)⟩).elim fun y hgy => ?_
      have hrow := hP.row i r y hgr hgy
      have hgd := hgood.row i y hgy
      refine ⟨i, ⟨rfl, hin2, hP.rows.base (by omega)⟩, r.v, (hP.rows.ext x8).load hgr rfl rfl, ?_⟩
      intro b10 w9 hb10
      have st := storeE (T := tt) (ty := tRow) r hb10.toBlk rfl
      refine ⟨st.1, fun w10 hs10 => ?_⟩
      have hB10 := (st.2 w10 hs10).1
      have hg10 := (st.2 w10 hs10).2
      have hx810 : Ext w8 w10 := Ext.grownB hb10.ext hg10 (hb10.ge (Ext.rfl w8))
      have x10 := Ext.trans' x8 hx810
      refine ⟨_, hB10.one (off := 0) rfl rfl, ?_⟩
      have hF10 : FI (k + 1) (fun c => h3 b1 b2 fb c ∨ c = b10) w.heap.size w10 s (formL vs rws i) (formU vs rws i) (formC vs rws cost i) (formB rws i) (formX rws vs.length i) := by
        refine hF8.to ?_ (fun c hc => hc.imp_right fun e => ?_) hx810
        · intro c hc
          rcases hc with hc | hc
          · exact Nat.lt_of_lt_of_le (hF8.hb c hc) hx810.size
          · rw [hc]; exact hB10.lt
        · rw [e]; exact hb10.ge (Ext.rfl w8)
      have g10 : w.heap.size ≤ b10 := hb10.ge x8
      have ne10 : b10 ≠ fb := by have h1 := hBf8.lt; have h2 := hb10.ge (Ext.rfl w8); omega
      have hyl := hrow.1.len
      refine hrow.1.inv.ts.elim fun ts hTI => ?_
      have hT := hTI.1
      have hI := hTI.2
      have hTl := hT.len
      have hIl := hI.length
      have hinr := hin i y hgy hgd.2.2
      have hXle := formX_le (rws := rws) (l := l) (fun j z hz => by
        refine (show ∃ r, rr[j]? = some r from ⟨_, List.getElem?_eq_getElem (by have := (List.getElem?_eq_some_iff.1 hz).1; omega)⟩).elim fun r hr => (hP.row j r z hr hz).1.len) vs.length i
      have hXn := formX_length rws vs.length i
      have hil : i * (l + 1) ≤ 600 * 65537 := Nat.mul_le_mul (by omega) (by omega)
      refine ⟨Nat × FS, fun x => [(1, .pointer (some ⟨b1, 0, none⟩)), (2, .pointer (some ⟨b2, 0, none⟩)), (5, .pointer (some ⟨fb, 0, none⟩)), (6, .func (.func 63) #[] #[.pointer (some ⟨fb, 0, none⟩)]), (9, .int .i64 (i : Int)), (10, .pointer (some ⟨b10, 0, none⟩)), (51, p.rows.v), (52, .int .i64 (p.rows.n : Int)), (53, .int .i64 (i : Int)), (59, r.a.v), (60, .int .i64 (r.a.n : Int)), (61, .int .i64 (x.1 : Int))],
        fun x w' => Ext w w' ∧ FI (k + 1) (fun c => h3 b1 b2 fb c ∨ c = b10) w.heap.size w' x.2 (formL vs rws i) (formU vs rws i) (formC vs rws cost i) (formB rws i) (rowT (formX rws vs.length i) (i : Int) y.1 x.1) ∧ Blk w' fb tFrm (x.2.form (p.rows.n : Int)).cs ∧ Blk w' b1 tPrg p.cs ∧ Blk w' b2 tFrm FormR.zero.cs ∧ Blk w' b10 tRow r.cs ∧ x.1 ≤ r.a.n ∧ x.2.cv = x.2.cs, fun x _ => r.a.n - x.1,
        ⟨(0, s), ⟨rfl, rfl, rfl, rfl, rfl, rfl, rfl, rfl, rfl, rfl, rfl, rfl, trivial⟩, ⟨x10, hF10, hBf8.ext hx810, hB18.ext hx810, hB28.ext hx810, hB10, Nat.zero_le _, hcv⟩⟩, ?_⟩
      clear hF10 x10 hx810 hg10 hB10 st hb10 hcv hB28 hB18 hBf8 hF8 x8
      rintro ⟨q, s⟩ w11 ⟨x11, hF11, hBf11, hB111, hB211, hB10, hq, hcv⟩
      dsimp only at *
      refine And.intro (fun h4 => ?_) (fun h4 => ?_)
      · have hqn := ltTo h4
        refine (hI.get (vget (ys := y.1) (j := q) (by omega))).elim fun t ht0 => ?_
        have ht := ht0.1
        have hat : t.at' = pl y.1 q := ht0.2.1
        have hqx := ht0.2.2
        refine ⟨q, ⟨rfl, hqn, hT.base (by omega)⟩, t.v, (hT.ext x11).load (ty := tT) ht rfl rfl, ?_⟩
        intro b12 w12 hb12
        have hs := storeTmB (w' := w12) (t := t) hb12.toBlk rfl
        refine ⟨hs.1, fun w13 hs13 => ?_⟩
        have h13 := (storeTmB (t := t) hb12.toBlk rfl).2 hs13
        have hx13 : Ext w11 w13 := Ext.grownB hb12.ext h13.2 (hb12.ge (Ext.rfl w11))
        have hB12 := h13.1
        have hF13 := hF11.ext hx13
        have hBf13 := hBf11.ext hx13
        have x13 := Ext.trans' x11 hx13
        have hr := hinr q (by omega)
        refine (show ∃ P : Nat, t.at' = (P : Int) from ⟨t.at'.toNat, by omega⟩).elim fun P hP' => ?_
        have hPn : P < vs.length := by omega
        have hgl := hF13.gd.len
        have hcl2 : s.cs.length = s.ts.length := by
          simp only [FS.ss, FS.rs, List.length_cons, List.length_map] at hgl; omega
        have htx := hF13.xl
        have hrl := rowT_length (formX rws vs.length i) (i : Int) y.1 q
        have hPc : P < s.cs.length := by omega
        have hgc := hF13.getCv
        have hcvl : s.cv.length = s.cs.length := by rw [hcv]
        refine (show ∃ u, s.cs[P]? = some u from ⟨_, List.getElem?_eq_getElem hPc⟩).elim fun u hu => ?_
        have huv : s.cv[P]? = some u := by rw [hcv]; exact hu
        refine (show ∃ t0, s.ts[P]? = some t0 from ⟨_, List.getElem?_eq_getElem (by omega)⟩).elim fun t0 ht0' => ?_
        refine (show ∃ z, (rowT (formX rws vs.length i) (i : Int) y.1 q)[P]? = some z from ⟨_, List.getElem?_eq_getElem (by omega)⟩).elim fun z hz => ?_
        have hzl := rowT_le hXle (i : Int) y.1 q z (List.mem_of_getElem? hz)
        have ht0l := (hF13.vx P t0 z ht0' hz).length
        have toH' : ∀ b, gH (fun c => h3 b1 b2 fb c ∨ c = b10) s.ss b → H0 b ∨ w.heap.size ≤ b := fun b hb => hb.elim (fun h => .inr (h.elim (fun h => h.elim (fun h => by omega) fun h => h.elim (fun h => by omega) fun h => by omega) fun h => by omega)) fun h => h.elim fun t' ht' => (List.getElem_of_mem ht'.1).elim fun j hj => hj.elim fun hj1 hj2 => .inr (hF13.gd.lt (i := j) (s := t') (by rw [← hj2]; exact List.getElem?_eq_getElem hj1) ht'.2).1
        have hq13 := (hqx.to toH').ext x13
        have huown : ∀ b, u.v.ownBlock = some b → gH (fun c => h3 b1 b2 fb c ∨ c = b10) s.ss b := fun b hb => .inr ⟨u, .tail _ (.tail _ (.tail _ (.tail _ (.tail _ (List.mem_of_getElem? hu))))), hb⟩
        have hus : s.ss[P + 5]? = some u := hu
        have hur : s.rs[P + 5]? = some (rt t0) := by
          show (s.ts.map rt)[P]? = some (rt t0)
          rw [List.getElem?_map, ht0']; rfl
        refine ⟨sqK 19 [1, 3, 16], by kernel_rfl, s.cols.v, fun w' hw _ => (hBf13.ext hw).one (off := 1) rfl rfl, .int .i64 t.at', fun w' hw _ => (hB12.ext hw).one (off := 0) rfl rfl, s.cols.v, hBf13.one (off := 1) rfl rfl, _, hB12.one (off := 0) rfl rfl, P, ⟨hP', by omega, hgc.2.base (by omega)⟩, u.v, hgc.2.load (T := tt) (ty := tV) (sz := 1) (svs_get huv) rfl rfl, t.x.v, hB12.agg (sub := rcs t.x) rfl rfl, ?_⟩
        refine dcallR (mk := RatR.v) (Q := fun r' w' => CanQ (gH (fun c => h3 b1 b2 fb c ∨ c = b10) s.ss) w' r' (xl y.1 q)) RatR.inj (fun _ => CanQ.stable) (fun w' hw hF => Norm_ok (HB.ext hF13.hbs hw) (hq13.ext hw).is) ?_
        intro rn
        intro b15 _
        intro w14 hx14 hF14
        have hF14' := hF13.ext hx14
        have hB15 : Blk w14 b15 tT (tcs [⟨(i : Int), rn⟩]) := hF14.1.1
        have hB12' : Blk w14 b12 tT (tcs [t]) := by rw [tcs_one]; exact hB12.ext hx14
        refine ⟨rfl, w.heap.size, t0.length, tcs t0, tcs [⟨(i : Int), rn⟩], ⟨hF14'.gd.own _ _ _ hus hur, rfl, ?_, tcs_mem_one _, fun _ => ⟨_, rfl, rfl⟩, by omega, by show (t0.length + 1) * 72 ≤ _; omega, Nat.le_trans x13.size hx14.size⟩, ?_⟩
        · intro e v he
          exact hB15.cell (i := 0 + e) (v := v) (by rw [Nat.zero_add]; exact he)
        intro v15 w15 ho15 hg15 hn15
        have hqf : FitQ (k + 1) (xl y.1 q) := hqx.fit
        rw [tcs_one] at ho15
        refine (hF14'.pushTerm hu ht0' hz (tm := ⟨(i : Int), rn⟩) (q := ((i : Int), xl y.1 q)) ho15 hg15 hn15 rfl hF14.2.1 hqf).elim fun s' hs' => ?_
        have k15 : KeptNew w13 w14 w15 := FI.new hF13.gd hus hg15
        have k15' : KeptNew w11 w14 w15 := FI.new hF11.gd hus hg15
        have hB12n : Blk w15 b12 tT t.cs := by
          show w15.heap[b12]? = _
          rw [k15'.blk b12 (hb12.ge (Ext.rfl w11)) (hB12.ext hx14).lt]; exact hB12.ext hx14
        have hBf15 := hF14'.blk hus hg15 (hBf13.ext hx14) (.inr (.inl (.inr (.inr rfl))))
        refine ⟨⟨k15, ⟨?_, hF14.1.2⟩, hF14.2.1.grow hg15 huown, hB12n.one (off := 0) rfl rfl, hBf15.one (off := 1) rfl rfl, trivial⟩, ?_⟩
        · show w15.heap[b15]? = _
          rw [k15.blk b15 hF14.1.2 hB15.lt]; exact hF14.1.1
        refine ⟨P, ⟨hP', by omega, hgc.2.base (by omega)⟩, ?_⟩
        intro w16 hx16 _
        have hF16 := hs'.2.ext hx16
        have st := hF16.setCv (p := P) (by show P < s.cv.length; omega) s'
        refine ⟨by rw [hs'.1]; exact st.1, fun w17 hs17 => ?_⟩
        have h17 := st.2 w17 (by rw [← hs'.1]; exact hs17)
        have hg17 := h17.1
        intro w18 hx18 _
        have hF18 := h17.2.ext hx18
        have kh : KH w.heap.size (fun c => h3 b1 b2 fb c ∨ c = b10) w13.heap.size w13 w18 :=
          (KH.ofExt hx14).trans <| (KH.row hF14' hus hg15).trans <| (KH.ofExt hx16).trans <| (KH.row hF16 (i := 4) (t := s.cols) rfl hg17).trans (KH.ofExt hx18)
        have keep : ∀ {c t' : Nat} {cs : List Value}, Blk w13 c t' cs → (h3 b1 b2 fb c ∨ c = b10) → Blk w18 c t' cs := fun hb hc => hb.kh kh (.inr hc) (Nat.ne_of_lt hb.lt)
        refine ⟨((q + 1 : Nat) : Int), sucI q (by omega), (q + 1, { s with cs := s.cs.set P s', ts := s.ts.set P (t0 ++ [⟨(i : Int), rn⟩]), cv := s.cv.set P s' }), ⟨rfl, rfl, rfl, rfl, rfl, rfl, rfl, rfl, rfl, rfl, rfl, rfl, trivial⟩, ⟨KH.ext x13 (Nat.le_refl _) x13.size kh, ?_, keep hBf13 (.inl (.inr (.inr rfl))), keep (hB111.ext hx13) (.inl (.inl rfl)), keep (hB211.ext hx13) (.inl (.inr (.inl rfl))), keep (hB10.ext hx13) (.inr rfl), hqn, ?_⟩, Nat.sub_lt_sub_left hqn (Nat.lt_succ_self q)⟩
        · have e : rowT (formX rws vs.length i) (i : Int) y.1 (q + 1) = (rowT (formX rws vs.length i) (i : Int) y.1 q).set P (z ++ [((i : Int), xl y.1 q)]) := by
            have e1 : (pl y.1 q).toNat = P := by omega
            simp only [rowT, putT]
            rw [e1, List.getD_eq_getElem?_getD, hz]; rfl
          show FI (k + 1) _ w.heap.size w18 _ (formL vs rws i) (formU vs rws i) (formC vs rws cost i) (formB rws i) (rowT (formX rws vs.length i) (i : Int) y.1 (q + 1))
          rw [e]; exact hF18
        · show s.cv.set P s' = s.cs.set P s'
          rw [hcv]
      · have hqe : q = y.1.length := by have := Nat.le_antisymm hq (geTo h4); omega
        have hX11 : rowT (formX rws vs.length i) (i : Int) y.1 q = rowT (formX rws vs.length i) (i : Int) y.1 y.1.length := by rw [hqe]
        have hgl := hF11.gd.len
        have hcl2 : s.cs.length = s.ts.length := by
          simp only [FS.ss, FS.rs, List.length_cons, List.length_map] at hgl; omega
        have htx := hF11.xl
        have hrl := rowT_length (formX rws vs.length i) (i : Int) y.1 q
        have hcvl : s.cv.length = s.cs.length := by rw [hcv]
        refine ⟨sq 10, by kernel_rfl, s.cols.v, hBf11.one (off := 1) rfl rfl, ?_⟩
        refine dcallR (mk := RatR.v) (Q := fun r' w' => CanQ (gH (fun c => h3 b1 b2 fb c ∨ c = b10) s.ss) w' r' (Rat.divInt 1 1)) RatR.inj (fun _ => CanQ.stable) (fun w' hw hF => ROf_ok (HB.ext hF11.hbs hw) (by omega) (by omega) (by omega) (by omega)) ?_
        intro r1
        intro b12 _ b13 _
        intro w12 hx12 hF12
        have hB12 : Blk w12 b12 tT (tcs [⟨(i : Int), r1⟩]) := hF12.2.1.1
        have hB13 : Blk w12 b13 tV [SlR.v ⟨some ⟨b12, 0, none⟩, 1, 1⟩] := hF12.1.1
        have g12 : w11.heap.size ≤ b12 := hF12.2.1.2
        have s11 := x11.size
        have ho12 : w12.ownsRow w.heap.size tT 5 (SlR.v ⟨some ⟨b12, 0, none⟩, 1, 1⟩) 1 (tcs [⟨(i : Int), r1⟩]) := ⟨rfl, .inr ⟨b12, 1, _, rfl, by omega, hB12, Nat.le_refl _, by decide, rfl, rfl⟩⟩
        have hqr : CanQ (gH (fun c => h3 b1 b2 fb c ∨ c = b10) (s.ss ++ [⟨some ⟨b12, 0, none⟩, 1, 1⟩])) w12 r1 1 := by
          refine (hF12.2.2.1.withT hB12).to fun b hb => .inl ?_
          rcases hb with hb | ⟨t', ht', hb⟩
          · exact .inl (.inl hb)
          · rw [List.mem_append, List.mem_singleton] at ht'
            rcases ht' with ht' | ht'
            · exact .inl (.inr ⟨t', ht', hb⟩)
            · subst ht'
              exact .inr (Option.some.inj hb).symm
        have hN := hF11.newCol (u := ⟨some ⟨b12, 0, none⟩, 1, 1⟩) (tm := ⟨(i : Int), r1⟩) (q := ((i : Int), 1)) ho12 hx12 (fun c hc => by have e := Option.some.inj hc; have e2 : b12 = c := e; omega) rfl hqr ⟨Fit.one.mono (by omega), Fit.one.mono (by omega)⟩
        refine ⟨rfl, w.heap.size, s.cv.length, svs s.cv, [SlR.v ⟨some ⟨b12, 0, none⟩, 1, 1⟩], ⟨hN.gd.own 4 _ _ rfl rfl, rfl, ?_, ?_, fun _ => ⟨_, rfl, rfl⟩, by omega, by show (s.cv.length + 1) * 24 ≤ _; omega, Nat.le_trans x11.size hx12.size⟩, ?_⟩
        · intro e v he
          exact hB13.cell (i := 0 + e) (v := v) (by rw [Nat.zero_add]; exact he)
        · exact svs_one [⟨some ⟨b12, 0, none⟩, 1, 1⟩]
        intro v14 w14 ho14 hg14 hn14
        refine (hN.pushCv ho14 hg14 hn14).elim fun cols' hc' => ?_
        intro w15 hx15 _
        have hF15 := hc'.2.ext hx15
        have hBf15 := (hN.blk (i := 4) (u := s.cols) rfl hg14 (hBf11.ext hx12) (.inr (.inl (.inr (.inr rfl))))).ext hx15
        have st := storeFC (v := cols') hBf15
        refine ⟨by rw [hc'.1]; exact st.1, fun w16 hs16 => ?_⟩
        have h16 := st.2 w16 (by rw [← hc'.1]; exact hs16)
        have hF16 := hF15.at' h16.2 (.inl (.inr (.inr rfl)))
        intro w17 hx17 _
        have hF17 := hF16.ext hx17
        have hBf17 := h16.1.ext hx17
        have kh : KH w.heap.size (fun c => h3 b1 b2 fb c ∨ c = b10) fb w11 w17 :=
          (KH.ofExt hx12).trans <| (KH.row hN (i := 4) (t := s.cols) rfl hg14).trans <| (KH.ofExt hx15).trans <| (KH.at5 h16.2).trans (KH.ofExt hx17)
        have x17 := KH.ext x11 (Nat.le_refl _) (by omega) kh
        have hB117 := hB111.kh kh (.inr (.inl (.inl rfl))) ne1f
        have hB217 := hB211.kh kh (.inr (.inl (.inr (.inl rfl)))) ne2f
        have hB1017 := hB10.kh kh (.inr (.inr rfl)) ne10
        refine ⟨p.v, hB117.agg (sub := p.cs) rfl rfl, _, hB1017.one (off := 0) rfl rfl, ?_⟩
        have toH2 : ∀ b, gH (fun c => h3 b1 b2 fb c ∨ c = b10) (FS.ss { s with cs := s.cs ++ [⟨some ⟨b12, 0, none⟩, 1, 1⟩], ts := s.ts ++ [[⟨(i : Int), r1⟩]], cols := cols', cv := s.cv ++ [⟨some ⟨b12, 0, none⟩, 1, 1⟩] }) b → H0 b ∨ w.heap.size ≤ b := fun b hb => hb.elim (fun h => .inr (h.elim (fun h => h.elim (fun h => by omega) fun h => h.elim (fun h => by omega) fun h => by omega) fun h => by omega)) fun h => h.elim fun t' ht' => (List.getElem_of_mem ht'.1).elim fun j hj => hj.elim fun hj1 hj2 => .inr (hF17.gd.lt (i := j) (s := t') (by rw [← hj2]; exact List.getElem?_eq_getElem hj1) ht'.2).1
        refine CallS.mono (Span_ok (l := l) hF17.hbs ((hP.vs.to toH2).ext x17) ((hrow.1.inv.to toH2).ext x17) hyl ⟨hk1, hl1, hK, by omega⟩) ?_
        intro v18 w18 hsp
        refine hsp.2.elim fun sl hsp2 => hsp2.elim fun sh hsp3 => ?_
        have hx18 := hsp.1
        have hv18 := hsp3.1
        have hsl := hsp3.2.1
        have hsh := hsp3.2.2
        subst hv18
        intro c13 w19 hc13 c14 w20 hc14
        have hC13 : Blk w20 c13 tRat (rcs RatR.zero) := hc13.toBlk.ext hc14.ext
        have nec : c13 ≠ c14 := by have := hc13.lt; have := hc14.isNew; omega
        have s1 := storeQ (r := sl) hC13 (hc14.extFrom hc13.ext) (hc13.ge (Ext.rfl w18)) rfl
        refine ⟨s1.1, fun w21 hs21 => ?_⟩
        have h21 := s1.2 w21 hs21
        have s2 := storeQ (r := sh) (Blk.grownN hc14.toBlk h21.2.1 (Ne.symm nec)) h21.2.2 (hc14.ge hc13.ext) rfl
        refine ⟨s2.1, fun w22 hs22 => ?_⟩
        have h22 := s2.2 w22 hs22
        have hC13' := Blk.grownN h21.1 h22.2.1 nec
        have hx22 : Ext w17 w22 := Ext.trans' hx18 h22.2.2
        intro c15 w23 hc15
        have hx23 : Ext w17 w23 := Ext.trans' hx22 hc15.ext
        refine ⟨_, (hB1017.ext hx23).one (off := 1) rfl rfl, ?_⟩
        have hC13b := hC13'.ext hc15.ext
        have hC14b := h22.1.ext hc15.ext
        have hC15 : Blk w23 c15 tRat (rcs RatR.zero) := hc15.toBlk
        have hB1023 := hB1017.ext hx23
        have hF23 := hF17.ext hx23
        have x23 := Ext.trans' x17 hx23
        refine And.intro (fun h5 => ?_) (fun h5 => ?_)
        · refine ⟨sqK 10 [9], by kernel_rfl, RatR.zero.v, loadQ hC15, RatR.zero.v, loadQ hC15, r.b.v, hB1023.agg (sub := rcs r.b) rfl rfl, sl.v, loadQ hC13b, ?_⟩
          have hbI := (hrow.2.2.to toH2).ext x23
          have hslI := hsl.1.ext (Ext.trans' h22.2.2 hc15.ext)
          have hyl' : pK k l ≤ 137438953472 := by omega
          refine dcallR (mk := RatR.v) (Q := fun r' w' => CanQ (gH (fun c => h3 b1 b2 fb c ∨ c = b10) (FS.ss { s with cs := s.cs ++ [⟨some ⟨b12, 0, none⟩, 1, 1⟩], ts := s.ts ++ [[⟨(i : Int), r1⟩]], cols := cols', cv := s.cv ++ [⟨some ⟨b12, 0, none⟩, 1, 1⟩] })) w' r' (y.2.2 - (spanQ vs y.1 y.1.length).1)) RatR.inj (fun _ => CanQ.stable) (fun w' hw hF => RSub_ok (HB.ext hF23.hbs hw) ((hbI.ext hw).mono (by omega)) ((hslI.ext hw).inq (hsl.2.mono hyl') (by omega))) ?_
          intro rs1
          have hfs : FitQ (k + 1 + pK k l + 1) (y.2.2 - (spanQ vs y.1 y.1.length).1) := FitQ.sub hbI.fit hsl.2
          refine dcallR (mk := RatR.v) (Q := fun r' w' => CanQ (gH (fun c => h3 b1 b2 fb c ∨ c = b10) (FS.ss { s with cs := s.cs ++ [⟨some ⟨b12, 0, none⟩, 1, 1⟩], ts := s.ts ++ [[⟨(i : Int), r1⟩]], cols := cols', cv := s.cv ++ [⟨some ⟨b12, 0, none⟩, 1, 1⟩] })) w' r' (maxQ 0 (y.2.2 - (spanQ vs y.1 y.1.length).1))) RatR.inj (fun _ => CanQ.stable) (fun w' hw hF => RMax_ok (HB.ext hF23.hbs hw) (InQ.zero _ _ _) (hF.1.inq (hfs.mono (by omega)) (by omega))) ?_
          intro rs2
          refine ⟨RatR.zero.v, loadQ hC15, ?_⟩
          intro w24 hx24 hF24
          have hlL : s.los.length < 1048576 := by
            have h := hF11.vl.len
            simp only [formL, List.length_append, List.length_map, List.length_take] at h; omega
          have hlU : s.his.length < 1048576 := by
            have h := hF11.vu.len
            simp only [formU, List.length_append, List.length_map, List.length_take] at h; omega
          have hlC : s.costs.length < 1048576 := by
            have h := hF11.vc.len
            simp only [formC, List.length_append, List.length_map, List.length_take, List.length_range] at h; omega
          refine CallS.mono (Side_ok (K := 137438953472) (ql := 0) (qc := 0) (hF23.ext hx24) (hBf17.ext (Ext.trans' hx23 hx24)) (.inl (.inr (.inr rfl))) (Ext.trans' x23 hx24).size (InQ.zero _ _ _) (hF24.1.inq ((fit_max (FitQ.zero (by omega)) hfs).mono (show k + 1 + pK k l + 1 ≤ 137438953472 by omega)) (by omega)) (CanQ.zero _ _) ⟨hlL, hlU, hlC⟩) ?_
          intro vv w25 hpost
          intro w26 hx26 _
          refine hpost.2.2.elim fun s' hpost' => ?_
          have hKH := hpost.2.1
          have hBf25 := hpost'.1
          have hF25 := hpost'.2.1
          have hcs := hpost'.2.2.2
          have hF26 := hF25.ext hx26
          have hBf26 := hBf25.ext hx26
          have kh26 : KH w.heap.size (fun c => h3 b1 b2 fb c ∨ c = b10) fb w17 w26 := (KH.ofExt (Ext.trans' hx23 hx24)).trans (hKH.trans (KH.ofExt hx26))
          have x26 := KH.ext x17 (Nat.le_refl _) (by omega) kh26
          have hB126 := hB117.kh kh26 (.inr (.inl (.inl rfl))) ne1f
          have hB226 := hB217.kh kh26 (.inr (.inl (.inr (.inl rfl)))) ne2f
          have hB1026 := hB1017.kh kh26 (.inr (.inr rfl)) ne10
          have toB := hF26.toBase (fun c h => h.elim (fun h => h.elim (fun h => by omega) fun h => h.elim (fun h => by omega) fun h => by omega) fun h => by omega)
          have hbI26 := (hrow.2.2.to toB).ext x26
          refine ⟨sq 9, by kernel_rfl, s'.b.v, hBf26.one (off := 5) rfl rfl, r.b.v, hB1026.agg (sub := rcs r.b) rfl rfl, ?_⟩
          refine dcallR (mk := RatR.v) (Q := fun r' w' => CanQ (gH (fun c => h3 b1 b2 fb c ∨ c = b10) s'.ss) w' r' y.2.2) RatR.inj (fun _ => CanQ.stable) (fun w' hw hF => Norm_ok (HB.ext hF26.hbs hw) (hbI26.ext hw).is) ?_
          intro rb
          intro b29 _
          intro w27 hx27 hF27
          have hF27' := hF26.ext hx27
          have hB29 : Blk w27 b29 tRat (rcs rb) := hF27.1.1
          have hbl := hF26.vb.len
          have hbl2 : (formB rws i).length ≤ 600 := by rw [formB, List.length_map, List.length_take]; omega
          refine ⟨rfl, w.heap.size, s'.bs.length, gcs s'.bs, rcs rb, ⟨hF27'.gd.own 3 _ _ rfl rfl, rfl, ?_, Enc.one rb, fun _ => ⟨_, rfl, rfl⟩, by omega, by show (s'.bs.length + 1) * 64 ≤ _; omega, Nat.le_trans x26.size hx27.size⟩, ?_⟩
          · intro e v he
            exact hB29.cell (i := 0 + e) (v := v) (by rw [Nat.zero_add]; exact he)
          intro v28 w28 ho28 hg28 hn28
          refine (hF27'.pushB ho28 hg28 hn28 hF27.2.1).elim fun b' hb' => ?_
          intro w29 hx29 _
          have hF29 := hb'.2.ext hx29
          have hBf29 := (hF27'.blk (i := 3) (u := s'.b) rfl hg28 (hBf26.ext hx27) (.inr (.inl (.inr (.inr rfl))))).ext hx29
          have st := storeF (i := 4) (v := b') hBf29 (by decide)
          refine ⟨by rw [hb'.1]; exact st.1, fun w30 hs30 => ?_⟩
          have h30 := st.2 w30 (by rw [← hb'.1]; exact hs30)
          have hF30 := hF29.at' h30.2 (.inl (.inr (.inr rfl)))
          intro w31 hx31 _
          have hF31 := hF30.ext hx31
          have hBf31 := h30.1.ext hx31
          have kh31 : KH w.heap.size (fun c => h3 b1 b2 fb c ∨ c = b10) fb w17 w31 :=
            kh26.trans <| (KH.ofExt hx27).trans <| (KH.row hF27' (i := 3) (t := s'.b) rfl hg28).trans <| (KH.ofExt hx29).trans <| (KH.at5 h30.2).trans (KH.ofExt hx31)
          refine ⟨((i + 1 : Nat) : Int), sucI i (by omega), (i + 1, { s' with b := b', bs := s'.bs ++ [rb] }), ⟨rfl, rfl, rfl, rfl, rfl, rfl, rfl, trivial⟩, ⟨KH.ext x17 (Nat.le_refl _) (by omega) kh31, FI.rowEnd hF31 hgy hqe ?_ ?_, hBf31, hB117.kh kh31 (.inr (.inl (.inl rfl))) ne1f, hB217.kh kh31 (.inr (.inl (.inr (.inl rfl)))) ne2f, hin2, ?_⟩, Nat.sub_lt_sub_left hin2 (Nat.lt_succ_self i)⟩
          rotate_right
          · show s'.cv = s'.cs
            rw [hcs.2.1, hcs.2.2.1]
            show s.cv ++ _ = s.cs ++ _
            rw [hcv]
          · have hk1' : y.2.1 = 1 := hrow.2.1.symm.trans h5
            simp only [sideL]; rw [if_pos hk1']
          · have hk1' : y.2.1 = 1 := hrow.2.1.symm.trans h5
            simp only [sideU]; rw [if_pos hk1']
        · refine And.intro (fun h6 => ?_) (fun h6 => ?_)
          · refine ⟨sqK 10 [9], by kernel_rfl, RatR.zero.v, loadQ hC15, r.b.v, hB1023.agg (sub := rcs r.b) rfl rfl, sh.v, loadQ hC14b, ?_⟩
            have hbI := (hrow.2.2.to toH2).ext x23
            have hshI := hsh.1.ext (Ext.trans' h22.2.2 hc15.ext)
            have hyl' : pK k l ≤ 137438953472 := by omega
            refine dcallR (mk := RatR.v) (Q := fun r' w' => CanQ (gH (fun c => h3 b1 b2 fb c ∨ c = b10) (FS.ss { s with cs := s.cs ++ [⟨some ⟨b12, 0, none⟩, 1, 1⟩], ts := s.ts ++ [[⟨(i : Int), r1⟩]], cols := cols', cv := s.cv ++ [⟨some ⟨b12, 0, none⟩, 1, 1⟩] })) w' r' (y.2.2 - (spanQ vs y.1 y.1.length).2)) RatR.inj (fun _ => CanQ.stable) (fun w' hw hF => RSub_ok (HB.ext hF23.hbs hw) ((hbI.ext hw).mono (by omega)) ((hshI.ext hw).inq (hsh.2.mono hyl') (by omega))) ?_
            intro rs1
            have hfs : FitQ (k + 1 + pK k l + 1) (y.2.2 - (spanQ vs y.1 y.1.length).2) := FitQ.sub hbI.fit hsh.2
            refine dcallR (mk := RatR.v) (Q := fun r' w' => CanQ (gH (fun c => h3 b1 b2 fb c ∨ c = b10) (FS.ss { s with cs := s.cs ++ [⟨some ⟨b12, 0, none⟩, 1, 1⟩], ts := s.ts ++ [[⟨(i : Int), r1⟩]], cols := cols', cv := s.cv ++ [⟨some ⟨b12, 0, none⟩, 1, 1⟩] })) w' r' (minQ 0 (y.2.2 - (spanQ vs y.1 y.1.length).2))) RatR.inj (fun _ => CanQ.stable) (fun w' hw hF => RMin_ok (HB.ext hF23.hbs hw) (InQ.zero _ _ _) (hF.1.inq (hfs.mono (by omega)) (by omega))) ?_
            intro rs2
            refine ⟨RatR.zero.v, loadQ hC15, RatR.zero.v, loadQ hC15, ?_⟩
            intro w24 hx24 hF24
            have hlL : s.los.length < 1048576 := by
              have h := hF11.vl.len
              simp only [formL, List.length_append, List.length_map, List.length_take] at h; omega
            have hlU : s.his.length < 1048576 := by
              have h := hF11.vu.len
              simp only [formU, List.length_append, List.length_map, List.length_take] at h; omega
            have hlC : s.costs.length < 1048576 := by
              have h := hF11.vc.len
              simp only [formC, List.length_append, List.length_map, List.length_take, List.length_range] at h; omega
            refine CallS.mono (Side_ok (K := 137438953472) (qh := 0) (qc := 0) (hF23.ext hx24) (hBf17.ext (Ext.trans' hx23 hx24)) (.inl (.inr (.inr rfl))) (Ext.trans' x23 hx24).size (hF24.1.inq ((fit_min (FitQ.zero (by omega)) hfs).mono (show k + 1 + pK k l + 1 ≤ 137438953472 by omega)) (by omega)) (InQ.zero _ _ _) (CanQ.zero _ _) ⟨hlL, hlU, hlC⟩) ?_
            intro vv w25 hpost
            intro w26 hx26 _
            refine hpost.2.2.elim fun s' hpost' => ?_
            have hKH := hpost.2.1
            have hBf25 := hpost'.1
            have hF25 := hpost'.2.1
            have hcs := hpost'.2.2.2
            have hF26 := hF25.ext hx26
            have hBf26 := hBf25.ext hx26
            have kh26 : KH w.heap.size (fun c => h3 b1 b2 fb c ∨ c = b10) fb w17 w26 := (KH.ofExt (Ext.trans' hx23 hx24)).trans (hKH.trans (KH.ofExt hx26))
            have x26 := KH.ext x17 (Nat.le_refl _) (by omega) kh26
            have hB126 := hB117.kh kh26 (.inr (.inl (.inl rfl))) ne1f
            have hB226 := hB217.kh kh26 (.inr (.inl (.inr (.inl rfl)))) ne2f
            have hB1026 := hB1017.kh kh26 (.inr (.inr rfl)) ne10
            have toB := hF26.toBase (fun c h => h.elim (fun h => h.elim (fun h => by omega) fun h => h.elim (fun h => by omega) fun h => by omega) fun h => by omega)
            have hbI26 := (hrow.2.2.to toB).ext x26
            refine ⟨sq 9, by kernel_rfl, s'.b.v, hBf26.one (off := 5) rfl rfl, r.b.v, hB1026.agg (sub := rcs r.b) rfl rfl, ?_⟩
            refine dcallR (mk := RatR.v) (Q := fun r' w' => CanQ (gH (fun c => h3 b1 b2 fb c ∨ c = b10) s'.ss) w' r' y.2.2) RatR.inj (fun _ => CanQ.stable) (fun w' hw hF => Norm_ok (HB.ext hF26.hbs hw) (hbI26.ext hw).is) ?_
            intro rb
            intro b29 _
            intro w27 hx27 hF27
            have hF27' := hF26.ext hx27
            have hB29 : Blk w27 b29 tRat (rcs rb) := hF27.1.1
            have hbl := hF26.vb.len
            have hbl2 : (formB rws i).length ≤ 600 := by rw [formB, List.length_map, List.length_take]; omega
            refine ⟨rfl, w.heap.size, s'.bs.length, gcs s'.bs, rcs rb, ⟨hF27'.gd.own 3 _ _ rfl rfl, rfl, ?_, Enc.one rb, fun _ => ⟨_, rfl, rfl⟩, by omega, by show (s'.bs.length + 1) * 64 ≤ _; omega, Nat.le_trans x26.size hx27.size⟩, ?_⟩
            · intro e v he
              exact hB29.cell (i := 0 + e) (v := v) (by rw [Nat.zero_add]; exact he)
            intro v28 w28 ho28 hg28 hn28
            refine (hF27'.pushB ho28 hg28 hn28 hF27.2.1).elim fun b' hb' => ?_
            intro w29 hx29 _
            have hF29 := hb'.2.ext hx29
            have hBf29 := (hF27'.blk (i := 3) (u := s'.b) rfl hg28 (hBf26.ext hx27) (.inr (.inl (.inr (.inr rfl))))).ext hx29
            have st := storeF (i := 4) (v := b') hBf29 (by decide)
            refine ⟨by rw [hb'.1]; exact st.1, fun w30 hs30 => ?_⟩
            have h30 := st.2 w30 (by rw [← hb'.1]; exact hs30)
            have hF30 := hF29.at' h30.2 (.inl (.inr (.inr rfl)))
            intro w31 hx31 _
            have hF31 := hF30.ext hx31
            have hBf31 := h30.1.ext hx31
            have kh31 : KH w.heap.size (fun c => h3 b1 b2 fb c ∨ c = b10) fb w17 w31 :=
              kh26.trans <| (KH.ofExt hx27).trans <| (KH.row hF27' (i := 3) (t := s'.b) rfl hg28).trans <| (KH.ofExt hx29).trans <| (KH.at5 h30.2).trans (KH.ofExt hx31)
            refine ⟨((i + 1 : Nat) : Int), sucI i (by omega), (i + 1, { s' with b := b', bs := s'.bs ++ [rb] }), ⟨rfl, rfl, rfl, rfl, rfl, rfl, rfl, trivial⟩, ⟨KH.ext x17 (Nat.le_refl _) (by omega) kh31, FI.rowEnd hF31 hgy hqe ?_ ?_, hBf31, hB117.kh kh31 (.inr (.inl (.inl rfl))) ne1f, hB217.kh kh31 (.inr (.inl (.inr (.inl rfl)))) ne2f, hin2, ?_⟩, Nat.sub_lt_sub_left hin2 (Nat.lt_succ_self i)⟩
            rotate_right
            · show s'.cv = s'.cs
              rw [hcs.2.1, hcs.2.2.1]
              show s.cv ++ _ = s.cs ++ _
              rw [hcv]
            · have hk1' : y.2.1 = 3 := hrow.2.1.symm.trans h6
              simp only [sideL]; rw [if_neg (by omega), if_pos hk1']
            · have hk1' : y.2.1 = 3 := hrow.2.1.symm.trans h6
              simp only [sideU]; rw [if_neg (by omega)]
          · refine ⟨RatR.zero.v, loadQ hC15, RatR.zero.v, loadQ hC15, RatR.zero.v, loadQ hC15, ?_⟩
            have hx24 := Ext.rfl w23
            have hlL : s.los.length < 1048576 := by
              have h := hF11.vl.len
              simp only [formL, List.length_append, List.length_map, List.length_take] at h; omega
            have hlU : s.his.length < 1048576 := by
              have h := hF11.vu.len
              simp only [formU, List.length_append, List.length_map, List.length_take] at h; omega
            have hlC : s.costs.length < 1048576 := by
              have h := hF11.vc.len
              simp only [formC, List.length_append, List.length_map, List.length_take, List.length_range] at h; omega
            refine CallS.mono (Side_ok (K := 137438953472) (ql := 0) (qh := 0) (qc := 0) hF23 (hBf17.ext hx23) (.inl (.inr (.inr rfl))) x23.size (InQ.zero _ _ _) (InQ.zero _ _ _) (CanQ.zero _ _) ⟨hlL, hlU, hlC⟩) ?_
            intro vv w26 hpost
            have hx26 := Ext.rfl w26
            refine hpost.2.2.elim fun s' hpost' => ?_
            have hKH := hpost.2.1
            have hBf25 := hpost'.1
            have hF25 := hpost'.2.1
            have hcs := hpost'.2.2.2
            have hF26 := hF25.ext hx26
            have hBf26 := hBf25.ext hx26
            have kh26 : KH w.heap.size (fun c => h3 b1 b2 fb c ∨ c = b10) fb w17 w26 := (KH.ofExt (Ext.trans' hx23 hx24)).trans (hKH.trans (KH.ofExt hx26))
            have x26 := KH.ext x17 (Nat.le_refl _) (by omega) kh26
            have hB126 := hB117.kh kh26 (.inr (.inl (.inl rfl))) ne1f
            have hB226 := hB217.kh kh26 (.inr (.inl (.inr (.inl rfl)))) ne2f
            have hB1026 := hB1017.kh kh26 (.inr (.inr rfl)) ne10
            have toB := hF26.toBase (fun c h => h.elim (fun h => h.elim (fun h => by omega) fun h => h.elim (fun h => by omega) fun h => by omega) fun h => by omega)
            have hbI26 := (hrow.2.2.to toB).ext x26
            refine ⟨sq 9, by kernel_rfl, s'.b.v, hBf26.one (off := 5) rfl rfl, r.b.v, hB1026.agg (sub := rcs r.b) rfl rfl, ?_⟩
            refine dcallR (mk := RatR.v) (Q := fun r' w' => CanQ (gH (fun c => h3 b1 b2 fb c ∨ c = b10) s'.ss) w' r' y.2.2) RatR.inj (fun _ => CanQ.stable) (fun w' hw hF => Norm_ok (HB.ext hF26.hbs hw) (hbI26.ext hw).is) ?_
            intro rb
            intro b29 _
            intro w27 hx27 hF27
            have hF27' := hF26.ext hx27
            have hB29 : Blk w27 b29 tRat (rcs rb) := hF27.1.1
            have hbl := hF26.vb.len
            have hbl2 : (formB rws i).length ≤ 600 := by rw [formB, List.length_map, List.length_take]; omega
            refine ⟨rfl, w.heap.size, s'.bs.length, gcs s'.bs, rcs rb, ⟨hF27'.gd.own 3 _ _ rfl rfl, rfl, ?_, Enc.one rb, fun _ => ⟨_, rfl, rfl⟩, by omega, by show (s'.bs.length + 1) * 64 ≤ _; omega, Nat.le_trans x26.size hx27.size⟩, ?_⟩
            · intro e v he
              exact hB29.cell (i := 0 + e) (v := v) (by rw [Nat.zero_add]; exact he)
            intro v28 w28 ho28 hg28 hn28
            refine (hF27'.pushB ho28 hg28 hn28 hF27.2.1).elim fun b' hb' => ?_
            intro w29 hx29 _
            have hF29 := hb'.2.ext hx29
            have hBf29 := (hF27'.blk (i := 3) (u := s'.b) rfl hg28 (hBf26.ext hx27) (.inr (.inl (.inr (.inr rfl))))).ext hx29
            have st := storeF (i := 4) (v := b') hBf29 (by decide)
            refine ⟨by rw [hb'.1]; exact st.1, fun w30 hs30 => ?_⟩
            have h30 := st.2 w30 (by rw [← hb'.1]; exact hs30)
            have hF30 := hF29.at' h30.2 (.inl (.inr (.inr rfl)))
            intro w31 hx31 _
            have hF31 := hF30.ext hx31
            have hBf31 := h30.1.ext hx31
            have kh31 : KH w.heap.size (fun c => h3 b1 b2 fb c ∨ c = b10) fb w17 w31 :=
              kh26.trans <| (KH.ofExt hx27).trans <| (KH.row hF27' (i := 3) (t := s'.b) rfl hg28).trans <| (KH.ofExt hx29).trans <| (KH.at5 h30.2).trans (KH.ofExt hx31)
            refine ⟨((i + 1 : Nat) : Int), sucI i (by omega), (i + 1, { s' with b := b', bs := s'.bs ++ [rb] }), ⟨rfl, rfl, rfl, rfl, rfl, rfl, rfl, trivial⟩, ⟨KH.ext x17 (Nat.le_refl _) (by omega) kh31, FI.rowEnd hF31 hgy hqe ?_ ?_, hBf31, hB117.kh kh31 (.inr (.inl (.inl rfl))) ne1f, hB217.kh kh31 (.inr (.inl (.inr (.inl rfl)))) ne2f, hin2, ?_⟩, Nat.sub_lt_sub_left hin2 (Nat.lt_succ_self i)⟩
            rotate_right
            · show s'.cv = s'.cs
              rw [hcs.2.1, hcs.2.2.1]
              show s.cv ++ _ = s.cs ++ _
              rw [hcv]
            · have hk1' : y.2.1 ≠ 1 := fun e => h5 (hrow.2.1.trans e)
              have hk3' : y.2.1 ≠ 3 := fun e => h6 (hrow.2.1.trans e)
              simp only [sideL]; rw [if_neg hk1', if_neg hk3']
            · have hk1' : y.2.1 ≠ 1 := fun e => h5 (hrow.2.1.trans e)
              simp only [sideU]; rw [if_neg hk1']
    · have hi2 : i = rws.length := by have := Nat.le_antisymm hi (geTo h3'); omega
      refine ⟨_, hBf8.agg (sub := (s.form (p.rows.n : Int)).cs) rfl rfl, ?_⟩
      have st := storeE (T := tt) (ty := tFrm) (s.form (p.rows.n : Int)) hB28 rfl
      refine ⟨st.1, fun w9 hs9 => ?_⟩
      have hB9 := (st.2 w9 hs9).1
      have hg9 := (st.2 w9 hs9).2
      refine ⟨(s.form (p.rows.n : Int)).v, hB9.agg (sub := (s.form (p.rows.n : Int)).cs) rfl rfl, ?_⟩
      have hF9 := hF8.at' hg9 (.inr (.inl rfl))
      have hE : FI (k + 1) H0 w.heap.size w9 s (formL vs rws i) (formU vs rws i) (formC vs rws cost i) (formB rws i) (formX rws vs.length i) := hF9.to (H0.hb w9) (fun b hb => hb.elim) (Ext.rfl w9)
      rw [hi2] at hE
      have er : (p.rows.n : Int) = (rws.length : Int) := by omega
      exact ⟨Ext.grownB x8 hg9 g2, s.form (p.rows.n : Int), 0, rfl, .inr ⟨hgood, rfl, s, by rw [er], hcv, hE⟩⟩
end Go.Proofs.Ytlfdobjdlgebbaa
/-
  ProgramForms: the plain law. Helpers; no statement of the program is proved here.
-/
set_option linter.unusedSimpArgs false
set_option linter.unusedVariables false
namespace Go.Proofs.Ytlfdobjdlgebbaa
open Go Go.Tw

/-- A sum. -/
def sumN (f : Nat → Rat) : Nat → Rat
  | 0 => 0
  | n + 1 => sumN f n + f n
theorem sumN_congr {f g : Nat → Rat} {n : Nat} (h : ∀ j, j < n → f j = g j) : sumN f n = sumN g n := by
  induction n with
  | zero => rfl
  | succ n ih => simp only [sumN]; rw [ih fun j hj => h j (by omega), h n (Nat.lt_succ_self n)]
theorem sumN_add (f g : Nat → Rat) (n : Nat) : sumN (fun j => f j + g j) n = sumN f n + sumN g n := by
  induction n with
  | zero => simp only [sumN]; grind
  | succ n ih => simp only [sumN, ih]; grind
theorem sumN_zero {f : Nat → Rat} {n : Nat} (h : ∀ j, j < n → f j = 0) : sumN f n = 0 := by
  induction n with
  | zero => rfl
  | succ n ih => simp only [sumN]; rw [ih fun j hj => h j (by omega), h n (Nat.lt_succ_self n)]; grind
theorem sumN_one {f : Nat → Rat} {n i : Nat} (hi : i < n) (h : ∀ j, j < n → j ≠ i → f j = 0) : sumN f n = f i := by
  induction n with
  | zero => omega
  | succ n ih =>
    simp only [sumN]
    by_cases hn : i = n
    · subst hn
      rw [sumN_zero fun j hj => h j (by omega) (by omega)]; grind
    · rw [ih (by omega) fun j hj hne => h j (by omega) hne, h n (Nat.lt_succ_self n) (fun e => hn e.symm)]; grind
theorem sumN_split (f : Nat → Rat) (n m : Nat) : sumN f (n + m) = sumN f n + sumN (fun j => f (n + j)) m := by
  induction m with
  | zero => show sumN f n = sumN f n + 0; grind
  | succ m ih => show sumN f (n + m) + f (n + m) = sumN f n + (sumN (fun j => f (n + j)) m + f (n + m)); rw [ih]; grind
/-- A vector times numbers is a sum over places. -/
theorem dotF_sum {x : VL} {n : Nat} (f : Int → Rat) (h : ∀ t ∈ x, 0 ≤ t.1 ∧ t.1 < (n : Int)) : sumN (fun j => f (j : Int) * getL x (j : Int)) n = dotF x f := by
  induction x with
  | nil => rw [sumN_zero fun j _ => by simp only [getL]; grind]; rfl
  | cons t x ih =>
    have e : ∀ j, j < n → f (j : Int) * getL (t :: x) (j : Int) = f (j : Int) * (if t.1 = (j : Int) then t.2 else 0) + f (j : Int) * getL x (j : Int) := by
      intro j _; simp only [getL]; grind
    rw [sumN_congr e, sumN_add, ih fun s hs => h s (by simp [hs])]
    have ht := h t (by simp)
    rw [sumN_one (i := t.1.toNat) (by omega) (fun j hj hne => by rw [if_neg (by omega)]; grind)]
    rw [Int.toNat_of_nonneg ht.1, if_pos rfl]
    simp only [dotF]; grind
theorem inr_of {n : Nat} {xs : VL} (h : Within xs n) : InR n xs := by
  intro t ht
  obtain ⟨i, hi, rfl⟩ := List.getElem_of_mem ht
  have e : xs[i] = (pl xs i, xl xs i) := Option.some.inj ((List.getElem?_eq_getElem hi).symm.trans (vget hi))
  rw [e]; exact h i hi
theorem timesQ_F {xs : VL} {qs : List Rat} (h : Within xs qs.length) : ∀ i, i ≤ xs.length → timesQ xs qs i = dotF (xs.take i) (fun j => qs.getD j.toNat 0) := by
  intro i
  induction i with
  | zero => intro _; rfl
  | succ i ih =>
    intro hi
    simp only [timesQ]
    rw [if_pos (h i hi), dotF_take hi, ih (by omega)]
theorem timesQ_dot {xs : VL} {qs : List Rat} (h : Within xs qs.length) : timesQ xs qs xs.length = dotF xs (fun j => qs.getD j.toNat 0) := by
  have := timesQ_F h xs.length (Nat.le_refl _)
  rw [List.take_length] at this; exact this
/-! ### the columns of a form -/
/-- A row's terms at a place. -/
def picks (xs : VL) (i : Int) (j : Nat) : VL := (xs.filter fun t => decide (t.1 = (j : Int))).map fun t => (i, t.2)
theorem picks_get (xs : VL) (i r : Int) (j : Nat) : getL (picks xs i j) r = if i = r then getL xs (j : Int) else 0 := by
  induction xs with
  | nil => simp [picks, getL]
  | cons t xs ih =>
    unfold picks at *
    rw [List.filter_cons]
    by_cases h : t.1 = (j : Int)
    · rw [if_pos (by simpa using h), List.map_cons]
      simp only [getL]
      rw [ih, if_pos h]
      split <;> grind
    · rw [if_neg (by simpa using h), ih]
      simp only [getL]
      rw [if_neg h]
      split <;> grind
theorem picks_len {xs : VL} (hc : Cn xs) (i : Int) (j : Nat) : (picks xs i j).length ≤ 1 := by
  have h := hc.1
  clear hc
  unfold picks
  rw [List.length_map]
  induction xs with
  | nil => exact Nat.zero_le _
  | cons t xs ih =>
    obtain ⟨h1, h2⟩ := List.pairwise_cons.1 h
    rw [List.filter_cons]
    split
    · rename_i ht
      have ht : t.1 = (j : Int) := by simpa using ht
      have : xs.filter (fun t => decide (t.1 = (j : Int))) = [] := by
        rw [List.filter_eq_nil_iff]
        intro s hs
        have := h1 s hs
        simp; omega
      rw [this]; exact Nat.le_refl _
    · exact ih h2
theorem rowT_at {X : List VL} {i : Int} {xs : VL} (hw : Within xs X.length) : ∀ q, q ≤ xs.length → ∀ j, j < X.length → (rowT X i xs q).getD j [] = X.getD j [] ++ picks (xs.take q) i j := by
  intro q
  induction q with
  | zero => intro _ j _; simp [rowT, picks]
  | succ q ih =>
    intro hq j hj
    have hp := hw q hq
    have hl := rowT_length X i xs q
    rw [List.take_succ_eq_append_getElem hq]
    have e : xs[q] = (pl xs q, xl xs q) := Option.some.inj ((List.getElem?_eq_getElem hq).symm.trans (vget hq))
    rw [e]
    have es : picks (xs.take q ++ [(pl xs q, xl xs q)]) i j = picks (xs.take q) i j ++ (if pl xs q = (j : Int) then [(i, xl xs q)] else []) := by
      unfold picks
      rw [List.filter_append, List.map_append]
      congr 1
      rw [List.filter_cons]
      by_cases h : pl xs q = (j : Int)
      · rw [if_pos (by simpa using h), if_pos h]; rfl
      · rw [if_neg (by simpa using h), if_neg h]; rfl
    rw [es, ← List.append_assoc, ← ih (by omega) j hj]
    simp only [rowT, putT]
    by_cases h : pl xs q = (j : Int)
    · have hj' : (pl xs q).toNat = j := by omega
      rw [if_pos h, hj', List.getD_eq_getElem?_getD, List.getElem?_set_self (by rw [hl]; exact hj)]; rfl
    · have hj' : (pl xs q).toNat ≠ j := by omega
      rw [if_neg h, List.append_nil, List.getD_eq_getElem?_getD, List.getElem?_set_ne hj', ← List.getD_eq_getElem?_getD]
/-- Rows in the one form, with places below n. -/
def RowsR (rws : RWS) (n : Nat) : Prop := ∀ (j : Nat) y, rws[j]? = some y → Cn y.1 ∧ InR n y.1
theorem formX_at {rws : RWS} {n : Nat} (h : RowsR rws n) : ∀ i, i ≤ rws.length → (∀ j, j < n → ((formX rws n i).getD j []).length ≤ i ∧ ∀ r : Nat, getL ((formX rws n i).getD j []) (r : Int) = if r < i then getL (rws.getD r default).1 (j : Int) else 0) ∧ ∀ r, r < i → (formX rws n i).getD (n + r) [] = [((r : Int), 1)] := by
  intro i
  induction i with
  | zero =>
    intro _
    refine ⟨fun j hj => ?_, fun r hr => absurd hr (Nat.not_lt_zero r)⟩
    have e : (formX rws n 0).getD j [] = [] := by
      show (List.replicate n ([] : VL)).getD j [] = []
      rw [List.getD_eq_getElem?_getD, List.getElem?_replicate, if_pos hj]; rfl
    rw [e]
    exact ⟨Nat.le_refl _, fun r => by rw [if_neg (Nat.not_lt_zero r)]; rfl⟩
  | succ i ih =>
    intro hi
    obtain ⟨h1, h2⟩ := ih (by omega)
    have hy : rws[i]? = some (rws.getD i default) := by rw [List.getD_eq_getElem?_getD, List.getElem?_eq_getElem hi]; rfl
    obtain ⟨hc, hr⟩ := h i _ hy
    generalize rws.getD i default = y at hy hc hr
    have hXl := formX_length rws n i
    have hw : Within y.1 (formX rws n i).length := fun q hq => by
      have := inr_within hr q hq; omega
    have hRl := rowT_length (formX rws n i) (i : Int) y.1 y.1.length
    have hat := rowT_at (i := (i : Int)) hw y.1.length (Nat.le_refl _)
    rw [List.take_length] at hat
    rw [formX_succ hy]
    have left : ∀ j, j < n + i → (rowT (formX rws n i) (i : Int) y.1 y.1.length ++ [[((i : Int), (1 : Rat))]]).getD j [] = (formX rws n i).getD j [] ++ picks y.1 (i : Int) j := by
      intro j hj
      rw [List.getD_eq_getElem?_getD, List.getElem?_append_left (by omega), ← List.getD_eq_getElem?_getD, hat j (by omega)]
    refine ⟨fun j hj => ?_, fun r hr' => ?_⟩
    · rw [left j (by omega)]
      obtain ⟨a1, a2⟩ := h1 j hj
      refine ⟨by rw [List.length_append]; have := picks_len hc (i : Int) j; omega, fun r => ?_⟩
      rw [getL_append, a2 r, picks_get]
      by_cases hri : r < i
      · rw [if_pos hri, if_neg (by omega), if_pos (by omega)]; grind
      · rw [if_neg hri]
        by_cases hre : r = i
        · subst hre
          rw [if_pos rfl, if_pos (Nat.lt_succ_self r)]
          have e : rws.getD r default = y := by rw [List.getD_eq_getElem?_getD, hy]; rfl
          rw [e]; grind
        · rw [if_neg (by omega), if_neg (by omega)]; grind
    · rcases Nat.lt_or_ge r i with h' | h'
      · rw [left (n + r) (by omega), h2 r h']
        have e : picks y.1 (i : Int) (n + r) = [] := by
          unfold picks
          rw [List.filter_eq_nil_iff.2 (fun s hs => by have := (hr s hs).2; simp; omega)]; rfl
        rw [e, List.append_nil]
      · have e : r = i := by omega
        subst e
        rw [List.getD_eq_getElem?_getD, List.getElem?_append_right (by omega), show n + r - (rowT (formX rws n r) (r : Int) y.1 y.1.length).length = 0 by omega]; rfl
/-! ### what a point of the form says -/
def slackQ (rws : RWS) (qs : List Rat) (i : Nat) : Rat := (rws.getD i default).2.2 - dotL (rws.getD i default).1 (nrm (ofV qs))
def fullQ (rws : RWS) (qs : List Rat) (i : Nat) : List Rat := qs ++ (List.range i).map (slackQ rws qs)
theorem fullQ_len (rws : RWS) (qs : List Rat) (i : Nat) : (fullQ rws qs i).length = qs.length + i := by simp [fullQ]
theorem fullQ_succ (rws : RWS) (qs : List Rat) (i : Nat) : fullQ rws qs (i + 1) = fullQ rws qs i ++ [slackQ rws qs i] := by
  unfold fullQ; rw [List.range_succ, List.map_append, List.append_assoc]; rfl
theorem fullQ_lo {rws : RWS} {qs : List Rat} {i j : Nat} (h : j < qs.length) : (fullQ rws qs i).getD j 0 = qs.getD j 0 := by
  unfold fullQ; rw [List.getD_eq_getElem?_getD, List.getElem?_append_left h, ← List.getD_eq_getElem?_getD]
theorem fullQ_hi {rws : RWS} {qs : List Rat} {i r : Nat} (h : r < i) : (fullQ rws qs i).getD (qs.length + r) 0 = slackQ rws qs r := by
  unfold fullQ
  rw [List.getD_eq_getElem?_getD, List.getElem?_append_right (by omega), Nat.add_sub_cancel_left, List.getElem?_map, List.getElem?_range h]; rfl
def sumV (X : List VL) (Q : List Rat) : Nat → VL
  | 0 => []
  | j + 1 => axp (sumV X Q j) (Q.getD j 0) (X.getD j [])
theorem sumV_get (X : List VL) (Q : List Rat) (j : Nat) (p : Int) : getL (sumV X Q j) p = sumN (fun i => Q.getD i 0 * getL (X.getD i []) p) j := by
  induction j with
  | zero => rfl
  | succ j ih => simp only [sumV, sumN]; rw [axp_get, ih]
/-- Every equation of the form holds. -/
theorem eqn_holds {rws : RWS} {qs : List Rat} {n : Nat} (h : RowsR rws n) (hn : qs.length = n) {i : Nat} (hi : i < rws.length) :
    getL (sumV (formX rws n rws.length) (fullQ rws qs rws.length) (n + rws.length)) (i : Int) = (rws.getD i default).2.2 := by
  obtain ⟨h1, h2⟩ := formX_at h rws.length (Nat.le_refl _)
  have hy : rws[i]? = some (rws.getD i default) := by rw [List.getD_eq_getElem?_getD, List.getElem?_eq_getElem hi]; rfl
  obtain ⟨hc, hr⟩ := h i _ hy
  rw [sumV_get, sumN_split]
  have e1 : sumN (fun j => (fullQ rws qs rws.length).getD j 0 * getL ((formX rws n rws.length).getD j []) (i : Int)) n = dotF (rws.getD i default).1 (fun j => qs.getD j.toNat 0) := by
    rw [← dotF_sum (n := n) _ hr]
    refine sumN_congr fun j hj => ?_
    rw [fullQ_lo (by omega), (h1 j hj).2 i, if_pos hi, Int.toNat_natCast]
  have e2 : sumN (fun j => (fullQ rws qs rws.length).getD (n + j) 0 * getL ((formX rws n rws.length).getD (n + j) []) (i : Int)) rws.length = slackQ rws qs i := by
    rw [sumN_one (i := i) hi (fun j hj hne => by
      rw [h2 j hj]; simp only [getL]; rw [if_neg (by omega)]; grind)]
    rw [h2 i hi, ← hn, fullQ_hi hi]
    simp only [getL]; rw [if_pos trivial]; grind
  rw [e1, e2]
  unfold slackQ
  rw [dotL_of (by rw [hn]; exact inr_within hr)]
  grind
def getR (l : List Rat) (j : Nat) : Rat := l.getD j 0
theorem formL_lo {vs : VS} {rws : RWS} {j : Nat} (h : j < vs.length) : getR (formL vs rws rws.length) j = (vs.getD j default).1 := by
  unfold getR formL
  rw [List.getD_eq_getElem?_getD, List.getElem?_append_left (by rw [List.length_map]; exact h), List.getElem?_map, List.getD_eq_getElem?_getD, List.getElem?_eq_getElem h]; rfl
theorem formU_lo {vs : VS} {rws : RWS} {j : Nat} (h : j < vs.length) : getR (formU vs rws rws.length) j = (vs.getD j default).2.1 := by
  unfold getR formU
  rw [List.getD_eq_getElem?_getD, List.getElem?_append_left (by rw [List.length_map]; exact h), List.getElem?_map, List.getD_eq_getElem?_getD, List.getElem?_eq_getElem h]; rfl
theorem formL_hi {vs : VS} {rws : RWS} {i : Nat} (h : i < rws.length) : getR (formL vs rws rws.length) (vs.length + i) = sideL vs (rws.getD i default) := by
  unfold getR formL
  rw [List.getD_eq_getElem?_getD, List.getElem?_append_right (by rw [List.length_map]; omega), List.length_map, Nat.add_sub_cancel_left, List.take_length, List.getElem?_map, List.getD_eq_getElem?_getD, List.getElem?_eq_getElem h]; rfl
theorem formU_hi {vs : VS} {rws : RWS} {i : Nat} (h : i < rws.length) : getR (formU vs rws rws.length) (vs.length + i) = sideU vs (rws.getD i default) := by
  unfold getR formU
  rw [List.getD_eq_getElem?_getD, List.getElem?_append_right (by rw [List.length_map]; omega), List.length_map, Nat.add_sub_cancel_left, List.take_length, List.getElem?_map, List.getD_eq_getElem?_getD, List.getElem?_eq_getElem h]; rfl
theorem formC_lo {vs : VS} {rws : RWS} {cost : VL} {j : Nat} (h : j < vs.length) : getR (formC vs rws cost rws.length) j = getL cost (j : Int) := by
  unfold getR formC
  rw [List.getD_eq_getElem?_getD, List.getElem?_append_left (by rw [List.length_map, List.length_range]; exact h), List.getElem?_map, List.getElem?_range h]; rfl
theorem formC_hi {vs : VS} {rws : RWS} {cost : VL} {i : Nat} (h : i < rws.length) : getR (formC vs rws cost rws.length) (vs.length + i) = 0 := by
  unfold getR formC
  rw [List.getD_eq_getElem?_getD, List.getElem?_append_right (by rw [List.length_map, List.length_range]; omega), List.length_map, List.length_range, Nat.add_sub_cancel_left, List.take_length, List.getElem?_map, List.getElem?_eq_getElem h]; rfl
/-- The cost is the same. -/
theorem cost_same {vs : VS} {rws : RWS} {cost : VL} {qs : List Rat} (hc : InR vs.length cost) (hn : qs.length = vs.length) :
    sumN (fun j => getR (formC vs rws cost rws.length) j * (fullQ rws qs rws.length).getD j 0) (vs.length + rws.length) = timesQ cost qs cost.length := by
  rw [sumN_split, timesQ_dot (by rw [hn]; exact inr_within hc), sumN_zero (f := fun j => getR (formC vs rws cost rws.length) (vs.length + j) * (fullQ rws qs rws.length).getD (vs.length + j) 0) (fun j hj => by rw [formC_hi hj]; grind)]
  rw [← dotF_sum (n := vs.length) _ hc]
  have : sumN (fun j => getR (formC vs rws cost rws.length) j * (fullQ rws qs rws.length).getD j 0) vs.length = sumN (fun j => qs.getD (j : Int).toNat 0 * getL cost (j : Int)) vs.length :=
    sumN_congr fun j hj => by rw [formC_lo hj, fullQ_lo (by omega), Int.toNat_natCast]; grind
  rw [this]; grind
/-- Within the bounds of the form? -/
def withinF (L U Q : List Rat) (n : Nat) : Prop := ∀ j, j < n → getR L j ≤ getR Q j ∧ getR Q j ≤ getR U j
theorem badV_iff {vs : VS} {qs : List Rat} {j : Nat} : badV vs qs j = false ↔ (vs.getD j default).1 ≤ qs.getD j 0 ∧ qs.getD j 0 ≤ (vs.getD j default).2.1 := by
  unfold badV
  rw [Bool.or_eq_false_iff, decide_eq_false_iff_not, decide_eq_false_iff_not, Rat.not_lt, Rat.not_lt]
theorem badR_iff {rws : RWS} {qs : List Rat} {i : Nat} (hk : 1 ≤ (rws.getD i default).2.1 ∧ (rws.getD i default).2.1 ≤ 3) : badR rws qs i = false ↔ ((rws.getD i default).2.1 ≠ 3 → rowQ rws qs i ≤ (rws.getD i default).2.2) ∧ ((rws.getD i default).2.1 ≠ 1 → (rws.getD i default).2.2 ≤ rowQ rws qs i) := by
  unfold badR
  generalize rws.getD i default = r at hk ⊢
  generalize rowQ rws qs i = t
  have : r.2.1 = 1 ∨ r.2.1 = 2 ∨ r.2.1 = 3 := by omega
  rcases this with h | h | h <;> rw [h] <;> simp [Rat.not_lt]
theorem max_le {a b : Rat} (h : a ≤ b) : a ≤ maxQ 0 b := by unfold maxQ; split <;> grind
theorem min_le {a b : Rat} (h : b ≤ a) : minQ 0 b ≤ a := by unfold minQ; split <;> grind
theorem min_zero (b : Rat) : minQ 0 b ≤ 0 := by unfold minQ; split <;> grind
theorem max_zero (b : Rat) : 0 ≤ maxQ 0 b := by unfold maxQ; split <;> grind
theorem holds_iff {vs : VS} {rws : RWS} {qs : List Rat} (hr : RowsR rws vs.length) (hn : qs.length = vs.length) (hk : ∀ (j : Nat) y, rws[j]? = some y → 1 ≤ y.2.1 ∧ y.2.1 ≤ 3) :
    withinF (formL vs rws rws.length) (formU vs rws rws.length) (fullQ rws qs rws.length) (vs.length + rws.length) ↔ (∀ j, j < vs.length → badV vs qs j = false) ∧ ∀ i, i < rws.length → badR rws qs i = false := by
  have row : ∀ i, i < rws.length → ∃ y, rws.getD i default = y ∧ Cn y.1 ∧ InR vs.length y.1 ∧ (1 ≤ y.2.1 ∧ y.2.1 ≤ 3) ∧ rowQ rws qs i = dotF y.1 (fun j => qs.getD j.toNat 0) ∧ slackQ rws qs i = y.2.2 - dotF y.1 (fun j => qs.getD j.toNat 0) := by
    intro i hi
    have hy : rws[i]? = some (rws.getD i default) := by rw [List.getD_eq_getElem?_getD, List.getElem?_eq_getElem hi]; rfl
    obtain ⟨a, b⟩ := hr i _ hy
    refine ⟨_, rfl, a, b, hk i _ hy, ?_, ?_⟩
    · exact timesQ_dot (by rw [hn]; exact inr_within b)
    · unfold slackQ; rw [dotL_of (by rw [hn]; exact inr_within b)]
  have lowF : ∀ j, j < vs.length → (getR (formL vs rws rws.length) j ≤ getR (fullQ rws qs rws.length) j ∧ getR (fullQ rws qs rws.length) j ≤ getR (formU vs rws rws.length) j ↔ badV vs qs j = false) := by
    intro j hj
    rw [formL_lo hj, formU_lo hj, badV_iff]
    unfold getR
    rw [fullQ_lo (by omega)]
  constructor
  · intro h
    refine ⟨fun j hj => (lowF j hj).1 (h j (by omega)), fun i hi => ?_⟩
    obtain ⟨y, e, a, b, k, q1, q2⟩ := row i hi
    obtain ⟨b1, b2⟩ := h (vs.length + i) (by omega)
    rw [formL_hi hi] at b1
    rw [formU_hi hi] at b2
    unfold getR at b1 b2
    rw [← hn, fullQ_hi hi, q2, e] at b1 b2
    rw [badR_iff (by rw [e]; exact k), e, q1]
    unfold sideL at b1
    unfold sideU at b2
    generalize dotF y.1 (fun j => qs.getD j.toNat 0) = t at b1 b2 ⊢
    have : y.2.1 = 1 ∨ y.2.1 = 2 ∨ y.2.1 = 3 := by omega
    rcases this with h1 | h1 | h1
    · rw [if_pos h1] at b1
      exact ⟨fun _ => by grind, fun h => absurd h1 h⟩
    · rw [if_neg (by omega), if_neg (by omega)] at b1
      rw [if_neg (by omega)] at b2
      exact ⟨fun _ => by grind, fun _ => by grind⟩
    · rw [if_neg (by omega)] at b2
      exact ⟨fun h => absurd h1 h, fun _ => by grind⟩
  · rintro ⟨h1, h2⟩ j hj
    rcases Nat.lt_or_ge j vs.length with hj' | hj'
    · exact (lowF j hj').2 (h1 j hj')
    · obtain ⟨i, rfl⟩ : ∃ i, j = vs.length + i := ⟨j - vs.length, by omega⟩
      have hi : i < rws.length := by omega
      obtain ⟨y, e, a, b, k, q1, q2⟩ := row i hi
      have hb := h2 i hi
      rw [badR_iff (by rw [e]; exact k), e, q1] at hb
      have hw := inr_within b
      have sp := span_within (vs := vs) (x := y.1) (f := fun j => qs.getD j.toNat 0) hw (fun j hj => by
        have := badV_iff.1 (h1 j hj)
        unfold loA hiA
        rw [Int.toNat_natCast]; exact this) y.1.length (Nat.le_refl _)
      rw [List.take_length] at sp
      rw [formL_hi hi, formU_hi hi]
      unfold getR
      rw [← hn, fullQ_hi hi, q2, e]
      unfold sideL sideU
      generalize dotF y.1 (fun j => qs.getD j.toNat 0) = t at hb sp ⊢
      have : y.2.1 = 1 ∨ y.2.1 = 2 ∨ y.2.1 = 3 := by omega
      rcases this with h1 | h1 | h1
      · rw [if_pos h1, if_pos h1]
        have := hb.1 (by omega)
        exact ⟨by grind, max_le (by grind)⟩
      · rw [if_neg (by omega), if_neg (by omega), if_neg (by omega)]
        have a1 := hb.1 (by omega)
        have a2 := hb.2 (by omega)
        exact ⟨by grind, by grind⟩
      · rw [if_neg (by omega), if_pos h1, if_neg (by omega)]
        have := hb.2 (by omega)
        exact ⟨min_le (by grind), by grind⟩
theorem broken_iff {vs : VS} {rws : RWS} {qs : List Rat} (hn : qs.length = vs.length) : ((brokenQ vs rws qs).1 = 0 ∨ (brokenQ vs rws qs).1 = 3) ↔ (∀ j, j < vs.length → badV vs qs j = false) ∧ ∀ i, i < rws.length → badR rws qs i = false := by
  have none_iff : ∀ (p : Nat → Bool) (n : Nat), firstAt p n = none ↔ ∀ j, j < n → p j = false := by
    intro p n
    refine ⟨fun h j hj => ?_, firstAt_none⟩
    unfold firstAt at h
    rw [List.find?_range_eq_none] at h
    simpa using h j hj
  rw [← none_iff, ← none_iff]
  unfold brokenQ
  rw [if_neg (by omega)]
  cases h1 : firstAt (badV vs qs) vs.length with
  | some i => simp
  | none =>
    cases h2 : firstAt (badR rws qs) rws.length with
    | some i => simp
    | none =>
      cases h3 : firstAt (badI vs qs) vs.length with
      | some i => simp
      | none => simp
end Go.Proofs.Ytlfdobjdlgebbaa
/-
  ProgramForms: does a point hold a form? Helpers; no statement of the program is proved here.
-/
set_option maxRecDepth 100000
set_option linter.unusedSimpArgs false
set_option linter.unusedVariables false
namespace Go.Proofs.Ytlfdobjdlgebbaa
open Go Go.Tw Go.RowKit
attribute [local irreducible] LoadAt StoreOk Stored rawVC

def sK (i : Nat) : Nat := 1 + i * 12583400
theorem PtI.get {k : Nat} {H : Hd} {w : World} {r : SlR} {rs : List RatR} {qs : List Rat} (h : PtI k H w r rs qs) {j : Nat} (hj : j < r.n) : rs[j]? = some (rs.getD j default) ∧ InQ k H w (rs.getD j default) (qs.getD j 0) := by
  have h1 := h.row.len
  have h2 := h.len
  have g := gr_getD h.row hj
  exact ⟨g, h.at' j _ _ g (by rw [List.getD_eq_getElem?_getD, List.getElem?_eq_getElem (by omega)]; rfl)⟩
theorem holds_ok {w : World} {f : FormR} {rl ru rb rx : List RatR} {cs : List SlR} {xr : SlR} {L U B Q : List Rat} {X : List VL} {N M : Nat}
    (hlo : PtI 137438953472 H0 w f.lo rl L) (hhi : PtI 137438953472 H0 w f.hi ru U) (hb : PtI 137438953472 H0 w f.b rb B) (hc : Vs (VI 10 12) w f.cols.a f.cols.n cs X) (hx : PtI 12583100 H0 w xr rx Q)
    (hl : X.length = N ∧ L.length = N ∧ U.length = N ∧ Q.length = N ∧ B.length = M) (hN : N ≤ 24) (hM : M ≤ 24) (heq : ∀ i, i < M → getL (sumV X Q N) (i : Int) = B.getD i 0) :
    CallS Try.prog 57 #[f.v, xr.v] w fun v w' => Ext w w' ∧ ∃ b : Bool, v = .bool b ∧ (b = true ↔ withinF L U Q N) := by
  obtain ⟨l1, l2, l3, l4, l5⟩ := hl
  have c1 := hc.len
  have o1 := hlo.row.len
  have o2 := hlo.len
  have o3 := hhi.row.len
  have o4 := hhi.len
  have o5 := hb.row.len
  have o6 := hb.len
  have o7 := hx.row.len
  have o8 := hx.len
  refine enter ttOk mixed (args := [f.v, xr.v]) Try.func57 rfl (by kernel_rfl) (by kernel_rfl) rfl ?_
  intro b2 w1 hb2
  have x1 := hb2.ext
  have hB1 : Blk w1 b2 tFrm f.cs := hb2.toBlk
  refine ⟨_, hB1.one (off := 1) rfl rfl, ?_⟩
  refine ⟨Nat × SlR, fun x => [(1, xr.v), (2, .pointer (some ⟨b2, 0, none⟩)), (5, x.2.v), (10, .int .i64 (f.cols.n : Int)), (11, .int .i64 (x.1 : Int))],
    fun x w' => Ext w1 w' ∧ x.1 ≤ f.cols.n ∧ VC (sK x.1) (12 * x.1) w' x.2 (sumV X Q x.1) ∧ ∀ j, j < x.1 → getR L j ≤ getR Q j ∧ getR Q j ≤ getR U j, fun x _ => f.cols.n - x.1,
    ⟨(0, ⟨none, 0, 0⟩), ⟨rfl, rfl, rfl, rfl, rfl, trivial⟩, Ext.rfl w1, Nat.zero_le _, ⟨CanV.nil _ _ _, Cn.nil, Nat.zero_le _⟩, fun j h => absurd h (Nat.not_lt_zero _)⟩, ?_⟩
  rintro ⟨i, s⟩ w2 ⟨hx2, hi, hs, hall⟩
  dsimp only at *
  have x2 := Ext.trans' x1 hx2
  refine And.intro (fun h1 => ?_) (fun h1 => ?_)
  · have hin := ltTo h1
    have gx := hx.get (j := i) (by omega)
    have gl := hlo.get (j := i) (by omega)
    have gu := hhi.get (j := i) (by omega)
    have bad : ¬ (getR L i ≤ getR Q i ∧ getR Q i ≤ getR U i) → ∀ w', Ext w2 w' → (Ext w w' ∧ ∃ b : Bool, Value.bool false = .bool b ∧ (b = true ↔ withinF L U Q N)) := fun hno w' hx' => ⟨Ext.trans' x2 hx', false, rfl, ⟨fun h => (by cases h), fun h => absurd (h i (by omega)) hno⟩⟩
    refine ⟨sq 24, by kernel_rfl, ?_⟩
    refine ⟨i, ⟨rfl, by omega, hx.row.base (by omega)⟩, _, (hx.row.ext x2).load gx.1 rfl rfl, f.lo.v, (hB1.ext hx2).one (off := 2) rfl rfl, i, ⟨rfl, by omega, hlo.row.base (by omega)⟩, _, (hlo.row.ext x2).load gl.1 rfl rfl, ?_⟩
    refine dcallV (.int .i64 (cmpQ (getR Q i) (getR L i))) (fun w' hw hF => RCmp_ok (H0.hb w') ((gx.2.ext (Ext.trans' x2 hw)).mono (by decide)) (gl.2.ext (Ext.trans' x2 hw))) ?_
    refine And.intro (fun h2 => ?_) (fun h2 => ?_)
    · intro w3 hx3 _
      exact bad (fun h => absurd (cmpQ_neg.1 h2) (Rat.not_lt.2 h.1)) w3 hx3
    have hge : getR L i ≤ getR Q i := Rat.not_lt.1 (fun h => h2 (cmpQ_neg.2 h))
    refine ⟨i, ⟨rfl, by omega, hx.row.base (by omega)⟩, _, (hx.row.ext x2).load gx.1 rfl rfl, f.hi.v, (hB1.ext hx2).one (off := 3) rfl rfl, i, ⟨rfl, by omega, hhi.row.base (by omega)⟩, _, (hhi.row.ext x2).load gu.1 rfl rfl, ?_⟩
    refine dcallV (.int .i64 (cmpQ (getR Q i) (getR U i))) (fun w' hw hF => RCmp_ok (H0.hb w') ((gx.2.ext (Ext.trans' x2 hw)).mono (by decide)) (gu.2.ext (Ext.trans' x2 hw))) ?_
    refine And.intro (fun h3 => ?_) (fun h3 => ?_)
    · intro w3 hx3 _
      exact bad (fun h => absurd (cmpQ_pos.1 h3) (Rat.not_lt.2 h.2)) w3 hx3
    have hle : getR Q i ≤ getR U i := Rat.not_lt.1 (fun h => h3 (cmpQ_pos.2 h))
    intro w3 hx3 _
    have x3 := Ext.trans' x2 hx3
    refine (hc.get (j := i) hin).elim fun c hcc => ?_
    refine ⟨sq 12, by kernel_rfl, ?_⟩
    refine ⟨i, ⟨rfl, by omega, hx.row.base (by omega)⟩, _, (hx.row.ext x3).load gx.1 rfl rfl, f.cols.v, ((hB1.ext hx2).ext hx3).one (off := 1) rfl rfl, i, ⟨rfl, hin, hc.ones.base (by omega)⟩, c.v, (hc.ones.ext x3).load (T := tt) (ty := tV) (sz := 1) (svs_get hcc.1) rfl rfl, ?_⟩
    refine dcallR (mk := SlR.v) (Q := fun r' w' => VC (sK (i + 1)) (12 * (i + 1)) w' r' (sumV X Q (i + 1))) SlR.inj (fun _ => fun _ _ h e => h.ext e) (fun w' hw hF => ?_) ?_
    · have hy := (hs.ext hx3).ext hw
      have hcv := hcc.2.2.ext (Ext.trans' x3 hw)
      have hyl := hy.len
      have hcl := hcv.len
      have hsk : sK i ≤ sK 24 := by unfold sK; omega
      have h24 : sK 24 = 302001601 := rfl
      refine CallS.mono (AxpyF_ok (jx := 253) (jy := sK i) (H0.hb w') (hy.vi (by omega)).inv (gx.2.ext (Ext.trans' x3 hw)) hcv.inv (by omega) (by omega) (by omega) (.inl ⟨by omega, by decide, by decide⟩) (.inr ⟨hy.cn.ris, Nat.le_refl _⟩)) ?_
      rintro _ w'' ⟨hx', r, rfl, hr⟩
      refine ⟨hx', r, rfl, hr.mono (by unfold sK; omega), nrm_cn _, ?_⟩
      have := axp_len (sumV X Q i) (Q.getD i 0) (X.getD i [])
      show (axp (sumV X Q i) (Q.getD i 0) (X.getD i [])).length ≤ _
      omega
    intro s'
    intro w4 hx4 hF4
    refine ⟨((i + 1 : Nat) : Int), sucI i (by omega), (i + 1, s'), ⟨rfl, rfl, rfl, rfl, rfl, trivial⟩, ⟨Ext.trans' hx2 (Ext.trans' hx3 hx4), hin, hF4.1, fun j hj => ?_⟩, Nat.sub_lt_sub_left hin (Nat.lt_succ_self i)⟩
    rcases Nat.lt_or_eq_of_le (Nat.le_of_lt_succ hj) with h | h
    · exact hall j h
    · subst h; exact ⟨hge, hle⟩
  · have hi' : i = N := by have := Nat.le_antisymm hi (geTo h1); omega
    have hsN : VC (sK 24) 288 w2 s (sumV X Q N) := by rw [← hi']; exact hs.map (by unfold sK; omega) (by omega)
    have hW : withinF L U Q N := fun j hj => hall j (by omega)
    refine ⟨_, (hB1.ext hx2).one (off := 5) rfl rfl, ?_⟩
    refine ⟨Nat, fun x => [(2, .pointer (some ⟨b2, 0, none⟩)), (5, s.v), (52, .int .i64 (f.b.n : Int)), (53, .int .i64 (x : Int))],
      fun x w' => Ext w2 w' ∧ x ≤ f.b.n, fun x _ => f.b.n - x, ⟨0, ⟨rfl, rfl, rfl, rfl, trivial⟩, Ext.rfl w2, Nat.zero_le _⟩, ?_⟩
    rintro q w3 ⟨hx3, hq⟩
    have x3 := Ext.trans' x2 hx3
    refine And.intro (fun h2 => ?_) (fun h2 => ?_)
    · have hqn := ltTo h2
      have gb := hb.get (j := q) hqn
      have he := heq q (by omega)
      refine ⟨sq 10, by kernel_rfl, ?_⟩
      refine dcallR (mk := RatR.v) (Q := fun r' w' => QC (1 + 288 * (sK 24 + 2)) w' r' (B.getD q 0)) RatR.inj (fun _ => fun _ _ h e => h.ext e) (fun w' hw hF => by
        have h := get_at ((hsN.vi (by decide)).ext (Ext.trans' hx3 hw)) (q : Int) ⟨by decide, by decide⟩
        rw [he] at h
        exact h) ?_
      intro r1
      refine ⟨f.b.v, ((hB1.ext hx2).ext hx3).one (off := 5) rfl rfl, q, ⟨rfl, by omega, hb.row.base (by omega)⟩, _, (hb.row.ext x3).load gb.1 rfl rfl, ?_⟩
      refine dcallV (.bool true) (fun w' hw hF => by
        have h := RSame_ok (H0.hb w') (((hF.1.qi (by decide)).inq).mono (by decide)) (gb.2.ext (Ext.trans' x3 hw))
        rw [decide_eq_true (Eq.refl (B.getD q 0))] at h
        exact h) ?_
      intro w4 hx4 _
      exact ⟨((q + 1 : Nat) : Int), sucI q (by omega), q + 1, ⟨rfl, rfl, rfl, rfl, trivial⟩, ⟨Ext.trans' hx3 hx4, hqn⟩, Nat.sub_lt_sub_left hqn (Nat.lt_succ_self q)⟩
    · exact ⟨x3, true, rfl, ⟨fun _ => hW, fun _ => rfl⟩⟩
end Go.Proofs.Ytlfdobjdlgebbaa
/-
  ProgramForms: how long numbers are; a form read. Helpers; no statement of the program is proved here.
-/
set_option maxRecDepth 100000
set_option linter.unusedSimpArgs false
set_option linter.unusedVariables false
namespace Go.Proofs.Ytlfdobjdlgebbaa
open Go Go.Tw Go.RowKit
attribute [local irreducible] LoadAt StoreOk Stored rawVC

theorem fitOne : FitQ 1 1 := ⟨Fit.one, Fit.one⟩
theorem InV.fitX {k : Nat} {H : Hd} {w : World} {r : SlR} {xs : VL} (h : InV k H w r xs) : ∀ t ∈ xs, FitQ (k + 1) t.2 := by
  obtain ⟨⟨ts, _, hI⟩, _⟩ := h
  intro t ht
  obtain ⟨i, hi, rfl⟩ := List.getElem_of_mem ht
  obtain ⟨u, _, _, hq⟩ := hI.get (List.getElem?_eq_getElem hi)
  exact hq.fit
theorem getL_fit {k : Nat} {xs : VL} (h : ∀ t ∈ xs, FitQ k t.2) (p : Int) : FitQ (1 + xs.length * (k + 1)) (getL xs p) := by
  induction xs with
  | nil => exact FitQ.zero (by omega)
  | cons t xs ih =>
    have h1 := ih fun s hs => h s (by simp [hs])
    simp only [getL, List.length_cons]
    split
    · refine (FitQ.add (h t (by simp)) h1).mono ?_
      rw [Nat.add_mul]; omega
    · rw [show (0 : Rat) + getL xs p = getL xs p by grind]
      refine h1.mono ?_
      rw [Nat.add_mul]; omega
theorem dotF_fit {a b : Nat} {xs : VL} {f : Int → Rat} (h : ∀ t ∈ xs, FitQ a t.2) (hf : ∀ j, FitQ b (f j)) (hb : 1 ≤ b) : FitQ (1 + xs.length * (a + b + 1)) (dotF xs f) := by
  induction xs with
  | nil => exact FitQ.zero (by omega)
  | cons t xs ih =>
    have h1 := ih fun s hs => h s (by simp [hs])
    simp only [dotF, List.length_cons]
    refine (FitQ.add (FitQ.mul (h t (by simp)) (hf t.1) (by omega)) h1).mono ?_
    rw [Nat.add_mul]; omega
theorem _root_.Go.Tw.CanV.tight {k K : Nat} {H : Hd} {w : World} {r : SlR} {xs : VL} (h : CanV K H w r xs) (hf : ∀ t ∈ xs, FitQ k t.2) : CanV k H w r xs := by
  obtain ⟨⟨ts, h1, h2⟩, h3, h4, h5⟩ := h
  refine ⟨⟨ts, h1, ?_⟩, h3, h4, h5⟩
  clear h1 h3 h4 h5
  induction h2 with
  | nil => exact .nil
  | cons a b c d ih => exact .cons a b (hf _ (by simp)) (ih fun t ht => hf t (by simp [ht]))
theorem nrm_fit {k : Nat} {xs : VL} (h : ∀ p, FitQ k (getL xs p)) : ∀ t ∈ nrm xs, FitQ k t.2 := by
  intro t ht
  obtain ⟨i, hi, rfl⟩ := List.getElem_of_mem ht
  have e : (nrm xs)[i] = (pl (nrm xs) i, xl (nrm xs) i) := Option.some.inj ((List.getElem?_eq_getElem hi).symm.trans (vget hi))
  rw [e]
  show FitQ k (xl (nrm xs) i)
  rw [← cn_get (nrm_cn xs) hi, nrm_get]
  exact h _
theorem ofV_fit {k : Nat} {qs : List Rat} (hk : 1 ≤ k) (h : ∀ q ∈ qs, FitQ k q) : ∀ t ∈ nrm (ofV qs), FitQ k t.2 := by
  refine nrm_fit fun p => ?_
  unfold ofV
  rw [getL_range]
  split
  · rename_i hp
    have hlt : p.toNat < qs.length := by omega
    rw [List.getD_eq_getElem?_getD, List.getElem?_eq_getElem hlt]
    exact h _ (List.getElem_mem hlt)
  · exact FitQ.zero hk
theorem getD_fit {k : Nat} {qs : List Rat} (hk : 1 ≤ k) (h : ∀ q ∈ qs, FitQ k q) (j : Nat) : FitQ k (qs.getD j 0) := by
  rw [List.getD_eq_getElem?_getD]
  rcases Nat.lt_or_ge j qs.length with hj | hj
  · rw [List.getElem?_eq_getElem hj]; exact h _ (List.getElem_mem hj)
  · rw [List.getElem?_eq_none hj]; exact FitQ.zero hk
theorem PtI.fit {k : Nat} {H : Hd} {w : World} {r : SlR} {rs : List RatR} {qs : List Rat} (h : PtI k H w r rs qs) : ∀ q ∈ qs, FitQ (k + 1) q := by
  intro q hq
  obtain ⟨i, hi, rfl⟩ := List.getElem_of_mem hq
  have hl := h.len
  exact (h.at' i _ _ (List.getElem?_eq_getElem (by omega)) (List.getElem?_eq_getElem hi)).fit
/-- The numbers of a program. -/
structure PrgF (k : Nat) (vs : VS) (rws : RWS) (cost : VL) : Prop where
  v : ∀ x ∈ vs, FitQ k x.1 ∧ FitQ k x.2.1
  r : ∀ y ∈ rws, (∀ t ∈ y.1, FitQ k t.2) ∧ FitQ k y.2.2
  c : ∀ t ∈ cost, FitQ k t.2
theorem PrgI.fits {k l : Nat} {w : World} {p : PrgR} {vr : List VarR} {rr : List RowR} {vs : VS} {rws : RWS} {cost : VL} (h : PrgI k l w p vr rr vs rws cost) : PrgF (k + 1) vs rws cost := by
  have h1 := h.vlen
  have h2 := h.rlen
  refine ⟨fun x hx => ?_, fun y hy => ?_, InV.fitX h.cost.inv⟩
  · obtain ⟨i, hi, rfl⟩ := List.getElem_of_mem hx
    obtain ⟨a, b, _⟩ := h.var i _ _ (List.getElem?_eq_getElem (by omega)) (List.getElem?_eq_getElem hi)
    exact ⟨a.fit, b.fit⟩
  · obtain ⟨i, hi, rfl⟩ := List.getElem_of_mem hy
    obtain ⟨a, _, b⟩ := h.row i _ _ (List.getElem?_eq_getElem (by omega)) (List.getElem?_eq_getElem hi)
    exact ⟨InV.fitX a.inv, b.fit⟩
theorem PrgI.relen {k l m : Nat} {w : World} {p : PrgR} {vr : List VarR} {rr : List RowR} {vs : VS} {rws : RWS} {cost : VL} (h : PrgI k l w p vr rr vs rws cost) (hc : cost.length ≤ m) (hr : ∀ (j : Nat) y, rws[j]? = some y → y.1.length ≤ m) : PrgI k m w p vr rr vs rws cost :=
  ⟨h.vars, h.vlen, h.var, h.rows, h.rlen, fun j r x h1 h2 => by
    obtain ⟨a, b, c⟩ := h.row j r x h1 h2
    exact ⟨⟨a.inv, hr j x h2⟩, b, c⟩, ⟨h.cost.inv, hc⟩⟩
theorem span_fit {vs : VS} {xs : VL} {k : Nat} (hv : ∀ x ∈ vs, FitQ (k + 1) x.1 ∧ FitQ (k + 1) x.2.1) (hx : ∀ t ∈ xs, FitQ (k + 1) t.2) (hw : Within xs vs.length) : ∀ i, i ≤ xs.length → FitQ (pK k i) (spanQ vs xs i).1 ∧ FitQ (pK k i) (spanQ vs xs i).2 := by
  intro i
  induction i with
  | zero => intro _; exact ⟨FitQ.zero (by unfold pK; omega), FitQ.zero (by unfold pK; omega)⟩
  | succ i ih =>
    intro hi
    have hp := hw i hi
    obtain ⟨i1, i2⟩ := ih (Nat.le_of_succ_le hi)
    have e : xs[i] = (pl xs i, xl xs i) := Option.some.inj ((List.getElem?_eq_getElem hi).symm.trans (vget hi))
    have hxi : FitQ (k + 1) (xl xs i) := by have := hx _ (List.getElem_mem hi); rw [e] at this; exact this
    have hlt : (pl xs i).toNat < vs.length := by omega
    have hvi := hv _ (List.getElem_mem hlt)
    have ev : vs.getD (pl xs i).toNat default = vs[(pl xs i).toNat] := by rw [List.getD_eq_getElem?_getD, List.getElem?_eq_getElem hlt]; rfl
    rw [span_step hp]
    unfold loA hiA
    rw [ev]
    have m1 := FitQ.mul hxi hvi.1 (by omega)
    have m2 := FitQ.mul hxi hvi.2 (by omega)
    have hK : pK k (i + 1) = pK k i + (2 * k + 5) := by unfold pK; rw [Nat.add_mul]; omega
    exact ⟨(FitQ.add i1 (fit_min m1 m2)).mono (by omega), (FitQ.add i2 (fit_max m1 m2)).mono (by omega)⟩
theorem rowT_fit {K : Nat} {X : List VL} {i : Int} {xs : VL} (hX : ∀ z ∈ X, ∀ t ∈ z, FitQ K t.2) (hx : ∀ t ∈ xs, FitQ K t.2) : ∀ q, q ≤ xs.length → ∀ z ∈ rowT X i xs q, ∀ t ∈ z, FitQ K t.2 := by
  intro q
  induction q with
  | zero => intro _; exact hX
  | succ q ih =>
    intro hq z hz
    have ih := ih (Nat.le_of_succ_le hq)
    simp only [rowT, putT] at hz
    rcases List.mem_or_eq_of_mem_set hz with hz | rfl
    · exact ih z hz
    · intro t ht
      rcases List.mem_append.1 ht with ht | ht
      · rw [List.getD_eq_getElem?_getD] at ht
        rcases Nat.lt_or_ge (pl xs q).toNat (rowT X i xs q).length with hj | hj
        · rw [List.getElem?_eq_getElem hj] at ht
          exact ih _ (List.getElem_mem hj) t ht
        · rw [List.getElem?_eq_none hj] at ht; cases ht
      · rw [List.mem_singleton.1 ht]
        have e : xs[q] = (pl xs q, xl xs q) := Option.some.inj ((List.getElem?_eq_getElem hq).symm.trans (vget hq))
        have := hx _ (List.getElem_mem hq)
        rw [e] at this; exact this
theorem formX_fit {K n : Nat} {rws : RWS} (hK : 1 ≤ K) (hr : ∀ y ∈ rws, ∀ t ∈ y.1, FitQ K t.2) : ∀ i, i ≤ rws.length → ∀ z ∈ formX rws n i, ∀ t ∈ z, FitQ K t.2 := by
  intro i
  induction i with
  | zero =>
    intro _ z hz t ht
    rw [show formX rws n 0 = List.replicate n [] from rfl] at hz
    rw [(List.mem_replicate.1 hz).2] at ht; cases ht
  | succ i ih =>
    intro hi z hz
    have hy := List.getElem?_eq_getElem hi
    rw [formX_succ hy] at hz
    rcases List.mem_append.1 hz with hz | hz
    · exact rowT_fit (ih (Nat.le_of_succ_le hi)) (hr _ (List.getElem_mem hi)) _ (Nat.le_refl _) z hz
    · rw [List.mem_singleton.1 hz]
      intro t ht
      rw [List.mem_singleton.1 ht]
      exact fitOne.mono hK
theorem formL_fit {vs : VS} {rws : RWS} {cost : VL} {k l : Nat} (h : PrgF (k + 1) vs rws cost) (hr : RowsR rws vs.length) (hl : vs.length ≤ l) :
    (∀ q ∈ formL vs rws rws.length, FitQ (pK k l + k + 3) q) ∧ ∀ q ∈ formU vs rws rws.length, FitQ (pK k l + k + 3) q := by
  have key : ∀ y ∈ rws, FitQ (pK k l + k + 3) (sideL vs y) ∧ FitQ (pK k l + k + 3) (sideU vs y) := by
    intro y hy
    obtain ⟨i, hi, rfl⟩ := List.getElem_of_mem hy
    obtain ⟨a, b⟩ := hr i _ (List.getElem?_eq_getElem hi)
    obtain ⟨f1, f2⟩ := h.r _ hy
    have hlen := cn_len a b
    obtain ⟨s1, s2⟩ := span_fit h.v f1 (inr_within b) _ (Nat.le_refl _)
    have z : FitQ (pK k l + k + 3) (0 : Rat) := FitQ.zero (by omega)
    have hm : pK k rws[i].1.length ≤ pK k l := pK_mono (by omega)
    have d1 : FitQ (pK k l + k + 3) (rws[i].2.2 - (spanQ vs rws[i].1 rws[i].1.length).1) := (FitQ.sub f2 s1).mono (by omega)
    have d2 : FitQ (pK k l + k + 3) (rws[i].2.2 - (spanQ vs rws[i].1 rws[i].1.length).2) := (FitQ.sub f2 s2).mono (by omega)
    unfold sideL sideU
    refine ⟨?_, ?_⟩
    · split
      · exact z
      · split
        · exact fit_min z d2
        · exact z
    · split
      · exact fit_max z d1
      · exact z
  refine ⟨fun q hq => ?_, fun q hq => ?_⟩
  · unfold formL at hq
    rcases List.mem_append.1 hq with hq | hq
    · obtain ⟨x, hx, rfl⟩ := List.mem_map.1 hq
      exact (h.v x hx).1.mono (by omega)
    · obtain ⟨y, hy, rfl⟩ := List.mem_map.1 hq
      exact (key y (List.mem_of_mem_take hy)).1
  · unfold formU at hq
    rcases List.mem_append.1 hq with hq | hq
    · obtain ⟨x, hx, rfl⟩ := List.mem_map.1 hq
      exact (h.v x hx).2.mono (by omega)
    · obtain ⟨y, hy, rfl⟩ := List.mem_map.1 hq
      exact (key y (List.mem_of_mem_take hy)).2
theorem formB_fit {vs : VS} {rws : RWS} {cost : VL} {k : Nat} (h : PrgF k vs rws cost) : ∀ q ∈ formB rws rws.length, FitQ k q := by
  intro q hq
  unfold formB at hq
  obtain ⟨y, hy, rfl⟩ := List.mem_map.1 hq
  exact (h.r y (List.mem_of_mem_take hy)).2
theorem formC_fit {vs : VS} {rws : RWS} {cost : VL} {k : Nat} (h : PrgF k vs rws cost) : ∀ q ∈ formC vs rws cost rws.length, FitQ (1 + cost.length * (k + 1)) q := by
  intro q hq
  unfold formC at hq
  rcases List.mem_append.1 hq with hq | hq
  · obtain ⟨j, _, rfl⟩ := List.mem_map.1 hq
    exact getL_fit h.c _
  · obtain ⟨y, hy, rfl⟩ := List.mem_map.1 hq
    exact FitQ.zero (by omega)
/-- A point's rest is not long. -/
theorem slack_fit {vs : VS} {rws : RWS} {cost : VL} {k b l i : Nat} {qs : List Rat} (h : PrgF k vs rws cost) (hr : RowsR rws vs.length) (hn : qs.length = vs.length) (hl : vs.length ≤ l) (hb : 1 ≤ b) (hq : ∀ q ∈ qs, FitQ b q) (hi : i < rws.length) :
    FitQ (1 + l * (k + b + 1)) (dotL (rws.getD i default).1 (nrm (ofV qs))) ∧ FitQ (k + (1 + l * (k + b + 1)) + 1) (slackQ rws qs i) := by
  have hy : rws[i]? = some (rws.getD i default) := by rw [List.getD_eq_getElem?_getD, List.getElem?_eq_getElem hi]; rfl
  obtain ⟨a, c⟩ := hr i _ hy
  obtain ⟨f1, f2⟩ := h.r _ (List.mem_of_getElem? hy)
  have hlen := cn_len a c
  have hd : FitQ (1 + l * (k + b + 1)) (dotL (rws.getD i default).1 (nrm (ofV qs))) := by
    rw [dotL_of (by rw [hn]; exact inr_within c)]
    refine (dotF_fit f1 (fun j => getD_fit hb hq j.toNat) hb).mono ?_
    have := Nat.mul_le_mul_right (k + b + 1) (show (rws.getD i default).1.length ≤ l by omega)
    omega
  exact ⟨hd, FitQ.sub f2 hd⟩
/-- A form that was built, read. -/
theorem vals_pt {k K base : Nat} {w : World} {s : FS} {L U C B : List Rat} {X : List VL} (h : FI k H0 base w s L U C B X) {i : Nat} {t : SlR} {rs : List RatR} {qs : List Rat} (ht : s.ss[i]? = some t) (hr : s.rs[i]? = some (rq rs)) (hv : Vals (gH H0 s.ss) w rs qs) (hf : ∀ q ∈ qs, FitQ K q) (hK : K ≤ 1099511627776) : PtI K H0 w t rs qs ∧ t.n = qs.length := by
  obtain ⟨n1, g1, _⟩ := owns_gr (s := t) (xs := rs) (h.gd.own i t (rq rs) ht hr)
  have hl := hv.len
  refine ⟨⟨g1, hl, fun j r q h1 h2 => ?_⟩, by rw [n1]; exact hl⟩
  exact ((hv.at' j r q h1 h2).to (fun b hb => hb.elim)).inq (hf q (List.mem_of_getElem? h2)) hK
theorem cols_vs {k K l base : Nat} {w : World} {s : FS} {L U C B : List Rat} {X : List VL} (h : FI k H0 base w s L U C B X) (hcv : s.cv = s.cs) (hX : ∀ z ∈ X, z.length ≤ l ∧ ∀ t ∈ z, FitQ K t.2) (hl : l ≤ 21) (hK : K ≤ 1099511627776) : Vs (VI K l) w s.cols.a s.cols.n s.cs X ∧ s.cols.n = X.length := by
  have hxl := h.xl
  have hgl := h.gd.len
  have hcl2 : s.cs.length = s.ts.length := by
    simp only [FS.ss, FS.rs, List.length_cons, List.length_map] at hgl; omega
  have hg := h.getCv
  have hcols : s.cols.n = X.length := by rw [hg.1, hcv]; omega
  have ho : Ones w s.cols.a s.cv.length (svs s.cv) := hg.2
  rw [← hg.1, hcv] at ho
  refine ⟨⟨ho, hcols.symm, fun j r z h1 h2 => ?_⟩, hcols⟩
  have hj : j < s.ts.length := by have := (List.getElem?_eq_some_iff.1 h1).1; omega
  have ht := List.getElem?_eq_getElem hj
  have hss : s.ss[j + 5]? = some r := h1
  have hrs : s.rs[j + 5]? = some (rt s.ts[j]) := by
    show (s.ts.map rt)[j]? = some (rt s.ts[j])
    rw [List.getElem?_map, ht]; rfl
  have ho2 : w.ownsRow base tT 5 r.v s.ts[j].length (tcs s.ts[j]) := h.gd.own _ _ _ hss hrs
  have hTs := h.vx j _ z ht h2
  have hzl := hTs.length
  have hrn : r.n = s.ts[j].length := by
    rcases ho2.2 with ⟨he, h0⟩ | ⟨g, cap, cur, he, _⟩
    · have := SlR.inj (y := ⟨none, 0, 0⟩) he; rw [this]; exact h0.symm
    · have := SlR.inj (y := ⟨some ⟨g, 0, none⟩, _, cap⟩) he; rw [this]
  obtain ⟨hT, c1, c2, _⟩ := owns_tms ho2 hrn
  obtain ⟨z1, z2⟩ := hX z (List.mem_of_getElem? h2)
  have hcan : CanV k H0 w r z := ⟨⟨_, hT, hTs.map (Nat.le_refl _) fun h => h.to (fun b hb => hb.elim)⟩, c1, c2, H0.av _ _⟩
  exact ⟨(hcan.tight z2).inv hK, z1, .inl (by omega)⟩
end Go.Proofs.Ytlfdobjdlgebbaa
