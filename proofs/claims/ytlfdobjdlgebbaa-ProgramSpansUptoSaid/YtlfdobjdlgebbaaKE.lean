/-
  Contracts of the layer program: the form of a program. Helpers; no statement of the program is proved here.
-/
import Derived.Test.YtlfdobjdlgebbaaKD
set_option maxRecDepth 100000
set_option linter.unusedSimpArgs false
set_option linter.unusedVariables false
namespace Go.Proofs.Ytlfdobjdlgebbaa
open Go Go.Tw Go.RowKit
attribute [local irreducible] LoadAt StoreOk Stored rawVC

/-! ### what a form says -/
def putT (X : List VL) (i : Int) (t : Int × Rat) : List VL := X.set t.1.toNat (X.getD t.1.toNat [] ++ [(i, t.2)])
/-- A row's first q terms in the columns. -/
def rowT (X : List VL) (i : Int) (xs : VL) (q : Nat) : List VL :=
  match q with
  | 0 => X
  | q + 1 => putT (rowT X i xs q) i (pl xs q, xl xs q)
def rowX (X : List VL) (i : Int) (xs : VL) : List VL := rowT X i xs xs.length ++ [[(i, 1)]]
def formX (rws : RWS) (n : Nat) (i : Nat) : List VL :=
  match i with
  | 0 => List.replicate n []
  | i + 1 => rowX (formX rws n i) (i : Int) (rws.getD i default).1
def sideL (vs : VS) (r : VL × Int × Rat) : Rat := if r.2.1 = 1 then 0 else if r.2.1 = 3 then minQ 0 (r.2.2 - (spanQ vs r.1 r.1.length).2) else 0
def sideU (vs : VS) (r : VL × Int × Rat) : Rat := if r.2.1 = 1 then maxQ 0 (r.2.2 - (spanQ vs r.1 r.1.length).1) else 0
def formL (vs : VS) (rws : RWS) (i : Nat) : List Rat := vs.map (fun x => x.1) ++ (rws.take i).map (sideL vs)
def formU (vs : VS) (rws : RWS) (i : Nat) : List Rat := vs.map (fun x => x.2.1) ++ (rws.take i).map (sideU vs)
def formC (vs : VS) (rws : RWS) (cost : VL) (i : Nat) : List Rat := (List.range vs.length).map (fun j : Nat => getL cost (j : Int)) ++ (rws.take i).map fun _ => 0
def formB (rws : RWS) (i : Nat) : List Rat := (rws.take i).map fun r => r.2.2
theorem rowT_length (X : List VL) (i : Int) (xs : VL) (q : Nat) : (rowT X i xs q).length = X.length := by
  induction q with
  | zero => rfl
  | succ q ih => simp only [rowT, putT, List.length_set, ih]
theorem formX_length (rws : RWS) (n i : Nat) : (formX rws n i).length = n + i := by
  induction i with
  | zero => simp [formX]
  | succ i ih => simp only [formX, rowX, List.length_append, rowT_length, ih, List.length_singleton]; omega
theorem rowT_le {X : List VL} {B : Nat} (h : ∀ z ∈ X, z.length ≤ B) (i : Int) (xs : VL) (q : Nat) : ∀ z ∈ rowT X i xs q, z.length ≤ B + q := by
  induction q with
  | zero => exact h
  | succ q ih =>
    intro z hz
    simp only [rowT, putT] at hz
    rcases List.mem_or_eq_of_mem_set hz with hz | rfl
    · have := ih z hz; omega
    · rw [List.length_append, List.length_singleton]
      rcases Nat.lt_or_ge (pl xs q).toNat (rowT X i xs q).length with hj | hj
      · have := ih ((rowT X i xs q).getD (pl xs q).toNat []) (by rw [List.getD_eq_getElem?_getD, List.getElem?_eq_getElem hj]; exact List.getElem_mem hj)
        omega
      · rw [List.getD_eq_getElem?_getD, List.getElem?_eq_none hj]
        show 0 + 1 ≤ _; omega
theorem formX_le {rws : RWS} {l : Nat} (h : ∀ (j : Nat) y, rws[j]? = some y → y.1.length ≤ l) (n i : Nat) : ∀ z ∈ formX rws n i, z.length ≤ i * (l + 1) := by
  induction i with
  | zero =>
    intro z hz
    rw [show formX rws n 0 = List.replicate n [] from rfl] at hz
    rw [(List.mem_replicate.1 hz).2]; exact Nat.zero_le _
  | succ i ih =>
    intro z hz
    have hl : (rws.getD i default).1.length ≤ l := by
      rcases Nat.lt_or_ge i rws.length with hj | hj
      · rw [List.getD_eq_getElem?_getD, List.getElem?_eq_getElem hj]; exact h i _ (List.getElem?_eq_getElem hj)
      · rw [List.getD_eq_getElem?_getD, List.getElem?_eq_none hj]; exact Nat.zero_le _
    simp only [formX, rowX, List.mem_append, List.mem_singleton] at hz
    rw [Nat.add_mul]
    rcases hz with hz | rfl
    · have := rowT_le ih (i : Int) (rws.getD i default).1 _ z hz; omega
    · show 1 ≤ _; omega
/-- The matrix stored in the form's cell. -/
theorem storeFC {w : World} {b : Nat} {f : FormR} {v : SlR} (hb : Blk w b tFrm f.cs) :
    StoreOk tt w 36 ⟨b, 1, none⟩ v.v ∧ ∀ w', Stored w w' ⟨b, 1, none⟩ v.v.cells.toList → Blk w' b tFrm (f.cs.set 1 v.v) ∧ w.grownBy w' (some b) := by
  refine ⟨storeOk (Eq.refl _) (Eq.refl _) hb (by show 1 + 1 ≤ 6; omega), fun w' hs => ⟨?_, (Stored.grown hs).1⟩⟩
  have := Stored.blk hs hb
  rw [show v.v.cells.toList = [v.v] from Eq.refl _, splice_one] at this
  exact this
/-- A form at its beginning. -/
def FS.start (g n : Nat) : FS := ⟨⟨none, 0, 0⟩, ⟨none, 0, 0⟩, ⟨none, 0, 0⟩, ⟨none, 0, 0⟩, ⟨some ⟨g, 0, none⟩, n, n⟩, List.replicate n ⟨none, 0, 0⟩, List.replicate n ⟨none, 0, 0⟩, [], [], [], [], List.replicate n []⟩
theorem FI.start {k base g n : Nat} {H : Hd} {w : World} (hH : HB H w) (hb : Blk w g tV (rep n [.slice none 0 0])) (hg : base ≤ g) (hn : n ≤ 1048576) (hno : ¬ H g) : FI k H base w (FS.start g n) [] [] [] [] (List.replicate n []) := by
  have key : ∀ (i : Nat) t c, (FS.start g n).ss[i]? = some t → t.v.ownBlock = some c → i = 4 ∧ c = g := by
    intro i t c h1 h2
    have : i = 4 ∨ t = ⟨none, 0, 0⟩ := by
      match i, h1 with
      | 0, h1 => right; exact (Option.some.inj h1).symm
      | 1, h1 => right; exact (Option.some.inj h1).symm
      | 2, h1 => right; exact (Option.some.inj h1).symm
      | 3, h1 => right; exact (Option.some.inj h1).symm
      | 4, h1 => left; rfl
      | i + 5, h1 =>
        right
        have h1 : (List.replicate n (⟨none, 0, 0⟩ : SlR))[i]? = some t := h1
        rw [List.getElem?_replicate] at h1
        split at h1
        · exact (Option.some.inj h1).symm
        · cases h1
    rcases this with rfl | rfl
    · have h1 : some (⟨some ⟨g, 0, none⟩, n, n⟩ : SlR) = some t := h1
      cases h1
      exact ⟨rfl, (Option.some.inj h2).symm⟩
    · cases h2
  refine ⟨hH, ⟨?_, ?_, fun i j t u c h1 h2 h3 h4 => by rw [(key i t c h1 h3).1, (key j u c h2 h4).1]⟩, ?_, Vals.nil _ _, Vals.nil _ _, Vals.nil _ _, Vals.nil _ _, by simp [FS.start], ?_⟩
  · simp [FS.start, FS.ss, FS.rs]
  · intro i t r h1 h2
    match i, h1, h2 with
    | 0, h1, h2 => cases h1; cases h2; exact nil_own
    | 1, h1, h2 => cases h1; cases h2; exact nil_own
    | 2, h1, h2 => cases h1; cases h2; exact nil_own
    | 3, h1, h2 => cases h1; cases h2; exact nil_own
    | 4, h1, h2 =>
      cases h1; cases h2
      have e : rep n [Value.slice none 0 0] = svs (List.replicate n (⟨none, 0, 0⟩ : SlR)) := by rw [rep_one]; simp [svs, SlR.v]
      rw [e] at hb
      show w.ownsRow base tV 1 (.slice (some ⟨g, 0, none⟩) n n) (List.replicate n (⟨none, 0, 0⟩ : SlR)).length (svs (List.replicate n ⟨none, 0, 0⟩))
      rw [List.length_replicate]
      exact owns_of_blk1 (R := []) (by rw [List.append_nil]; exact hb) hg (by simp [svs]) (Nat.le_refl _) (by omega) (by simp [svs])
    | i + 5, h1, h2 =>
      have h1 : (List.replicate n (⟨none, 0, 0⟩ : SlR))[i]? = some t := h1
      have h2 : ((List.replicate n ([] : List TmR)).map rt)[i]? = some r := h2
      rw [List.map_replicate] at h2
      rw [List.getElem?_replicate] at h1 h2
      split at h1
      · rename_i hi
        rw [if_pos hi] at h2
        cases h1; cases h2
        exact nil_own
      · cases h1
  · intro c hc t ht e
    obtain ⟨i, hi, rfl⟩ := List.getElem_of_mem ht
    have := (key i _ c (List.getElem?_eq_getElem hi) e).2
    exact hno (this ▸ hc)
  · intro j t z h1 h2
    have h1 : (List.replicate n ([] : List TmR))[j]? = some t := h1
    rw [List.getElem?_replicate] at h1 h2
    split at h1
    · rename_i hj
      rw [if_pos hj] at h2
      cases h1; cases h2
      exact .nil
    · cases h1

theorem take_snoc {α : Type} {L : List α} {i : Nat} {a : α} (h : L[i]? = some a) : L.take (i + 1) = L.take i ++ [a] := by rw [List.take_add_one, h]; rfl
instance : Enc FormR where
  cs := FormR.cs
  k := 6
  len := fun _ => rfl
  pos := by decide
  one := fun x v hv => by
    simp only [FormR.cs, List.mem_cons, List.not_mem_nil, or_false] at hv
    rcases hv with rfl | rfl | rfl | rfl | rfl | rfl <;> rfl
def FormR.zero : FormR := ⟨0, ⟨none, 0, 0⟩, ⟨none, 0, 0⟩, ⟨none, 0, 0⟩, ⟨none, 0, 0⟩, ⟨none, 0, 0⟩⟩
def h3 (b1 b2 fb : Nat) : Hd := fun c => c = b1 ∨ c = b2 ∨ c = fb
theorem formL_succ {vs : VS} {rws : RWS} {i : Nat} {y : VL × Int × Rat} (h : rws[i]? = some y) : formL vs rws (i + 1) = formL vs rws i ++ [sideL vs y] := by
  rw [formL, formL, take_snoc h, List.map_append, List.append_assoc]; rfl
theorem formU_succ {vs : VS} {rws : RWS} {i : Nat} {y : VL × Int × Rat} (h : rws[i]? = some y) : formU vs rws (i + 1) = formU vs rws i ++ [sideU vs y] := by
  rw [formU, formU, take_snoc h, List.map_append, List.append_assoc]; rfl
theorem formC_succ {vs : VS} {rws : RWS} {cost : VL} {i : Nat} {y : VL × Int × Rat} (h : rws[i]? = some y) : formC vs rws cost (i + 1) = formC vs rws cost i ++ [0] := by
  rw [formC, formC, take_snoc h, List.map_append, List.append_assoc]; rfl
theorem formB_succ {rws : RWS} {i : Nat} {y : VL × Int × Rat} (h : rws[i]? = some y) : formB rws (i + 1) = formB rws i ++ [y.2.2] := by
  rw [formB, formB, take_snoc h, List.map_append]; rfl
theorem formX_succ {rws : RWS} {n i : Nat} {y : VL × Int × Rat} (h : rws[i]? = some y) : formX rws n (i + 1) = rowT (formX rws n i) (i : Int) y.1 y.1.length ++ [[((i : Int), 1)]] := by
  have e : rws.getD i default = y := by rw [List.getD_eq_getElem?_getD, h]; rfl
  rw [formX, e, rowX]
/-- A row's end: the form of one row more. -/
theorem FI.rowEnd {k base b1 b2 fb b10 n i q : Nat} {w : World} {s : FS} {vs : VS} {rws : RWS} {cost : VL} {y : VL × Int × Rat} {ql qh : Rat}
    (h : FI k (fun c => h3 b1 b2 fb c ∨ c = b10) base w s (formL vs rws i ++ [ql]) (formU vs rws i ++ [qh]) (formC vs rws cost i ++ [0]) (formB rws i ++ [y.2.2]) (rowT (formX rws n i) (i : Int) y.1 q ++ [[((i : Int), 1)]]))
    (hy : rws[i]? = some y) (hq : q = y.1.length) (hl : ql = sideL vs y) (hh : qh = sideU vs y) :
    FI k (h3 b1 b2 fb) base w s (formL vs rws (i + 1)) (formU vs rws (i + 1)) (formC vs rws cost (i + 1)) (formB rws (i + 1)) (formX rws n (i + 1)) := by
  subst hq
  rw [formL_succ hy, formU_succ hy, formC_succ hy, formB_succ hy, formX_succ hy, ← hl, ← hh]
  exact h.to (fun b hb => h.hb b (.inl hb)) (fun b hb => .inl (.inl hb)) (Ext.rfl w)
theorem FI.toBase {k base : Nat} {H : Hd} {w : World} {s : FS} {L U C B : List Rat} {X : List VL} (h : FI k H base w s L U C B X) (hH : ∀ c, H c → base ≤ c) : ∀ b, gH H s.ss b → H0 b ∨ base ≤ b := by
  rintro b (hb | ⟨t, ht, hb⟩)
  · exact .inr (hH b hb)
  · obtain ⟨i, hi, rfl⟩ := List.getElem_of_mem ht
    exact .inr (h.gd.lt (List.getElem?_eq_getElem hi) hb).1
theorem Form_ok {k l k0 l0 : Nat} {w : World} {p : PrgR} {vr : List VarR} {rr : List RowR} {vs : VS} {rws : RWS} {cost : VL} {RC : Bool} {RR : Nat → Bool} (hP0 : PrgI k0 l0 w p vr rr vs rws cost) (hup : Good vs rws RC RR → PrgI k l w p vr rr vs rws cost) (hk : k ≤ 16777216 ∧ l ≤ 65536 ∧ pK k l ≤ 34359738368 ∧ k0 ≤ 16777216)
    (hn : p.vars.n ≤ 1099511627776 ∧ p.rows.n ≤ 1099511627776)
    (hRC : ∀ w', Ext w w' → CallS Try.prog 50 #[p.cost.v, .int .i64 (vs.length : Int)] w' fun v w'' => Ext w' w'' ∧ v = .bool RC)
    (hRR : ∀ (j : Nat) r, rr[j]? = some r → ∀ w', Ext w w' → CallS Try.prog 50 #[r.a.v, .int .i64 (vs.length : Int)] w' fun v w'' => Ext w' w'' ∧ v = .bool (RR j))
    (hin : ∀ (j : Nat) x, rws[j]? = some x → RR j = true → ∀ q, q < x.1.length → 0 ≤ pl x.1 q ∧ pl x.1 q < (vs.length : Int)) :
    CallS Try.prog 12 #[p.v] w fun v w' => Ext w w' ∧ ∃ (f : FormR) (e : Int), v = .tuple #[f.v, .int .i64 e] ∧ ((¬ Good vs rws RC RR ∧ e = 100 ∧ f = FormR.zero) ∨
      (Good vs rws RC RR ∧ e = 0 ∧ ∃ s : FS, f = s.form (rws.length : Int) ∧ s.cv = s.cs ∧ FI (k + 1) H0 w.heap.size w' s (formL vs rws rws.length) (formU vs rws rws.length) (formC vs rws cost rws.length) (formB rws rws.length) (formX rws vs.length rws.length))) := by
  obtain ⟨hk1, hl1, hK, hk0⟩ := hk
  obtain ⟨hn1, hn2⟩ := hn
  have hvn := hP0.vars.len
  have hvl := hP0.vlen
  have hrn := hP0.rows.len
  have hrl := hP0.rlen
  refine enter ttOk mixed (args := [p.v]) Try.func12 rfl (by kernel_rfl) (by kernel_rfl) rfl ?_
  intro b1 w1 hb1 b2 w2 hb2
  have x1 := hb1.ext
  have x2 := hb2.extFrom x1
  have hB1 : Blk w2 b1 tPrg p.cs := hb1.toBlk.ext hb2.ext
  have hB2 : Blk w2 b2 tFrm FormR.zero.cs := hb2.toBlk
  have ne12 : b1 ≠ b2 := by have := hb1.lt; have := hb2.isNew; omega
  refine ⟨p.v, hB1.agg (sub := p.cs) rfl rfl, ?_⟩
  refine CallS.mono (PRight_ok (hP0.ext x2) ⟨by omega, hn1, hn2⟩ (fun w' hx => hRC w' (Ext.trans' x2 hx)) (fun j r hj w' hx => hRR j r hj w' (Ext.trans' x2 hx))) ?_
  rintro _ w3 ⟨hx3, e, rfl, hg⟩
  have x3 := Ext.trans' x2 hx3
  refine And.intro (fun h1 => ?_) (fun h1 => ?_)
  · rcases hg with hg | hg
    · exact absurd (by rw [hg.2]) h1
    obtain ⟨hgood, he⟩ := hg
    subst he
    have st := storeE (T := tt) (ty := tFrm) FormR.zero (hB2.ext hx3) rfl
    refine ⟨st.1, fun w4 hs4 => ?_⟩
    obtain ⟨hB4, hg4⟩ := st.2 w4 hs4
    refine ⟨FormR.zero.v, hB4.agg (sub := FormR.zero.cs) rfl rfl, ?_⟩
    exact ⟨Ext.grownB x3 hg4 (hb2.ge x1), FormR.zero, 100, rfl, .inl ⟨hgood, rfl, rfl⟩⟩
  rcases hg with hg | hg
  case inr => exact absurd hg.2 (fun h => h1 (by rw [h]; decide))
  obtain ⟨hgood, he⟩ := hg
  subst he
  have hP := hup hgood
  refine ⟨sq 10, by kernel_rfl, ?_⟩
  refine ⟨_, (hB1.ext hx3).one (off := 1) rfl rfl, _, (hB1.ext hx3).one (off := 0) rfl rfl, ?_⟩
  refine ⟨⟨by omega, by omega, by show p.vars.n * 24 ≤ _; have := hgood.nv; omega, by show p.vars.n ≤ _; omega⟩, ?_⟩
  intro g hg4 fb hfb w4 hx4 hF4
  have hBg : Blk w4 g tV (rep p.vars.n [.slice none 0 0]) := hF4.2.1.1
  have hBf : Blk w4 fb tFrm FormR.zero.cs := hF4.1.1
  have nefg : fb ≠ g := fun h => hfb.1 (.inl h)
  have st := storeE (T := tt) (ty := tFrm) (FS.form (FS.start g p.vars.n) (p.rows.n : Int)) hBf rfl
  refine ⟨st.1, fun w5 hs5 => ?_⟩
  obtain ⟨hBf5, hg5⟩ := st.2 w5 hs5
  intro w6 hx6 _
  have gge : w3.heap.size ≤ g := hF4.2.1.2
  have fge : w3.heap.size ≤ fb := hF4.1.2
  have x4 := Ext.trans' x3 hx4
  have x36 : Ext w3 w6 := Ext.trans' (Ext.grownB hx4 hg5 fge) hx6
  have x6 := Ext.trans' x3 x36
  have hs3 := x3.size
  have l1 := hb1.lt
  have l2 := hb2.lt
  have g1 := hb1.ge (Ext.rfl w)
  have g2 := hb2.ge x1
  have s12 := hb2.ext.size
  have s23 := hx3.size
  have hBg6 : Blk w6 g tV (rep p.vars.n [.slice none 0 0]) := (Blk.grownN hBg hg5 (Ne.symm nefg)).ext hx6
  have hBf6 := hBf5.ext hx6
  have hB16 : Blk w6 b1 tPrg p.cs := (hB1.ext hx3).ext x36
  have hB26 : Blk w6 b2 tFrm FormR.zero.cs := (hB2.ext hx3).ext x36
  have lf := hBf6.lt
  have hHB : HB (h3 b1 b2 fb) w6 := by
    intro c hc
    have := x36.size
    rcases hc with rfl | rfl | rfl <;> omega
  have hS : FI (k + 1) (h3 b1 b2 fb) w.heap.size w6 (FS.start g p.vars.n) [] [] [] [] (List.replicate p.vars.n []) := FI.start hHB hBg6 (by omega) (by have := hgood.nv; omega) (by
    intro hc
    rcases hc with h | h | h
    · omega
    · omega
    · exact nefg h.symm)
  refine ⟨_, hB16.one (off := 0) rfl rfl, ?_⟩
  have ne1f : b1 ≠ fb := by omega
  have ne2f : b2 ≠ fb := by omega
  have toH : ∀ {w' : World} {s : FS} {L U C B : List Rat} {X : List VL}, FI (k + 1) (h3 b1 b2 fb) w.heap.size w' s L U C B X → ∀ b, gH (h3 b1 b2 fb) s.ss b → H0 b ∨ w.heap.size ≤ b := by
    intro w' s L U C B X h b hb
    rcases hb with hb | ⟨t, ht, hb⟩
    · right; rcases hb with rfl | rfl | rfl <;> omega
    · obtain ⟨i, hi, rfl⟩ := List.getElem_of_mem ht
      exact .inr (h.gd.lt (List.getElem?_eq_getElem hi) hb).1
  have hnv := hgood.nv
  have hnr := hgood.nr
  have hcl : 1 + cost.length * (k + 2) ≤ 137438953472 := by
    have h1 := hP.cost.len
    have h2 := Nat.mul_le_mul_right (k + 2) h1
    have h3 : l * (k + 2) ≤ l * (2 * k + 5) := Nat.mul_le_mul_left _ (by omega)
    unfold pK at hK
    omega
  refine ⟨Nat × FS, fun x => [(1, .pointer (some ⟨b1, 0, none⟩)), (2, .pointer (some ⟨b2, 0, none⟩)), (5, .pointer (some ⟨fb, 0, none⟩)), (6, .func (.func 63) #[] #[.pointer (some ⟨fb, 0, none⟩)]), (32, p.vars.v), (33, .int .i64 (p.vars.n : Int)), (34, .int .i64 (x.1 : Int))],
    fun x w' => Ext w w' ∧ FI (k + 1) (h3 b1 b2 fb) w.heap.size w' x.2 ((vs.map fun x => x.1).take x.1) ((vs.map fun x => x.2.1).take x.1) (((List.range vs.length).map fun j : Nat => getL cost (j : Int)).take x.1) [] (List.replicate p.vars.n []) ∧ Blk w' fb tFrm (x.2.form (p.rows.n : Int)).cs ∧ Blk w' b1 tPrg p.cs ∧ Blk w' b2 tFrm FormR.zero.cs ∧ x.1 ≤ p.vars.n ∧ x.2.cv = x.2.cs, fun x _ => p.vars.n - x.1,
    ⟨(0, FS.start g p.vars.n), ⟨rfl, rfl, rfl, rfl, rfl, rfl, rfl, trivial⟩, ⟨x6, hS, hBf6, hB16, hB26, Nat.zero_le _, rfl⟩⟩, ?_⟩
  clear hS hBf6 hB16 hB26 hBg6 x36 hx6 hBf5 hs5 hg5 st hBg hBf hF4 hx4
  rintro ⟨i, s⟩ w7 ⟨x7, hF7, hBf7, hB17, hB27, hi, hcv⟩
  dsimp only at *
  refine And.intro (fun h2 => ?_) (fun h2 => ?_)
  · have hin := ltTo h2
    refine (show ∃ v, vr[i]? = some v from ⟨_, gr_getD hP.vars hin⟩).elim fun v hgv => ?_
    refine (show ∃ y, vs[i]? = some y from ⟨_, List.getElem?_eq_getElem (by omega)⟩).elim fun y hgx => ?_
    have hvar := hP.var i v y hgv hgx
    have hlo := hvar.1
    have hhi := hvar.2.1
    refine ⟨i, ⟨rfl, hin, hP.vars.base (by omega)⟩, v.v, (hP.vars.ext x7).load hgv rfl rfl, ?_⟩
    intro b8 w8 hb8
    have st := storeE (T := tt) (ty := tVar) v hb8.toBlk rfl
    refine ⟨st.1, fun w9 hs9 => ?_⟩
    have hB89 := (st.2 w9 hs9).1
    have hg9 := (st.2 w9 hs9).2
    have hx79 : Ext w7 w9 := Ext.grownB hb8.ext hg9 (hb8.ge (Ext.rfl w7))
    have x9 := Ext.trans' x7 hx79
    have hF9 := hF7.ext hx79
    have ht9 := toH hF9
    refine ⟨sqK 10 [9], by kernel_rfl, v.lo.v, hB89.agg (sub := rcs v.lo) rfl rfl, v.hi.v, hB89.agg (sub := rcs v.hi) rfl rfl, p.cost.v, (hB17.ext hx79).one (off := 2) rfl rfl, ?_⟩
    refine dcallR (mk := RatR.v) (Q := fun r' w' => CanQ (gH (h3 b1 b2 fb) s.ss) w' r' (getL cost (i : Int))) RatR.inj (fun _ => CanQ.stable) (fun w' hw hF => CallS.mono (VGet_ok (HB.ext hF9.hbs hw) ((hP.cost.inv.to ht9).ext (Ext.trans' x9 hw)) (i : Int) (by omega) hcl) (fun v' w'' h => ⟨h.1, h.2.elim fun r hr => ⟨r, hr.1, hr.2.1⟩⟩)) ?_
    intro rc w10 hx10 hF10
    have x10 := Ext.trans' x9 hx10
    have hlL := hF7.vl.len
    have hlU := hF7.vu.len
    have hlC := hF7.vc.len
    rw [List.length_take] at hlL hlU hlC
    refine CallS.mono (Side_ok (K := k) (hF9.ext hx10) (hBf7.ext (Ext.trans' hx79 hx10)) (.inr (.inr rfl)) x10.size ((hlo.to ht9).ext x10) ((hhi.to ht9).ext x10) hF10.1 ⟨by omega, by omega, by omega⟩) ?_
    intro vv w11 hpost
    refine hpost.2.2.elim fun s' hpost' => ?_
    have hKH := hpost.2.1
    have hBf' := hpost'.1
    have hF' := hpost'.2.1
    have e4 := hpost'.2.2.2.2.1
    have e5 := hpost'.2.2.2.2.2.1
    intro w12 hx12 _
    refine ⟨((i + 1 : Nat) : Int), sucI i (by omega), (i + 1, s'), ⟨rfl, rfl, rfl, rfl, rfl, rfl, rfl, trivial⟩, ⟨?_, ?_, hBf'.ext hx12, ?_, ?_, hin, ?_⟩, Nat.sub_lt_sub_left hin (Nat.lt_succ_self i)⟩
    · exact Ext.trans' (KH.ext x10 (Nat.le_refl _) (by omega) hKH) hx12
    · have t1 : (vs.map fun x => x.1).take (i + 1) = (vs.map fun x => x.1).take i ++ [y.1] := take_snoc (by rw [List.getElem?_map, hgx]; rfl)
      have t2 : (vs.map fun x => x.2.1).take (i + 1) = (vs.map fun x => x.2.1).take i ++ [y.2.1] := take_snoc (by rw [List.getElem?_map, hgx]; rfl)
      have t3 : ((List.range vs.length).map fun j : Nat => getL cost (j : Int)).take (i + 1) = ((List.range vs.length).map fun j : Nat => getL cost (j : Int)).take i ++ [getL cost (i : Int)] := take_snoc (by rw [List.getElem?_map, List.getElem?_range (by omega)]; rfl)
      show FI (k + 1) (h3 b1 b2 fb) w.heap.size w12 s' ((vs.map fun x => x.1).take (i + 1)) ((vs.map fun x => x.2.1).take (i + 1)) (((List.range vs.length).map fun j : Nat => getL cost (j : Int)).take (i + 1)) [] (List.replicate p.vars.n [])
      rw [t1, t2, t3]
      exact hF'.ext hx12
    · exact (((hB17.ext (Ext.trans' hx79 hx10)).kh hKH (.inr (.inl rfl)) ne1f)).ext hx12
    · exact (((hB27.ext (Ext.trans' hx79 hx10)).kh hKH (.inr (.inr (.inl rfl))) ne2f)).ext hx12
    · show s'.cv = s'.cs
      rw [e5, e4]; exact hcv
  · have hi' : i = p.vars.n := Nat.le_antisymm hi (geTo h2)
    refine ⟨_, hB17.one (off := 1) rfl rfl, ?_⟩
    have hS2 : FI (k + 1) (h3 b1 b2 fb) w.heap.size w7 s (formL vs rws 0) (formU vs rws 0) (formC vs rws cost 0) (formB rws 0) (formX rws vs.length 0) := by
      have e1 : formL vs rws 0 = (vs.map fun x => x.1).take i := by rw [List.take_of_length_le (by rw [List.length_map]; omega)]; simp [formL]
      have e2 : formU vs rws 0 = (vs.map fun x => x.2.1).take i := by rw [List.take_of_length_le (by rw [List.length_map]; omega)]; simp [formU]
      have e3 : formC vs rws cost 0 = ((List.range vs.length).map fun j : Nat => getL cost (j : Int)).take i := by rw [List.take_of_length_le (by rw [List.length_map, List.length_range]; omega)]; simp [formC]
      have e4 : formX rws vs.length 0 = List.replicate p.vars.n [] := by show List.replicate vs.length [] = _; rw [show vs.length = p.vars.n by omega]
      rw [e1, e2, e3, e4]
      exact hF7
    refine ⟨Nat × FS, fun x => [(1, .pointer (some ⟨b1, 0, none⟩)), (2, .pointer (some ⟨b2, 0, none⟩)), (5, .pointer (some ⟨fb, 0, none⟩)), (6, .func (.func 63) #[] #[.pointer (some ⟨fb, 0, none⟩)]), (51, p.rows.v), (52, .int .i64 (p.rows.n : Int)), (53, .int .i64 (x.1 : Int))],
      fun x w' => Ext w w' ∧ FI (k + 1) (h3 b1 b2 fb) w.heap.size w' x.2 (formL vs rws x.1) (formU vs rws x.1) (formC vs rws cost x.1) (formB rws x.1) (formX rws vs.length x.1) ∧ Blk w' fb tFrm (x.2.form (p.rows.n : Int)).cs ∧ Blk w' b1 tPrg p.cs ∧ Blk w' b2 tFrm FormR.zero.cs ∧ x.1 ≤ p.rows.n ∧ x.2.cv = x.2.cs, fun x _ => p.rows.n - x.1,
      ⟨(0, s), ⟨rfl, rfl, rfl, rfl, rfl, rfl, rfl, trivial⟩, ⟨x7, hS2, hBf7, hB17, hB27, Nat.zero_le _, hcv⟩⟩, ?_⟩
    clear hS2 hBf7 hB17 hB27 hF7 x7 hcv
    rintro ⟨i, s⟩ w8 ⟨x8, hF8, hBf8, hB18, hB28, hi, hcv⟩
    dsimp only at *
    refine And.intro (fun h3' => ?_) (fun h3' => ?_)
    · have hin2 := ltTo h3'
      refine (show ∃ r, rr[i]? = some r from ⟨_, gr_getD hP.rows hin2⟩).elim fun r hgr => ?_
      refine (show ∃ y, rws[i]? = some y from ⟨_, List.getElem?_eq_getElem (by omega)⟩).elim fun y hgy => ?_
      have hrow := hP.row i r y hgr hgy
      have hgd := hgood.row i y hgy
      refine ⟨i, ⟨rfl, hin2, hP.rows.base (by omega)⟩, r.v, (hP.rows.ext x8).load hgr rfl rfl, ?_⟩
      intro b10 w9 hb10
      have st := storeE (T := tt) (ty := tRow) r hb10.toBlk rfl
      refine ⟨st.1, fun w10 hs10 => ?_⟩
      have hB10 := (st.2 w10 hs10).1
      have hg10 := (st.2 w10 hs10).2
      have hx810 : Ext w8 w10 := Ext.grownB hb10.ext hg10 (hb10.ge (Ext.rfl w8))
      have x10 := Ext.trans' x8 hx810
      refine ⟨_, hB10.one (off := 0) rfl rfl, ?_⟩
      have hF10 : FI (k + 1) (fun c => h3 b1 b2 fb c ∨ c = b10) w.heap.size w10 s (formL vs rws i) (formU vs rws i) (formC vs rws cost i) (formB rws i) (formX rws vs.length i) := by
        refine hF8.to ?_ (fun c hc => hc.imp_right fun e => ?_) hx810
        · intro c hc
          rcases hc with hc | hc
          · exact Nat.lt_of_lt_of_le (hF8.hb c hc) hx810.size
          · rw [hc]; exact hB10.lt
        · rw [e]; exact hb10.ge (Ext.rfl w8)
      have g10 : w.heap.size ≤ b10 := hb10.ge x8
      have ne10 : b10 ≠ fb := by have h1 := hBf8.lt; have h2 := hb10.ge (Ext.rfl w8); omega
      have hyl := hrow.1.len
      refine hrow.1.inv.ts.elim fun ts hTI => ?_
      have hT := hTI.1
      have hI := hTI.2
      have hTl := hT.len
      have hIl := hI.length
      have hinr := hin i y hgy hgd.2.2
      have hXle := formX_le (rws := rws) (l := l) (fun j z hz => by
        refine (show ∃ r, rr[j]? = some r from ⟨_, List.getElem?_eq_getElem (by have := (List.getElem?_eq_some_iff.1 hz).1; omega)⟩).elim fun r hr => (hP.row j r z hr hz).1.len) vs.length i
      have hXn := formX_length rws vs.length i
      have hil : i * (l + 1) ≤ 600 * 65537 := Nat.mul_le_mul (by omega) (by omega)
      refine ⟨Nat × FS, fun x => [(1, .pointer (some ⟨b1, 0, none⟩)), (2, .pointer (some ⟨b2, 0, none⟩)), (5, .pointer (some ⟨fb, 0, none⟩)), (6, .func (.func 63) #[] #[.pointer (some ⟨fb, 0, none⟩)]), (9, .int .i64 (i : Int)), (10, .pointer (some ⟨b10, 0, none⟩)), (51, p.rows.v), (52, .int .i64 (p.rows.n : Int)), (53, .int .i64 (i : Int)), (59, r.a.v), (60, .int .i64 (r.a.n : Int)), (61, .int .i64 (x.1 : Int))],
        fun x w' => Ext w w' ∧ FI (k + 1) (fun c => h3 b1 b2 fb c ∨ c = b10) w.heap.size w' x.2 (formL vs rws i) (formU vs rws i) (formC vs rws cost i) (formB rws i) (rowT (formX rws vs.length i) (i : Int) y.1 x.1) ∧ Blk w' fb tFrm (x.2.form (p.rows.n : Int)).cs ∧ Blk w' b1 tPrg p.cs ∧ Blk w' b2 tFrm FormR.zero.cs ∧ Blk w' b10 tRow r.cs ∧ x.1 ≤ r.a.n ∧ x.2.cv = x.2.cs, fun x _ => r.a.n - x.1,
        ⟨(0, s), ⟨rfl, rfl, rfl, rfl, rfl, rfl, rfl, rfl, rfl, rfl, rfl, rfl, trivial⟩, ⟨x10, hF10, hBf8.ext hx810, hB18.ext hx810, hB28.ext hx810, hB10, Nat.zero_le _, hcv⟩⟩, ?_⟩
      clear hF10 x10 hx810 hg10 hB10 st hb10 hcv hB28 hB18 hBf8 hF8 x8
      rintro ⟨q, s⟩ w11 ⟨x11, hF11, hBf11, hB111, hB211, hB10, hq, hcv⟩
      dsimp only at *
      refine And.intro (fun h4 => ?_) (fun h4 => ?_)
      · have hqn := ltTo h4
        refine (hI.get (vget (ys := y.1) (j := q) (by omega))).elim fun t ht0 => ?_
        have ht := ht0.1
        have hat : t.at' = pl y.1 q := ht0.2.1
        have hqx := ht0.2.2
        refine ⟨q, ⟨rfl, hqn, hT.base (by omega)⟩, t.v, (hT.ext x11).load (ty := tT) ht rfl rfl, ?_⟩
        intro b12 w12 hb12
        have hs := storeTmB (w' := w12) (t := t) hb12.toBlk rfl
        refine ⟨hs.1, fun w13 hs13 => ?_⟩
        have h13 := (storeTmB (t := t) hb12.toBlk rfl).2 hs13
        have hx13 : Ext w11 w13 := Ext.grownB hb12.ext h13.2 (hb12.ge (Ext.rfl w11))
        have hB12 := h13.1
        have hF13 := hF11.ext hx13
        have hBf13 := hBf11.ext hx13
        have x13 := Ext.trans' x11 hx13
        have hr := hinr q (by omega)
        refine (show ∃ P : Nat, t.at' = (P : Int) from ⟨t.at'.toNat, by omega⟩).elim fun P hP' => ?_
        have hPn : P < vs.length := by omega
        have hgl := hF13.gd.len
        have hcl2 : s.cs.length = s.ts.length := by
          simp only [FS.ss, FS.rs, List.length_cons, List.length_map] at hgl; omega
        have htx := hF13.xl
        have hrl := rowT_length (formX rws vs.length i) (i : Int) y.1 q
        have hPc : P < s.cs.length := by omega
        have hgc := hF13.getCv
        have hcvl : s.cv.length = s.cs.length := by rw [hcv]
        refine (show ∃ u, s.cs[P]? = some u from ⟨_, List.getElem?_eq_getElem hPc⟩).elim fun u hu => ?_
        have huv : s.cv[P]? = some u := by rw [hcv]; exact hu
        refine (show ∃ t0, s.ts[P]? = some t0 from ⟨_, List.getElem?_eq_getElem (by omega)⟩).elim fun t0 ht0' => ?_
        refine (show ∃ z, (rowT (formX rws vs.length i) (i : Int) y.1 q)[P]? = some z from ⟨_, List.getElem?_eq_getElem (by omega)⟩).elim fun z hz => ?_
        have hzl := rowT_le hXle (i : Int) y.1 q z (List.mem_of_getElem? hz)
        have ht0l := (hF13.vx P t0 z ht0' hz).length
        have toH' : ∀ b, gH (fun c => h3 b1 b2 fb c ∨ c = b10) s.ss b → H0 b ∨ w.heap.size ≤ b := fun b hb => hb.elim (fun h => .inr (h.elim (fun h => h.elim (fun h => by omega) fun h => h.elim (fun h => by omega) fun h => by omega) fun h => by omega)) fun h => h.elim fun t' ht' => (List.getElem_of_mem ht'.1).elim fun j hj => hj.elim fun hj1 hj2 => .inr (hF13.gd.lt (i := j) (s := t') (by rw [← hj2]; exact List.getElem?_eq_getElem hj1) ht'.2).1
        have hq13 := (hqx.to toH').ext x13
        have huown : ∀ b, u.v.ownBlock = some b → gH (fun c => h3 b1 b2 fb c ∨ c = b10) s.ss b := fun b hb => .inr ⟨u, .tail _ (.tail _ (.tail _ (.tail _ (.tail _ (List.mem_of_getElem? hu))))), hb⟩
        have hus : s.ss[P + 5]? = some u := hu
        have hur : s.rs[P + 5]? = some (rt t0) := by
          show (s.ts.map rt)[P]? = some (rt t0)
          rw [List.getElem?_map, ht0']; rfl
        refine ⟨sqK 19 [1, 3, 16], by kernel_rfl, s.cols.v, fun w' hw _ => (hBf13.ext hw).one (off := 1) rfl rfl, .int .i64 t.at', fun w' hw _ => (hB12.ext hw).one (off := 0) rfl rfl, s.cols.v, hBf13.one (off := 1) rfl rfl, _, hB12.one (off := 0) rfl rfl, P, ⟨hP', by omega, hgc.2.base (by omega)⟩, u.v, hgc.2.load (T := tt) (ty := tV) (sz := 1) (svs_get huv) rfl rfl, t.x.v, hB12.agg (sub := rcs t.x) rfl rfl, ?_⟩
        refine dcallR (mk := RatR.v) (Q := fun r' w' => CanQ (gH (fun c => h3 b1 b2 fb c ∨ c = b10) s.ss) w' r' (xl y.1 q)) RatR.inj (fun _ => CanQ.stable) (fun w' hw hF => Norm_ok (HB.ext hF13.hbs hw) (hq13.ext hw).is) ?_
        intro rn
        intro b15 _
        intro w14 hx14 hF14
        have hF14' := hF13.ext hx14
        have hB15 : Blk w14 b15 tT (tcs [⟨(i : Int), rn⟩]) := hF14.1.1
        have hB12' : Blk w14 b12 tT (tcs [t]) := by rw [tcs_one]; exact hB12.ext hx14
        refine ⟨rfl, w.heap.size, t0.length, tcs t0, tcs [⟨(i : Int), rn⟩], ⟨hF14'.gd.own _ _ _ hus hur, rfl, ?_, tcs_mem_one _, fun _ => ⟨_, rfl, rfl⟩, by omega, by show (t0.length + 1) * 72 ≤ _; omega, Nat.le_trans x13.size hx14.size⟩, ?_⟩
        · intro e v he
          exact hB15.cell (i := 0 + e) (v := v) (by rw [Nat.zero_add]; exact he)
        intro v15 w15 ho15 hg15 hn15
        have hqf : FitQ (k + 1) (xl y.1 q) := hqx.fit
        rw [tcs_one] at ho15
        refine (hF14'.pushTerm hu ht0' hz (tm := ⟨(i : Int), rn⟩) (q := ((i : Int), xl y.1 q)) ho15 hg15 hn15 rfl hF14.2.1 hqf).elim fun s' hs' => ?_
        have k15 : KeptNew w13 w14 w15 := FI.new hF13.gd hus hg15
        have k15' : KeptNew w11 w14 w15 := FI.new hF11.gd hus hg15
        have hB12n : Blk w15 b12 tT t.cs := by
          show w15.heap[b12]? = _
          rw [k15'.blk b12 (hb12.ge (Ext.rfl w11)) (hB12.ext hx14).lt]; exact hB12.ext hx14
        have hBf15 := hF14'.blk hus hg15 (hBf13.ext hx14) (.inr (.inl (.inr (.inr rfl))))
        refine ⟨⟨k15, ⟨?_, hF14.1.2⟩, hF14.2.1.grow hg15 huown, hB12n.one (off := 0) rfl rfl, hBf15.one (off := 1) rfl rfl, trivial⟩, ?_⟩
        · show w15.heap[b15]? = _
          rw [k15.blk b15 hF14.1.2 hB15.lt]; exact hF14.1.1
        refine ⟨P, ⟨hP', by omega, hgc.2.base (by omega)⟩, ?_⟩
        intro w16 hx16 _
        have hF16 := hs'.2.ext hx16
        have st := hF16.setCv (p := P) (by show P < s.cv.length; omega) s'
        refine ⟨by rw [hs'.1]; exact st.1, fun w17 hs17 => ?_⟩
        have h17 := st.2 w17 (by rw [← hs'.1]; exact hs17)
        have hg17 := h17.1
        intro w18 hx18 _
        have hF18 := h17.2.ext hx18
        have kh : KH w.heap.size (fun c => h3 b1 b2 fb c ∨ c = b10) w13.heap.size w13 w18 :=
          (KH.ofExt hx14).trans <| (KH.row hF14' hus hg15).trans <| (KH.ofExt hx16).trans <| (KH.row hF16 (i := 4) (t := s.cols) rfl hg17).trans (KH.ofExt hx18)
        have keep : ∀ {c t' : Nat} {cs : List Value}, Blk w13 c t' cs → (h3 b1 b2 fb c ∨ c = b10) → Blk w18 c t' cs := fun hb hc => hb.kh kh (.inr hc) (Nat.ne_of_lt hb.lt)
        refine ⟨((q + 1 : Nat) : Int), sucI q (by omega), (q + 1, { s with cs := s.cs.set P s', ts := s.ts.set P (t0 ++ [⟨(i : Int), rn⟩]), cv := s.cv.set P s' }), ⟨rfl, rfl, rfl, rfl, rfl, rfl, rfl, rfl, rfl, rfl, rfl, rfl, trivial⟩, ⟨KH.ext x13 (Nat.le_refl _) x13.size kh, ?_, keep hBf13 (.inl (.inr (.inr rfl))), keep (hB111.ext hx13) (.inl (.inl rfl)), keep (hB211.ext hx13) (.inl (.inr (.inl rfl))), keep (hB10.ext hx13) (.inr rfl), hqn, ?_⟩, Nat.sub_lt_sub_left hqn (Nat.lt_succ_self q)⟩
        · have e : rowT (formX rws vs.length i) (i : Int) y.1 (q + 1) = (rowT (formX rws vs.length i) (i : Int) y.1 q).set P (z ++ [((i : Int), xl y.1 q)]) := by
            have e1 : (pl y.1 q).toNat = P := by omega
            simp only [rowT, putT]
            rw [e1, List.getD_eq_getElem?_getD, hz]; rfl
          show FI (k + 1) _ w.heap.size w18 _ (formL vs rws i) (formU vs rws i) (formC vs rws cost i) (formB rws i) (rowT (formX rws vs.length i) (i : Int) y.1 (q + 1))
          rw [e]; exact hF18
        · show s.cv.set P s' = s.cs.set P s'
          rw [hcv]
      · have hqe : q = y.1.length := by have := Nat.le_antisymm hq (geTo h4); omega
        have hX11 : rowT (formX rws vs.length i) (i : Int) y.1 q = rowT (formX rws vs.length i) (i : Int) y.1 y.1.length := by rw [hqe]
        have hgl := hF11.gd.len
        have hcl2 : s.cs.length = s.ts.length := by
          simp only [FS.ss, FS.rs, List.length_cons, List.length_map] at hgl; omega
        have htx := hF11.xl
        have hrl := rowT_length (formX rws vs.length i) (i : Int) y.1 q
        have hcvl : s.cv.length = s.cs.length := by rw [hcv]
        refine ⟨sq 10, by kernel_rfl, s.cols.v, hBf11.one (off := 1) rfl rfl, ?_⟩
        refine dcallR (mk := RatR.v) (Q := fun r' w' => CanQ (gH (fun c => h3 b1 b2 fb c ∨ c = b10) s.ss) w' r' (Rat.divInt 1 1)) RatR.inj (fun _ => CanQ.stable) (fun w' hw hF => ROf_ok (HB.ext hF11.hbs hw) (by omega) (by omega) (by omega) (by omega)) ?_
        intro r1
        intro b12 _ b13 _
        intro w12 hx12 hF12
        have hB12 : Blk w12 b12 tT (tcs [⟨(i : Int), r1⟩]) := hF12.2.1.1
        have hB13 : Blk w12 b13 tV [SlR.v ⟨some ⟨b12, 0, none⟩, 1, 1⟩] := hF12.1.1
        have g12 : w11.heap.size ≤ b12 := hF12.2.1.2
        have s11 := x11.size
        have ho12 : w12.ownsRow w.heap.size tT 5 (SlR.v ⟨some ⟨b12, 0, none⟩, 1, 1⟩) 1 (tcs [⟨(i : Int), r1⟩]) := ⟨rfl, .inr ⟨b12, 1, _, rfl, by omega, hB12, Nat.le_refl _, by decide, rfl, rfl⟩⟩
        have hqr : CanQ (gH (fun c => h3 b1 b2 fb c ∨ c = b10) (s.ss ++ [⟨some ⟨b12, 0, none⟩, 1, 1⟩])) w12 r1 1 := by
          refine (hF12.2.2.1.withT hB12).to fun b hb => .inl ?_
          rcases hb with hb | ⟨t', ht', hb⟩
          · exact .inl (.inl hb)
          · rw [List.mem_append, List.mem_singleton] at ht'
            rcases ht' with ht' | ht'
            · exact .inl (.inr ⟨t', ht', hb⟩)
            · subst ht'
              exact .inr (Option.some.inj hb).symm
        have hN := hF11.newCol (u := ⟨some ⟨b12, 0, none⟩, 1, 1⟩) (tm := ⟨(i : Int), r1⟩) (q := ((i : Int), 1)) ho12 hx12 (fun c hc => by have e := Option.some.inj hc; have e2 : b12 = c := e; omega) rfl hqr ⟨Fit.one.mono (by omega), Fit.one.mono (by omega)⟩
        refine ⟨rfl, w.heap.size, s.cv.length, svs s.cv, [SlR.v ⟨some ⟨b12, 0, none⟩, 1, 1⟩], ⟨hN.gd.own 4 _ _ rfl rfl, rfl, ?_, ?_, fun _ => ⟨_, rfl, rfl⟩, by omega, by show (s.cv.length + 1) * 24 ≤ _; omega, Nat.le_trans x11.size hx12.size⟩, ?_⟩
        · intro e v he
          exact hB13.cell (i := 0 + e) (v := v) (by rw [Nat.zero_add]; exact he)
        · exact svs_one [⟨some ⟨b12, 0, none⟩, 1, 1⟩]
        intro v14 w14 ho14 hg14 hn14
        refine (hN.pushCv ho14 hg14 hn14).elim fun cols' hc' => ?_
        intro w15 hx15 _
        have hF15 := hc'.2.ext hx15
        have hBf15 := (hN.blk (i := 4) (u := s.cols) rfl hg14 (hBf11.ext hx12) (.inr (.inl (.inr (.inr rfl))))).ext hx15
        have st := storeFC (v := cols') hBf15
        refine ⟨by rw [hc'.1]; exact st.1, fun w16 hs16 => ?_⟩
        have h16 := st.2 w16 (by rw [← hc'.1]; exact hs16)
        have hF16 := hF15.at' h16.2 (.inl (.inr (.inr rfl)))
        intro w17 hx17 _
        have hF17 := hF16.ext hx17
        have hBf17 := h16.1.ext hx17
        have kh : KH w.heap.size (fun c => h3 b1 b2 fb c ∨ c = b10) fb w11 w17 :=
          (KH.ofExt hx12).trans <| (KH.row hN (i := 4) (t := s.cols) rfl hg14).trans <| (KH.ofExt hx15).trans <| (KH.at5 h16.2).trans (KH.ofExt hx17)
        have x17 := KH.ext x11 (Nat.le_refl _) (by omega) kh
        have hB117 := hB111.kh kh (.inr (.inl (.inl rfl))) ne1f
        have hB217 := hB211.kh kh (.inr (.inl (.inr (.inl rfl)))) ne2f
        have hB1017 := hB10.kh kh (.inr (.inr rfl)) ne10
        refine ⟨p.v, hB117.agg (sub := p.cs) rfl rfl, _, hB1017.one (off := 0) rfl rfl, ?_⟩
        have toH2 : ∀ b, gH (fun c => h3 b1 b2 fb c ∨ c = b10) (FS.ss { s with cs := s.cs ++ [⟨some ⟨b12, 0, none⟩, 1, 1⟩], ts := s.ts ++ [[⟨(i : Int), r1⟩]], cols := cols', cv := s.cv ++ [⟨some ⟨b12, 0, none⟩, 1, 1⟩] }) b → H0 b ∨ w.heap.size ≤ b := fun b hb => hb.elim (fun h => .inr (h.elim (fun h => h.elim (fun h => by omega) fun h => h.elim (fun h => by omega) fun h => by omega) fun h => by omega)) fun h => h.elim fun t' ht' => (List.getElem_of_mem ht'.1).elim fun j hj => hj.elim fun hj1 hj2 => .inr (hF17.gd.lt (i := j) (s := t') (by rw [← hj2]; exact List.getElem?_eq_getElem hj1) ht'.2).1
        refine CallS.mono (Span_ok (l := l) hF17.hbs ((hP.vs.to toH2).ext x17) ((hrow.1.inv.to toH2).ext x17) hyl ⟨hk1, hl1, hK, by omega⟩) ?_
        intro v18 w18 hsp
        refine hsp.2.elim fun sl hsp2 => hsp2.elim fun sh hsp3 => ?_
        have hx18 := hsp.1
        have hv18 := hsp3.1
        have hsl := hsp3.2.1
        have hsh := hsp3.2.2
        subst hv18
        intro c13 w19 hc13 c14 w20 hc14
        have hC13 : Blk w20 c13 tRat (rcs RatR.zero) := hc13.toBlk.ext hc14.ext
        have nec : c13 ≠ c14 := by have := hc13.lt; have := hc14.isNew; omega
        have s1 := storeQ (r := sl) hC13 (hc14.extFrom hc13.ext) (hc13.ge (Ext.rfl w18)) rfl
        refine ⟨s1.1, fun w21 hs21 => ?_⟩
        have h21 := s1.2 w21 hs21
        have s2 := storeQ (r := sh) (Blk.grownN hc14.toBlk h21.2.1 (Ne.symm nec)) h21.2.2 (hc14.ge hc13.ext) rfl
        refine ⟨s2.1, fun w22 hs22 => ?_⟩
        have h22 := s2.2 w22 hs22
        have hC13' := Blk.grownN h21.1 h22.2.1 nec
        have hx22 : Ext w17 w22 := Ext.trans' hx18 h22.2.2
        intro c15 w23 hc15
        have hx23 : Ext w17 w23 := Ext.trans' hx22 hc15.ext
        refine ⟨_, (hB1017.ext hx23).one (off := 1) rfl rfl, ?_⟩
        have hC13b := hC13'.ext hc15.ext
        have hC14b := h22.1.ext hc15.ext
        have hC15 : Blk w23 c15 tRat (rcs RatR.zero) := hc15.toBlk
        have hB1023 := hB1017.ext hx23
        have hF23 := hF17.ext hx23
        have x23 := Ext.trans' x17 hx23
        refine And.intro (fun h5 => ?_) (fun h5 => ?_)
        · refine ⟨sqK 10 [9], by kernel_rfl, RatR.zero.v, loadQ hC15, RatR.zero.v, loadQ hC15, r.b.v, hB1023.agg (sub := rcs r.b) rfl rfl, sl.v, loadQ hC13b, ?_⟩
          have hbI := (hrow.2.2.to toH2).ext x23
          have hslI := hsl.1.ext (Ext.trans' h22.2.2 hc15.ext)
          have hyl' : pK k l ≤ 137438953472 := by omega
          refine dcallR (mk := RatR.v) (Q := fun r' w' => CanQ (gH (fun c => h3 b1 b2 fb c ∨ c = b10) (FS.ss { s with cs := s.cs ++ [⟨some ⟨b12, 0, none⟩, 1, 1⟩], ts := s.ts ++ [[⟨(i : Int), r1⟩]], cols := cols', cv := s.cv ++ [⟨some ⟨b12, 0, none⟩, 1, 1⟩] })) w' r' (y.2.2 - (spanQ vs y.1 y.1.length).1)) RatR.inj (fun _ => CanQ.stable) (fun w' hw hF => RSub_ok (HB.ext hF23.hbs hw) ((hbI.ext hw).mono (by omega)) ((hslI.ext hw).inq (hsl.2.mono hyl') (by omega))) ?_
          intro rs1
          have hfs : FitQ (k + 1 + pK k l + 1) (y.2.2 - (spanQ vs y.1 y.1.length).1) := FitQ.sub hbI.fit hsl.2
          refine dcallR (mk := RatR.v) (Q := fun r' w' => CanQ (gH (fun c => h3 b1 b2 fb c ∨ c = b10) (FS.ss { s with cs := s.cs ++ [⟨some ⟨b12, 0, none⟩, 1, 1⟩], ts := s.ts ++ [[⟨(i : Int), r1⟩]], cols := cols', cv := s.cv ++ [⟨some ⟨b12, 0, none⟩, 1, 1⟩] })) w' r' (maxQ 0 (y.2.2 - (spanQ vs y.1 y.1.length).1))) RatR.inj (fun _ => CanQ.stable) (fun w' hw hF => RMax_ok (HB.ext hF23.hbs hw) (InQ.zero _ _ _) (hF.1.inq (hfs.mono (by omega)) (by omega))) ?_
          intro rs2
          refine ⟨RatR.zero.v, loadQ hC15, ?_⟩
          intro w24 hx24 hF24
          have hlL : s.los.length < 1048576 := by
            have h := hF11.vl.len
            simp only [formL, List.length_append, List.length_map, List.length_take] at h; omega
          have hlU : s.his.length < 1048576 := by
            have h := hF11.vu.len
            simp only [formU, List.length_append, List.length_map, List.length_take] at h; omega
          have hlC : s.costs.length < 1048576 := by
            have h := hF11.vc.len
            simp only [formC, List.length_append, List.length_map, List.length_take, List.length_range] at h; omega
          refine CallS.mono (Side_ok (K := 137438953472) (ql := 0) (qc := 0) (hF23.ext hx24) (hBf17.ext (Ext.trans' hx23 hx24)) (.inl (.inr (.inr rfl))) (Ext.trans' x23 hx24).size (InQ.zero _ _ _) (hF24.1.inq ((fit_max (FitQ.zero (by omega)) hfs).mono (show k + 1 + pK k l + 1 ≤ 137438953472 by omega)) (by omega)) (CanQ.zero _ _) ⟨hlL, hlU, hlC⟩) ?_
          intro vv w25 hpost
          intro w26 hx26 _
          refine hpost.2.2.elim fun s' hpost' => ?_
          have hKH := hpost.2.1
          have hBf25 := hpost'.1
          have hF25 := hpost'.2.1
          have hcs := hpost'.2.2.2
          have hF26 := hF25.ext hx26
          have hBf26 := hBf25.ext hx26
          have kh26 : KH w.heap.size (fun c => h3 b1 b2 fb c ∨ c = b10) fb w17 w26 := (KH.ofExt (Ext.trans' hx23 hx24)).trans (hKH.trans (KH.ofExt hx26))
          have x26 := KH.ext x17 (Nat.le_refl _) (by omega) kh26
          have hB126 := hB117.kh kh26 (.inr (.inl (.inl rfl))) ne1f
          have hB226 := hB217.kh kh26 (.inr (.inl (.inr (.inl rfl)))) ne2f
          have hB1026 := hB1017.kh kh26 (.inr (.inr rfl)) ne10
          have toB := hF26.toBase (fun c h => h.elim (fun h => h.elim (fun h => by omega) fun h => h.elim (fun h => by omega) fun h => by omega) fun h => by omega)
          have hbI26 := (hrow.2.2.to toB).ext x26
          refine ⟨sq 9, by kernel_rfl, s'.b.v, hBf26.one (off := 5) rfl rfl, r.b.v, hB1026.agg (sub := rcs r.b) rfl rfl, ?_⟩
          refine dcallR (mk := RatR.v) (Q := fun r' w' => CanQ (gH (fun c => h3 b1 b2 fb c ∨ c = b10) s'.ss) w' r' y.2.2) RatR.inj (fun _ => CanQ.stable) (fun w' hw hF => Norm_ok (HB.ext hF26.hbs hw) (hbI26.ext hw).is) ?_
          intro rb
          intro b29 _
          intro w27 hx27 hF27
          have hF27' := hF26.ext hx27
          have hB29 : Blk w27 b29 tRat (rcs rb) := hF27.1.1
          have hbl := hF26.vb.len
          have hbl2 : (formB rws i).length ≤ 600 := by rw [formB, List.length_map, List.length_take]; omega
          refine ⟨rfl, w.heap.size, s'.bs.length, gcs s'.bs, rcs rb, ⟨hF27'.gd.own 3 _ _ rfl rfl, rfl, ?_, Enc.one rb, fun _ => ⟨_, rfl, rfl⟩, by omega, by show (s'.bs.length + 1) * 64 ≤ _; omega, Nat.le_trans x26.size hx27.size⟩, ?_⟩
          · intro e v he
            exact hB29.cell (i := 0 + e) (v := v) (by rw [Nat.zero_add]; exact he)
          intro v28 w28 ho28 hg28 hn28
          refine (hF27'.pushB ho28 hg28 hn28 hF27.2.1).elim fun b' hb' => ?_
          intro w29 hx29 _
          have hF29 := hb'.2.ext hx29
          have hBf29 := (hF27'.blk (i := 3) (u := s'.b) rfl hg28 (hBf26.ext hx27) (.inr (.inl (.inr (.inr rfl))))).ext hx29
          have st := storeF (i := 4) (v := b') hBf29 (by decide)
          refine ⟨by rw [hb'.1]; exact st.1, fun w30 hs30 => ?_⟩
          have h30 := st.2 w30 (by rw [← hb'.1]; exact hs30)
          have hF30 := hF29.at' h30.2 (.inl (.inr (.inr rfl)))
          intro w31 hx31 _
          have hF31 := hF30.ext hx31
          have hBf31 := h30.1.ext hx31
          have kh31 : KH w.heap.size (fun c => h3 b1 b2 fb c ∨ c = b10) fb w17 w31 :=
            kh26.trans <| (KH.ofExt hx27).trans <| (KH.row hF27' (i := 3) (t := s'.b) rfl hg28).trans <| (KH.ofExt hx29).trans <| (KH.at5 h30.2).trans (KH.ofExt hx31)
          refine ⟨((i + 1 : Nat) : Int), sucI i (by omega), (i + 1, { s' with b := b', bs := s'.bs ++ [rb] }), ⟨rfl, rfl, rfl, rfl, rfl, rfl, rfl, trivial⟩, ⟨KH.ext x17 (Nat.le_refl _) (by omega) kh31, FI.rowEnd hF31 hgy hqe ?_ ?_, hBf31, hB117.kh kh31 (.inr (.inl (.inl rfl))) ne1f, hB217.kh kh31 (.inr (.inl (.inr (.inl rfl)))) ne2f, hin2, ?_⟩, Nat.sub_lt_sub_left hin2 (Nat.lt_succ_self i)⟩
          rotate_right
          · show s'.cv = s'.cs
            rw [hcs.2.1, hcs.2.2.1]
            show s.cv ++ _ = s.cs ++ _
            rw [hcv]
          · have hk1' : y.2.1 = 1 := hrow.2.1.symm.trans h5
            simp only [sideL]; rw [if_pos hk1']
          · have hk1' : y.2.1 = 1 := hrow.2.1.symm.trans h5
            simp only [sideU]; rw [if_pos hk1']
        · refine And.intro (fun h6 => ?_) (fun h6 => ?_)
          · refine ⟨sqK 10 [9], by kernel_rfl, RatR.zero.v, loadQ hC15, r.b.v, hB1023.agg (sub := rcs r.b) rfl rfl, sh.v, loadQ hC14b, ?_⟩
            have hbI := (hrow.2.2.to toH2).ext x23
            have hshI := hsh.1.ext (Ext.trans' h22.2.2 hc15.ext)
            have hyl' : pK k l ≤ 137438953472 := by omega
            refine dcallR (mk := RatR.v) (Q := fun r' w' => CanQ (gH (fun c => h3 b1 b2 fb c ∨ c = b10) (FS.ss { s with cs := s.cs ++ [⟨some ⟨b12, 0, none⟩, 1, 1⟩], ts := s.ts ++ [[⟨(i : Int), r1⟩]], cols := cols', cv := s.cv ++ [⟨some ⟨b12, 0, none⟩, 1, 1⟩] })) w' r' (y.2.2 - (spanQ vs y.1 y.1.length).2)) RatR.inj (fun _ => CanQ.stable) (fun w' hw hF => RSub_ok (HB.ext hF23.hbs hw) ((hbI.ext hw).mono (by omega)) ((hshI.ext hw).inq (hsh.2.mono hyl') (by omega))) ?_
            intro rs1
            have hfs : FitQ (k + 1 + pK k l + 1) (y.2.2 - (spanQ vs y.1 y.1.length).2) := FitQ.sub hbI.fit hsh.2
            refine dcallR (mk := RatR.v) (Q := fun r' w' => CanQ (gH (fun c => h3 b1 b2 fb c ∨ c = b10) (FS.ss { s with cs := s.cs ++ [⟨some ⟨b12, 0, none⟩, 1, 1⟩], ts := s.ts ++ [[⟨(i : Int), r1⟩]], cols := cols', cv := s.cv ++ [⟨some ⟨b12, 0, none⟩, 1, 1⟩] })) w' r' (minQ 0 (y.2.2 - (spanQ vs y.1 y.1.length).2))) RatR.inj (fun _ => CanQ.stable) (fun w' hw hF => RMin_ok (HB.ext hF23.hbs hw) (InQ.zero _ _ _) (hF.1.inq (hfs.mono (by omega)) (by omega))) ?_
            intro rs2
            refine ⟨RatR.zero.v, loadQ hC15, RatR.zero.v, loadQ hC15, ?_⟩
            intro w24 hx24 hF24
            have hlL : s.los.length < 1048576 := by
              have h := hF11.vl.len
              simp only [formL, List.length_append, List.length_map, List.length_take] at h; omega
            have hlU : s.his.length < 1048576 := by
              have h := hF11.vu.len
              simp only [formU, List.length_append, List.length_map, List.length_take] at h; omega
            have hlC : s.costs.length < 1048576 := by
              have h := hF11.vc.len
              simp only [formC, List.length_append, List.length_map, List.length_take, List.length_range] at h; omega
            refine CallS.mono (Side_ok (K := 137438953472) (qh := 0) (qc := 0) (hF23.ext hx24) (hBf17.ext (Ext.trans' hx23 hx24)) (.inl (.inr (.inr rfl))) (Ext.trans' x23 hx24).size (hF24.1.inq ((fit_min (FitQ.zero (by omega)) hfs).mono (show k + 1 + pK k l + 1 ≤ 137438953472 by omega)) (by omega)) (InQ.zero _ _ _) (CanQ.zero _ _) ⟨hlL, hlU, hlC⟩) ?_
            intro vv w25 hpost
            intro w26 hx26 _
            refine hpost.2.2.elim fun s' hpost' => ?_
            have hKH := hpost.2.1
            have hBf25 := hpost'.1
            have hF25 := hpost'.2.1
            have hcs := hpost'.2.2.2
            have hF26 := hF25.ext hx26
            have hBf26 := hBf25.ext hx26
            have kh26 : KH w.heap.size (fun c => h3 b1 b2 fb c ∨ c = b10) fb w17 w26 := (KH.ofExt (Ext.trans' hx23 hx24)).trans (hKH.trans (KH.ofExt hx26))
            have x26 := KH.ext x17 (Nat.le_refl _) (by omega) kh26
            have hB126 := hB117.kh kh26 (.inr (.inl (.inl rfl))) ne1f
            have hB226 := hB217.kh kh26 (.inr (.inl (.inr (.inl rfl)))) ne2f
            have hB1026 := hB1017.kh kh26 (.inr (.inr rfl)) ne10
            have toB := hF26.toBase (fun c h => h.elim (fun h => h.elim (fun h => by omega) fun h => h.elim (fun h => by omega) fun h => by omega) fun h => by omega)
            have hbI26 := (hrow.2.2.to toB).ext x26
            refine ⟨sq 9, by kernel_rfl, s'.b.v, hBf26.one (off := 5) rfl rfl, r.b.v, hB1026.agg (sub := rcs r.b) rfl rfl, ?_⟩
            refine dcallR (mk := RatR.v) (Q := fun r' w' => CanQ (gH (fun c => h3 b1 b2 fb c ∨ c = b10) s'.ss) w' r' y.2.2) RatR.inj (fun _ => CanQ.stable) (fun w' hw hF => Norm_ok (HB.ext hF26.hbs hw) (hbI26.ext hw).is) ?_
            intro rb
            intro b29 _
            intro w27 hx27 hF27
            have hF27' := hF26.ext hx27
            have hB29 : Blk w27 b29 tRat (rcs rb) := hF27.1.1
            have hbl := hF26.vb.len
            have hbl2 : (formB rws i).length ≤ 600 := by rw [formB, List.length_map, List.length_take]; omega
            refine ⟨rfl, w.heap.size, s'.bs.length, gcs s'.bs, rcs rb, ⟨hF27'.gd.own 3 _ _ rfl rfl, rfl, ?_, Enc.one rb, fun _ => ⟨_, rfl, rfl⟩, by omega, by show (s'.bs.length + 1) * 64 ≤ _; omega, Nat.le_trans x26.size hx27.size⟩, ?_⟩
            · intro e v he
              exact hB29.cell (i := 0 + e) (v := v) (by rw [Nat.zero_add]; exact he)
            intro v28 w28 ho28 hg28 hn28
            refine (hF27'.pushB ho28 hg28 hn28 hF27.2.1).elim fun b' hb' => ?_
            intro w29 hx29 _
            have hF29 := hb'.2.ext hx29
            have hBf29 := (hF27'.blk (i := 3) (u := s'.b) rfl hg28 (hBf26.ext hx27) (.inr (.inl (.inr (.inr rfl))))).ext hx29
            have st := storeF (i := 4) (v := b') hBf29 (by decide)
            refine ⟨by rw [hb'.1]; exact st.1, fun w30 hs30 => ?_⟩
            have h30 := st.2 w30 (by rw [← hb'.1]; exact hs30)
            have hF30 := hF29.at' h30.2 (.inl (.inr (.inr rfl)))
            intro w31 hx31 _
            have hF31 := hF30.ext hx31
            have hBf31 := h30.1.ext hx31
            have kh31 : KH w.heap.size (fun c => h3 b1 b2 fb c ∨ c = b10) fb w17 w31 :=
              kh26.trans <| (KH.ofExt hx27).trans <| (KH.row hF27' (i := 3) (t := s'.b) rfl hg28).trans <| (KH.ofExt hx29).trans <| (KH.at5 h30.2).trans (KH.ofExt hx31)
            refine ⟨((i + 1 : Nat) : Int), sucI i (by omega), (i + 1, { s' with b := b', bs := s'.bs ++ [rb] }), ⟨rfl, rfl, rfl, rfl, rfl, rfl, rfl, trivial⟩, ⟨KH.ext x17 (Nat.le_refl _) (by omega) kh31, FI.rowEnd hF31 hgy hqe ?_ ?_, hBf31, hB117.kh kh31 (.inr (.inl (.inl rfl))) ne1f, hB217.kh kh31 (.inr (.inl (.inr (.inl rfl)))) ne2f, hin2, ?_⟩, Nat.sub_lt_sub_left hin2 (Nat.lt_succ_self i)⟩
            rotate_right
            · show s'.cv = s'.cs
              rw [hcs.2.1, hcs.2.2.1]
              show s.cv ++ _ = s.cs ++ _
              rw [hcv]
            · have hk1' : y.2.1 = 3 := hrow.2.1.symm.trans h6
              simp only [sideL]; rw [if_neg (by omega), if_pos hk1']
            · have hk1' : y.2.1 = 3 := hrow.2.1.symm.trans h6
              simp only [sideU]; rw [if_neg (by omega)]
          · refine ⟨RatR.zero.v, loadQ hC15, RatR.zero.v, loadQ hC15, RatR.zero.v, loadQ hC15, ?_⟩
            have hx24 := Ext.rfl w23
            have hlL : s.los.length < 1048576 := by
              have h := hF11.vl.len
              simp only [formL, List.length_append, List.length_map, List.length_take] at h; omega
            have hlU : s.his.length < 1048576 := by
              have h := hF11.vu.len
              simp only [formU, List.length_append, List.length_map, List.length_take] at h; omega
            have hlC : s.costs.length < 1048576 := by
              have h := hF11.vc.len
              simp only [formC, List.length_append, List.length_map, List.length_take, List.length_range] at h; omega
            refine CallS.mono (Side_ok (K := 137438953472) (ql := 0) (qh := 0) (qc := 0) hF23 (hBf17.ext hx23) (.inl (.inr (.inr rfl))) x23.size (InQ.zero _ _ _) (InQ.zero _ _ _) (CanQ.zero _ _) ⟨hlL, hlU, hlC⟩) ?_
            intro vv w26 hpost
            have hx26 := Ext.rfl w26
            refine hpost.2.2.elim fun s' hpost' => ?_
            have hKH := hpost.2.1
            have hBf25 := hpost'.1
            have hF25 := hpost'.2.1
            have hcs := hpost'.2.2.2
            have hF26 := hF25.ext hx26
            have hBf26 := hBf25.ext hx26
            have kh26 : KH w.heap.size (fun c => h3 b1 b2 fb c ∨ c = b10) fb w17 w26 := (KH.ofExt (Ext.trans' hx23 hx24)).trans (hKH.trans (KH.ofExt hx26))
            have x26 := KH.ext x17 (Nat.le_refl _) (by omega) kh26
            have hB126 := hB117.kh kh26 (.inr (.inl (.inl rfl))) ne1f
            have hB226 := hB217.kh kh26 (.inr (.inl (.inr (.inl rfl)))) ne2f
            have hB1026 := hB1017.kh kh26 (.inr (.inr rfl)) ne10
            have toB := hF26.toBase (fun c h => h.elim (fun h => h.elim (fun h => by omega) fun h => h.elim (fun h => by omega) fun h => by omega) fun h => by omega)
            have hbI26 := (hrow.2.2.to toB).ext x26
            refine ⟨sq 9, by kernel_rfl, s'.b.v, hBf26.one (off := 5) rfl rfl, r.b.v, hB1026.agg (sub := rcs r.b) rfl rfl, ?_⟩
            refine dcallR (mk := RatR.v) (Q := fun r' w' => CanQ (gH (fun c => h3 b1 b2 fb c ∨ c = b10) s'.ss) w' r' y.2.2) RatR.inj (fun _ => CanQ.stable) (fun w' hw hF => Norm_ok (HB.ext hF26.hbs hw) (hbI26.ext hw).is) ?_
            intro rb
            intro b29 _
            intro w27 hx27 hF27
            have hF27' := hF26.ext hx27
            have hB29 : Blk w27 b29 tRat (rcs rb) := hF27.1.1
            have hbl := hF26.vb.len
            have hbl2 : (formB rws i).length ≤ 600 := by rw [formB, List.length_map, List.length_take]; omega
            refine ⟨rfl, w.heap.size, s'.bs.length, gcs s'.bs, rcs rb, ⟨hF27'.gd.own 3 _ _ rfl rfl, rfl, ?_, Enc.one rb, fun _ => ⟨_, rfl, rfl⟩, by omega, by show (s'.bs.length + 1) * 64 ≤ _; omega, Nat.le_trans x26.size hx27.size⟩, ?_⟩
            · intro e v he
              exact hB29.cell (i := 0 + e) (v := v) (by rw [Nat.zero_add]; exact he)
            intro v28 w28 ho28 hg28 hn28
            refine (hF27'.pushB ho28 hg28 hn28 hF27.2.1).elim fun b' hb' => ?_
            intro w29 hx29 _
            have hF29 := hb'.2.ext hx29
            have hBf29 := (hF27'.blk (i := 3) (u := s'.b) rfl hg28 (hBf26.ext hx27) (.inr (.inl (.inr (.inr rfl))))).ext hx29
            have st := storeF (i := 4) (v := b') hBf29 (by decide)
            refine ⟨by rw [hb'.1]; exact st.1, fun w30 hs30 => ?_⟩
            have h30 := st.2 w30 (by rw [← hb'.1]; exact hs30)
            have hF30 := hF29.at' h30.2 (.inl (.inr (.inr rfl)))
            intro w31 hx31 _
            have hF31 := hF30.ext hx31
            have hBf31 := h30.1.ext hx31
            have kh31 : KH w.heap.size (fun c => h3 b1 b2 fb c ∨ c = b10) fb w17 w31 :=
              kh26.trans <| (KH.ofExt hx27).trans <| (KH.row hF27' (i := 3) (t := s'.b) rfl hg28).trans <| (KH.ofExt hx29).trans <| (KH.at5 h30.2).trans (KH.ofExt hx31)
            refine ⟨((i + 1 : Nat) : Int), sucI i (by omega), (i + 1, { s' with b := b', bs := s'.bs ++ [rb] }), ⟨rfl, rfl, rfl, rfl, rfl, rfl, rfl, trivial⟩, ⟨KH.ext x17 (Nat.le_refl _) (by omega) kh31, FI.rowEnd hF31 hgy hqe ?_ ?_, hBf31, hB117.kh kh31 (.inr (.inl (.inl rfl))) ne1f, hB217.kh kh31 (.inr (.inl (.inr (.inl rfl)))) ne2f, hin2, ?_⟩, Nat.sub_lt_sub_left hin2 (Nat.lt_succ_self i)⟩
            rotate_right
            · show s'.cv = s'.cs
              rw [hcs.2.1, hcs.2.2.1]
              show s.cv ++ _ = s.cs ++ _
              rw [hcv]
            · have hk1' : y.2.1 ≠ 1 := fun e => h5 (hrow.2.1.trans e)
              have hk3' : y.2.1 ≠ 3 := fun e => h6 (hrow.2.1.trans e)
              simp only [sideL]; rw [if_neg hk1', if_neg hk3']
            · have hk1' : y.2.1 ≠ 1 := fun e => h5 (hrow.2.1.trans e)
              simp only [sideU]; rw [if_neg hk1']
    · have hi2 : i = rws.length := by have := Nat.le_antisymm hi (geTo h3'); omega
      refine ⟨_, hBf8.agg (sub := (s.form (p.rows.n : Int)).cs) rfl rfl, ?_⟩
      have st := storeE (T := tt) (ty := tFrm) (s.form (p.rows.n : Int)) hB28 rfl
      refine ⟨st.1, fun w9 hs9 => ?_⟩
      have hB9 := (st.2 w9 hs9).1
      have hg9 := (st.2 w9 hs9).2
      refine ⟨(s.form (p.rows.n : Int)).v, hB9.agg (sub := (s.form (p.rows.n : Int)).cs) rfl rfl, ?_⟩
      have hF9 := hF8.at' hg9 (.inr (.inl rfl))
      have hE : FI (k + 1) H0 w.heap.size w9 s (formL vs rws i) (formU vs rws i) (formC vs rws cost i) (formB rws i) (formX rws vs.length i) := hF9.to (H0.hb w9) (fun b hb => hb.elim) (Ext.rfl w9)
      rw [hi2] at hE
      have er : (p.rows.n : Int) = (rws.length : Int) := by omega
      exact ⟨Ext.grownB x8 hg9 g2, s.form (p.rows.n : Int), 0, rfl, .inr ⟨hgood, rfl, s, by rw [er], hcv, hE⟩⟩
end Go.Proofs.Ytlfdobjdlgebbaa
/-
  Contracts of the layer program: the first thing that a point breaks. Helpers; no statement of the program is proved here.
-/
set_option maxRecDepth 100000
set_option linter.unusedSimpArgs false
set_option linter.unusedVariables false
namespace Go.Proofs.Ytlfdobjdlgebbaa
open Go Go.Tw Go.RowKit
attribute [local irreducible] LoadAt StoreOk Stored rawVC

def badV (vs : VS) (qs : List Rat) (j : Nat) : Bool := decide (qs.getD j 0 < (vs.getD j default).1) || decide ((vs.getD j default).2.1 < qs.getD j 0)
def rowQ (rws : RWS) (qs : List Rat) (j : Nat) : Rat := timesQ (rws.getD j default).1 qs (rws.getD j default).1.length
def badR (rws : RWS) (qs : List Rat) (j : Nat) : Bool := (decide ((rws.getD j default).2.2 < rowQ rws qs j) && (decide ((rws.getD j default).2.1 = 1) || decide ((rws.getD j default).2.1 = 2))) || (decide (rowQ rws qs j < (rws.getD j default).2.2) && (decide ((rws.getD j default).2.1 = 3) || decide ((rws.getD j default).2.1 = 2)))
def badI (vs : VS) (qs : List Rat) (j : Nat) : Bool := (vs.getD j default).2.2 && !decide ((qs.getD j 0).den = 1)
def firstAt (p : Nat → Bool) (n : Nat) : Option Nat := (List.range n).find? p
theorem firstAt_some {p : Nat → Bool} {n i : Nat} (h : ∀ j, j < i → p j = false) (hp : p i = true) (hi : i < n) : firstAt p n = some i := by
  unfold firstAt
  rw [List.find?_range_eq_some]
  exact ⟨hp, List.mem_range.2 hi, fun j hj => by rw [h j hj]; rfl⟩
theorem firstAt_none {p : Nat → Bool} {n : Nat} (h : ∀ j, j < n → p j = false) : firstAt p n = none := by
  unfold firstAt
  rw [List.find?_range_eq_none]
  exact fun j hj => by rw [h j hj]; rfl
/-- The first thing that a point breaks. -/
def brokenQ (vs : VS) (rws : RWS) (qs : List Rat) : Int × Int :=
  if qs.length ≠ vs.length then (4, 0) else
  match firstAt (badV vs qs) vs.length with
  | some i => (1, (i : Int))
  | none => match firstAt (badR rws qs) rws.length with
    | some i => (2, (i : Int))
    | none => match firstAt (badI vs qs) vs.length with
      | some i => (3, (i : Int))
      | none => (0, 0)
section
variable {k l : Nat} {w : World} {p : PrgR} {vr : List VarR} {rr : List RowR} {vs : VS} {rws : RWS} {cost : VL}
theorem Broken_ok {rp : SlR} {rs : List RatR} {qs : List Rat} (hP : PrgI k l w p vr rr vs rws cost) (hp : PtI k H0 w rp rs qs) (hk : k ≤ 16777216 ∧ l ≤ 65536 ∧ pK k l ≤ 34359738368 ∧ rp.n ≤ 1099511627776)
    (hn : p.vars.n ≤ 1099511627776 ∧ p.rows.n ≤ 1099511627776) :
    CallS Try.prog 56 #[p.v, rp.v] w fun v w' => Ext w w' ∧ v = .tuple #[.int .i64 (brokenQ vs rws qs).1, .int .i64 (brokenQ vs rws qs).2] := by
  obtain ⟨hk1, hl1, hK, hn40⟩ := hk
  obtain ⟨hn1, hn2⟩ := hn
  have hvn := hP.vars.len
  have hvl := hP.vlen
  have hrn := hP.rows.len
  have hrl := hP.rlen
  have hpl := hp.row.len
  have hql := hp.len
  refine enter ttOk mixed (args := [p.v, rp.v]) Try.func56 rfl (by kernel_rfl) (by kernel_rfl) rfl ?_
  intro b2 w1 hb2
  have x1 := hb2.ext
  have hB1 : Blk w1 b2 tPrg p.cs := hb2.toBlk
  refine ⟨_, hB1.one (off := 0) rfl rfl, ?_⟩
  refine And.intro (fun h1 => ?_) (fun h1 => ?_)
  · have e : brokenQ vs rws qs = (4, 0) := by unfold brokenQ; rw [if_pos (by omega)]
    exact ⟨x1, by rw [e]; rfl⟩
  have hlen : qs.length = vs.length := by omega
  refine ⟨_, hB1.one (off := 0) rfl rfl, ?_⟩
  refine ⟨Nat, fun x => [(1, rp.v), (2, .pointer (some ⟨b2, 0, none⟩)), (20, p.vars.v), (21, .int .i64 (p.vars.n : Int)), (22, .int .i64 (x : Int))],
    fun x w' => Ext w1 w' ∧ x ≤ p.vars.n ∧ ∀ j, j < x → badV vs qs j = false, fun x _ => p.vars.n - x, ⟨0, ⟨rfl, rfl, rfl, rfl, rfl, trivial⟩, Ext.rfl w1, Nat.zero_le _, fun j h => absurd h (Nat.not_lt_zero _)⟩, ?_⟩
  rintro i w3 ⟨hx3, hi, hbv⟩
  have hx03 := Ext.trans' x1 hx3
  refine And.intro (fun h3 => ?_) (fun h3 => ?_)
  · have hin := ltTo h3
    have hg := gr_getD hP.vars hin
    have hgx : vs[i]? = some (vs.getD i default) := by rw [List.getD_eq_getElem?_getD, List.getElem?_eq_getElem (by omega)]; rfl
    have hgp := gr_getD hp.row (j := i) (by omega)
    have hgq : qs[i]? = some (qs.getD i 0) := by rw [List.getD_eq_getElem?_getD, List.getElem?_eq_getElem (by omega)]; rfl
    have hxq := hp.at' i _ _ hgp hgq
    obtain ⟨hlo, hhi, _⟩ := hP.var i _ _ hg hgx
    refine ⟨i, ⟨rfl, hin, hP.vars.base (by omega)⟩, _, (hP.vars.ext hx03).load hg rfl rfl, ?_⟩
    intro b5 w4 hb5
    have st := storeE (T := tt) (ty := tVar) (vr.getD i default) hb5.toBlk rfl
    refine ⟨st.1, fun w5 hs5 => ?_⟩
    obtain ⟨hB5, hg5⟩ := st.2 w5 hs5
    have hx35 : Ext w3 w5 := Ext.grownB hb5.ext hg5 (hb5.ge (Ext.rfl w3))
    have hx05 := Ext.trans' hx03 hx35
    have hpx := hp.row.ext hx05
    refine ⟨sq 18, by kernel_rfl, i, ⟨rfl, by omega, hpx.base (by omega)⟩, _, hpx.load hgp rfl rfl, (vr.getD i default).lo.v, hB5.agg (sub := rcs (vr.getD i default).lo) rfl rfl, ?_⟩
    refine dcallV (.int .i64 (cmpQ (qs.getD i 0) (vs.getD i default).1)) (fun w' hw hF => RCmp_ok (H0.hb w') ((hxq.ext (Ext.trans' hx05 hw)).mono (by omega)) ((hlo.ext (Ext.trans' hx05 hw)).mono (by omega))) ?_
    have bad : badV vs qs i = true → ∀ w', Ext w5 w' → (Ext w w' ∧ oneOrTuple ([] ++ [Value.int IntKind.i64 1] ++ [Value.int IntKind.i64 (i : Int)]) = .tuple #[.int .i64 (brokenQ vs rws qs).1, .int .i64 (brokenQ vs rws qs).2]) := by
      intro hb w' hx'
      have e : brokenQ vs rws qs = (1, (i : Int)) := by
        unfold brokenQ
        rw [if_neg (by omega), firstAt_some hbv hb (by omega)]
      exact ⟨Ext.trans' hx05 hx', by rw [e]; rfl⟩
    refine And.intro (fun h4 => ?_) (fun h4 => ?_)
    · intro w6 hx6 _
      exact bad (by have h5 := cmpQ_neg.1 h4; simp only [badV, h5, decide_true, Bool.true_or]) w6 hx6
    · refine ⟨i, ⟨rfl, by omega, hpx.base (by omega)⟩, _, hpx.load hgp rfl rfl, (vr.getD i default).hi.v, hB5.agg (sub := rcs (vr.getD i default).hi) rfl rfl, ?_⟩
      refine dcallV (.int .i64 (cmpQ (qs.getD i 0) (vs.getD i default).2.1)) (fun w' hw hF => RCmp_ok (H0.hb w') ((hxq.ext (Ext.trans' hx05 hw)).mono (by omega)) ((hhi.ext (Ext.trans' hx05 hw)).mono (by omega))) ?_
      refine And.intro (fun h5 => ?_) (fun h5 => ?_)
      · intro w6 hx6 _
        exact bad (by have h6 := cmpQ_pos.1 h5; simp only [badV, h6, decide_true, Bool.or_true]) w6 hx6
      · intro w6 hx6 _
        refine ⟨((i + 1 : Nat) : Int), sucI i (by omega), i + 1, ⟨rfl, rfl, rfl, rfl, rfl, trivial⟩, ⟨Ext.trans' (Ext.trans' hx3 hx35) hx6, hin, fun j hj => ?_⟩, Nat.sub_lt_sub_left hin (Nat.lt_succ_self i)⟩
        rcases Nat.lt_or_eq_of_le (Nat.le_of_lt_succ hj) with h | h
        · exact hbv j h
        · subst h
          have h6 : ¬ qs.getD j 0 < (vs.getD j default).1 := fun h => h4 (cmpQ_neg.2 h)
          have h7 : ¬ (vs.getD j default).2.1 < qs.getD j 0 := fun h => h5 (cmpQ_pos.2 h)
          simp only [badV, h6, h7, decide_false, Bool.or_self]
  · have hi' : i = p.vars.n := Nat.le_antisymm hi (geTo h3)
    have nV : firstAt (badV vs qs) vs.length = none := firstAt_none (fun j hj => hbv j (by omega))
    have hB3 := hB1.ext hx3
    refine ⟨_, hB3.one (off := 1) rfl rfl, ?_⟩
    refine ⟨Nat, fun x => [(1, rp.v), (2, .pointer (some ⟨b2, 0, none⟩)), (48, p.rows.v), (49, .int .i64 (p.rows.n : Int)), (50, .int .i64 (x : Int))],
      fun x w' => Ext w1 w' ∧ x ≤ p.rows.n ∧ ∀ j, j < x → badR rws qs j = false, fun x _ => p.rows.n - x, ⟨0, ⟨rfl, rfl, rfl, rfl, rfl, trivial⟩, hx3, Nat.zero_le _, fun j h => absurd h (Nat.not_lt_zero _)⟩, ?_⟩
    rintro q w4 ⟨hx4, hq, hbr⟩
    have hx04 := Ext.trans' x1 hx4
    refine And.intro (fun h4 => ?_) (fun h4 => ?_)
    · have hqn := ltTo h4
      have hg := gr_getD hP.rows hqn
      have hgx : rws[q]? = some (rws.getD q default) := by rw [List.getD_eq_getElem?_getD, List.getElem?_eq_getElem (by omega)]; rfl
      obtain ⟨hra, hrk, hrb⟩ := hP.row q _ _ hg hgx
      refine ⟨q, ⟨rfl, hqn, hP.rows.base (by omega)⟩, _, (hP.rows.ext hx04).load hg rfl rfl, ?_⟩
      intro b7 w5 hb7
      have st := storeE (T := tt) (ty := tRow) (rr.getD q default) hb7.toBlk rfl
      refine ⟨st.1, fun w6 hs6 => ?_⟩
      obtain ⟨hB6, hg6⟩ := st.2 w6 hs6
      have hx46 : Ext w4 w6 := Ext.grownB hb7.ext hg6 (hb7.ge (Ext.rfl w4))
      have hx06 := Ext.trans' hx04 hx46
      refine ⟨sq 8, by kernel_rfl, (rr.getD q default).a.v, hB6.one (off := 0) rfl rfl, ?_⟩
      refine dcallR (mk := RatR.v) (Q := fun r' w' => CanQ H0 w' r' (rowQ rws qs q) ∧ FitQ (pK k l) (rowQ rws qs q)) RatR.inj (fun _ => fun _ _ h e => ⟨h.1.ext e, h.2⟩) (fun w' hw hF => CallS.mono (ptimes_ok (H0.hb w') (hra.inv.ext (Ext.trans' hx06 hw)) (hp.ext (Ext.trans' hx06 hw)) hra.len ⟨hk1, hl1, hK, hn40⟩) (fun v' w'' h => ⟨h.1, h.2.elim fun r hr => ⟨r, hr.1, hr.2⟩⟩)) ?_
      intro rt
      refine ⟨(rr.getD q default).b.v, hB6.agg (sub := rcs (rr.getD q default).b) rfl rfl, ?_⟩
      refine dcallV (.int .i64 (cmpQ (rowQ rws qs q) (rws.getD q default).2.2)) (fun w' hw hF => RCmp_ok (H0.hb w') (hF.1.1.inq (hF.1.2.mono (by omega)) (by omega)) ((hrb.ext (Ext.trans' hx06 hw)).mono (by omega))) ?_
      intro w7 hx7 _
      have hB7 := hB6.ext hx7
      have x7 := Ext.trans' hx06 hx7
      have hgo : badR rws qs q = false → ∀ w', Ext w7 w' → (Ext w1 w' ∧ q + 1 ≤ p.rows.n ∧ ∀ j, j < q + 1 → badR rws qs j = false) := by
        intro hb w' hx'
        refine ⟨Ext.trans' (Ext.trans' (Ext.trans' hx4 hx46) hx7) hx', hqn, fun j hj => ?_⟩
        rcases Nat.lt_or_eq_of_le (Nat.le_of_lt_succ hj) with h | h
        · exact hbr j h
        · subst h; exact hb
      have bad : badR rws qs q = true → ∀ w', Ext w7 w' → (Ext w w' ∧ oneOrTuple ([] ++ [Value.int IntKind.i64 2] ++ [Value.int IntKind.i64 (q : Int)]) = .tuple #[.int .i64 (brokenQ vs rws qs).1, .int .i64 (brokenQ vs rws qs).2]) := by
        intro hb w' hx'
        have e : brokenQ vs rws qs = (2, (q : Int)) := by
          unfold brokenQ
          rw [if_neg (by omega), nV, firstAt_some hbr hb (by omega)]
        exact ⟨Ext.trans' x7 hx', by rw [e]; rfl⟩
      have dgt : decide ((rws.getD q default).2.2 < rowQ rws qs q) = decide (cmpQ (rowQ rws qs q) (rws.getD q default).2.2 > 0) := decide_eq_decide.2 cmpQ_pos.symm
      have dlt : decide (rowQ rws qs q < (rws.getD q default).2.2) = decide (cmpQ (rowQ rws qs q) (rws.getD q default).2.2 < 0) := decide_eq_decide.2 cmpQ_neg.symm
      have eb : badR rws qs q = ((decide (cmpQ (rowQ rws qs q) (rws.getD q default).2.2 > 0) && (decide ((rr.getD q default).kind = 1) || decide ((rr.getD q default).kind = 2))) || (decide (cmpQ (rowQ rws qs q) (rws.getD q default).2.2 < 0) && (decide ((rr.getD q default).kind = 3) || decide ((rr.getD q default).kind = 2)))) := by
        unfold badR; rw [dgt, dlt, hrk]
      refine And.intro (fun h5 => ?_) (fun h5 => ?_)
      · have d5 := decide_eq_true h5
        refine ⟨_, hB7.one (off := 1) rfl rfl, ?_⟩
        refine And.intro (fun h6 => ?_) (fun h6 => ?_)
        · exact bad (by rw [eb, d5, decide_eq_true h6]; rfl) w7 (Ext.rfl w7)
        · refine ⟨_, hB7.one (off := 1) rfl rfl, ?_⟩
          refine And.intro (fun h7 => ?_) (fun h7 => ?_)
          · exact bad (by rw [eb, d5, decide_eq_true h7, Bool.or_true]; rfl) w7 (Ext.rfl w7)
          · refine And.intro (fun h8 => absurd h5 (by omega)) (fun h8 => ?_)
            refine ⟨((q + 1 : Nat) : Int), sucI q (by omega), q + 1, ⟨rfl, rfl, rfl, rfl, rfl, trivial⟩, hgo (by rw [eb, decide_eq_false h6, decide_eq_false h7, decide_eq_false h8, Bool.or_self, Bool.and_false, Bool.false_and, Bool.or_self]) w7 (Ext.rfl w7), Nat.sub_lt_sub_left hqn (Nat.lt_succ_self q)⟩
      · have d5 := decide_eq_false h5
        refine And.intro (fun h8 => ?_) (fun h8 => ?_)
        · have d8 := decide_eq_true h8
          refine ⟨_, hB7.one (off := 1) rfl rfl, ?_⟩
          refine And.intro (fun h6 => ?_) (fun h6 => ?_)
          · exact bad (by rw [eb, d5, d8, decide_eq_true h6, Bool.false_and]; rfl) w7 (Ext.rfl w7)
          · refine ⟨_, hB7.one (off := 1) rfl rfl, ?_⟩
            refine And.intro (fun h7 => ?_) (fun h7 => ?_)
            · exact bad (by rw [eb, d5, d8, decide_eq_true h7, Bool.false_and, Bool.or_true]; rfl) w7 (Ext.rfl w7)
            · refine ⟨((q + 1 : Nat) : Int), sucI q (by omega), q + 1, ⟨rfl, rfl, rfl, rfl, rfl, trivial⟩, hgo (by rw [eb, d5, decide_eq_false h6, decide_eq_false h7, Bool.or_self, Bool.and_false, Bool.false_and, Bool.or_self]) w7 (Ext.rfl w7), Nat.sub_lt_sub_left hqn (Nat.lt_succ_self q)⟩
        · refine ⟨((q + 1 : Nat) : Int), sucI q (by omega), q + 1, ⟨rfl, rfl, rfl, rfl, rfl, trivial⟩, hgo (by rw [eb, d5, decide_eq_false h8, Bool.false_and, Bool.false_and, Bool.or_self]) w7 (Ext.rfl w7), Nat.sub_lt_sub_left hqn (Nat.lt_succ_self q)⟩
    · have hq' : q = p.rows.n := Nat.le_antisymm hq (geTo h4)
      have nR : firstAt (badR rws qs) rws.length = none := firstAt_none (fun j hj => hbr j (by omega))
      have hB4 := hB1.ext hx4
      refine ⟨_, hB4.one (off := 0) rfl rfl, ?_⟩
      refine ⟨Nat, fun x => [(1, rp.v), (2, .pointer (some ⟨b2, 0, none⟩)), (91, p.vars.v), (92, .int .i64 (p.vars.n : Int)), (93, .int .i64 (x : Int))],
        fun x w' => Ext w1 w' ∧ x ≤ p.vars.n ∧ ∀ j, j < x → badI vs qs j = false, fun x _ => p.vars.n - x, ⟨0, ⟨rfl, rfl, rfl, rfl, rfl, trivial⟩, hx4, Nat.zero_le _, fun j h => absurd h (Nat.not_lt_zero _)⟩, ?_⟩
      rintro t w5 ⟨hx5, ht, hbi⟩
      have hx05 := Ext.trans' x1 hx5
      refine And.intro (fun h5 => ?_) (fun h5 => ?_)
      · have htn := ltTo h5
        have hg := gr_getD hP.vars htn
        have hgx : vs[t]? = some (vs.getD t default) := by rw [List.getD_eq_getElem?_getD, List.getElem?_eq_getElem (by omega)]; rfl
        have hgp := gr_getD hp.row (j := t) (by omega)
        have hgq : qs[t]? = some (qs.getD t 0) := by rw [List.getD_eq_getElem?_getD, List.getElem?_eq_getElem (by omega)]; rfl
        have hxq := hp.at' t _ _ hgp hgq
        obtain ⟨_, _, hint⟩ := hP.var t _ _ hg hgx
        refine ⟨t, ⟨rfl, htn, hP.vars.base (by omega)⟩, _, (hP.vars.ext hx05).load hg rfl rfl, ?_⟩
        intro b7 w6 hb7
        have st := storeE (T := tt) (ty := tVar) (vr.getD t default) hb7.toBlk rfl
        refine ⟨st.1, fun w7 hs7 => ?_⟩
        obtain ⟨hB7, hg7⟩ := st.2 w7 hs7
        have hx57 : Ext w5 w7 := Ext.grownB hb7.ext hg7 (hb7.ge (Ext.rfl w5))
        have hx07 := Ext.trans' hx05 hx57
        have hpx := hp.row.ext hx07
        have hgo : badI vs qs t = false → ∀ w', Ext w7 w' → (Ext w1 w' ∧ t + 1 ≤ p.vars.n ∧ ∀ j, j < t + 1 → badI vs qs j = false) := by
          intro hb w' hx'
          refine ⟨Ext.trans' (Ext.trans' hx5 hx57) hx', htn, fun j hj => ?_⟩
          rcases Nat.lt_or_eq_of_le (Nat.le_of_lt_succ hj) with h | h
          · exact hbi j h
          · subst h; exact hb
        refine ⟨_, hB7.one (off := 8) rfl rfl, ?_⟩
        cases hib : (vr.getD t default).int with
        | false =>
          have eb : badI vs qs t = false := by unfold badI; rw [← hint, hib, Bool.false_and]
          exact ⟨((t + 1 : Nat) : Int), sucI t (by omega), t + 1, ⟨rfl, rfl, rfl, rfl, rfl, trivial⟩, hgo eb w7 (Ext.rfl w7), Nat.sub_lt_sub_left htn (Nat.lt_succ_self t)⟩
        | true =>
          refine ⟨t, ⟨rfl, by omega, hpx.base (by omega)⟩, _, hpx.load hgp rfl rfl, ?_⟩
          refine CallS.mono (RIsWhole_ok (H0.hb w7) (hxq.ext hx07).is) ?_
          rintro _ w8 ⟨hx8, rfl⟩
          cases hd : decide ((qs.getD t 0).den = 1) with
          | true =>
            have eb : badI vs qs t = false := by unfold badI; rw [hd, Bool.not_true, Bool.and_false]
            exact ⟨((t + 1 : Nat) : Int), sucI t (by omega), t + 1, ⟨rfl, rfl, rfl, rfl, rfl, trivial⟩, hgo eb w8 hx8, Nat.sub_lt_sub_left htn (Nat.lt_succ_self t)⟩
          | false =>
            have eb : badI vs qs t = true := by unfold badI; rw [← hint, hib, hd]; rfl
            have e : brokenQ vs rws qs = (3, (t : Int)) := by
              unfold brokenQ
              rw [if_neg (by omega), nV, nR, firstAt_some hbi eb (by omega)]
            exact ⟨Ext.trans' hx07 hx8, by rw [e]; rfl⟩
      · have e : brokenQ vs rws qs = (0, 0) := by
          have ht' : t = p.vars.n := Nat.le_antisymm ht (geTo h5)
          unfold brokenQ
          rw [if_neg (by omega), nV, nR, firstAt_none (fun j hj => hbi j (by omega))]
        exact ⟨hx05, by rw [e]; rfl⟩
end
end Go.Proofs.Ytlfdobjdlgebbaa
/-
  Contracts of the layer program: the example's program. Helpers; no statement of the program is proved here.
-/
set_option maxRecDepth 100000
set_option linter.unusedSimpArgs false
set_option linter.unusedVariables false
namespace Go.Proofs.Ytlfdobjdlgebbaa
open Go Go.Tw Go.RowKit
attribute [local irreducible] LoadAt StoreOk Stored rawVC

instance : Enc PrgR where
  cs := PrgR.cs
  k := 3
  len := fun _ => rfl
  pos := by decide
  one := fun x v hv => by
    simp only [PrgR.cs, List.mem_cons, List.not_mem_nil, or_false] at hv
    rcases hv with rfl | rfl | rfl <;> rfl
def PrgR.zero : PrgR := ⟨⟨none, 0, 0⟩, ⟨none, 0, 0⟩, ⟨none, 0, 0⟩⟩
theorem QC.past {k b t : Nat} {w w' : World} {x : RatR} {q : Rat} {P : PrgR} (h : QC k w x q) (hb : Blk w b t P.cs) (hg : w.grownBy w' (some b)) : QC k w' x q := by
  have hc : ∀ v ∈ P.cs, ∀ x, v ≠ .int .u64 x := by
    intro v hv x e
    subst e
    simp [PrgR.cs, SlR.v] at hv
  have h1 : CanQ (fun c => H0 c ∨ c = b) w x q := ⟨h.can.num.with hb hc, h.can.den.with hb hc⟩
  exact ⟨(h1.far hg (.inr rfl)).to (fun b hb => hb.elim), h.fit⟩
theorem TC.of {i n : Int} {w : World} {s : RatR} (h : QC 1 w s (Rat.divInt n 1)) : TC i (Rat.divInt n 1) w ⟨i, s⟩ := ⟨rfl, h⟩
def plVs : VS := [(0, Rat.divInt 3 1, false), (0, Rat.divInt 2 1, true)]
def plRow : RWS := [([(0, Rat.divInt 1 1), (1, Rat.divInt 1 1)], 3, Rat.divInt 4 1)]
def plCost : VL := [(0, Rat.divInt 1 1), (1, Rat.divInt 2 1)]
/-- The example's program, handed in. -/
structure PlI (w : World) (p : PrgR) (vr : List VarR) (rr : List RowR) : Prop where
  prg : PrgI 1 2 w p vr rr plVs plRow plCost
  nv : p.vars.n = 2
  nr : p.rows.n = 1
  vc : VC 1 2 w p.cost plCost
  vr' : ∀ (j : Nat) r, rr[j]? = some r → VC 1 2 w r.a [(0, Rat.divInt 1 1), (1, Rat.divInt 1 1)]
theorem PlI.ext {w w' : World} {p : PrgR} {vr : List VarR} {rr : List RowR} (h : PlI w p vr rr) (e : Ext w w') : PlI w' p vr rr := ⟨h.prg.ext e, h.nv, h.nr, h.vc.ext e, fun j r hj => (h.vr' j r hj).ext e⟩
theorem PlI.rc {w : World} {p : PrgR} {vr : List VarR} {rr : List RowR} (h : PlI w p vr rr) : ∀ w', Ext w w' → CallS Try.prog 50 #[p.cost.v, .int .i64 (plVs.length : Int)] w' fun v w'' => Ext w' w'' ∧ v = .bool true := fun w' hx => by
  have := rightVC_at (h.vc.ext hx) (plVs.length : Int) ⟨by decide, by decide⟩
  rw [show rightL (plVs.length : Int) (-1) (prB plCost) = true by kernel_rfl] at this
  exact this
theorem PlI.rr' {w : World} {p : PrgR} {vr : List VarR} {rr : List RowR} (h : PlI w p vr rr) : ∀ (j : Nat) r, rr[j]? = some r → ∀ w', Ext w w' → CallS Try.prog 50 #[r.a.v, .int .i64 (plVs.length : Int)] w' fun v w'' => Ext w' w'' ∧ v = .bool true := fun j r hj w' hx => by
  have := rightVC_at ((h.vr' j r hj).ext hx) (plVs.length : Int) ⟨by decide, by decide⟩
  rw [show rightL (plVs.length : Int) (-1) (prB [(0, Rat.divInt 1 1), (1, Rat.divInt 1 1)]) = true by kernel_rfl] at this
  exact this
theorem plGood : Good plVs plRow true (fun _ => true) where
  nv := by decide
  nr := by decide
  rc := rfl
  le := fun j x h => by
    match j, h with
    | 0, h => cases h; exact (by decide +kernel : (0 : Rat) ≤ Rat.divInt 3 1)
    | 1, h => cases h; exact (by decide +kernel : (0 : Rat) ≤ Rat.divInt 2 1)
    | j + 2, h => cases h
  row := fun j x h => by
    match j, h with
    | 0, h => cases h; exact ⟨by decide, by decide, rfl⟩
    | j + 1, h => cases h
theorem plain_ok (w : World) : CallS Try.prog 71 #[] w fun v w' => Ext w w' ∧ ∃ (p : PrgR) (vr : List VarR) (rr : List RowR), v = p.v ∧ PlI w' p vr rr := by
  refine enter ttOk mixed (args := []) Try.func71 rfl (by kernel_rfl) (by kernel_rfl) rfl ?_
  intro b0 w1 hb0
  refine CallS.mono (num_at 3 (by decide) (fit1 (by kernel_rfl))) ?_
  rintro _ w2 ⟨x2, r2, rfl, h2⟩
  refine CallS.mono (num_at 2 (by decide) (fit1 (by kernel_rfl))) ?_
  rintro _ w3 ⟨x3, r3, rfl, h3⟩
  intro g4 w4 hg4
  have hg4 : New w3 w4 g4 tVar (gcs [(⟨RatR.zero, r2, false⟩ : VarR), ⟨RatR.zero, r3, true⟩]) := hg4
  refine CallS.mono (num_at 1 (by decide) (fit1 (by kernel_rfl))) ?_
  rintro _ w5 ⟨x5, r5, rfl, h5⟩
  refine CallS.mono (num_at 1 (by decide) (fit1 (by kernel_rfl))) ?_
  rintro _ w6 ⟨x6, r6, rfl, h6⟩
  intro g7 w7 hg7
  have hg7 : New w6 w7 g7 tT (tcs [⟨0, r5⟩, ⟨1, r6⟩]) := hg7
  refine CallS.mono (num_at 4 (by decide) (fit1 (by kernel_rfl))) ?_
  rintro _ w8 ⟨x8, r8, rfl, h8⟩
  intro g9 w9 hg9
  have hg9 : New w8 w9 g9 tRow (gcs [(⟨⟨some ⟨g7, 0, none⟩, 2, 2⟩, 3, r8⟩ : RowR)]) := hg9
  refine CallS.mono (num_at 1 (by decide) (fit1 (by kernel_rfl))) ?_
  rintro _ w10 ⟨x10, r10, rfl, h10⟩
  refine CallS.mono (num_at 2 (by decide) (fit1 (by kernel_rfl))) ?_
  rintro _ w11 ⟨x11, r11, rfl, h11⟩
  intro g12 w12 hg12
  have hg12 : New w11 w12 g12 tT (tcs [⟨0, r10⟩, ⟨1, r11⟩]) := hg12
  have y4 := hg4.ext
  have y7 := hg7.ext
  have y9 := hg9.ext
  have y12 := hg12.ext
  have z11 := Ext.trans' x11 y12
  have z10 := Ext.trans' x10 z11
  have z9 := Ext.trans' y9 z10
  have z8 := Ext.trans' x8 z9
  have z7 := Ext.trans' y7 z8
  have z6 := Ext.trans' x6 z7
  have z5 := Ext.trans' x5 z6
  have z4 := Ext.trans' y4 z5
  have z3 := Ext.trans' x3 z4
  have z2 := Ext.trans' x2 z3
  have z1 := Ext.trans' hb0.ext z2
  have st := storeE (T := tt) (ty := tPrg) (cs := PrgR.cs PrgR.zero) (⟨⟨some ⟨g4, 0, none⟩, 2, 2⟩, ⟨some ⟨g9, 0, none⟩, 1, 1⟩, ⟨some ⟨g12, 0, none⟩, 2, 2⟩⟩ : PrgR) (hb0.toBlk.ext z2) rfl
  refine ⟨st.1, fun w13 hs13 => ?_⟩
  obtain ⟨hB13, hg13⟩ := st.2 w13 hs13
  have y13 : Ext w w13 := Ext.grownB z1 hg13 (hb0.ge (Ext.rfl w))
  have ne {c : Nat} (h : w1.heap.size ≤ c) : c ≠ b0 := by have := hb0.lt; omega
  refine ⟨_, hB13.agg (sub := PrgR.cs (⟨⟨some ⟨g4, 0, none⟩, 2, 2⟩, ⟨some ⟨g9, 0, none⟩, 1, 1⟩, ⟨some ⟨g12, 0, none⟩, 2, 2⟩⟩ : PrgR)) rfl rfl, ?_⟩
  have hZ : Blk w12 b0 tPrg PrgR.zero.cs := hb0.toBlk.ext z2
  have q2 := (h2.ext z3).past hZ hg13
  have q3 := (h3.ext z4).past hZ hg13
  have q5 := (h5.ext z6).past hZ hg13
  have q6 := (h6.ext z7).past hZ hg13
  have q8 := (h8.ext z9).past hZ hg13
  have q10 := (h10.ext z11).past hZ hg13
  have q11 := (h11.ext y12).past hZ hg13
  have s2 := x2.size
  have s3 := x3.size
  have s4 := y4.size
  have s5 := x5.size
  have s6 := x6.size
  have s7 := y7.size
  have s8 := x8.size
  have s9 := y9.size
  have s10 := x10.size
  have s11 := x11.size
  have n4 := hg4.isNew
  have n7 := hg7.isNew
  have n9 := hg9.isNew
  have n12 := hg12.isNew
  have b4 : Blk w13 g4 tVar (gcs [(⟨RatR.zero, r2, false⟩ : VarR), ⟨RatR.zero, r3, true⟩] ++ []) := by rw [List.append_nil]; exact Blk.grownN (hg4.toBlk.ext z5) hg13 (ne (by omega))
  have b7 := Blk.grownN (hg7.toBlk.ext z8) hg13 (ne (by omega))
  have b9 : Blk w13 g9 tRow (gcs [(⟨⟨some ⟨g7, 0, none⟩, 2, 2⟩, 3, r8⟩ : RowR)] ++ []) := by rw [List.append_nil]; exact Blk.grownN (hg9.toBlk.ext z10) hg13 (ne (by omega))
  have b12 := Blk.grownN hg12.toBlk hg13 (ne (by omega))
  have va := TCs.vi 2 (.cons (i := 0) (TC.of q5) (.cons (i := 1) (TC.of q6) .nil)) b7 rfl (by decide)
  have vc := TCs.vi 2 (.cons (i := 0) (TC.of q10) (.cons (i := 1) (TC.of q11) .nil)) b12 rfl (by decide)
  have ca := TCs.vc 2 (.cons (i := 0) (TC.of q5) (.cons (i := 1) (TC.of q6) .nil)) b7 rfl (by decide) (cnL (by kernel_rfl))
  have cc := TCs.vc 2 (.cons (i := 0) (TC.of q10) (.cons (i := 1) (TC.of q11) .nil)) b12 rfl (by decide) (cnL (by kernel_rfl))
  refine ⟨y13, _, [⟨RatR.zero, r2, false⟩, ⟨RatR.zero, r3, true⟩], [⟨⟨some ⟨g7, 0, none⟩, 2, 2⟩, 3, r8⟩], rfl, ⟨⟨Gr.blk b4, rfl, ?_, Gr.blk b9, rfl, ?_, vc.vj⟩, rfl, rfl, cc, ?_⟩⟩
  · intro j v x h1 h2
    match j, h1, h2 with
    | 0, h1, h2 => cases h1; cases h2; exact ⟨InQ.zero _ _ _, (q2.qi (by decide)).inq, rfl⟩
    | 1, h1, h2 => cases h1; cases h2; exact ⟨InQ.zero _ _ _, (q3.qi (by decide)).inq, rfl⟩
    | j + 2, h1, h2 => cases h1
  · intro j r x h1 h2
    match j, h1, h2 with
    | 0, h1, h2 => cases h1; cases h2; exact ⟨va.vj, rfl, (q8.qi (by decide)).inq⟩
    | j + 1, h1, h2 => cases h1
  · intro j r h1
    match j, h1 with
    | 0, h1 => cases h1; exact ca
    | j + 1, h1 => cases h1
end Go.Proofs.Ytlfdobjdlgebbaa
/-
  The watch of the layer program: its own example. Helpers; no statement of the program is proved here.
-/
set_option maxRecDepth 100000
set_option linter.unusedSimpArgs false
set_option linter.unusedVariables false
namespace Go.Proofs.Ytlfdobjdlgebbaa
open Go Go.Tw Go.RowKit
attribute [local irreducible] LoadAt StoreOk Stored rawVC

theorem pt2 {w : World} {b e : Nat} {x y : RatR} {p q : Rat} (hb : Blk w b e (gcs [x, y])) (hx : QC 1 w x p) (hy : QC 1 w y q) : PtI 1 H0 w ⟨some ⟨b, 0, none⟩, 2, 2⟩ [x, y] [p, q] := by
  refine ⟨Gr.blk (R := []) (by rw [List.append_nil]; exact hb), rfl, ?_⟩
  intro j r s h1 h2
  match j, h1, h2 with
  | 0, h1, h2 => cases h1; cases h2; exact (hx.qi (by decide)).inq
  | 1, h1, h2 => cases h1; cases h2; exact (hy.qi (by decide)).inq
  | j + 2, h1, h2 => cases h1
theorem awake15_at (w0 : World) : CallS Try.prog 16 #[] w0 fun v w' => Ext w0 w' ∧ v = .bool true := by
  refine enter ttOk mixed (args := []) Try.func16 rfl (by kernel_rfl) (by kernel_rfl) rfl ?_
  refine CallS.mono (plain_ok w0) ?_
  rintro _ w1 ⟨x1, p, vr, rr, rfl, hP1⟩
  intro b1 w2 hb1
  have st := storeE (T := tt) (ty := tPrg) p hb1.toBlk rfl
  refine ⟨st.1, fun w3 hs3 => ?_⟩
  obtain ⟨hB3, hg3⟩ := st.2 w3 hs3
  have x13 : Ext w1 w3 := Ext.grownB hb1.ext hg3 (hb1.ge (Ext.rfl w1))
  have hP3 := hP1.ext x13
  have nv := hP1.nv
  have nr := hP1.nr
  have x3 := Ext.trans' x1 x13
  refine ⟨sq 10, by kernel_rfl, p.v, hB3.agg (sub := p.cs) rfl rfl, ?_⟩
  refine dcallR (mk := RatR.v) (Q := fun r' w' => QC 1 w' r' (Rat.divInt 1 1)) RatR.inj (fun _ => fun _ _ h e => h.ext e) (fun w' hw hF => num_at 1 (by decide) (fit1 (by kernel_rfl))) ?_
  intro r1
  refine dcallR (mk := RatR.v) (Q := fun r' w' => QC 1 w' r' (Rat.divInt 2 1)) RatR.inj (fun _ => fun _ _ h e => h.ext e) (fun w' hw hF => num_at 2 (by decide) (fit1 (by kernel_rfl))) ?_
  intro r2
  intro bb _
  refine dcallV (.tuple #[.int .i64 2, .int .i64 0]) (fun w' hw hF => ?_) ?_
  · have e : brokenQ plVs plRow [Rat.divInt 1 1, Rat.divInt 2 1] = (2, 0) := by kernel_rfl
    have h := Broken_ok ((hP3.ext hw).prg) (pt2 hF.1.1 hF.2.2.1 hF.2.1) ⟨by decide, by decide, by decide, by show (2 : Nat) ≤ 1099511627776; decide⟩ ⟨by omega, by omega⟩
    rw [e] at h
    exact h
  intro w4 hx4 _
  have x4 := Ext.trans' x3 hx4
  have hB4 := hB3.ext hx4
  have hP4 := hP3.ext hx4
  refine ⟨sq 10, by kernel_rfl, p.v, hB4.agg (sub := p.cs) rfl rfl, ?_⟩
  refine dcallR (mk := RatR.v) (Q := fun r' w' => QC 1 w' r' (Rat.divInt 3 1)) RatR.inj (fun _ => fun _ _ h e => h.ext e) (fun w' hw hF => num_at 3 (by decide) (fit1 (by kernel_rfl))) ?_
  intro r1
  refine dcallR (mk := RatR.v) (Q := fun r' w' => QC 1 w' r' (Rat.divInt 3 2)) RatR.inj (fun _ => fun _ _ h e => h.ext e) (fun w' hw hF => CallS.mono (ROf_ok (H0.hb w') (by decide) (by decide) (by decide) (by decide)) (fun v' w'' h => ⟨h.1, h.2.elim fun r hr => ⟨r, hr.1, hr.2, fit1 (by kernel_rfl)⟩⟩)) ?_
  intro r2
  intro bb _
  refine dcallV (.tuple #[.int .i64 3, .int .i64 1]) (fun w' hw hF => ?_) ?_
  · have e : brokenQ plVs plRow [Rat.divInt 3 1, Rat.divInt 3 2] = (3, 1) := by kernel_rfl
    have h := Broken_ok ((hP4.ext hw).prg) (pt2 hF.1.1 hF.2.2.1 hF.2.1) ⟨by decide, by decide, by decide, by show (2 : Nat) ≤ 1099511627776; decide⟩ ⟨by omega, by omega⟩
    rw [e] at h
    exact h
  intro w5 hx5 _
  have x5 := Ext.trans' x4 hx5
  have hB5 := hB4.ext hx5
  have hP5 := hP4.ext hx5
  refine ⟨sq 10, by kernel_rfl, p.v, hB5.agg (sub := p.cs) rfl rfl, ?_⟩
  refine dcallR (mk := RatR.v) (Q := fun r' w' => QC 1 w' r' (Rat.divInt 3 1)) RatR.inj (fun _ => fun _ _ h e => h.ext e) (fun w' hw hF => num_at 3 (by decide) (fit1 (by kernel_rfl))) ?_
  intro r1
  refine dcallR (mk := RatR.v) (Q := fun r' w' => QC 1 w' r' (Rat.divInt 1 1)) RatR.inj (fun _ => fun _ _ h e => h.ext e) (fun w' hw hF => num_at 1 (by decide) (fit1 (by kernel_rfl))) ?_
  intro r2
  intro bb _
  refine dcallV (.tuple #[.int .i64 0, .int .i64 0]) (fun w' hw hF => ?_) ?_
  · have e : brokenQ plVs plRow [Rat.divInt 3 1, Rat.divInt 1 1] = (0, 0) := by kernel_rfl
    have h := Broken_ok ((hP5.ext hw).prg) (pt2 hF.1.1 hF.2.2.1 hF.2.1) ⟨by decide, by decide, by decide, by show (2 : Nat) ≤ 1099511627776; decide⟩ ⟨by omega, by omega⟩
    rw [e] at h
    exact h
  intro w6 hx6 _
  have x6 := Ext.trans' x5 hx6
  have hB6 := hB5.ext hx6
  have hP6 := hP5.ext hx6
  refine ⟨p.v, hB6.agg (sub := p.cs) rfl rfl, ?_⟩
  refine CallS.mono (Form_ok (RR := fun _ => true) hP6.prg (fun _ => hP6.prg) ⟨by decide, by decide, by decide, by decide⟩ ⟨by omega, by omega⟩ hP6.rc hP6.rr' (fun j x h _ q hq => ?_)) ?_
  · match j, h with
    | 0, h =>
      cases h
      match q, hq with
      | 0, _ => exact ⟨by decide, by decide⟩
      | 1, _ => exact ⟨by decide, by decide⟩
      | q + 2, hq => exact absurd hq (by show ¬ q + 2 < 2; omega)
    | j + 1, h => cases h
  rintro _ w7 ⟨hx7, f, e, rfl, hfe⟩
  rcases hfe with hfe | ⟨_, rfl, s, rfl, hcv, hF7⟩
  · exact absurd plGood hfe.1
  intro b8 w8 hb8
  have st := storeE (T := tt) (ty := tFrm) (s.form (plRow.length : Int)) hb8.toBlk rfl
  refine ⟨st.1, fun w9 hs9 => ?_⟩
  obtain ⟨hB9, hg9⟩ := st.2 w9 hs9
  have hF8 : FI 2 (fun c => c = b8) w6.heap.size w8 s _ _ _ _ _ := hF7.to (fun c hc => by rw [hc]; exact hb8.lt) (fun c hc => .inr (by rw [hc]; exact hb8.ge (Ext.rfl w7))) hb8.ext
  have hF9 := hF8.at' hg9 rfl
  have x79 : Ext w7 w9 := Ext.grownB hb8.ext hg9 (hb8.ge (Ext.rfl w7))
  have hx69 := Ext.trans' hx7 x79
  have x9 := Ext.trans' x6 hx69
  have hPB9 := hB6.ext hx69
  have hP9 := hP6.ext hx69
  have eL : (formL plVs plRow plRow.length)[2]? = some (Rat.divInt (-1) 1) := by kernel_rfl
  have eU : (formU plVs plRow plRow.length)[2]? = some 0 := by kernel_rfl
  have lL : (formL plVs plRow plRow.length).length = 3 := by kernel_rfl
  have lU : (formU plVs plRow plRow.length).length = 3 := by kernel_rfl
  have lX : (formX plRow plVs.length plRow.length).length = 3 := by kernel_rfl
  have hvl := hF9.vl.len
  have hvu := hF9.vu.len
  have hxl := hF9.xl
  have hgl := hF9.gd.len
  have hcl2 : s.cs.length = s.ts.length := by
    simp only [FS.ss, FS.rs, List.length_cons, List.length_map] at hgl; omega
  have hcols : s.cols.n = 3 := by rw [hF9.getCv.1, hcv]; omega
  obtain ⟨ln, lg, _⟩ := owns_gr (hF9.gd.own 0 s.lo (rq s.los) rfl rfl)
  obtain ⟨un, ug, _⟩ := owns_gr (hF9.gd.own 1 s.hi (rq s.his) rfl rfl)
  have ln : s.lo.n = 3 := by have h : s.lo.n = s.los.length := ln; omega
  have un : s.hi.n = 3 := by have h : s.hi.n = s.his.length := un; omega
  have gl := gr_getD lg (j := 2) (by omega)
  have gu := gr_getD ug (j := 2) (by omega)
  have ql := hF9.vl.at' 2 _ _ gl eL
  have qu := hF9.vu.at' 2 _ _ gu eU
  generalize s.los.getD 2 default = rl at gl ql
  generalize s.his.getD 2 default = ru at gu qu
  have hBf9 : Blk w9 b8 tFrm (s.form (plRow.length : Int)).cs := hB9
  have ql0 : QC 1 w9 rl (Rat.divInt (-1) 1) := ⟨ql.to (fun b h => h.elim), fit1 (by kernel_rfl)⟩
  have qu0 : QC 1 w9 ru 0 := ⟨qu.to (fun b h => h.elim), FitQ.zero (by decide)⟩
  refine ⟨sq 59, by kernel_rfl, p.v, hPB9.agg (sub := p.cs) rfl rfl, ?_⟩
  refine dcallV (.int .i64 0) (fun w' hw hF => ?_) ?_
  · refine CallS.mono (PRight_ok (RR := fun _ => true) (hP9.ext hw).prg ⟨by decide, by omega, by omega⟩ (hP9.ext hw).rc (hP9.ext hw).rr') ?_
    rintro _ w'' ⟨hx, e, rfl, he⟩
    rcases he with he | he
    · exact ⟨hx, by rw [he.2]⟩
    · exact absurd plGood he.1
  refine And.intro (fun _ => ?_) (fun h => absurd rfl h)
  refine And.intro (fun _ => ?_) (fun h => absurd rfl h)
  refine And.intro (fun _ => ?_) (fun h => absurd rfl h)
  refine And.intro (fun _ => ?_) (fun h => absurd rfl h)
  refine And.intro (fun _ => ?_) (fun h => absurd rfl h)
  refine And.intro (fun _ => ?_) (fun h => absurd rfl h)
  refine ⟨p.v, hPB9.agg (sub := p.cs) rfl rfl, ?_⟩
  refine dcallR (mk := RatR.v) (Q := fun r' w' => QC 1 w' r' (Rat.divInt 3 1)) RatR.inj (fun _ => fun _ _ h e => h.ext e) (fun w' hw hF => num_at 3 (by decide) (fit1 (by kernel_rfl))) ?_
  intro r1
  refine dcallR (mk := RatR.v) (Q := fun r' w' => QC 1 w' r' (Rat.divInt 1 1)) RatR.inj (fun _ => fun _ _ h e => h.ext e) (fun w' hw hF => num_at 1 (by decide) (fit1 (by kernel_rfl))) ?_
  intro r2
  intro bb _
  refine dcallR (mk := RatR.v) (Q := fun r' w' => QC (pK 1 2) w' r' (Rat.divInt 5 1)) RatR.inj (fun _ => fun _ _ h e => h.ext e) (fun w' hw hF => ?_) ?_
  · have e : timesQ plCost [Rat.divInt 3 1, Rat.divInt 1 1] plCost.length = Rat.divInt 5 1 := by kernel_rfl
    have h := Value_ok ((hP9.ext hw).prg) (pt2 hF.1.1 hF.2.2.1 hF.2.1) ⟨by decide, by decide, by decide, by show (2 : Nat) ≤ 1099511627776; decide⟩
    rw [e] at h
    exact h
  intro r3
  refine dcallR (mk := RatR.v) (Q := fun r' w' => QC 1 w' r' (Rat.divInt 5 1)) RatR.inj (fun _ => fun _ _ h e => h.ext e) (fun w' hw hF => num_at 5 (by decide) (fit1 (by kernel_rfl))) ?_
  intro r4
  refine dcallV (.bool true) (fun w' hw hF => ?_) ?_
  · have h := RSame_ok (H0.hb w') (((hF.2.1.qi (by decide)).inq).mono (by decide)) (((hF.1.qi (by decide)).inq).mono (by decide))
    rw [decide_eq_true (Eq.refl (Rat.divInt 5 1))] at h
    exact h
  refine And.intro (fun _ => ?_) (fun h => absurd rfl h)
  refine ⟨s.cols.v, hBf9.one (off := 1) rfl rfl, ?_⟩
  refine And.intro (fun _ => ?_) (fun h => absurd (by show (s.cols.n : Int) = 3; rw [hcols]; rfl) h)
  refine ⟨s.lo.v, hBf9.one (off := 2) rfl rfl, ?_⟩
  refine ⟨2, ⟨rfl, by omega, lg.base (by omega)⟩, rl.v, lg.load gl rfl rfl, ?_⟩
  refine dcallR (mk := RatR.v) (Q := fun r' w' => QC 1 w' r' (Rat.divInt (-1) 1)) RatR.inj (fun _ => fun _ _ h e => h.ext e) (fun w' hw hF => num_at (-1) (by decide) (fit1 (by kernel_rfl))) ?_
  intro r5
  refine dcallV (.bool true) (fun w' hw hF => ?_) ?_
  · have h := RSame_ok (H0.hb w') ((((ql0.ext hw).qi (by decide)).inq).mono (by decide)) (((hF.1.qi (by decide)).inq).mono (by decide))
    rw [decide_eq_true (Eq.refl (Rat.divInt (-1) 1))] at h
    exact h
  refine ⟨s.hi.v, hBf9.one (off := 3) rfl rfl, ?_⟩
  refine ⟨2, ⟨rfl, by omega, ug.base (by omega)⟩, ru.v, ug.load gu rfl rfl, ?_⟩
  refine dcallV (.int .i64 0) (fun w' hw hF => ?_) ?_
  · have h := RSign_ok (H0.hb w') ((qu0.ext hw).qi (k := 1) (by decide)).inq.is
    exact h
  refine And.intro (fun _ => ?_) (fun h => absurd rfl h)
  intro w10 hx10 _
  exact ⟨Ext.trans' x9 hx10, rfl⟩
end Go.Proofs.Ytlfdobjdlgebbaa
/-
  ProgramSpans, walked. Helpers; no statement of the program is proved here.
-/
set_option maxRecDepth 100000
set_option linter.unusedSimpArgs false
set_option linter.unusedVariables false
namespace Go.Proofs.Ytlfdobjdlgebbaa
open Go Go.Tw Go.RowKit
attribute [local irreducible] LoadAt StoreOk Stored rawVC

/-- How many quarters of the way. -/
def partQ (P : List Int) (j : Nat) : Int := if j < P.length then ((P.getD j 0).tmod 5 + 5).tmod 5 else 0
theorem partQ_bd (P : List Int) (j : Nat) : 0 ≤ partQ P j ∧ partQ P j ≤ 4 := by
  unfold partQ
  split
  · have h1 := Int.lt_tmod_of_pos (P.getD j 0) (show (0 : Int) < 5 by decide)
    have h2 := Int.tmod_lt_of_pos (P.getD j 0) (show (0 : Int) < 5 by decide)
    have h3 := Int.tmod_nonneg (a := (P.getD j 0).tmod 5 + 5) 5 (by omega)
    have h4 := Int.tmod_lt_of_pos ((P.getD j 0).tmod 5 + 5) (show (0 : Int) < 5 by decide)
    omega
  · omega
def atQ (vs : VS) (P : List Int) (j : Nat) : Rat := (vs.getD j default).1 + Rat.divInt (partQ P j) 4 * ((vs.getD j default).2.1 - (vs.getD j default).1)
def leQ (vs : VS) (xs : VL) (j : Nat) : Rat := if sgQ (getL xs (j : Int)) < 0 then (vs.getD j default).2.1 else (vs.getD j default).1
def moQ (vs : VS) (xs : VL) (j : Nat) : Rat := if sgQ (getL xs (j : Int)) < 0 then (vs.getD j default).1 else (vs.getD j default).2.1
def upR (f : Nat → Rat) (i : Nat) : List Rat := (List.range i).map f
theorem upR_succ (f : Nat → Rat) (i : Nat) : upR f (i + 1) = upR f i ++ [f i] := by unfold upR; rw [List.range_succ, List.map_append]; rfl
theorem upR_get {f : Nat → Rat} {i j : Nat} (h : j < i) : (upR f i).getD j 0 = f j := by
  unfold upR
  rw [List.getD_eq_getElem?_getD, List.getElem?_map, List.getElem?_range h]; rfl
theorem upR_len (f : Nat → Rat) (i : Nat) : (upR f i).length = i := by simp [upR]
theorem divFour {z : Int} (h : 0 ≤ z ∧ z ≤ 4) : 0 ≤ Rat.divInt z 4 ∧ Rat.divInt z 4 ≤ 1 := by
  have : z = 0 ∨ z = 1 ∨ z = 2 ∨ z = 3 ∨ z = 4 := by omega
  rcases this with rfl | rfl | rfl | rfl | rfl <;> exact ⟨by decide +kernel, by decide +kernel⟩
theorem fitFour {z : Int} (h : 0 ≤ z ∧ z ≤ 4) : FitQ 1 (Rat.divInt z 4) := by
  have : z = 0 ∨ z = 1 ∨ z = 2 ∨ z = 3 ∨ z = 4 := by omega
  rcases this with rfl | rfl | rfl | rfl | rfl <;> exact fit1 (by kernel_rfl)
/-- The point lies between the bounds. -/
theorem at_within {vs : VS} {P : List Int} (hle : ∀ (j : Nat) x, vs[j]? = some x → x.1 ≤ x.2.1) : ∀ j : Nat, j < vs.length → loA vs (j : Int) ≤ (upR (atQ vs P) vs.length).getD ((j : Int)).toNat 0 ∧ (upR (atQ vs P) vs.length).getD ((j : Int)).toNat 0 ≤ hiA vs (j : Int) := by
  intro j hj
  have e : vs[j]? = some (vs.getD j default) := by rw [List.getD_eq_getElem?_getD, List.getElem?_eq_getElem hj]; rfl
  have h := hle j _ e
  rw [Int.toNat_natCast, upR_get hj]
  unfold loA hiA atQ
  rw [Int.toNat_natCast]
  obtain ⟨d0, d1⟩ := divFour (partQ_bd P j)
  generalize vs.getD j default = x at h
  generalize Rat.divInt (partQ P j) 4 = d at d0 d1
  have h1 : 0 ≤ x.2.1 - x.1 := by grind
  have h2 := Rat.mul_nonneg d0 h1
  have h3 := mulR h1 d1
  constructor <;> grind
theorem sgQ_neg (q : Rat) : sgQ q < 0 ↔ q < 0 := by
  have := cmpQ_sub q 0
  rw [show q - 0 = q by grind] at this
  rw [this]
  exact cmpQ_neg
theorem ends_of {vs : VS} {xs : VL} (hc : Cn xs) (hr : InR vs.length xs) (hle : ∀ (j : Nat) x, vs[j]? = some x → x.1 ≤ x.2.1) :
    (spanQ vs xs xs.length).1 = dotL xs (nrm (ofV (upR (leQ vs xs) vs.length))) ∧ (spanQ vs xs xs.length).2 = dotL xs (nrm (ofV (upR (moQ vs xs) vs.length))) := by
  have hw := inr_within hr
  rw [dotL_of (by rw [upR_len]; exact hw), dotL_of (by rw [upR_len]; exact hw)]
  have h := span_ends (vs := vs) (x := xs) (f := fun j => (upR (leQ vs xs) vs.length).getD j.toNat 0) (g := fun j => (upR (moQ vs xs) vs.length).getD j.toNat 0) hw (fun j hj => ?_) (fun i hi => ?_) (fun i hi => ?_) xs.length (Nat.le_refl _)
  · rw [List.take_length] at h; exact h
  · have e : vs[j]? = some (vs.getD j default) := by rw [List.getD_eq_getElem?_getD, List.getElem?_eq_getElem hj]; rfl
    exact hle j _ e
  · have hp := hw i hi
    show (upR (leQ vs xs) vs.length).getD (pl xs i).toNat 0 = _
    rw [upR_get (by omega)]
    unfold leQ
    rw [Int.toNat_of_nonneg hp.1, cn_get hc hi]
    by_cases h : xl xs i < 0
    · rw [if_pos h, if_pos ((sgQ_neg _).2 h)]; rfl
    · rw [if_neg h, if_neg (fun h' => h ((sgQ_neg _).1 h'))]; rfl
  · have hp := hw i hi
    show (upR (moQ vs xs) vs.length).getD (pl xs i).toNat 0 = _
    rw [upR_get (by omega)]
    unfold moQ
    rw [Int.toNat_of_nonneg hp.1, cn_get hc hi]
    by_cases h : xl xs i < 0
    · rw [if_pos h, if_pos ((sgQ_neg _).2 h)]; rfl
    · rw [if_neg h, if_neg (fun h' => h ((sgQ_neg _).1 h'))]; rfl
theorem within_of {vs : VS} {xs : VL} {P : List Int} (hr : InR vs.length xs) (hle : ∀ (j : Nat) x, vs[j]? = some x → x.1 ≤ x.2.1) :
    (spanQ vs xs xs.length).1 ≤ dotL xs (nrm (ofV (upR (atQ vs P) vs.length))) ∧ dotL xs (nrm (ofV (upR (atQ vs P) vs.length))) ≤ (spanQ vs xs xs.length).2 := by
  have hw := inr_within hr
  rw [dotL_of (by rw [upR_len]; exact hw)]
  have h := span_within (vs := vs) (x := xs) (f := fun j => (upR (atQ vs P) vs.length).getD j.toNat 0) hw (at_within hle) xs.length (Nat.le_refl _)
  rw [List.take_length] at h; exact h
end Go.Proofs.Ytlfdobjdlgebbaa
