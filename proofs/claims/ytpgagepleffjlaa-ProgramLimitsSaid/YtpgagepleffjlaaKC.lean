/-
  Contracts of the layer program: the form of a program. Helpers; no statement of the program is proved here.
-/
import Derived.Test.YtpgagepleffjlaaKB
set_option maxRecDepth 100000
set_option linter.unusedSimpArgs false
set_option linter.unusedVariables false
namespace Go.Proofs.Ytpgagepleffjlaa
open Go Go.Tw Go.RowKit
attribute [local irreducible] LoadAt StoreOk Stored rawVC

/-! ### what a form says -/
def putT (X : List VL) (i : Int) (t : Int × Rat) : List VL := X.set t.1.toNat (X.getD t.1.toNat [] ++ [(i, t.2)])
/-- A row's first q terms in the columns. -/
def rowT (X : List VL) (i : Int) (xs : VL) (q : Nat) : List VL :=
  match q with
  | 0 => X
  | q + 1 => putT (rowT X i xs q) i (pl xs q, xl xs q)
def rowX (X : List VL) (i : Int) (xs : VL) : List VL := rowT X i xs xs.length ++ [[(i, 1)]]
def formX (rws : RWS) (n : Nat) (i : Nat) : List VL :=
  match i with
  | 0 => List.replicate n []
  | i + 1 => rowX (formX rws n i) (i : Int) (rws.getD i default).1
def sideL (vs : VS) (r : VL × Int × Rat) : Rat := if r.2.1 = 1 then 0 else if r.2.1 = 3 then minQ 0 (r.2.2 - (spanQ vs r.1 r.1.length).2) else 0
def sideU (vs : VS) (r : VL × Int × Rat) : Rat := if r.2.1 = 1 then maxQ 0 (r.2.2 - (spanQ vs r.1 r.1.length).1) else 0
def formL (vs : VS) (rws : RWS) (i : Nat) : List Rat := vs.map (fun x => x.1) ++ (rws.take i).map (sideL vs)
def formU (vs : VS) (rws : RWS) (i : Nat) : List Rat := vs.map (fun x => x.2.1) ++ (rws.take i).map (sideU vs)
def formC (vs : VS) (rws : RWS) (cost : VL) (i : Nat) : List Rat := (List.range vs.length).map (fun j : Nat => getL cost (j : Int)) ++ (rws.take i).map fun _ => 0
def formB (rws : RWS) (i : Nat) : List Rat := (rws.take i).map fun r => r.2.2
theorem rowT_length (X : List VL) (i : Int) (xs : VL) (q : Nat) : (rowT X i xs q).length = X.length := by
  induction q with
  | zero => rfl
  | succ q ih => simp only [rowT, putT, List.length_set, ih]
theorem formX_length (rws : RWS) (n i : Nat) : (formX rws n i).length = n + i := by
  induction i with
  | zero => simp [formX]
  | succ i ih => simp only [formX, rowX, List.length_append, rowT_length, ih, List.length_singleton]; omega
theorem rowT_le {X : List VL} {B : Nat} (h : ∀ z ∈ X, z.length ≤ B) (i : Int) (xs : VL) (q : Nat) : ∀ z ∈ rowT X i xs q, z.length ≤ B + q := by
  induction q with
  | zero => exact h
  | succ q ih =>
    intro z hz
    simp only [rowT, putT] at hz
    rcases List.mem_or_eq_of_mem_set hz with hz | rfl
    · have := ih z hz; omega
    · rw [List.length_append, List.length_singleton]
      rcases Nat.lt_or_ge (pl xs q).toNat (rowT X i xs q).length with hj | hj
      · have := ih ((rowT X i xs q).getD (pl xs q).toNat []) (by rw [List.getD_eq_getElem?_getD, List.getElem?_eq_getElem hj]; exact List.getElem_mem hj)
        omega
      · rw [List.getD_eq_getElem?_getD, List.getElem?_eq_none hj]
        show 0 + 1 ≤ _; omega
theorem formX_le {rws : RWS} {l : Nat} (h : ∀ (j : Nat) y, rws[j]? = some y → y.1.length ≤ l) (n i : Nat) : ∀ z ∈ formX rws n i, z.length ≤ i * (l + 1) := by
  induction i with
  | zero =>
    intro z hz
    rw [show formX rws n 0 = List.replicate n [] from rfl] at hz
    rw [(List.mem_replicate.1 hz).2]; exact Nat.zero_le _
  | succ i ih =>
    intro z hz
    have hl : (rws.getD i default).1.length ≤ l := by
      rcases Nat.lt_or_ge i rws.length with hj | hj
      · rw [List.getD_eq_getElem?_getD, List.getElem?_eq_getElem hj]; exact h i _ (List.getElem?_eq_getElem hj)
      · rw [List.getD_eq_getElem?_getD, List.getElem?_eq_none hj]; exact Nat.zero_le _
    simp only [formX, rowX, List.mem_append, List.mem_singleton] at hz
    rw [Nat.add_mul]
    rcases hz with hz | rfl
    · have := rowT_le ih (i : Int) (rws.getD i default).1 _ z hz; omega
    · show 1 ≤ _; omega
/-- The matrix stored in the form's cell. -/
theorem storeFC {w : World} {b : Nat} {f : FormR} {v : SlR} (hb : Blk w b tFrm f.cs) :
    StoreOk tt w 36 ⟨b, 1, none⟩ v.v ∧ ∀ w', Stored w w' ⟨b, 1, none⟩ v.v.cells.toList → Blk w' b tFrm (f.cs.set 1 v.v) ∧ w.grownBy w' (some b) := by
  refine ⟨storeOk (Eq.refl _) (Eq.refl _) hb (by show 1 + 1 ≤ 6; omega), fun w' hs => ⟨?_, (Stored.grown hs).1⟩⟩
  have := Stored.blk hs hb
  rw [show v.v.cells.toList = [v.v] from Eq.refl _, splice_one] at this
  exact this
/-- A form at its beginning. -/
def FS.start (g n : Nat) : FS := ⟨⟨none, 0, 0⟩, ⟨none, 0, 0⟩, ⟨none, 0, 0⟩, ⟨none, 0, 0⟩, ⟨some ⟨g, 0, none⟩, n, n⟩, List.replicate n ⟨none, 0, 0⟩, List.replicate n ⟨none, 0, 0⟩, [], [], [], [], List.replicate n []⟩
theorem nil_own {w : World} {base e sz : Nat} : w.ownsRow base e sz (SlR.v ⟨none, 0, 0⟩) 0 [] := ⟨by simp, .inl ⟨rfl, rfl⟩⟩
theorem FI.start {k base g n : Nat} {H : Hd} {w : World} (hH : HB H w) (hb : Blk w g tV (rep n [.slice none 0 0])) (hg : base ≤ g) (hn : n ≤ 1048576) (hno : ¬ H g) : FI k H base w (FS.start g n) [] [] [] [] (List.replicate n []) := by
  have key : ∀ (i : Nat) t c, (FS.start g n).ss[i]? = some t → t.v.ownBlock = some c → i = 4 ∧ c = g := by
    intro i t c h1 h2
    have : i = 4 ∨ t = ⟨none, 0, 0⟩ := by
      match i, h1 with
      | 0, h1 => right; exact (Option.some.inj h1).symm
      | 1, h1 => right; exact (Option.some.inj h1).symm
      | 2, h1 => right; exact (Option.some.inj h1).symm
      | 3, h1 => right; exact (Option.some.inj h1).symm
      | 4, h1 => left; rfl
      | i + 5, h1 =>
        right
        have h1 : (List.replicate n (⟨none, 0, 0⟩ : SlR))[i]? = some t := h1
        rw [List.getElem?_replicate] at h1
        split at h1
        · exact (Option.some.inj h1).symm
        · cases h1
    rcases this with rfl | rfl
    · have h1 : some (⟨some ⟨g, 0, none⟩, n, n⟩ : SlR) = some t := h1
      cases h1
      exact ⟨rfl, (Option.some.inj h2).symm⟩
    · cases h2
  refine ⟨hH, ⟨?_, ?_, fun i j t u c h1 h2 h3 h4 => by rw [(key i t c h1 h3).1, (key j u c h2 h4).1]⟩, ?_, Vals.nil _ _, Vals.nil _ _, Vals.nil _ _, Vals.nil _ _, by simp [FS.start], ?_⟩
  · simp [FS.start, FS.ss, FS.rs]
  · intro i t r h1 h2
    match i, h1, h2 with
    | 0, h1, h2 => cases h1; cases h2; exact nil_own
    | 1, h1, h2 => cases h1; cases h2; exact nil_own
    | 2, h1, h2 => cases h1; cases h2; exact nil_own
    | 3, h1, h2 => cases h1; cases h2; exact nil_own
    | 4, h1, h2 =>
      cases h1; cases h2
      have e : rep n [Value.slice none 0 0] = svs (List.replicate n (⟨none, 0, 0⟩ : SlR)) := by rw [rep_one]; simp [svs, SlR.v]
      rw [e] at hb
      show w.ownsRow base tV 1 (.slice (some ⟨g, 0, none⟩) n n) (List.replicate n (⟨none, 0, 0⟩ : SlR)).length (svs (List.replicate n ⟨none, 0, 0⟩))
      rw [List.length_replicate]
      exact owns_of_blk1 (R := []) (by rw [List.append_nil]; exact hb) hg (by simp [svs]) (Nat.le_refl _) (by omega) (by simp [svs])
    | i + 5, h1, h2 =>
      have h1 : (List.replicate n (⟨none, 0, 0⟩ : SlR))[i]? = some t := h1
      have h2 : ((List.replicate n ([] : List TmR)).map rt)[i]? = some r := h2
      rw [List.map_replicate] at h2
      rw [List.getElem?_replicate] at h1 h2
      split at h1
      · rename_i hi
        rw [if_pos hi] at h2
        cases h1; cases h2
        exact nil_own
      · cases h1
  · intro c hc t ht e
    obtain ⟨i, hi, rfl⟩ := List.getElem_of_mem ht
    have := (key i _ c (List.getElem?_eq_getElem hi) e).2
    exact hno (this ▸ hc)
  · intro j t z h1 h2
    have h1 : (List.replicate n ([] : List TmR))[j]? = some t := h1
    rw [List.getElem?_replicate] at h1 h2
    split at h1
    · rename_i hj
      rw [if_pos hj] at h2
      cases h1; cases h2
      exact .nil
    · cases h1

theorem take_snoc {α : Type} {L : List α} {i : Nat} {a : α} (h : L[i]? = some a) : L.take (i + 1) = L.take i ++ [a] := by rw [List.take_add_one, h]; rfl
instance : Enc FormR where
  cs := FormR.cs
  k := 6
  len := fun _ => rfl
  pos := by decide
  one := fun x v hv => by
    simp only [FormR.cs, List.mem_cons, List.not_mem_nil, or_false] at hv
    rcases hv with rfl | rfl | rfl | rfl | rfl | rfl <;> rfl
def FormR.zero : FormR := ⟨0, ⟨none, 0, 0⟩, ⟨none, 0, 0⟩, ⟨none, 0, 0⟩, ⟨none, 0, 0⟩, ⟨none, 0, 0⟩⟩
def h3 (b1 b2 fb : Nat) : Hd := fun c => c = b1 ∨ c = b2 ∨ c = fb
theorem formL_succ {vs : VS} {rws : RWS} {i : Nat} {y : VL × Int × Rat} (h : rws[i]? = some y) : formL vs rws (i + 1) = formL vs rws i ++ [sideL vs y] := by
  rw [formL, formL, take_snoc h, List.map_append, List.append_assoc]; rfl
theorem formU_succ {vs : VS} {rws : RWS} {i : Nat} {y : VL × Int × Rat} (h : rws[i]? = some y) : formU vs rws (i + 1) = formU vs rws i ++ [sideU vs y] := by
  rw [formU, formU, take_snoc h, List.map_append, List.append_assoc]; rfl
theorem formC_succ {vs : VS} {rws : RWS} {cost : VL} {i : Nat} {y : VL × Int × Rat} (h : rws[i]? = some y) : formC vs rws cost (i + 1) = formC vs rws cost i ++ [0] := by
  rw [formC, formC, take_snoc h, List.map_append, List.append_assoc]; rfl
theorem formB_succ {rws : RWS} {i : Nat} {y : VL × Int × Rat} (h : rws[i]? = some y) : formB rws (i + 1) = formB rws i ++ [y.2.2] := by
  rw [formB, formB, take_snoc h, List.map_append]; rfl
theorem formX_succ {rws : RWS} {n i : Nat} {y : VL × Int × Rat} (h : rws[i]? = some y) : formX rws n (i + 1) = rowT (formX rws n i) (i : Int) y.1 y.1.length ++ [[((i : Int), 1)]] := by
  have e : rws.getD i default = y := by rw [List.getD_eq_getElem?_getD, h]; rfl
  rw [formX, e, rowX]
/-- A row's end: the form of one row more. -/
theorem FI.rowEnd {k base b1 b2 fb b10 n i q : Nat} {w : World} {s : FS} {vs : VS} {rws : RWS} {cost : VL} {y : VL × Int × Rat} {ql qh : Rat}
    (h : FI k (fun c => h3 b1 b2 fb c ∨ c = b10) base w s (formL vs rws i ++ [ql]) (formU vs rws i ++ [qh]) (formC vs rws cost i ++ [0]) (formB rws i ++ [y.2.2]) (rowT (formX rws n i) (i : Int) y.1 q ++ [[((i : Int), 1)]]))
    (hy : rws[i]? = some y) (hq : q = y.1.length) (hl : ql = sideL vs y) (hh : qh = sideU vs y) :
    FI k (h3 b1 b2 fb) base w s (formL vs rws (i + 1)) (formU vs rws (i + 1)) (formC vs rws cost (i + 1)) (formB rws (i + 1)) (formX rws n (i + 1)) := by
  subst hq
  rw [formL_succ hy, formU_succ hy, formC_succ hy, formB_succ hy, formX_succ hy, ← hl, ← hh]
  exact h.to (fun b hb => h.hb b (.inl hb)) (fun b hb => .inl (.inl hb)) (Ext.rfl w)
theorem FI.toBase {k base : Nat} {H : Hd} {w : World} {s : FS} {L U C B : List Rat} {X : List VL} (h : FI k H base w s L U C B X) (hH : ∀ c, H c → base ≤ c) : ∀ b, gH H s.ss b → H0 b ∨ base ≤ b := by
  rintro b (hb | ⟨t, ht, hb⟩)
  · exact .inr (hH b hb)
  · obtain ⟨i, hi, rfl⟩ := List.getElem_of_mem ht
    exact .inr (h.gd.lt (List.getElem?_eq_getElem hi) hb).1
theorem Form_ok {k l : Nat} {w : World} {p : PrgR} {vr : List VarR} {rr : List RowR} {vs : VS} {rws : RWS} {cost : VL} {RC : Bool} {RR : Nat → Bool} (hP : PrgI k l w p vr rr vs rws cost) (hk : k ≤ 16777216 ∧ l ≤ 65536 ∧ pK k l ≤ 34359738368)
    (hn : p.vars.n ≤ 1099511627776 ∧ p.rows.n ≤ 1099511627776)
    (hRC : ∀ w', Ext w w' → CallS Try.prog 47 #[p.cost.v, .int .i64 (vs.length : Int)] w' fun v w'' => Ext w' w'' ∧ v = .bool RC)
    (hRR : ∀ (j : Nat) r, rr[j]? = some r → ∀ w', Ext w w' → CallS Try.prog 47 #[r.a.v, .int .i64 (vs.length : Int)] w' fun v w'' => Ext w' w'' ∧ v = .bool (RR j))
    (hin : ∀ (j : Nat) x, rws[j]? = some x → RR j = true → ∀ q, q < x.1.length → 0 ≤ pl x.1 q ∧ pl x.1 q < (vs.length : Int)) :
    CallS Try.prog 9 #[p.v] w fun v w' => Ext w w' ∧ ∃ (f : FormR) (e : Int), v = .tuple #[f.v, .int .i64 e] ∧ ((¬ Good vs rws RC RR ∧ e = 100 ∧ f = FormR.zero) ∨
      (Good vs rws RC RR ∧ e = 0 ∧ ∃ s : FS, f = s.form (rws.length : Int) ∧ s.cv = s.cs ∧ FI (k + 1) H0 w.heap.size w' s (formL vs rws rws.length) (formU vs rws rws.length) (formC vs rws cost rws.length) (formB rws rws.length) (formX rws vs.length rws.length))) := by
  obtain ⟨hk1, hl1, hK⟩ := hk
  obtain ⟨hn1, hn2⟩ := hn
  have hvn := hP.vars.len
  have hvl := hP.vlen
  have hrn := hP.rows.len
  have hrl := hP.rlen
  refine enter ttOk mixed (args := [p.v]) Try.func9 rfl (by kernel_rfl) (by kernel_rfl) rfl ?_
  intro b1 w1 hb1 b2 w2 hb2
  have x1 := hb1.ext
  have x2 := hb2.extFrom x1
  have hB1 : Blk w2 b1 tPrg p.cs := hb1.toBlk.ext hb2.ext
  have hB2 : Blk w2 b2 tFrm FormR.zero.cs := hb2.toBlk
  have ne12 : b1 ≠ b2 := by have := hb1.lt; have := hb2.isNew; omega
  refine ⟨p.v, hB1.agg (sub := p.cs) rfl rfl, ?_⟩
  refine CallS.mono (PRight_ok (hP.ext x2) ⟨by omega, hn1, hn2⟩ (fun w' hx => hRC w' (Ext.trans' x2 hx)) (fun j r hj w' hx => hRR j r hj w' (Ext.trans' x2 hx))) ?_
  rintro _ w3 ⟨hx3, e, rfl, hg⟩
  have x3 := Ext.trans' x2 hx3
  refine And.intro (fun h1 => ?_) (fun h1 => ?_)
  · rcases hg with hg | hg
    · exact absurd (by rw [hg.2]) h1
    obtain ⟨hgood, he⟩ := hg
    subst he
    have st := storeE (T := tt) (ty := tFrm) FormR.zero (hB2.ext hx3) rfl
    refine ⟨st.1, fun w4 hs4 => ?_⟩
    obtain ⟨hB4, hg4⟩ := st.2 w4 hs4
    refine ⟨FormR.zero.v, hB4.agg (sub := FormR.zero.cs) rfl rfl, ?_⟩
    exact ⟨Ext.grownB x3 hg4 (hb2.ge x1), FormR.zero, 100, rfl, .inl ⟨hgood, rfl, rfl⟩⟩
  rcases hg with hg | hg
  case inr => exact absurd hg.2 (fun h => h1 (by rw [h]; decide))
  obtain ⟨hgood, he⟩ := hg
  subst he
  refine ⟨sq 10, by kernel_rfl, ?_⟩
  refine ⟨_, (hB1.ext hx3).one (off := 1) rfl rfl, _, (hB1.ext hx3).one (off := 0) rfl rfl, ?_⟩
  refine ⟨⟨by omega, by omega, by show p.vars.n * 24 ≤ _; have := hgood.nv; omega, by show p.vars.n ≤ _; omega⟩, ?_⟩
  intro g hg4 fb hfb w4 hx4 hF4
  have hBg : Blk w4 g tV (rep p.vars.n [.slice none 0 0]) := hF4.2.1.1
  have hBf : Blk w4 fb tFrm FormR.zero.cs := hF4.1.1
  have nefg : fb ≠ g := fun h => hfb.1 (.inl h)
  have st := storeE (T := tt) (ty := tFrm) (FS.form (FS.start g p.vars.n) (p.rows.n : Int)) hBf rfl
  refine ⟨st.1, fun w5 hs5 => ?_⟩
  obtain ⟨hBf5, hg5⟩ := st.2 w5 hs5
  intro w6 hx6 _
  have gge : w3.heap.size ≤ g := hF4.2.1.2
  have fge : w3.heap.size ≤ fb := hF4.1.2
  have x4 := Ext.trans' x3 hx4
  have x36 : Ext w3 w6 := Ext.trans' (Ext.grownB hx4 hg5 fge) hx6
  have x6 := Ext.trans' x3 x36
  have hs3 := x3.size
  have l1 := hb1.lt
  have l2 := hb2.lt
  have g1 := hb1.ge (Ext.rfl w)
  have g2 := hb2.ge x1
  have s12 := hb2.ext.size
  have s23 := hx3.size
  have hBg6 : Blk w6 g tV (rep p.vars.n [.slice none 0 0]) := (Blk.grownN hBg hg5 (Ne.symm nefg)).ext hx6
  have hBf6 := hBf5.ext hx6
  have hB16 : Blk w6 b1 tPrg p.cs := (hB1.ext hx3).ext x36
  have hB26 : Blk w6 b2 tFrm FormR.zero.cs := (hB2.ext hx3).ext x36
  have lf := hBf6.lt
  have hHB : HB (h3 b1 b2 fb) w6 := by
    intro c hc
    have := x36.size
    rcases hc with rfl | rfl | rfl <;> omega
  have hS : FI (k + 1) (h3 b1 b2 fb) w.heap.size w6 (FS.start g p.vars.n) [] [] [] [] (List.replicate p.vars.n []) := FI.start hHB hBg6 (by omega) (by have := hgood.nv; omega) (by
    intro hc
    rcases hc with h | h | h
    · omega
    · omega
    · exact nefg h.symm)
  refine ⟨_, hB16.one (off := 0) rfl rfl, ?_⟩
  have ne1f : b1 ≠ fb := by omega
  have ne2f : b2 ≠ fb := by omega
  have toH : ∀ {w' : World} {s : FS} {L U C B : List Rat} {X : List VL}, FI (k + 1) (h3 b1 b2 fb) w.heap.size w' s L U C B X → ∀ b, gH (h3 b1 b2 fb) s.ss b → H0 b ∨ w.heap.size ≤ b := by
    intro w' s L U C B X h b hb
    rcases hb with hb | ⟨t, ht, hb⟩
    · right; rcases hb with rfl | rfl | rfl <;> omega
    · obtain ⟨i, hi, rfl⟩ := List.getElem_of_mem ht
      exact .inr (h.gd.lt (List.getElem?_eq_getElem hi) hb).1
  have hnv := hgood.nv
  have hnr := hgood.nr
  have hcl : 1 + cost.length * (k + 2) ≤ 137438953472 := by
    have h1 := hP.cost.len
    have h2 := Nat.mul_le_mul_right (k + 2) h1
    have h3 : l * (k + 2) ≤ l * (2 * k + 5) := Nat.mul_le_mul_left _ (by omega)
    unfold pK at hK
    omega
  refine ⟨Nat × FS, fun x => [(1, .pointer (some ⟨b1, 0, none⟩)), (2, .pointer (some ⟨b2, 0, none⟩)), (5, .pointer (some ⟨fb, 0, none⟩)), (6, .func (.func 48) #[] #[.pointer (some ⟨fb, 0, none⟩)]), (32, p.vars.v), (33, .int .i64 (p.vars.n : Int)), (34, .int .i64 (x.1 : Int))],
    fun x w' => Ext w w' ∧ FI (k + 1) (h3 b1 b2 fb) w.heap.size w' x.2 ((vs.map fun x => x.1).take x.1) ((vs.map fun x => x.2.1).take x.1) (((List.range vs.length).map fun j : Nat => getL cost (j : Int)).take x.1) [] (List.replicate p.vars.n []) ∧ Blk w' fb tFrm (x.2.form (p.rows.n : Int)).cs ∧ Blk w' b1 tPrg p.cs ∧ Blk w' b2 tFrm FormR.zero.cs ∧ x.1 ≤ p.vars.n ∧ x.2.cv = x.2.cs, fun x _ => p.vars.n - x.1,
    ⟨(0, FS.start g p.vars.n), ⟨rfl, rfl, rfl, rfl, rfl, rfl, rfl, trivial⟩, ⟨x6, hS, hBf6, hB16, hB26, Nat.zero_le _, rfl⟩⟩, ?_⟩
  clear hS hBf6 hB16 hB26 hBg6 x36 hx6 hBf5 hs5 hg5 st hBg hBf hF4 hx4
  rintro ⟨i, s⟩ w7 ⟨x7, hF7, hBf7, hB17, hB27, hi, hcv⟩
  dsimp only at *
  refine And.intro (fun h2 => ?_) (fun h2 => ?_)
  · have hin := ltTo h2
    refine (show ∃ v, vr[i]? = some v from ⟨_, gr_getD hP.vars hin⟩).elim fun v hgv => ?_
    refine (show ∃ y, vs[i]? = some y from ⟨_, List.getElem?_eq_getElem (by omega)⟩).elim fun y hgx => ?_
    have hvar := hP.var i v y hgv hgx
    have hlo := hvar.1
    have hhi := hvar.2.1
    refine ⟨i, ⟨rfl, hin, hP.vars.base (by omega)⟩, v.v, (hP.vars.ext x7).load hgv rfl rfl, ?_⟩
    intro b8 w8 hb8
    have st := storeE (T := tt) (ty := tVar) v hb8.toBlk rfl
    refine ⟨st.1, fun w9 hs9 => ?_⟩
    have hB89 := (st.2 w9 hs9).1
    have hg9 := (st.2 w9 hs9).2
    have hx79 : Ext w7 w9 := Ext.grownB hb8.ext hg9 (hb8.ge (Ext.rfl w7))
    have x9 := Ext.trans' x7 hx79
    have hF9 := hF7.ext hx79
    have ht9 := toH hF9
    refine ⟨sqK 10 [9], by kernel_rfl, v.lo.v, hB89.agg (sub := rcs v.lo) rfl rfl, v.hi.v, hB89.agg (sub := rcs v.hi) rfl rfl, p.cost.v, (hB17.ext hx79).one (off := 2) rfl rfl, ?_⟩
    refine dcallR (mk := RatR.v) (Q := fun r' w' => CanQ (gH (h3 b1 b2 fb) s.ss) w' r' (getL cost (i : Int))) RatR.inj (fun _ => CanQ.stable) (fun w' hw hF => CallS.mono (VGet_ok (HB.ext hF9.hbs hw) ((hP.cost.inv.to ht9).ext (Ext.trans' x9 hw)) (i : Int) (by omega) hcl) (fun v' w'' h => ⟨h.1, h.2.elim fun r hr => ⟨r, hr.1, hr.2.1⟩⟩)) ?_
    intro rc w10 hx10 hF10
    have x10 := Ext.trans' x9 hx10
    have hlL := hF7.vl.len
    have hlU := hF7.vu.len
    have hlC := hF7.vc.len
    rw [List.length_take] at hlL hlU hlC
    refine CallS.mono (Side_ok (K := k) (hF9.ext hx10) (hBf7.ext (Ext.trans' hx79 hx10)) (.inr (.inr rfl)) x10.size ((hlo.to ht9).ext x10) ((hhi.to ht9).ext x10) hF10.1 ⟨by omega, by omega, by omega⟩) ?_
    intro vv w11 hpost
    refine hpost.2.2.elim fun s' hpost' => ?_
    have hKH := hpost.2.1
    have hBf' := hpost'.1
    have hF' := hpost'.2.1
    have e4 := hpost'.2.2.2.2.1
    have e5 := hpost'.2.2.2.2.2.1
    intro w12 hx12 _
    refine ⟨((i + 1 : Nat) : Int), sucI i (by omega), (i + 1, s'), ⟨rfl, rfl, rfl, rfl, rfl, rfl, rfl, trivial⟩, ⟨?_, ?_, hBf'.ext hx12, ?_, ?_, hin, ?_⟩, Nat.sub_lt_sub_left hin (Nat.lt_succ_self i)⟩
    · exact Ext.trans' (KH.ext x10 (Nat.le_refl _) (by omega) hKH) hx12
    · have t1 : (vs.map fun x => x.1).take (i + 1) = (vs.map fun x => x.1).take i ++ [y.1] := take_snoc (by rw [List.getElem?_map, hgx]; rfl)
      have t2 : (vs.map fun x => x.2.1).take (i + 1) = (vs.map fun x => x.2.1).take i ++ [y.2.1] := take_snoc (by rw [List.getElem?_map, hgx]; rfl)
      have t3 : ((List.range vs.length).map fun j : Nat => getL cost (j : Int)).take (i + 1) = ((List.range vs.length).map fun j : Nat => getL cost (j : Int)).take i ++ [getL cost (i : Int)] := take_snoc (by rw [List.getElem?_map, List.getElem?_range (by omega)]; rfl)
      show FI (k + 1) (h3 b1 b2 fb) w.heap.size w12 s' ((vs.map fun x => x.1).take (i + 1)) ((vs.map fun x => x.2.1).take (i + 1)) (((List.range vs.length).map fun j : Nat => getL cost (j : Int)).take (i + 1)) [] (List.replicate p.vars.n [])
      rw [t1, t2, t3]
      exact hF'.ext hx12
    · exact (((hB17.ext (Ext.trans' hx79 hx10)).kh hKH (.inr (.inl rfl)) ne1f)).ext hx12
    · exact (((hB27.ext (Ext.trans' hx79 hx10)).kh hKH (.inr (.inr (.inl rfl))) ne2f)).ext hx12
    · show s'.cv = s'.cs
      rw [e5, e4]; exact hcv
  · have hi' : i = p.vars.n := Nat.le_antisymm hi (geTo h2)
    refine ⟨_, hB17.one (off := 1) rfl rfl, ?_⟩
    have hS2 : FI (k + 1) (h3 b1 b2 fb) w.heap.size w7 s (formL vs rws 0) (formU vs rws 0) (formC vs rws cost 0) (formB rws 0) (formX rws vs.length 0) := by
      have e1 : formL vs rws 0 = (vs.map fun x => x.1).take i := by rw [List.take_of_length_le (by rw [List.length_map]; omega)]; simp [formL]
      have e2 : formU vs rws 0 = (vs.map fun x => x.2.1).take i := by rw [List.take_of_length_le (by rw [List.length_map]; omega)]; simp [formU]
      have e3 : formC vs rws cost 0 = ((List.range vs.length).map fun j : Nat => getL cost (j : Int)).take i := by rw [List.take_of_length_le (by rw [List.length_map, List.length_range]; omega)]; simp [formC]
      have e4 : formX rws vs.length 0 = List.replicate p.vars.n [] := by show List.replicate vs.length [] = _; rw [show vs.length = p.vars.n by omega]
      rw [e1, e2, e3, e4]
      exact hF7
    refine ⟨Nat × FS, fun x => [(1, .pointer (some ⟨b1, 0, none⟩)), (2, .pointer (some ⟨b2, 0, none⟩)), (5, .pointer (some ⟨fb, 0, none⟩)), (6, .func (.func 48) #[] #[.pointer (some ⟨fb, 0, none⟩)]), (51, p.rows.v), (52, .int .i64 (p.rows.n : Int)), (53, .int .i64 (x.1 : Int))],
      fun x w' => Ext w w' ∧ FI (k + 1) (h3 b1 b2 fb) w.heap.size w' x.2 (formL vs rws x.1) (formU vs rws x.1) (formC vs rws cost x.1) (formB rws x.1) (formX rws vs.length x.1) ∧ Blk w' fb tFrm (x.2.form (p.rows.n : Int)).cs ∧ Blk w' b1 tPrg p.cs ∧ Blk w' b2 tFrm FormR.zero.cs ∧ x.1 ≤ p.rows.n ∧ x.2.cv = x.2.cs, fun x _ => p.rows.n - x.1,
      ⟨(0, s), ⟨rfl, rfl, rfl, rfl, rfl, rfl, rfl, trivial⟩, ⟨x7, hS2, hBf7, hB17, hB27, Nat.zero_le _, hcv⟩⟩, ?_⟩
    clear hS2 hBf7 hB17 hB27 hF7 x7 hcv
    rintro ⟨i, s⟩ w8 ⟨x8, hF8, hBf8, hB18, hB28, hi, hcv⟩
    dsimp only at *
    refine And.intro (fun h3' => ?_) (fun h3' => ?_)
    · have hin2 := ltTo h3'
      refine (show ∃ r, rr[i]? = some r from ⟨_, gr_getD hP.rows hin2⟩).elim fun r hgr => ?_
      refine (show ∃ y, rws[i]? = some y from ⟨_, List.getElem?_eq_getElem (by omega)⟩).elim fun y hgy => ?_
      have hrow := hP.row i r y hgr hgy
      have hgd := hgood.row i y hgy
      refine ⟨i, ⟨rfl, hin2, hP.rows.base (by omega)⟩, r.v, (hP.rows.ext x8).load hgr rfl rfl, ?_⟩
      intro b10 w9 hb10
      have st := storeE (T := tt) (ty := tRow) r hb10.toBlk rfl
      refine ⟨st.1, fun w10 hs10 => ?_⟩
      have hB10 := (st.2 w10 hs10).1
      have hg10 := (st.2 w10 hs10).2
      have hx810 : Ext w8 w10 := Ext.grownB hb10.ext hg10 (hb10.ge (Ext.rfl w8))
      have x10 := Ext.trans' x8 hx810
      refine ⟨_, hB10.one (off := 0) rfl rfl, ?_⟩
      have hF10 : FI (k + 1) (fun c => h3 b1 b2 fb c ∨ c = b10) w.heap.size w10 s (formL vs rws i) (formU vs rws i) (formC vs rws cost i) (formB rws i) (formX rws vs.length i) := by
        refine hF8.to ?_ (fun c hc => hc.imp_right fun e => ?_) hx810
        · intro c hc
          rcases hc with hc | hc
          · exact Nat.lt_of_lt_of_le (hF8.hb c hc) hx810.size
          · rw [hc]; exact hB10.lt
        · rw [e]; exact hb10.ge (Ext.rfl w8)
      have g10 : w.heap.size ≤ b10 := hb10.ge x8
      have ne10 : b10 ≠ fb := by have h1 := hBf8.lt; have h2 := hb10.ge (Ext.rfl w8); omega
      have hyl := hrow.1.len
      refine hrow.1.inv.ts.elim fun ts hTI => ?_
      have hT := hTI.1
      have hI := hTI.2
      have hTl := hT.len
      have hIl := hI.length
      have hinr := hin i y hgy hgd.2.2
      have hXle := formX_le (rws := rws) (l := l) (fun j z hz => by
        refine (show ∃ r, rr[j]? = some r from ⟨_, List.getElem?_eq_getElem (by have := (List.getElem?_eq_some_iff.1 hz).1; omega)⟩).elim fun r hr => (hP.row j r z hr hz).1.len) vs.length i
      have hXn := formX_length rws vs.length i
      have hil : i * (l + 1) ≤ 600 * 65537 := Nat.mul_le_mul (by omega) (by omega)
      refine ⟨Nat × FS, fun x => [(1, .pointer (some ⟨b1, 0, none⟩)), (2, .pointer (some ⟨b2, 0, none⟩)), (5, .pointer (some ⟨fb, 0, none⟩)), (6, .func (.func 48) #[] #[.pointer (some ⟨fb, 0, none⟩)]), (9, .int .i64 (i : Int)), (10, .pointer (some ⟨b10, 0, none⟩)), (51, p.rows.v), (52, .int .i64 (p.rows.n : Int)), (53, .int .i64 (i : Int)), (59, r.a.v), (60, .int .i64 (r.a.n : Int)), (61, .int .i64 (x.1 : Int))],
        fun x w' => Ext w w' ∧ FI (k + 1) (fun c => h3 b1 b2 fb c ∨ c = b10) w.heap.size w' x.2 (formL vs rws i) (formU vs rws i) (formC vs rws cost i) (formB rws i) (rowT (formX rws vs.length i) (i : Int) y.1 x.1) ∧ Blk w' fb tFrm (x.2.form (p.rows.n : Int)).cs ∧ Blk w' b1 tPrg p.cs ∧ Blk w' b2 tFrm FormR.zero.cs ∧ Blk w' b10 tRow r.cs ∧ x.1 ≤ r.a.n ∧ x.2.cv = x.2.cs, fun x _ => r.a.n - x.1,
        ⟨(0, s), ⟨rfl, rfl, rfl, rfl, rfl, rfl, rfl, rfl, rfl, rfl, rfl, rfl, trivial⟩, ⟨x10, hF10, hBf8.ext hx810, hB18.ext hx810, hB28.ext hx810, hB10, Nat.zero_le _, hcv⟩⟩, ?_⟩
      clear hF10 x10 hx810 hg10 hB10 st hb10 hcv hB28 hB18 hBf8 hF8 x8
      rintro ⟨q, s⟩ w11 ⟨x11, hF11, hBf11, hB111, hB211, hB10, hq, hcv⟩
      dsimp only at *
      refine And.intro (fun h4 => ?_) (fun h4 => ?_)
      · have hqn := ltTo h4
        refine (hI.get (vget (ys := y.1) (j := q) (by omega))).elim fun t ht0 => ?_
        have ht := ht0.1
        have hat : t.at' = pl y.1 q := ht0.2.1
        have hqx := ht0.2.2
        refine ⟨q, ⟨rfl, hqn, hT.base (by omega)⟩, t.v, (hT.ext x11).load (ty := tT) ht rfl rfl, ?_⟩
        intro b12 w12 hb12
        have hs := storeTmB (w' := w12) (t := t) hb12.toBlk rfl
        refine ⟨hs.1, fun w13 hs13 => ?_⟩
        have h13 := (storeTmB (t := t) hb12.toBlk rfl).2 hs13
        have hx13 : Ext w11 w13 := Ext.grownB hb12.ext h13.2 (hb12.ge (Ext.rfl w11))
        have hB12 := h13.1
        have hF13 := hF11.ext hx13
        have hBf13 := hBf11.ext hx13
        have x13 := Ext.trans' x11 hx13
        have hr := hinr q (by omega)
        refine (show ∃ P : Nat, t.at' = (P : Int) from ⟨t.at'.toNat, by omega⟩).elim fun P hP' => ?_
        have hPn : P < vs.length := by omega
        have hgl := hF13.gd.len
        have hcl2 : s.cs.length = s.ts.length := by
          simp only [FS.ss, FS.rs, List.length_cons, List.length_map] at hgl; omega
        have htx := hF13.xl
        have hrl := rowT_length (formX rws vs.length i) (i : Int) y.1 q
        have hPc : P < s.cs.length := by omega
        have hgc := hF13.getCv
        have hcvl : s.cv.length = s.cs.length := by rw [hcv]
        refine (show ∃ u, s.cs[P]? = some u from ⟨_, List.getElem?_eq_getElem hPc⟩).elim fun u hu => ?_
        have huv : s.cv[P]? = some u := by rw [hcv]; exact hu
        refine (show ∃ t0, s.ts[P]? = some t0 from ⟨_, List.getElem?_eq_getElem (by omega)⟩).elim fun t0 ht0' => ?_
        refine (show ∃ z, (rowT (formX rws vs.length i) (i : Int) y.1 q)[P]? = some z from ⟨_, List.getElem?_eq_getElem (by omega)⟩).elim fun z hz => ?_
        have hzl := rowT_le hXle (i : Int) y.1 q z (List.mem_of_getElem? hz)
        have ht0l := (hF13.vx P t0 z ht0' hz).length
        have toH' : ∀ b, gH (fun c => h3 b1 b2 fb c ∨ c = b10) s.ss b → H0 b ∨ w.heap.size ≤ b := fun b hb => hb.elim (fun h => .inr (h.elim (fun h => h.elim (fun h => by omega) fun h => h.elim (fun h => by omega) fun h => by omega) fun h => by omega)) fun h => h.elim fun t' ht' => (List.getElem_of_mem ht'.1).elim fun j hj => hj.elim fun hj1 hj2 => .inr (hF13.gd.lt (i := j) (s := t') (by rw [← hj2]; exact List.getElem?_eq_getElem hj1) ht'.2).1
        have hq13 := (hqx.to toH').ext x13
        have huown : ∀ b, u.v.ownBlock = some b → gH (fun c => h3 b1 b2 fb c ∨ c = b10) s.ss b := fun b hb => .inr ⟨u, .tail _ (.tail _ (.tail _ (.tail _ (.tail _ (List.mem_of_getElem? hu))))), hb⟩
        have hus : s.ss[P + 5]? = some u := hu
        have hur : s.rs[P + 5]? = some (rt t0) := by
          show (s.ts.map rt)[P]? = some (rt t0)
          rw [List.getElem?_map, ht0']; rfl
        refine ⟨sqK 19 [1, 3, 16], by kernel_rfl, s.cols.v, fun w' hw _ => (hBf13.ext hw).one (off := 1) rfl rfl, .int .i64 t.at', fun w' hw _ => (hB12.ext hw).one (off := 0) rfl rfl, s.cols.v, hBf13.one (off := 1) rfl rfl, _, hB12.one (off := 0) rfl rfl, P, ⟨hP', by omega, hgc.2.base (by omega)⟩, u.v, hgc.2.load (T := tt) (ty := tV) (sz := 1) (svs_get huv) rfl rfl, t.x.v, hB12.agg (sub := rcs t.x) rfl rfl, ?_⟩
        refine dcallR (mk := RatR.v) (Q := fun r' w' => CanQ (gH (fun c => h3 b1 b2 fb c ∨ c = b10) s.ss) w' r' (xl y.1 q)) RatR.inj (fun _ => CanQ.stable) (fun w' hw hF => Norm_ok (HB.ext hF13.hbs hw) (hq13.ext hw).is) ?_
        intro rn
        intro b15 _
        intro w14 hx14 hF14
        have hF14' := hF13.ext hx14
        have hB15 : Blk w14 b15 tT (tcs [⟨(i : Int), rn⟩]) := hF14.1.1
        have hB12' : Blk w14 b12 tT (tcs [t]) := by rw [tcs_one]; exact hB12.ext hx14
        refine ⟨rfl, w.heap.size, t0.length, tcs t0, tcs [⟨(i : Int), rn⟩], ⟨hF14'.gd.own _ _ _ hus hur, rfl, ?_, tcs_mem_one _, fun _ => ⟨_, rfl, rfl⟩, by omega, by show (t0.length + 1) * 72 ≤ _; omega, Nat.le_trans x13.size hx14.size⟩, ?_⟩
        · intro e v he
          exact hB15.cell (i := 0 + e) (v := v) (by rw [Nat.zero_add]; exact he)
        intro v15 w15 ho15 hg15 hn15
        have hqf : FitQ (k + 1) (xl y.1 q) := hqx.fit
        rw [tcs_one] at ho15
        refine (hF14'.pushTerm hu ht0' hz (tm := ⟨(i : Int), rn⟩) (q := ((i : Int), xl y.1 q)) ho15 hg15 hn15 rfl hF14.2.1 hqf).elim fun s' hs' => ?_
        have k15 : KeptNew w13 w14 w15 := FI.new hF13.gd hus hg15
        have k15' : KeptNew w11 w14 w15 := FI.new hF11.gd hus hg15
        have hB12n : Blk w15 b12 tT t.cs := by
          show w15.heap[b12]? = _
          rw [k15'.blk b12 (hb12.ge (Ext.rfl w11)) (hB12.ext hx14).lt]; exact hB12.ext hx14
        have hBf15 := hF14'.blk hus hg15 (hBf13.ext hx14) (.inr (.inl (.inr (.inr rfl))))
        refine ⟨⟨k15, ⟨?_, hF14.1.2⟩, hF14.2.1.grow hg15 huown, hB12n.one (off := 0) rfl rfl, hBf15.one (off := 1) rfl rfl, trivial⟩, ?_⟩
        · show w15.heap[b15]? = _
          rw [k15.blk b15 hF14.1.2 hB15.lt]; exact hF14.1.1
        refine ⟨P, ⟨hP', by omega, hgc.2.base (by omega)⟩, ?_⟩
        intro w16 hx16 _
        have hF16 := hs'.2.ext hx16
        have st := hF16.setCv (p := P) (by show P < s.cv.length; omega) s'
        refine ⟨by rw [hs'.1]; exact st.1, fun w17 hs17 => ?_⟩
        have h17 := st.2 w17 (by rw [← hs'.1]; exact hs17)
        have hg17 := h17.1
        intro w18 hx18 _
        have hF18 := h17.2.ext hx18
        have kh : KH w.heap.size (fun c => h3 b1 b2 fb c ∨ c = b10) w13.heap.size w13 w18 :=
          (KH.ofExt hx14).trans <| (KH.row hF14' hus hg15).trans <| (KH.ofExt hx16).trans <| (KH.row hF16 (i := 4) (t := s.cols) rfl hg17).trans (KH.ofExt hx18)
        have keep : ∀ {c t' : Nat} {cs : List Value}, Blk w13 c t' cs → (h3 b1 b2 fb c ∨ c = b10) → Blk w18 c t' cs := fun hb hc => hb.kh kh (.inr hc) (Nat.ne_of_lt hb.lt)
        refine ⟨((q + 1 : Nat) : Int), sucI q (by omega), (q + 1, { s with cs := s.cs.set P s', ts := s.ts.set P (t0 ++ [⟨(i : Int), rn⟩]), cv := s.cv.set P s' }), ⟨rfl, rfl, rfl, rfl, rfl, rfl, rfl, rfl, rfl, rfl, rfl, rfl, trivial⟩, ⟨KH.ext x13 (Nat.le_refl _) x13.size kh, ?_, keep hBf13 (.inl (.inr (.inr rfl))), keep (hB111.ext hx13) (.inl (.inl rfl)), keep (hB211.ext hx13) (.inl (.inr (.inl rfl))), keep (hB10.ext hx13) (.inr rfl), hqn, ?_⟩, Nat.sub_lt_sub_left hqn (Nat.lt_succ_self q)⟩
        · have e : rowT (formX rws vs.length i) (i : Int) y.1 (q + 1) = (rowT (formX rws vs.length i) (i : Int) y.1 q).set P (z ++ [((i : Int), xl y.1 q)]) := by
            have e1 : (pl y.1 q).toNat = P := by omega
            simp only [rowT, putT]
            rw [e1, List.getD_eq_getElem?_getD, hz]; rfl
          show FI (k + 1) _ w.heap.size w18 _ (formL vs rws i) (formU vs rws i) (formC vs rws cost i) (formB rws i) (rowT (formX rws vs.length i) (i : Int) y.1 (q + 1))
          rw [e]; exact hF18
        · show s.cv.set P s' = s.cs.set P s'
          rw [hcv]
      · have hqe : q = y.1.length := by have := Nat.le_antisymm hq (geTo h4); omega
        have hX11 : rowT (formX rws vs.length i) (i : Int) y.1 q = rowT (formX rws vs.length i) (i : Int) y.1 y.1.length := by rw [hqe]
        have hgl := hF11.gd.len
        have hcl2 : s.cs.length = s.ts.length := by
          simp only [FS.ss, FS.rs, List.length_cons, List.length_map] at hgl; omega
        have htx := hF11.xl
        have hrl := rowT_length (formX rws vs.length i) (i : Int) y.1 q
        have hcvl : s.cv.length = s.cs.length := by rw [hcv]
        refine ⟨sq 10, by kernel_rfl, s.cols.v, hBf11.one (off := 1) rfl rfl, ?_⟩
        refine dcallR (mk := RatR.v) (Q := fun r' w' => CanQ (gH (fun c => h3 b1 b2 fb c ∨ c = b10) s.ss) w' r' (Rat.divInt 1 1)) RatR.inj (fun _ => CanQ.stable) (fun w' hw hF => ROf_ok (HB.ext hF11.hbs hw) (by omega) (by omega) (by omega) (by omega)) ?_
        intro r1
        intro b12 _ b13 _
        intro w12 hx12 hF12
        have hB12 : Blk w12 b12 tT (tcs [⟨(i : Int), r1⟩]) := hF12.2.1.1
        have hB13 : Blk w12 b13 tV [SlR.v ⟨some ⟨b12, 0, none⟩, 1, 1⟩] := hF12.1.1
        have g12 : w11.heap.size ≤ b12 := hF12.2.1.2
        have s11 := x11.size
        have ho12 : w12.ownsRow w.heap.size tT 5 (SlR.v ⟨some ⟨b12, 0, none⟩, 1, 1⟩) 1 (tcs [⟨(i : Int), r1⟩]) := ⟨rfl, .inr ⟨b12, 1, _, rfl, by omega, hB12, Nat.le_refl _, by decide, rfl, rfl⟩⟩
        have hqr : CanQ (gH (fun c => h3 b1 b2 fb c ∨ c = b10) (s.ss ++ [⟨some ⟨b12, 0, none⟩, 1, 1⟩])) w12 r1 1 := by
          refine (hF12.2.2.1.withT hB12).to fun b hb => .inl ?_
          rcases hb with hb | ⟨t', ht', hb⟩
          · exact .inl (.inl hb)
          · rw [List.mem_append, List.mem_singleton] at ht'
            rcases ht' with ht' | ht'
            · exact .inl (.inr ⟨t', ht', hb⟩)
            · subst ht'
              exact .inr (Option.some.inj hb).symm
        have hN := hF11.newCol (u := ⟨some ⟨b12, 0, none⟩, 1, 1⟩) (tm := ⟨(i : Int), r1⟩) (q := ((i : Int), 1)) ho12 hx12 (fun c hc => by have e := Option.some.inj hc; have e2 : b12 = c := e; omega) rfl hqr ⟨Fit.one.mono (by omega), Fit.one.mono (by omega)⟩
        refine ⟨rfl, w.heap.size, s.cv.length, svs s.cv, [SlR.v ⟨some ⟨b12, 0, none⟩, 1, 1⟩], ⟨hN.gd.own 4 _ _ rfl rfl, rfl, ?_, ?_, fun _ => ⟨_, rfl, rfl⟩, by omega, by show (s.cv.length + 1) * 24 ≤ _; omega, Nat.le_trans x11.size hx12.size⟩, ?_⟩
        · intro e v he
          exact hB13.cell (i := 0 + e) (v := v) (by rw [Nat.zero_add]; exact he)
        · exact svs_one [⟨some ⟨b12, 0, none⟩, 1, 1⟩]
        intro v14 w14 ho14 hg14 hn14
        refine (hN.pushCv ho14 hg14 hn14).elim fun cols' hc' => ?_
        intro w15 hx15 _
        have hF15 := hc'.2.ext hx15
        have hBf15 := (hN.blk (i := 4) (u := s.cols) rfl hg14 (hBf11.ext hx12) (.inr (.inl (.inr (.inr rfl))))).ext hx15
        have st := storeFC (v := cols') hBf15
        refine ⟨by rw [hc'.1]; exact st.1, fun w16 hs16 => ?_⟩
        have h16 := st.2 w16 (by rw [← hc'.1]; exact hs16)
        have hF16 := hF15.at' h16.2 (.inl (.inr (.inr rfl)))
        intro w17 hx17 _
        have hF17 := hF16.ext hx17
        have hBf17 := h16.1.ext hx17
        have kh : KH w.heap.size (fun c => h3 b1 b2 fb c ∨ c = b10) fb w11 w17 :=
          (KH.ofExt hx12).trans <| (KH.row hN (i := 4) (t := s.cols) rfl hg14).trans <| (KH.ofExt hx15).trans <| (KH.at5 h16.2).trans (KH.ofExt hx17)
        have x17 := KH.ext x11 (Nat.le_refl _) (by omega) kh
        have hB117 := hB111.kh kh (.inr (.inl (.inl rfl))) ne1f
        have hB217 := hB211.kh kh (.inr (.inl (.inr (.inl rfl)))) ne2f
        have hB1017 := hB10.kh kh (.inr (.inr rfl)) ne10
        refine ⟨p.v, hB117.agg (sub := p.cs) rfl rfl, _, hB1017.one (off := 0) rfl rfl, ?_⟩
        have toH2 : ∀ b, gH (fun c => h3 b1 b2 fb c ∨ c = b10) (FS.ss { s with cs := s.cs ++ [⟨some ⟨b12, 0, none⟩, 1, 1⟩], ts := s.ts ++ [[⟨(i : Int), r1⟩]], cols := cols', cv := s.cv ++ [⟨some ⟨b12, 0, none⟩, 1, 1⟩] }) b → H0 b ∨ w.heap.size ≤ b := fun b hb => hb.elim (fun h => .inr (h.elim (fun h => h.elim (fun h => by omega) fun h => h.elim (fun h => by omega) fun h => by omega) fun h => by omega)) fun h => h.elim fun t' ht' => (List.getElem_of_mem ht'.1).elim fun j hj => hj.elim fun hj1 hj2 => .inr (hF17.gd.lt (i := j) (s := t') (by rw [← hj2]; exact List.getElem?_eq_getElem hj1) ht'.2).1
        refine CallS.mono (Span_ok (l := l) hF17.hbs ((hP.vs.to toH2).ext x17) ((hrow.1.inv.to toH2).ext x17) hyl ⟨hk1, hl1, hK, by omega⟩) ?_
        intro v18 w18 hsp
        refine hsp.2.elim fun sl hsp2 => hsp2.elim fun sh hsp3 => ?_
        have hx18 := hsp.1
        have hv18 := hsp3.1
        have hsl := hsp3.2.1
        have hsh := hsp3.2.2
        subst hv18
        intro c13 w19 hc13 c14 w20 hc14
        have hC13 : Blk w20 c13 tRat (rcs RatR.zero) := hc13.toBlk.ext hc14.ext
        have nec : c13 ≠ c14 := by have := hc13.lt; have := hc14.isNew; omega
        have s1 := storeQ (r := sl) hC13 (hc14.extFrom hc13.ext) (hc13.ge (Ext.rfl w18)) rfl
        refine ⟨s1.1, fun w21 hs21 => ?_⟩
        have h21 := s1.2 w21 hs21
        have s2 := storeQ (r := sh) (Blk.grownN hc14.toBlk h21.2.1 (Ne.symm nec)) h21.2.2 (hc14.ge hc13.ext) rfl
        refine ⟨s2.1, fun w22 hs22 => ?_⟩
        have h22 := s2.2 w22 hs22
        have hC13' := Blk.grownN h21.1 h22.2.1 nec
        have hx22 : Ext w17 w22 := Ext.trans' hx18 h22.2.2
        intro c15 w23 hc15
        have hx23 : Ext w17 w23 := Ext.trans' hx22 hc15.ext
        refine ⟨_, (hB1017.ext hx23).one (off := 1) rfl rfl, ?_⟩
        have hC13b := hC13'.ext hc15.ext
        have hC14b := h22.1.ext hc15.ext
        have hC15 : Blk w23 c15 tRat (rcs RatR.zero) := hc15.toBlk
        have hB1023 := hB1017.ext hx23
        have hF23 := hF17.ext hx23
        have x23 := Ext.trans' x17 hx23
        refine And.intro (fun h5 => ?_) (fun h5 => ?_)
        · refine ⟨sqK 10 [9], by kernel_rfl, RatR.zero.v, loadQ hC15, RatR.zero.v, loadQ hC15, r.b.v, hB1023.agg (sub := rcs r.b) rfl rfl, sl.v, loadQ hC13b, ?_⟩
          have hbI := (hrow.2.2.to toH2).ext x23
          have hslI := hsl.1.ext (Ext.trans' h22.2.2 hc15.ext)
          have hyl' : pK k l ≤ 137438953472 := by omega
          refine dcallR (mk := RatR.v) (Q := fun r' w' => CanQ (gH (fun c => h3 b1 b2 fb c ∨ c = b10) (FS.ss { s with cs := s.cs ++ [⟨some ⟨b12, 0, none⟩, 1, 1⟩], ts := s.ts ++ [[⟨(i : Int), r1⟩]], cols := cols', cv := s.cv ++ [⟨some ⟨b12, 0, none⟩, 1, 1⟩] })) w' r' (y.2.2 - (spanQ vs y.1 y.1.length).1)) RatR.inj (fun _ => CanQ.stable) (fun w' hw hF => RSub_ok (HB.ext hF23.hbs hw) ((hbI.ext hw).mono (by omega)) ((hslI.ext hw).inq (hsl.2.mono hyl') (by omega))) ?_
          intro rs1
          have hfs : FitQ (k + 1 + pK k l + 1) (y.2.2 - (spanQ vs y.1 y.1.length).1) := FitQ.sub hbI.fit hsl.2
          refine dcallR (mk := RatR.v) (Q := fun r' w' => CanQ (gH (fun c => h3 b1 b2 fb c ∨ c = b10) (FS.ss { s with cs := s.cs ++ [⟨some ⟨b12, 0, none⟩, 1, 1⟩], ts := s.ts ++ [[⟨(i : Int), r1⟩]], cols := cols', cv := s.cv ++ [⟨some ⟨b12, 0, none⟩, 1, 1⟩] })) w' r' (maxQ 0 (y.2.2 - (spanQ vs y.1 y.1.length).1))) RatR.inj (fun _ => CanQ.stable) (fun w' hw hF => RMax_ok (HB.ext hF23.hbs hw) (InQ.zero _ _ _) (hF.1.inq (hfs.mono (by omega)) (by omega))) ?_
          intro rs2
          refine ⟨RatR.zero.v, loadQ hC15, ?_⟩
          intro w24 hx24 hF24
          have hlL : s.los.length < 1048576 := by
            have h := hF11.vl.len
            simp only [formL, List.length_append, List.length_map, List.length_take] at h; omega
          have hlU : s.his.length < 1048576 := by
            have h := hF11.vu.len
            simp only [formU, List.length_append, List.length_map, List.length_take] at h; omega
          have hlC : s.costs.length < 1048576 := by
            have h := hF11.vc.len
            simp only [formC, List.length_append, List.length_map, List.length_take, List.length_range] at h; omega
          refine CallS.mono (Side_ok (K := 137438953472) (ql := 0) (qc := 0) (hF23.ext hx24) (hBf17.ext (Ext.trans' hx23 hx24)) (.inl (.inr (.inr rfl))) (Ext.trans' x23 hx24).size (InQ.zero _ _ _) (hF24.1.inq ((fit_max (FitQ.zero (by omega)) hfs).mono (show k + 1 + pK k l + 1 ≤ 137438953472 by omega)) (by omega)) (CanQ.zero _ _) ⟨hlL, hlU, hlC⟩) ?_
          intro vv w25 hpost
          intro w26 hx26 _
          refine hpost.2.2.elim fun s' hpost' => ?_
          have hKH := hpost.2.1
          have hBf25 := hpost'.1
          have hF25 := hpost'.2.1
          have hcs := hpost'.2.2.2
          have hF26 := hF25.ext hx26
          have hBf26 := hBf25.ext hx26
          have kh26 : KH w.heap.size (fun c => h3 b1 b2 fb c ∨ c = b10) fb w17 w26 := (KH.ofExt (Ext.trans' hx23 hx24)).trans (hKH.trans (KH.ofExt hx26))
          have x26 := KH.ext x17 (Nat.le_refl _) (by omega) kh26
          have hB126 := hB117.kh kh26 (.inr (.inl (.inl rfl))) ne1f
          have hB226 := hB217.kh kh26 (.inr (.inl (.inr (.inl rfl)))) ne2f
          have hB1026 := hB1017.kh kh26 (.inr (.inr rfl)) ne10
          have toB := hF26.toBase (fun c h => h.elim (fun h => h.elim (fun h => by omega) fun h => h.elim (fun h => by omega) fun h => by omega) fun h => by omega)
          have hbI26 := (hrow.2.2.to toB).ext x26
          refine ⟨sq 9, by kernel_rfl, s'.b.v, hBf26.one (off := 5) rfl rfl, r.b.v, hB1026.agg (sub := rcs r.b) rfl rfl, ?_⟩
          refine dcallR (mk := RatR.v) (Q := fun r' w' => CanQ (gH (fun c => h3 b1 b2 fb c ∨ c = b10) s'.ss) w' r' y.2.2) RatR.inj (fun _ => CanQ.stable) (fun w' hw hF => Norm_ok (HB.ext hF26.hbs hw) (hbI26.ext hw).is) ?_
          intro rb
          intro b29 _
          intro w27 hx27 hF27
          have hF27' := hF26.ext hx27
          have hB29 : Blk w27 b29 tRat (rcs rb) := hF27.1.1
          have hbl := hF26.vb.len
          have hbl2 : (formB rws i).length ≤ 600 := by rw [formB, List.length_map, List.length_take]; omega
          refine ⟨rfl, w.heap.size, s'.bs.length, gcs s'.bs, rcs rb, ⟨hF27'.gd.own 3 _ _ rfl rfl, rfl, ?_, Enc.one rb, fun _ => ⟨_, rfl, rfl⟩, by omega, by show (s'.bs.length + 1) * 64 ≤ _; omega, Nat.le_trans x26.size hx27.size⟩, ?_⟩
          · intro e v he
            exact hB29.cell (i := 0 + e) (v := v) (by rw [Nat.zero_add]; exact he)
          intro v28 w28 ho28 hg28 hn28
          refine (hF27'.pushB ho28 hg28 hn28 hF27.2.1).elim fun b' hb' => ?_
          intro w29 hx29 _
          have hF29 := hb'.2.ext hx29
          have hBf29 := (hF27'.blk (i := 3) (u := s'.b) rfl hg28 (hBf26.ext hx27) (.inr (.inl (.inr (.inr rfl))))).ext hx29
          have st := storeF (i := 4) (v := b') hBf29 (by decide)
          refine ⟨by rw [hb'.1]; exact st.1, fun w30 hs30 => ?_⟩
          have h30 := st.2 w30 (by rw [← hb'.1]; exact hs30)
          have hF30 := hF29.at' h30.2 (.inl (.inr (.inr rfl)))
          intro w31 hx31 _
          have hF31 := hF30.ext hx31
          have hBf31 := h30.1.ext hx31
          have kh31 : KH w.heap.size (fun c => h3 b1 b2 fb c ∨ c = b10) fb w17 w31 :=
            kh26.trans <| (KH.ofExt hx27).trans <| (KH.row hF27' (i := 3) (t := s'.b) rfl hg28).trans <| (KH.ofExt hx29).trans <| (KH.at5 h30.2).trans (KH.ofExt hx31)
          refine ⟨((i + 1 : Nat) : Int), sucI i (by omega), (i + 1, { s' with b := b', bs := s'.bs ++ [rb] }), ⟨rfl, rfl, rfl, rfl, rfl, rfl, rfl, trivial⟩, ⟨KH.ext x17 (Nat.le_refl _) (by omega) kh31, FI.rowEnd hF31 hgy hqe ?_ ?_, hBf31, hB117.kh kh31 (.inr (.inl (.inl rfl))) ne1f, hB217.kh kh31 (.inr (.inl (.inr (.inl rfl)))) ne2f, hin2, ?_⟩, Nat.sub_lt_sub_left hin2 (Nat.lt_succ_self i)⟩
          rotate_right
          · show s'.cv = s'.cs
            rw [hcs.2.1, hcs.2.2.1]
            show s.cv ++ _ = s.cs ++ _
            rw [hcv]
          · have hk1' : y.2.1 = 1 := hrow.2.1.symm.trans h5
            simp only [sideL]; rw [if_pos hk1']
          · have hk1' : y.2.1 = 1 := hrow.2.1.symm.trans h5
            simp only [sideU]; rw [if_pos hk1']
        · refine And.intro (fun h6 => ?_) (fun h6 => ?_)
          · refine ⟨sqK 10 [9], by kernel_rfl, RatR.zero.v, loadQ hC15, r.b.v, hB1023.agg (sub := rcs r.b) rfl rfl, sh.v, loadQ hC14b, ?_⟩
            have hbI := (hrow.2.2.to toH2).ext x23
            have hshI := hsh.1.ext (Ext.trans' h22.2.2 hc15.ext)
            have hyl' : pK k l ≤ 137438953472 := by omega
            refine dcallR (mk := RatR.v) (Q := fun r' w' => CanQ (gH (fun c => h3 b1 b2 fb c ∨ c = b10) (FS.ss { s with cs := s.cs ++ [⟨some ⟨b12, 0, none⟩, 1, 1⟩], ts := s.ts ++ [[⟨(i : Int), r1⟩]], cols := cols', cv := s.cv ++ [⟨some ⟨b12, 0, none⟩, 1, 1⟩] })) w' r' (y.2.2 - (spanQ vs y.1 y.1.length).2)) RatR.inj (fun _ => CanQ.stable) (fun w' hw hF => RSub_ok (HB.ext hF23.hbs hw) ((hbI.ext hw).mono (by omega)) ((hshI.ext hw).inq (hsh.2.mono hyl') (by omega))) ?_
            intro rs1
            have hfs : FitQ (k + 1 + pK k l + 1) (y.2.2 - (spanQ vs y.1 y.1.length).2) := FitQ.sub hbI.fit hsh.2
            refine dcallR (mk := RatR.v) (Q := fun r' w' => CanQ (gH (fun c => h3 b1 b2 fb c ∨ c = b10) (FS.ss { s with cs := s.cs ++ [⟨some ⟨b12, 0, none⟩, 1, 1⟩], ts := s.ts ++ [[⟨(i : Int), r1⟩]], cols := cols', cv := s.cv ++ [⟨some ⟨b12, 0, none⟩, 1, 1⟩] })) w' r' (minQ 0 (y.2.2 - (spanQ vs y.1 y.1.length).2))) RatR.inj (fun _ => CanQ.stable) (fun w' hw hF => RMin_ok (HB.ext hF23.hbs hw) (InQ.zero _ _ _) (hF.1.inq (hfs.mono (by omega)) (by omega))) ?_
            intro rs2
            refine ⟨RatR.zero.v, loadQ hC15, RatR.zero.v, loadQ hC15, ?_⟩
            intro w24 hx24 hF24
            have hlL : s.los.length < 1048576 := by
              have h := hF11.vl.len
              simp only [formL, List.length_append, List.length_map, List.length_take] at h; omega
            have hlU : s.his.length < 1048576 := by
              have h := hF11.vu.len
              simp only [formU, List.length_append, List.length_map, List.length_take] at h; omega
            have hlC : s.costs.length < 1048576 := by
              have h := hF11.vc.len
              simp only [formC, List.length_append, List.length_map, List.length_take, List.length_range] at h; omega
            refine CallS.mono (Side_ok (K := 137438953472) (qh := 0) (qc := 0) (hF23.ext hx24) (hBf17.ext (Ext.trans' hx23 hx24)) (.inl (.inr (.inr rfl))) (Ext.trans' x23 hx24).size (hF24.1.inq ((fit_min (FitQ.zero (by omega)) hfs).mono (show k + 1 + pK k l + 1 ≤ 137438953472 by omega)) (by omega)) (InQ.zero _ _ _) (CanQ.zero _ _) ⟨hlL, hlU, hlC⟩) ?_
            intro vv w25 hpost
            intro w26 hx26 _
            refine hpost.2.2.elim fun s' hpost' => ?_
            have hKH := hpost.2.1
            have hBf25 := hpost'.1
            have hF25 := hpost'.2.1
            have hcs := hpost'.2.2.2
            have hF26 := hF25.ext hx26
            have hBf26 := hBf25.ext hx26
            have kh26 : KH w.heap.size (fun c => h3 b1 b2 fb c ∨ c = b10) fb w17 w26 := (KH.ofExt (Ext.trans' hx23 hx24)).trans (hKH.trans (KH.ofExt hx26))
            have x26 := KH.ext x17 (Nat.le_refl _) (by omega) kh26
            have hB126 := hB117.kh kh26 (.inr (.inl (.inl rfl))) ne1f
            have hB226 := hB217.kh kh26 (.inr (.inl (.inr (.inl rfl)))) ne2f
            have hB1026 := hB1017.kh kh26 (.inr (.inr rfl)) ne10
            have toB := hF26.toBase (fun c h => h.elim (fun h => h.elim (fun h => by omega) fun h => h.elim (fun h => by omega) fun h => by omega) fun h => by omega)
            have hbI26 := (hrow.2.2.to toB).ext x26
            refine ⟨sq 9, by kernel_rfl, s'.b.v, hBf26.one (off := 5) rfl rfl, r.b.v, hB1026.agg (sub := rcs r.b) rfl rfl, ?_⟩
            refine dcallR (mk := RatR.v) (Q := fun r' w' => CanQ (gH (fun c => h3 b1 b2 fb c ∨ c = b10) s'.ss) w' r' y.2.2) RatR.inj (fun _ => CanQ.stable) (fun w' hw hF => Norm_ok (HB.ext hF26.hbs hw) (hbI26.ext hw).is) ?_
            intro rb
            intro b29 _
            intro w27 hx27 hF27
            have hF27' := hF26.ext hx27
            have hB29 : Blk w27 b29 tRat (rcs rb) := hF27.1.1
            have hbl := hF26.vb.len
            have hbl2 : (formB rws i).length ≤ 600 := by rw [formB, List.length_map, List.length_take]; omega
            refine ⟨rfl, w.heap.size, s'.bs.length, gcs s'.bs, rcs rb, ⟨hF27'.gd.own 3 _ _ rfl rfl, rfl, ?_, Enc.one rb, fun _ => ⟨_, rfl, rfl⟩, by omega, by show (s'.bs.length + 1) * 64 ≤ _; omega, Nat.le_trans x26.size hx27.size⟩, ?_⟩
            · intro e v he
              exact hB29.cell (i := 0 + e) (v := v) (by rw [Nat.zero_add]; exact he)
            intro v28 w28 ho28 hg28 hn28
            refine (hF27'.pushB ho28 hg28 hn28 hF27.2.1).elim fun b' hb' => ?_
            intro w29 hx29 _
            have hF29 := hb'.2.ext hx29
            have hBf29 := (hF27'.blk (i := 3) (u := s'.b) rfl hg28 (hBf26.ext hx27) (.inr (.inl (.inr (.inr rfl))))).ext hx29
            have st := storeF (i := 4) (v := b') hBf29 (by decide)
            refine ⟨by rw [hb'.1]; exact st.1, fun w30 hs30 => ?_⟩
            have h30 := st.2 w30 (by rw [← hb'.1]; exact hs30)
            have hF30 := hF29.at' h30.2 (.inl (.inr (.inr rfl)))
            intro w31 hx31 _
            have hF31 := hF30.ext hx31
            have hBf31 := h30.1.ext hx31
            have kh31 : KH w.heap.size (fun c => h3 b1 b2 fb c ∨ c = b10) fb w17 w31 :=
              kh26.trans <| (KH.ofExt hx27).trans <| (KH.row hF27' (i := 3) (t := s'.b) rfl hg28).trans <| (KH.ofExt hx29).trans <| (KH.at5 h30.2).trans (KH.ofExt hx31)
            refine ⟨((i + 1 : Nat) : Int), sucI i (by omega), (i + 1, { s' with b := b', bs := s'.bs ++ [rb] }), ⟨rfl, rfl, rfl, rfl, rfl, rfl, rfl, trivial⟩, ⟨KH.ext x17 (Nat.le_refl _) (by omega) kh31, FI.rowEnd hF31 hgy hqe ?_ ?_, hBf31, hB117.kh kh31 (.inr (.inl (.inl rfl))) ne1f, hB217.kh kh31 (.inr (.inl (.inr (.inl rfl)))) ne2f, hin2, ?_⟩, Nat.sub_lt_sub_left hin2 (Nat.lt_succ_self i)⟩
            rotate_right
            · show s'.cv = s'.cs
              rw [hcs.2.1, hcs.2.2.1]
              show s.cv ++ _ = s.cs ++ _
              rw [hcv]
            · have hk1' : y.2.1 = 3 := hrow.2.1.symm.trans h6
              simp only [sideL]; rw [if_neg (by omega), if_pos hk1']
            · have hk1' : y.2.1 = 3 := hrow.2.1.symm.trans h6
              simp only [sideU]; rw [if_neg (by omega)]
          · refine ⟨RatR.zero.v, loadQ hC15, RatR.zero.v, loadQ hC15, RatR.zero.v, loadQ hC15, ?_⟩
            have hx24 := Ext.rfl w23
            have hlL : s.los.length < 1048576 := by
              have h := hF11.vl.len
              simp only [formL, List.length_append, List.length_map, List.length_take] at h; omega
            have hlU : s.his.length < 1048576 := by
              have h := hF11.vu.len
              simp only [formU, List.length_append, List.length_map, List.length_take] at h; omega
            have hlC : s.costs.length < 1048576 := by
              have h := hF11.vc.len
              simp only [formC, List.length_append, List.length_map, List.length_take, List.length_range] at h; omega
            refine CallS.mono (Side_ok (K := 137438953472) (ql := 0) (qh := 0) (qc := 0) hF23 (hBf17.ext hx23) (.inl (.inr (.inr rfl))) x23.size (InQ.zero _ _ _) (InQ.zero _ _ _) (CanQ.zero _ _) ⟨hlL, hlU, hlC⟩) ?_
            intro vv w26 hpost
            have hx26 := Ext.rfl w26
            refine hpost.2.2.elim fun s' hpost' => ?_
            have hKH := hpost.2.1
            have hBf25 := hpost'.1
            have hF25 := hpost'.2.1
            have hcs := hpost'.2.2.2
            have hF26 := hF25.ext hx26
            have hBf26 := hBf25.ext hx26
            have kh26 : KH w.heap.size (fun c => h3 b1 b2 fb c ∨ c = b10) fb w17 w26 := (KH.ofExt (Ext.trans' hx23 hx24)).trans (hKH.trans (KH.ofExt hx26))
            have x26 := KH.ext x17 (Nat.le_refl _) (by omega) kh26
            have hB126 := hB117.kh kh26 (.inr (.inl (.inl rfl))) ne1f
            have hB226 := hB217.kh kh26 (.inr (.inl (.inr (.inl rfl)))) ne2f
            have hB1026 := hB1017.kh kh26 (.inr (.inr rfl)) ne10
            have toB := hF26.toBase (fun c h => h.elim (fun h => h.elim (fun h => by omega) fun h => h.elim (fun h => by omega) fun h => by omega) fun h => by omega)
            have hbI26 := (hrow.2.2.to toB).ext x26
            refine ⟨sq 9, by kernel_rfl, s'.b.v, hBf26.one (off := 5) rfl rfl, r.b.v, hB1026.agg (sub := rcs r.b) rfl rfl, ?_⟩
            refine dcallR (mk := RatR.v) (Q := fun r' w' => CanQ (gH (fun c => h3 b1 b2 fb c ∨ c = b10) s'.ss) w' r' y.2.2) RatR.inj (fun _ => CanQ.stable) (fun w' hw hF => Norm_ok (HB.ext hF26.hbs hw) (hbI26.ext hw).is) ?_
            intro rb
            intro b29 _
            intro w27 hx27 hF27
            have hF27' := hF26.ext hx27
            have hB29 : Blk w27 b29 tRat (rcs rb) := hF27.1.1
            have hbl := hF26.vb.len
            have hbl2 : (formB rws i).length ≤ 600 := by rw [formB, List.length_map, List.length_take]; omega
            refine ⟨rfl, w.heap.size, s'.bs.length, gcs s'.bs, rcs rb, ⟨hF27'.gd.own 3 _ _ rfl rfl, rfl, ?_, Enc.one rb, fun _ => ⟨_, rfl, rfl⟩, by omega, by show (s'.bs.length + 1) * 64 ≤ _; omega, Nat.le_trans x26.size hx27.size⟩, ?_⟩
            · intro e v he
              exact hB29.cell (i := 0 + e) (v := v) (by rw [Nat.zero_add]; exact he)
            intro v28 w28 ho28 hg28 hn28
            refine (hF27'.pushB ho28 hg28 hn28 hF27.2.1).elim fun b' hb' => ?_
            intro w29 hx29 _
            have hF29 := hb'.2.ext hx29
            have hBf29 := (hF27'.blk (i := 3) (u := s'.b) rfl hg28 (hBf26.ext hx27) (.inr (.inl (.inr (.inr rfl))))).ext hx29
            have st := storeF (i := 4) (v := b') hBf29 (by decide)
            refine ⟨by rw [hb'.1]; exact st.1, fun w30 hs30 => ?_⟩
            have h30 := st.2 w30 (by rw [← hb'.1]; exact hs30)
            have hF30 := hF29.at' h30.2 (.inl (.inr (.inr rfl)))
            intro w31 hx31 _
            have hF31 := hF30.ext hx31
            have hBf31 := h30.1.ext hx31
            have kh31 : KH w.heap.size (fun c => h3 b1 b2 fb c ∨ c = b10) fb w17 w31 :=
              kh26.trans <| (KH.ofExt hx27).trans <| (KH.row hF27' (i := 3) (t := s'.b) rfl hg28).trans <| (KH.ofExt hx29).trans <| (KH.at5 h30.2).trans (KH.ofExt hx31)
            refine ⟨((i + 1 : Nat) : Int), sucI i (by omega), (i + 1, { s' with b := b', bs := s'.bs ++ [rb] }), ⟨rfl, rfl, rfl, rfl, rfl, rfl, rfl, trivial⟩, ⟨KH.ext x17 (Nat.le_refl _) (by omega) kh31, FI.rowEnd hF31 hgy hqe ?_ ?_, hBf31, hB117.kh kh31 (.inr (.inl (.inl rfl))) ne1f, hB217.kh kh31 (.inr (.inl (.inr (.inl rfl)))) ne2f, hin2, ?_⟩, Nat.sub_lt_sub_left hin2 (Nat.lt_succ_self i)⟩
            rotate_right
            · show s'.cv = s'.cs
              rw [hcs.2.1, hcs.2.2.1]
              show s.cv ++ _ = s.cs ++ _
              rw [hcv]
            · have hk1' : y.2.1 ≠ 1 := fun e => h5 (hrow.2.1.trans e)
              have hk3' : y.2.1 ≠ 3 := fun e => h6 (hrow.2.1.trans e)
              simp only [sideL]; rw [if_neg hk1', if_neg hk3']
            · have hk1' : y.2.1 ≠ 1 := fun e => h5 (hrow.2.1.trans e)
              simp only [sideU]; rw [if_neg hk1']
    · have hi2 : i = rws.length := by have := Nat.le_antisymm hi (geTo h3'); omega
      refine ⟨_, hBf8.agg (sub := (s.form (p.rows.n : Int)).cs) rfl rfl, ?_⟩
      have st := storeE (T := tt) (ty := tFrm) (s.form (p.rows.n : Int)) hB28 rfl
      refine ⟨st.1, fun w9 hs9 => ?_⟩
      have hB9 := (st.2 w9 hs9).1
      have hg9 := (st.2 w9 hs9).2
      refine ⟨(s.form (p.rows.n : Int)).v, hB9.agg (sub := (s.form (p.rows.n : Int)).cs) rfl rfl, ?_⟩
      have hF9 := hF8.at' hg9 (.inr (.inl rfl))
      have hE : FI (k + 1) H0 w.heap.size w9 s (formL vs rws i) (formU vs rws i) (formC vs rws cost i) (formB rws i) (formX rws vs.length i) := hF9.to (H0.hb w9) (fun b hb => hb.elim) (Ext.rfl w9)
      rw [hi2] at hE
      have er : (p.rows.n : Int) = (rws.length : Int) := by omega
      exact ⟨Ext.grownB x8 hg9 g2, s.form (p.rows.n : Int), 0, rfl, .inr ⟨hgood, rfl, s, by rw [er], hcv, hE⟩⟩
end Go.Proofs.Ytpgagepleffjlaa
/-
  Contracts of the layer program: the first thing that a point breaks. Helpers; no statement of the program is proved here.
-/
set_option maxRecDepth 100000
set_option linter.unusedSimpArgs false
set_option linter.unusedVariables false
namespace Go.Proofs.Ytpgagepleffjlaa
open Go Go.Tw Go.RowKit
attribute [local irreducible] LoadAt StoreOk Stored rawVC

def badV (vs : VS) (qs : List Rat) (j : Nat) : Bool := decide (qs.getD j 0 < (vs.getD j default).1) || decide ((vs.getD j default).2.1 < qs.getD j 0)
def rowQ (rws : RWS) (qs : List Rat) (j : Nat) : Rat := timesQ (rws.getD j default).1 qs (rws.getD j default).1.length
def badR (rws : RWS) (qs : List Rat) (j : Nat) : Bool := (decide ((rws.getD j default).2.2 < rowQ rws qs j) && (decide ((rws.getD j default).2.1 = 1) || decide ((rws.getD j default).2.1 = 2))) || (decide (rowQ rws qs j < (rws.getD j default).2.2) && (decide ((rws.getD j default).2.1 = 3) || decide ((rws.getD j default).2.1 = 2)))
def badI (vs : VS) (qs : List Rat) (j : Nat) : Bool := (vs.getD j default).2.2 && !decide ((qs.getD j 0).den = 1)
def firstAt (p : Nat → Bool) (n : Nat) : Option Nat := (List.range n).find? p
theorem firstAt_some {p : Nat → Bool} {n i : Nat} (h : ∀ j, j < i → p j = false) (hp : p i = true) (hi : i < n) : firstAt p n = some i := by
  unfold firstAt
  rw [List.find?_range_eq_some]
  exact ⟨hp, List.mem_range.2 hi, fun j hj => by rw [h j hj]; rfl⟩
theorem firstAt_none {p : Nat → Bool} {n : Nat} (h : ∀ j, j < n → p j = false) : firstAt p n = none := by
  unfold firstAt
  rw [List.find?_range_eq_none]
  exact fun j hj => by rw [h j hj]; rfl
/-- The first thing that a point breaks. -/
def brokenQ (vs : VS) (rws : RWS) (qs : List Rat) : Int × Int :=
  if qs.length ≠ vs.length then (4, 0) else
  match firstAt (badV vs qs) vs.length with
  | some i => (1, (i : Int))
  | none => match firstAt (badR rws qs) rws.length with
    | some i => (2, (i : Int))
    | none => match firstAt (badI vs qs) vs.length with
      | some i => (3, (i : Int))
      | none => (0, 0)
section
variable {k l : Nat} {w : World} {p : PrgR} {vr : List VarR} {rr : List RowR} {vs : VS} {rws : RWS} {cost : VL}
theorem Broken_ok {rp : SlR} {rs : List RatR} {qs : List Rat} (hP : PrgI k l w p vr rr vs rws cost) (hp : PtI k H0 w rp rs qs) (hk : k ≤ 16777216 ∧ l ≤ 65536 ∧ pK k l ≤ 34359738368 ∧ rp.n ≤ 1099511627776)
    (hn : p.vars.n ≤ 1099511627776 ∧ p.rows.n ≤ 1099511627776) :
    CallS Try.prog 60 #[p.v, rp.v] w fun v w' => Ext w w' ∧ v = .tuple #[.int .i64 (brokenQ vs rws qs).1, .int .i64 (brokenQ vs rws qs).2] := by
  obtain ⟨hk1, hl1, hK, hn40⟩ := hk
  obtain ⟨hn1, hn2⟩ := hn
  have hvn := hP.vars.len
  have hvl := hP.vlen
  have hrn := hP.rows.len
  have hrl := hP.rlen
  have hpl := hp.row.len
  have hql := hp.len
  refine enter ttOk mixed (args := [p.v, rp.v]) Try.func60 rfl (by kernel_rfl) (by kernel_rfl) rfl ?_
  intro b2 w1 hb2
  have x1 := hb2.ext
  have hB1 : Blk w1 b2 tPrg p.cs := hb2.toBlk
  refine ⟨_, hB1.one (off := 0) rfl rfl, ?_⟩
  refine And.intro (fun h1 => ?_) (fun h1 => ?_)
  · have e : brokenQ vs rws qs = (4, 0) := by unfold brokenQ; rw [if_pos (by omega)]
    exact ⟨x1, by rw [e]; rfl⟩
  have hlen : qs.length = vs.length := by omega
  refine ⟨_, hB1.one (off := 0) rfl rfl, ?_⟩
  refine ⟨Nat, fun x => [(1, rp.v), (2, .pointer (some ⟨b2, 0, none⟩)), (20, p.vars.v), (21, .int .i64 (p.vars.n : Int)), (22, .int .i64 (x : Int))],
    fun x w' => Ext w1 w' ∧ x ≤ p.vars.n ∧ ∀ j, j < x → badV vs qs j = false, fun x _ => p.vars.n - x, ⟨0, ⟨rfl, rfl, rfl, rfl, rfl, trivial⟩, Ext.rfl w1, Nat.zero_le _, fun j h => absurd h (Nat.not_lt_zero _)⟩, ?_⟩
  rintro i w3 ⟨hx3, hi, hbv⟩
  have hx03 := Ext.trans' x1 hx3
  refine And.intro (fun h3 => ?_) (fun h3 => ?_)
  · have hin := ltTo h3
    have hg := gr_getD hP.vars hin
    have hgx : vs[i]? = some (vs.getD i default) := by rw [List.getD_eq_getElem?_getD, List.getElem?_eq_getElem (by omega)]; rfl
    have hgp := gr_getD hp.row (j := i) (by omega)
    have hgq : qs[i]? = some (qs.getD i 0) := by rw [List.getD_eq_getElem?_getD, List.getElem?_eq_getElem (by omega)]; rfl
    have hxq := hp.at' i _ _ hgp hgq
    obtain ⟨hlo, hhi, _⟩ := hP.var i _ _ hg hgx
    refine ⟨i, ⟨rfl, hin, hP.vars.base (by omega)⟩, _, (hP.vars.ext hx03).load hg rfl rfl, ?_⟩
    intro b5 w4 hb5
    have st := storeE (T := tt) (ty := tVar) (vr.getD i default) hb5.toBlk rfl
    refine ⟨st.1, fun w5 hs5 => ?_⟩
    obtain ⟨hB5, hg5⟩ := st.2 w5 hs5
    have hx35 : Ext w3 w5 := Ext.grownB hb5.ext hg5 (hb5.ge (Ext.rfl w3))
    have hx05 := Ext.trans' hx03 hx35
    have hpx := hp.row.ext hx05
    refine ⟨sq 18, by kernel_rfl, i, ⟨rfl, by omega, hpx.base (by omega)⟩, _, hpx.load hgp rfl rfl, (vr.getD i default).lo.v, hB5.agg (sub := rcs (vr.getD i default).lo) rfl rfl, ?_⟩
    refine dcallV (.int .i64 (cmpQ (qs.getD i 0) (vs.getD i default).1)) (fun w' hw hF => RCmp_ok (H0.hb w') ((hxq.ext (Ext.trans' hx05 hw)).mono (by omega)) ((hlo.ext (Ext.trans' hx05 hw)).mono (by omega))) ?_
    have bad : badV vs qs i = true → ∀ w', Ext w5 w' → (Ext w w' ∧ oneOrTuple ([] ++ [Value.int IntKind.i64 1] ++ [Value.int IntKind.i64 (i : Int)]) = .tuple #[.int .i64 (brokenQ vs rws qs).1, .int .i64 (brokenQ vs rws qs).2]) := by
      intro hb w' hx'
      have e : brokenQ vs rws qs = (1, (i : Int)) := by
        unfold brokenQ
        rw [if_neg (by omega), firstAt_some hbv hb (by omega)]
      exact ⟨Ext.trans' hx05 hx', by rw [e]; rfl⟩
    refine And.intro (fun h4 => ?_) (fun h4 => ?_)
    · intro w6 hx6 _
      exact bad (by have h5 := cmpQ_neg.1 h4; simp only [badV, h5, decide_true, Bool.true_or]) w6 hx6
    · refine ⟨i, ⟨rfl, by omega, hpx.base (by omega)⟩, _, hpx.load hgp rfl rfl, (vr.getD i default).hi.v, hB5.agg (sub := rcs (vr.getD i default).hi) rfl rfl, ?_⟩
      refine dcallV (.int .i64 (cmpQ (qs.getD i 0) (vs.getD i default).2.1)) (fun w' hw hF => RCmp_ok (H0.hb w') ((hxq.ext (Ext.trans' hx05 hw)).mono (by omega)) ((hhi.ext (Ext.trans' hx05 hw)).mono (by omega))) ?_
      refine And.intro (fun h5 => ?_) (fun h5 => ?_)
      · intro w6 hx6 _
        exact bad (by have h6 := cmpQ_pos.1 h5; simp only [badV, h6, decide_true, Bool.or_true]) w6 hx6
      · intro w6 hx6 _
        refine ⟨((i + 1 : Nat) : Int), sucI i (by omega), i + 1, ⟨rfl, rfl, rfl, rfl, rfl, trivial⟩, ⟨Ext.trans' (Ext.trans' hx3 hx35) hx6, hin, fun j hj => ?_⟩, Nat.sub_lt_sub_left hin (Nat.lt_succ_self i)⟩
        rcases Nat.lt_or_eq_of_le (Nat.le_of_lt_succ hj) with h | h
        · exact hbv j h
        · subst h
          have h6 : ¬ qs.getD j 0 < (vs.getD j default).1 := fun h => h4 (cmpQ_neg.2 h)
          have h7 : ¬ (vs.getD j default).2.1 < qs.getD j 0 := fun h => h5 (cmpQ_pos.2 h)
          simp only [badV, h6, h7, decide_false, Bool.or_self]
  · have hi' : i = p.vars.n := Nat.le_antisymm hi (geTo h3)
    have nV : firstAt (badV vs qs) vs.length = none := firstAt_none (fun j hj => hbv j (by omega))
    have hB3 := hB1.ext hx3
    refine ⟨_, hB3.one (off := 1) rfl rfl, ?_⟩
    refine ⟨Nat, fun x => [(1, rp.v), (2, .pointer (some ⟨b2, 0, none⟩)), (48, p.rows.v), (49, .int .i64 (p.rows.n : Int)), (50, .int .i64 (x : Int))],
      fun x w' => Ext w1 w' ∧ x ≤ p.rows.n ∧ ∀ j, j < x → badR rws qs j = false, fun x _ => p.rows.n - x, ⟨0, ⟨rfl, rfl, rfl, rfl, rfl, trivial⟩, hx3, Nat.zero_le _, fun j h => absurd h (Nat.not_lt_zero _)⟩, ?_⟩
    rintro q w4 ⟨hx4, hq, hbr⟩
    have hx04 := Ext.trans' x1 hx4
    refine And.intro (fun h4 => ?_) (fun h4 => ?_)
    · have hqn := ltTo h4
      have hg := gr_getD hP.rows hqn
      have hgx : rws[q]? = some (rws.getD q default) := by rw [List.getD_eq_getElem?_getD, List.getElem?_eq_getElem (by omega)]; rfl
      obtain ⟨hra, hrk, hrb⟩ := hP.row q _ _ hg hgx
      refine ⟨q, ⟨rfl, hqn, hP.rows.base (by omega)⟩, _, (hP.rows.ext hx04).load hg rfl rfl, ?_⟩
      intro b7 w5 hb7
      have st := storeE (T := tt) (ty := tRow) (rr.getD q default) hb7.toBlk rfl
      refine ⟨st.1, fun w6 hs6 => ?_⟩
      obtain ⟨hB6, hg6⟩ := st.2 w6 hs6
      have hx46 : Ext w4 w6 := Ext.grownB hb7.ext hg6 (hb7.ge (Ext.rfl w4))
      have hx06 := Ext.trans' hx04 hx46
      refine ⟨sq 8, by kernel_rfl, (rr.getD q default).a.v, hB6.one (off := 0) rfl rfl, ?_⟩
      refine dcallR (mk := RatR.v) (Q := fun r' w' => CanQ H0 w' r' (rowQ rws qs q) ∧ FitQ (pK k l) (rowQ rws qs q)) RatR.inj (fun _ => fun _ _ h e => ⟨h.1.ext e, h.2⟩) (fun w' hw hF => CallS.mono (ptimes_ok (H0.hb w') (hra.inv.ext (Ext.trans' hx06 hw)) (hp.ext (Ext.trans' hx06 hw)) hra.len ⟨hk1, hl1, hK, hn40⟩) (fun v' w'' h => ⟨h.1, h.2.elim fun r hr => ⟨r, hr.1, hr.2⟩⟩)) ?_
      intro rt
      refine ⟨(rr.getD q default).b.v, hB6.agg (sub := rcs (rr.getD q default).b) rfl rfl, ?_⟩
      refine dcallV (.int .i64 (cmpQ (rowQ rws qs q) (rws.getD q default).2.2)) (fun w' hw hF => RCmp_ok (H0.hb w') (hF.1.1.inq (hF.1.2.mono (by omega)) (by omega)) ((hrb.ext (Ext.trans' hx06 hw)).mono (by omega))) ?_
      intro w7 hx7 _
      have hB7 := hB6.ext hx7
      have x7 := Ext.trans' hx06 hx7
      have hgo : badR rws qs q = false → ∀ w', Ext w7 w' → (Ext w1 w' ∧ q + 1 ≤ p.rows.n ∧ ∀ j, j < q + 1 → badR rws qs j = false) := by
        intro hb w' hx'
        refine ⟨Ext.trans' (Ext.trans' (Ext.trans' hx4 hx46) hx7) hx', hqn, fun j hj => ?_⟩
        rcases Nat.lt_or_eq_of_le (Nat.le_of_lt_succ hj) with h | h
        · exact hbr j h
        · subst h; exact hb
      have bad : badR rws qs q = true → ∀ w', Ext w7 w' → (Ext w w' ∧ oneOrTuple ([] ++ [Value.int IntKind.i64 2] ++ [Value.int IntKind.i64 (q : Int)]) = .tuple #[.int .i64 (brokenQ vs rws qs).1, .int .i64 (brokenQ vs rws qs).2]) := by
        intro hb w' hx'
        have e : brokenQ vs rws qs = (2, (q : Int)) := by
          unfold brokenQ
          rw [if_neg (by omega), nV, firstAt_some hbr hb (by omega)]
        exact ⟨Ext.trans' x7 hx', by rw [e]; rfl⟩
      have dgt : decide ((rws.getD q default).2.2 < rowQ rws qs q) = decide (cmpQ (rowQ rws qs q) (rws.getD q default).2.2 > 0) := decide_eq_decide.2 cmpQ_pos.symm
      have dlt : decide (rowQ rws qs q < (rws.getD q default).2.2) = decide (cmpQ (rowQ rws qs q) (rws.getD q default).2.2 < 0) := decide_eq_decide.2 cmpQ_neg.symm
      have eb : badR rws qs q = ((decide (cmpQ (rowQ rws qs q) (rws.getD q default).2.2 > 0) && (decide ((rr.getD q default).kind = 1) || decide ((rr.getD q default).kind = 2))) || (decide (cmpQ (rowQ rws qs q) (rws.getD q default).2.2 < 0) && (decide ((rr.getD q default).kind = 3) || decide ((rr.getD q default).kind = 2)))) := by
        unfold badR; rw [dgt, dlt, hrk]
      refine And.intro (fun h5 => ?_) (fun h5 => ?_)
      · have d5 := decide_eq_true h5
        refine ⟨_, hB7.one (off := 1) rfl rfl, ?_⟩
        refine And.intro (fun h6 => ?_) (fun h6 => ?_)
        · exact bad (by rw [eb, d5, decide_eq_true h6]; rfl) w7 (Ext.rfl w7)
        · refine ⟨_, hB7.one (off := 1) rfl rfl, ?_⟩
          refine And.intro (fun h7 => ?_) (fun h7 => ?_)
          · exact bad (by rw [eb, d5, decide_eq_true h7, Bool.or_true]; rfl) w7 (Ext.rfl w7)
          · refine And.intro (fun h8 => absurd h5 (by omega)) (fun h8 => ?_)
            refine ⟨((q + 1 : Nat) : Int), sucI q (by omega), q + 1, ⟨rfl, rfl, rfl, rfl, rfl, trivial⟩, hgo (by rw [eb, decide_eq_false h6, decide_eq_false h7, decide_eq_false h8, Bool.or_self, Bool.and_false, Bool.false_and, Bool.or_self]) w7 (Ext.rfl w7), Nat.sub_lt_sub_left hqn (Nat.lt_succ_self q)⟩
      · have d5 := decide_eq_false h5
        refine And.intro (fun h8 => ?_) (fun h8 => ?_)
        · have d8 := decide_eq_true h8
          refine ⟨_, hB7.one (off := 1) rfl rfl, ?_⟩
          refine And.intro (fun h6 => ?_) (fun h6 => ?_)
          · exact bad (by rw [eb, d5, d8, decide_eq_true h6, Bool.false_and]; rfl) w7 (Ext.rfl w7)
          · refine ⟨_, hB7.one (off := 1) rfl rfl, ?_⟩
            refine And.intro (fun h7 => ?_) (fun h7 => ?_)
            · exact bad (by rw [eb, d5, d8, decide_eq_true h7, Bool.false_and, Bool.or_true]; rfl) w7 (Ext.rfl w7)
            · refine ⟨((q + 1 : Nat) : Int), sucI q (by omega), q + 1, ⟨rfl, rfl, rfl, rfl, rfl, trivial⟩, hgo (by rw [eb, d5, decide_eq_false h6, decide_eq_false h7, Bool.or_self, Bool.and_false, Bool.false_and, Bool.or_self]) w7 (Ext.rfl w7), Nat.sub_lt_sub_left hqn (Nat.lt_succ_self q)⟩
        · refine ⟨((q + 1 : Nat) : Int), sucI q (by omega), q + 1, ⟨rfl, rfl, rfl, rfl, rfl, trivial⟩, hgo (by rw [eb, d5, decide_eq_false h8, Bool.false_and, Bool.false_and, Bool.or_self]) w7 (Ext.rfl w7), Nat.sub_lt_sub_left hqn (Nat.lt_succ_self q)⟩
    · have hq' : q = p.rows.n := Nat.le_antisymm hq (geTo h4)
      have nR : firstAt (badR rws qs) rws.length = none := firstAt_none (fun j hj => hbr j (by omega))
      have hB4 := hB1.ext hx4
      refine ⟨_, hB4.one (off := 0) rfl rfl, ?_⟩
      refine ⟨Nat, fun x => [(1, rp.v), (2, .pointer (some ⟨b2, 0, none⟩)), (91, p.vars.v), (92, .int .i64 (p.vars.n : Int)), (93, .int .i64 (x : Int))],
        fun x w' => Ext w1 w' ∧ x ≤ p.vars.n ∧ ∀ j, j < x → badI vs qs j = false, fun x _ => p.vars.n - x, ⟨0, ⟨rfl, rfl, rfl, rfl, rfl, trivial⟩, hx4, Nat.zero_le _, fun j h => absurd h (Nat.not_lt_zero _)⟩, ?_⟩
      rintro t w5 ⟨hx5, ht, hbi⟩
      have hx05 := Ext.trans' x1 hx5
      refine And.intro (fun h5 => ?_) (fun h5 => ?_)
      · have htn := ltTo h5
        have hg := gr_getD hP.vars htn
        have hgx : vs[t]? = some (vs.getD t default) := by rw [List.getD_eq_getElem?_getD, List.getElem?_eq_getElem (by omega)]; rfl
        have hgp := gr_getD hp.row (j := t) (by omega)
        have hgq : qs[t]? = some (qs.getD t 0) := by rw [List.getD_eq_getElem?_getD, List.getElem?_eq_getElem (by omega)]; rfl
        have hxq := hp.at' t _ _ hgp hgq
        obtain ⟨_, _, hint⟩ := hP.var t _ _ hg hgx
        refine ⟨t, ⟨rfl, htn, hP.vars.base (by omega)⟩, _, (hP.vars.ext hx05).load hg rfl rfl, ?_⟩
        intro b7 w6 hb7
        have st := storeE (T := tt) (ty := tVar) (vr.getD t default) hb7.toBlk rfl
        refine ⟨st.1, fun w7 hs7 => ?_⟩
        obtain ⟨hB7, hg7⟩ := st.2 w7 hs7
        have hx57 : Ext w5 w7 := Ext.grownB hb7.ext hg7 (hb7.ge (Ext.rfl w5))
        have hx07 := Ext.trans' hx05 hx57
        have hpx := hp.row.ext hx07
        have hgo : badI vs qs t = false → ∀ w', Ext w7 w' → (Ext w1 w' ∧ t + 1 ≤ p.vars.n ∧ ∀ j, j < t + 1 → badI vs qs j = false) := by
          intro hb w' hx'
          refine ⟨Ext.trans' (Ext.trans' hx5 hx57) hx', htn, fun j hj => ?_⟩
          rcases Nat.lt_or_eq_of_le (Nat.le_of_lt_succ hj) with h | h
          · exact hbi j h
          · subst h; exact hb
        refine ⟨_, hB7.one (off := 8) rfl rfl, ?_⟩
        cases hib : (vr.getD t default).int with
        | false =>
          have eb : badI vs qs t = false := by unfold badI; rw [← hint, hib, Bool.false_and]
          exact ⟨((t + 1 : Nat) : Int), sucI t (by omega), t + 1, ⟨rfl, rfl, rfl, rfl, rfl, trivial⟩, hgo eb w7 (Ext.rfl w7), Nat.sub_lt_sub_left htn (Nat.lt_succ_self t)⟩
        | true =>
          refine ⟨t, ⟨rfl, by omega, hpx.base (by omega)⟩, _, hpx.load hgp rfl rfl, ?_⟩
          refine CallS.mono (RIsWhole_ok (H0.hb w7) (hxq.ext hx07).is) ?_
          rintro _ w8 ⟨hx8, rfl⟩
          cases hd : decide ((qs.getD t 0).den = 1) with
          | true =>
            have eb : badI vs qs t = false := by unfold badI; rw [hd, Bool.not_true, Bool.and_false]
            exact ⟨((t + 1 : Nat) : Int), sucI t (by omega), t + 1, ⟨rfl, rfl, rfl, rfl, rfl, trivial⟩, hgo eb w8 hx8, Nat.sub_lt_sub_left htn (Nat.lt_succ_self t)⟩
          | false =>
            have eb : badI vs qs t = true := by unfold badI; rw [← hint, hib, hd]; rfl
            have e : brokenQ vs rws qs = (3, (t : Int)) := by
              unfold brokenQ
              rw [if_neg (by omega), nV, nR, firstAt_some hbi eb (by omega)]
            exact ⟨Ext.trans' hx07 hx8, by rw [e]; rfl⟩
      · have e : brokenQ vs rws qs = (0, 0) := by
          have ht' : t = p.vars.n := Nat.le_antisymm ht (geTo h5)
          unfold brokenQ
          rw [if_neg (by omega), nV, nR, firstAt_none (fun j hj => hbi j (by omega))]
        exact ⟨hx05, by rw [e]; rfl⟩
end
end Go.Proofs.Ytpgagepleffjlaa
/-
  Contracts of the layer matrix: a matrix turned. Helpers; no statement of the program is proved here.
-/
set_option maxRecDepth 100000
set_option linter.unusedSimpArgs false
set_option linter.unusedVariables false
namespace Go.Proofs.Ytpgagepleffjlaa
open Go Go.Tw Go.RowKit
attribute [local irreducible] LoadAt StoreOk Stored rawVC

theorem TurnNo_ok {w : World} {a : Option Addr} {n c : Nat} {N : Int} (hN : N < 0 ∨ 65536 < N) :
    CallS Try.prog 36 #[.slice a n c, .int .i64 N] w fun v w' => Ext w w' ∧ v = .tuple #[.slice none 0 0, .int .i64 2] := by
  refine enter ttOk mixed (args := [.slice a n c, .int .i64 N]) Try.func36 rfl (by kernel_rfl) (by kernel_rfl) rfl ?_
  refine And.intro (fun h1 => ?_) (fun h1 => ?_)
  · exact ⟨Ext.rfl w, rfl⟩
  · refine And.intro (fun h2 => ?_) (fun h2 => ?_)
    · exact ⟨Ext.rfl w, rfl⟩
    · exfalso; omega
structure TurnI (K : Nat) (w : World) (b n : Nat) (w' : World) (ss : List SlR) (zss : List VL) : Prop where
  ext : Ext w w'
  blk : Blk w' b tV (svs ss ++ [])
  grid : Grid K (fun c => c = b) (b + 1) w' ss zss
  len : ss.length = n
  lt : b < w'.heap.size
theorem TurnI.go {K : Nat} {w : World} {b n : Nat} {w' w'' : World} {ss : List SlR} {zss : List VL} (h : TurnI K w b n w' ss zss) (e : Ext w' w'') : TurnI K w b n w'' ss zss :=
  ⟨Ext.trans' h.ext e, h.blk.ext e, h.grid.ext e, h.len, Nat.lt_of_lt_of_le h.lt e.size⟩
theorem Turn_ok {kc lc : Nat} {w : World} {a : Option Addr} {m c : Nat} {rs : List SlR} {xss : List VL} (hl : Vs (VI kc lc) w a m rs xss) (hm : m ≤ 65536) (n : Nat) (hn : n ≤ 65536) (hk : kc ≤ 16777216 ∧ lc ≤ 21) :
    CallS Try.prog 36 #[.slice a m c, .int .i64 (n : Int)] w fun v w' => Ext w w' ∧ ∃ b ss, v = .tuple #[.slice (some ⟨b, 0, none⟩) n n, .int .i64 0] ∧ Vs (VC (nK kc) m) w' (some ⟨b, 0, none⟩) n ss (turnL xss n m) := by
  obtain ⟨hk1, hl2⟩ := hk
  have hlen := hl.len
  have hnK : nK kc ≤ 1099511627776 := by unfold nK; omega
  refine enter ttOk mixed (args := [.slice a m c, .int .i64 (n : Int)]) Try.func36 rfl (by kernel_rfl) (by kernel_rfl) rfl ?_
  refine And.intro (fun h1 => ?_) (fun h1 => ?_)
  · exfalso; omega
  refine And.intro (fun h2 => ?_) (fun h2 => ?_)
  · exfalso; omega
  refine ⟨n, n, ⟨rfl, rfl, Nat.le_refl _, by show n * 24 ≤ _; omega, by omega⟩, fun b w1 hb => ?_⟩
  have hge := hb.ge (Ext.rfl w)
  have hI0 : TurnI (nK kc) w b n w1 (List.replicate n ⟨none, 0, 0⟩) (turnL xss n 0) := by
    refine ⟨hb.ext, ?_, ?_, List.length_replicate, hb.lt⟩
    · have e : svs (List.replicate n ⟨none, 0, 0⟩) ++ [] = rep n [.slice none 0 0] := by rw [rep_one, List.append_nil]; simp [svs, SlR.v]
      rw [e]; exact hb.toBlk
    · have e : turnL xss n 0 = List.replicate n [] := by
        unfold turnL
        apply List.ext_getElem?
        intro i
        simp [turnN, List.getElem?_replicate]
        by_cases h : i < n <;> simp [h]
      rw [e]; exact Grid.nil n
  refine ⟨Nat × List SlR, fun x => [(1, .int .i64 (n : Int)), (6, .slice (some ⟨b, 0, none⟩) n n), (19, .slice a m c), (20, .int .i64 (m : Int)), (21, .int .i64 (x.1 : Int))],
    fun x w' => x.1 ≤ m ∧ TurnI (nK kc) w b n w' x.2 (turnL xss n x.1), fun x _ => m - x.1, ⟨(0, List.replicate n ⟨none, 0, 0⟩), ⟨rfl, rfl, rfl, rfl, rfl, trivial⟩, Nat.zero_le _, hI0⟩, ?_⟩
  rintro ⟨k, ss⟩ w2 ⟨hkm, hI⟩
  dsimp only at *
  refine And.intro (fun h3 => ?_) (fun h3 => ?_)
  · have hkn := ltTo h3
    obtain ⟨r, hr, hxs, hri⟩ := hl.get hkn
    have hlo := (hl.ones.ext hI.ext).load (T := tt) (ty := tV) (sz := 1) (svs_get hr) rfl rfl
    refine ⟨k, ⟨rfl, hkn, hl.ones.base (by omega)⟩, r.v, hlo, ?_⟩
    have hgH : ∀ b', gridH (fun c => c = b) ss b' → w.heap.size ≤ b' ∧ b' < w2.heap.size := by
      intro b' hb'
      rcases hb' with hb' | ⟨s, hs, hb'⟩
      · rw [hb']; exact ⟨hge, hI.lt⟩
      · obtain ⟨i, hi, rfl⟩ := List.getElem_of_mem hs
        obtain ⟨s', e1, e2, e3⟩ := hI.grid.at hi
        rw [List.getElem?_eq_getElem hi] at e1
        cases e1
        have := e3.own_lt hb'
        omega
    have hxi : InV kc (gridH (fun c => c = b) ss) w2 r (xss.getD k []) := (hri.inv.to (fun b' hb' => .inr (hgH b' hb').1)).ext hI.ext
    have hxl := hri.len
    refine CallS.mono (VNorm_ok (fun b' hb' => (hgH b' hb').2) hxi (by omega) (by omega)) ?_
    rintro _ w3 ⟨hx3, s0, rfl, h0⟩
    have hnl := h0.len
    have hcn := nrm_cn (xss.getD k [])
    have hnl2 := nrm_len (xss.getD k [])
    have hzl : (nrm (xss.getD k [])).length ≤ 21 := by omega
    refine ⟨Nat × List SlR, fun x => [(1, .int .i64 (n : Int)), (6, .slice (some ⟨b, 0, none⟩) n n), (7, .int .i64 (k : Int)), (19, .slice a m c), (20, .int .i64 (m : Int)), (21, .int .i64 (k : Int)), (27, s0.v), (28, .int .i64 (s0.n : Int)), (29, .int .i64 (x.1 : Int))],
      fun x w' => x.1 ≤ s0.n ∧ TurnI (nK kc) w b n w' x.2 (turnJ xss (nrm (xss.getD k [])) n k x.1) ∧ CanV (nK kc) (gridH (fun c => c = b) x.2) w' s0 (nrm (xss.getD k [])), fun x _ => s0.n - x.1,
      ⟨(0, ss), ⟨rfl, rfl, rfl, rfl, rfl, rfl, rfl, rfl, rfl, trivial⟩, Nat.zero_le _, by rw [turnJ_zero]; exact hI.go hx3, h0⟩, ?_⟩
    clear hI hgH hxi hx3 h0 hlo
    rintro ⟨j, ss⟩ w4 ⟨hj, hI, h0⟩
    dsimp only at *
    refine And.intro (fun h4 => ?_) (fun h4 => ?_)
    · have hjn := ltTo h4
      have hjz : j < (nrm (xss.getD k [])).length := by omega
      obtain ⟨⟨ts, hT, hC⟩, hc1, hc2, hc3⟩ := h0
      obtain ⟨t, ht, hat, hqc, hqf⟩ := tsCan_get hC (vget hjz)
      refine ⟨j, ⟨rfl, hjn, hT.base (by omega)⟩, t.v, hT.load (ty := tT) ht rfl rfl, ?_⟩
      intro b7 w5 hb7
      refine ⟨(storeTmB (w' := w5) (t := t) hb7.toBlk rfl).1, fun w6 hs6 => ?_⟩
      have h6 := (storeTmB (t := t) hb7.toBlk rfl).2 hs6
      have hx46 : Ext w4 w6 := Ext.grownB hb7.ext h6.2 (hb7.ge (Ext.rfl w4))
      have hB := h6.1
      have hI6 := hI.go hx46
      have h06 : CanV (nK kc) (gridH (fun c => c = b) ss) w6 s0 (nrm (xss.getD k [])) := CanV.ext ⟨⟨ts, hT, hC⟩, hc1, hc2, hc3⟩ hx46
      have hq6 := hqc.ext hx46
      have skip : (∀ i : Nat, i < n → pl (nrm (xss.getD k [])) j ≠ (i : Int)) → TurnI (nK kc) w b n w6 ss (turnJ xss (nrm (xss.getD k [])) n k (j + 1)) := fun h => by rw [turnJ_skip hjz h]; exact hI6
      refine ⟨_, hB.one (off := 0) rfl rfl, ?_⟩
      refine And.intro (fun h5 => ?_) (fun h5 => ?_)
      · refine ⟨_, hB.one (off := 0) rfl rfl, ?_⟩
        refine And.intro (fun h7 => ?_) (fun h7 => ?_)
        · obtain ⟨p, hp⟩ : ∃ p : Nat, t.at' = (p : Int) := ⟨t.at'.toNat, by omega⟩
          have hpn : p < n := by omega
          obtain ⟨hz, hpush⟩ := turnJ_push (xss := xss) (k := k) hcn hjz hpn (hat.symm.trans hp)
          have hpl : p < ss.length := by rw [hI6.len]; exact hpn
          obtain ⟨s, hs, hz', hA⟩ := hI6.grid.at hpl
          have hzz : (turnJ xss (nrm (xss.getD k [])) n k j).getD p [] = turnN xss p k := by rw [List.getD_eq_getElem?_getD, hz]; rfl
          rw [hzz] at hz' hA
          have hso := Ones.blk hI6.blk
          rw [svs_length, hI6.len] at hso
          refine ⟨sqK 16 [2, 13], by kernel_rfl, ?_⟩
          refine ⟨_, fun w' hw _ => (hB.ext hw).one (off := 0) rfl rfl, ?_⟩
          refine ⟨_, hB.one (off := 0) rfl rfl, p, ⟨hp, hpn, ⟨_, rfl, rfl⟩⟩, s.v, hso.load (svs_get hs) rfl rfl, t.x.v, hB.agg (sub := rcs t.x) rfl rfl, ?_⟩
          intro b12 _
          intro w7 hx7 hF7
          have hA7 := hA.ext hx7
          have hkl := (turnN_cn xss p k).2.2
          refine hA7.ts.elim fun ts0 d => ?_
          have hB12 : Blk w7 b12 tT (tcs [⟨(k : Int), t.x⟩]) := hF7.1.1
          refine ⟨rfl, b + 1, (turnN xss p k).length, tcs ts0, tcs [⟨(k : Int), t.x⟩], ⟨d.1, rfl, ?_, tcs_mem_one _, fun _ => ⟨_, rfl, rfl⟩, by omega, by show ((turnN xss p k).length + 1) * 72 ≤ _; omega, Nat.le_trans hI6.lt hx7.size⟩, ?_⟩
          · intro q v hq
            exact hB12.cell (i := 0 + q) (v := v) (by rw [Nat.zero_add]; exact hq)
          intro v' w8 ho hg hn8
          have ho : w8.ownsRow (b + 1) tT 5 v' ((turnN xss p k).length + 1) (tcs ts0 ++ (TmR.mk (k : Int) t.x).cs) := by rw [tcs_one] at ho; exact ho
          have hown6 : ∀ c, s.v.ownBlock = some c → b + 1 ≤ c ∧ c < w6.heap.size := fun c hc => ⟨(hA.own_lt hc).2, (hA.own_lt hc).1⟩
          have hqH : CanQ (rowH (gridH (fun c => c = b) ss) s.v) w7 t.x (xl (nrm (xss.getD k [])) j) := (hq6.ext hx7).to fun c hc => .inl (by
            rcases hc with hc | hc
            · exact hc
            · exact .inr ⟨s, List.mem_of_getElem? hs, hc⟩)
          refine (Acc.push (t := ⟨(k : Int), t.x⟩) (p := ((k : Int), xl (nrm (xss.getD k [])) j)) d.1 d.2 ho hg hn8 rfl hqH hqf).elim fun s' d' => ?_
          have hne7 : some b7 ≠ s.v.ownBlock := by
            intro e
            have := hb7.isNew
            have h1 := (hI.grid.at (i := p) (by rw [hI.len]; exact hpn))
            obtain ⟨s2, e1, e2, e3⟩ := h1
            rw [hs] at e1; cases e1
            have := (e3.own_lt e.symm).1
            omega
          refine ⟨⟨⟨fun c hc hlt => hg.block c hlt (fun e => Nat.lt_irrefl c (Nat.lt_of_lt_of_le (hown6 c e.symm).2 hc)), hg.size⟩, ⟨?_, hF7.1.2⟩, (Blk.grown (hB.ext hx7) hg hne7).one (off := 0) rfl rfl, trivial⟩, ?_⟩
          · show w8.heap[b12]? = _
            have hl12 : b12 < w7.heap.size := hB12.lt
            rw [hg.block b12 hl12 (fun e => by
              have h1 := (hown6 b12 e.symm).2
              have h2 : w6.heap.size ≤ b12 := hF7.1.2
              omega)]
            exact hF7.1.1
          have hG8 := (hI6.grid.ext hx7).push hs hz' d'.2 hg (d'.1 ▸ hn8)
          have hB8 : Blk w8 b tV (svs ss ++ []) := Blk.grown (hI6.blk.ext hx7) hg (fun e => by have := (hown6 b e.symm).1; omega)
          have hx48 : Ext w w8 := Ext.grown (Ext.trans' hI6.ext hx7) hg (fun c hc => by have := (hown6 c hc).1; omega)
          have h08 : CanV (nK kc) (gridH (fun c => c = b) (ss.set p s')) w8 s0 (nrm (xss.getD k [])) := by
            have h1 : CanV (nK kc) (fun c => gridH (fun c => c = b) ss c ∨ s'.v.ownBlock = some c) w7 s0 (nrm (xss.getD k [])) := (h06.ext hx7).to fun c hc => by
              rcases hc with hc | hc
              · exact .inl hc
              · rw [d'.1] at hn8
                rcases hn8 with hn8 | hn8
                · exact .inl (.inr ⟨s, List.mem_of_getElem? hs, by rw [← hn8]; exact hc⟩)
                · exact .inr (hn8 c hc)
            refine (h1.grow hg (fun c hc => .inl (.inr ⟨s, List.mem_of_getElem? hs, hc⟩))).to fun c hc => .inl ?_
            rcases hc with hc | ⟨u, hu, hc⟩
            · exact .inl (.inl hc)
            · rcases List.mem_or_eq_of_mem_set hu with hu | rfl
              · exact .inl (.inr ⟨u, hu, hc⟩)
              · exact .inr hc
          have hlt8 : b < w8.heap.size := hB8.lt
          refine ⟨p, ⟨hp, hpn, ⟨_, rfl, rfl⟩⟩, ?_⟩
          intro w9 hx9 hF9
          rw [d'.1]
          refine ⟨storeOne (v := s'.v) rfl rfl (hB8.ext hx9) (by rw [svs_length]; omega), fun w10 hs10 => ?_⟩
          have hS := storedOne hs10 rfl rfl (hB8.ext hx9) (by rw [svs_length]; omega)
          rw [svs_set] at hS
          intro w11 hx11 _
          have hG10 := (hG8.ext hx9).grow hS.2 rfl (Nat.lt_succ_self b)
          have h010 := (h08.ext hx9).grow hS.2 (fun c hc => .inl (Option.some.inj hc).symm)
          refine ⟨((j + 1 : Nat) : Int), sucI j (by omega), (j + 1, ss.set p s'), ⟨rfl, rfl, rfl, rfl, rfl, rfl, rfl, rfl, rfl, trivial⟩, ⟨hjn, ?_, h010.ext hx11⟩, Nat.sub_lt_sub_left hjn (Nat.lt_succ_self j)⟩
          rw [hpush]
          have hx10 : Ext w w10 := Ext.grownB (Ext.trans' hx48 hx9) hS.2 hge
          exact TurnI.go ⟨hx10, hS.1, hG10, by rw [List.length_set]; exact hI6.len, hS.1.lt⟩ hx11
        · refine ⟨((j + 1 : Nat) : Int), sucI j (by omega), (j + 1, ss), ⟨rfl, rfl, rfl, rfl, rfl, rfl, rfl, rfl, rfl, trivial⟩, ⟨hjn, skip (fun i hi => by omega), h06⟩, Nat.sub_lt_sub_left hjn (Nat.lt_succ_self j)⟩
      · refine ⟨((j + 1 : Nat) : Int), sucI j (by omega), (j + 1, ss), ⟨rfl, rfl, rfl, rfl, rfl, rfl, rfl, rfl, rfl, trivial⟩, ⟨hjn, skip (fun i hi => by omega), h06⟩, Nat.sub_lt_sub_left hjn (Nat.lt_succ_self j)⟩
    · have hj' : j = s0.n := Nat.le_antisymm hj (geTo h4)
      rw [hj', hnl, turnJ_all (fun p => nrm_get _ p)] at hI
      exact ⟨((k + 1 : Nat) : Int), sucI k (by omega), (k + 1, ss), ⟨rfl, rfl, rfl, rfl, rfl, trivial⟩, ⟨hkn, hI⟩, Nat.sub_lt_sub_left hkn (Nat.lt_succ_self k)⟩
  · have hk' : k = m := Nat.le_antisymm hkm (geTo h3)
    rw [hk'] at hI
    have hso := Ones.blk hI.blk
    rw [svs_length, hI.len] at hso
    refine ⟨hI.ext, b, ss, rfl, hso, by simp [turnL], fun i s zs h1 h2 => ⟨hI.grid.vc h1 h2, ?_, ?_⟩⟩
    · have : zs = turnN xss i m := by
        unfold turnL at h2
        rw [List.getElem?_map] at h2
        cases hr : (List.range n)[i]? with
        | none => rw [hr] at h2; cases h2
        | some q =>
          rw [hr] at h2
          have : q = i := by
            have := List.getElem?_range (n := n) (i := i) (by
              rcases Nat.lt_or_ge i n with h | h
              · exact h
              · rw [List.getElem?_eq_none (by simp; exact h)] at hr; cases hr)
            rw [hr] at this; exact Option.some.inj this
          subst this
          exact (Option.some.inj h2).symm
      subst this
      exact (turnN_cn _ _ _).1
    · unfold turnL at h2
      rw [List.getElem?_map] at h2
      cases hr : (List.range n)[i]? with
      | none => rw [hr] at h2; cases h2
      | some q =>
        rw [hr] at h2
        cases h2
        exact (turnN_cn _ _ _).2.2
end Go.Proofs.Ytpgagepleffjlaa
/-
  Contracts of the layer matrix: whether all columns are right; rows of vectors compared, and held against a measure. Helpers; no statement of the program is proved here.
-/
set_option maxRecDepth 100000
set_option linter.unusedSimpArgs false
set_option linter.unusedVariables false
namespace Go.Proofs.Ytpgagepleffjlaa
open Go Go.Tw Go.RowKit
attribute [local irreducible] LoadAt StoreOk Stored rawVC

theorem rows_get {w : World} {a : Option Addr} {n : Nat} {rs : List SlR} (h : Ones w a n (svs rs)) {j : Nat} (hj : j < n) : ∃ r, rs[j]? = some r := by
  have := h.len
  rw [svs_length] at this
  exact ⟨_, List.getElem?_eq_getElem (by omega)⟩
theorem rows_lt {w : World} {a : Option Addr} {n : Nat} {rs : List SlR} (h : Ones w a n (svs rs)) {j : Nat} {r : SlR} (hj : rs[j]? = some r) : j < n := by
  have := h.len
  rw [svs_length] at this
  rcases Nat.lt_or_ge j n with h' | h'
  · exact h'
  · rw [List.getElem?_eq_none (by omega)] at hj; cases hj
abbrev rV (b : Nat) : Value := .func (.func 78) #[] #[.pointer (some ⟨b, 0, none⟩)]
theorem IndexV_ok {w : World} {a : Option Addr} {m c b : Nat} {rs : List SlR} (B : Nat → Bool) (hO : Ones w a m (svs rs)) (hm : m ≤ 1099511627776)
    (hB : ∀ (j : Nat) r, rs[j]? = some r → ∀ w', Ext w w' → CallS Try.prog 78 #[r.v, .pointer (some ⟨b, 0, none⟩)] w' fun v w'' => Ext w' w'' ∧ v = .bool (B j)) :
    CallS Try.prog 99 #[.slice a m c, rV b] w fun v w' => Ext w w' ∧ ∃ z : Int, v = .int .i64 z ∧ ((z = -1 ∧ ∀ j, j < m → B j = false) ∨ (0 ≤ z ∧ ∃ j, j < m ∧ B j = true)) := by
  refine enter ttOk mixed (args := [.slice a m c, rV b]) Try.func99 rfl (by kernel_rfl) (by kernel_rfl) rfl ?_
  refine ⟨Nat, fun x => [(0, .slice a m c), (1, rV b), (7, .int .i64 (m : Int)), (8, .int .i64 (x : Int))], fun x w' => Ext w w' ∧ x ≤ m ∧ ∀ j, j < x → B j = false, fun x _ => m - x, ⟨0, ⟨rfl, rfl, rfl, rfl, trivial⟩, Ext.rfl w, Nat.zero_le _, fun j h => absurd h (Nat.not_lt_zero _)⟩, ?_⟩
  rintro i w1 ⟨hx1, hi, hf⟩
  refine And.intro (fun h1 => ?_) (fun h1 => ?_)
  · have hin := ltTo h1
    obtain ⟨r, hr⟩ := rows_get hO hin
    refine ⟨i, ⟨rfl, hin, hO.base (by omega)⟩, r.v, (hO.ext hx1).load (T := tt) (ty := tV) (sz := 1) (svs_get hr) rfl rfl, ?_⟩
    refine CallS.mono (hB i r hr w1 hx1) ?_
    rintro _ w2 ⟨hx2, rfl⟩
    cases hb : B i with
    | true => exact ⟨Ext.trans' hx1 hx2, (i : Int), rfl, .inr ⟨by omega, i, hin, hb⟩⟩
    | false =>
      refine ⟨((i + 1 : Nat) : Int), sucI i (by omega), i + 1, ⟨rfl, rfl, rfl, rfl, trivial⟩, ⟨Ext.trans' hx1 hx2, hin, fun j hj => ?_⟩, Nat.sub_lt_sub_left hin (Nat.lt_succ_self i)⟩
      rcases Nat.lt_or_eq_of_le (Nat.le_of_lt_succ hj) with h | h
      · exact hf j h
      · rw [h]; exact hb
  · have e : i = m := Nat.le_antisymm hi (geTo h1)
    exact ⟨hx1, -1, rfl, .inl ⟨rfl, fun j hj => hf j (by omega)⟩⟩
theorem MRight_ok {w : World} {a : Option Addr} {m c : Nat} {rs : List SlR} {N : Int} (R : Nat → Bool) (hO : Ones w a m (svs rs)) (hm : m ≤ 1099511627776)
    (hR : ∀ (j : Nat) r, rs[j]? = some r → ∀ w', Ext w w' → CallS Try.prog 47 #[r.v, .int .i64 N] w' fun v w'' => Ext w' w'' ∧ v = .bool (R j)) :
    CallS Try.prog 39 #[.slice a m c, .int .i64 N] w fun v w' => Ext w w' ∧ ∃ b : Bool, v = .bool b ∧ (b = true ↔ 0 ≤ N ∧ ∀ j, j < m → R j = true) := by
  refine enter ttOk mixed (args := [.slice a m c, .int .i64 N]) Try.func39 rfl (by kernel_rfl) (by kernel_rfl) rfl ?_
  intro b3 w1 hb3
  have hB3 : Blk w1 b3 3 [.int .i64 N] := hb3.toBlk
  refine ⟨_, hB3.one (off := 0) rfl rfl, ?_⟩
  refine And.intro (fun h1 => ?_) (fun h1 => ?_)
  · have hc : ∀ (j : Nat) r, rs[j]? = some r → ∀ w', Ext w1 w' → CallS Try.prog 78 #[r.v, .pointer (some ⟨b3, 0, none⟩)] w' fun v w'' => Ext w' w'' ∧ v = .bool (!R j) := by
      intro j r hr w' hx'
      refine enter ttOk mixed (args := [r.v, .pointer (some ⟨b3, 0, none⟩)]) Try.func78 rfl (by kernel_rfl) (by kernel_rfl) rfl ?_
      refine ⟨_, (hB3.ext hx').one (off := 0) rfl rfl, ?_⟩
      refine CallS.mono (hR j r hr w' (Ext.trans' hb3.ext hx')) ?_
      rintro _ w2 ⟨hx2, rfl⟩
      exact ⟨hx2, rfl⟩
    have hcon : CallS Try.prog 77 #[.slice a m c, rV b3] w1 fun v w' => Ext w1 w' ∧ ∃ b : Bool, v = .bool b ∧ (b = true ↔ ∃ j, j < m ∧ R j = false) := by
      refine enter ttOk mixed (args := [.slice a m c, rV b3]) Try.func77 rfl (by kernel_rfl) (by kernel_rfl) rfl ?_
      refine CallS.mono (IndexV_ok (fun j => !R j) (hO.ext hb3.ext) hm hc) ?_
      rintro _ w2 ⟨hx2, z, rfl, hz⟩
      refine And.intro (fun h2 => ?_) (fun h2 => ?_)
      · refine ⟨hx2, true, rfl, ⟨fun _ => ?_, fun _ => rfl⟩⟩
        rcases hz with ⟨h3, _⟩ | ⟨_, j, h3, h4⟩
        · omega
        · exact ⟨j, h3, by simpa using h4⟩
      · refine ⟨hx2, false, rfl, ⟨fun h => (by cases h), fun ⟨j, h3, h4⟩ => ?_⟩⟩
        rcases hz with ⟨_, h5⟩ | ⟨h5, _⟩
        · have := h5 j h3
          rw [h4] at this; cases this
        · omega
    refine CallS.mono hcon ?_
    rintro _ w2 ⟨hx2, b, rfl, hb⟩
    refine ⟨Ext.trans' hb3.ext hx2, !b, rfl, ?_⟩
    constructor
    · intro h
      refine ⟨h1, fun j hj => ?_⟩
      cases hR : R j with
      | true => rfl
      | false => rw [hb.2 ⟨j, hj, hR⟩] at h; cases h
    · intro h
      cases hbb : b with
      | false => rfl
      | true =>
        obtain ⟨j, hj, h3⟩ := hb.1 hbb
        rw [h.2 j hj] at h3; cases h3
  · refine ⟨hb3.ext, false, rfl, ⟨fun h => (by cases h), fun h => absurd h.1 h1⟩⟩
theorem SameVecs_ok {k k' l l' : Nat} {w : World} {a b : Option Addr} {n c m d : Nat} {rs ss : List SlR} {xss yss : List VL} (hx : Vs (VC k l) w a n rs xss) (hy : Vs (VC k' l') w b m ss yss) (hn : n ≤ 1099511627776) (hk : k ≤ 1099511627776 ∧ l ≤ 1099511627776) :
    CallS Try.prog 43 #[.slice a n c, .slice b m d] w fun v w' => Ext w w' ∧ v = .bool (decide (xss = yss)) := by
  have hl := hx.len
  have hm := hy.len
  refine enter ttOk mixed (args := [.slice a n c, .slice b m d]) Try.func43 rfl (by kernel_rfl) (by kernel_rfl) rfl ?_
  refine And.intro (fun h1 => ?_) (fun h1 => ?_)
  · have : ¬ xss = yss := fun h => h1 (by rw [← hl, ← hm, h])
    exact ⟨Ext.rfl w, by rw [decide_eq_false this]; rfl⟩
  · have hnm : n = m := by omega
    refine ⟨Nat, fun x => [(0, .slice a n c), (1, .slice b m d), (5, .int .i64 (x : Int))], fun x w' => Ext w w' ∧ x ≤ n ∧ xss.take x = yss.take x, fun x _ => n - x, ⟨0, ⟨rfl, rfl, rfl, trivial⟩, Ext.rfl w, Nat.zero_le _, rfl⟩, ?_⟩
    rintro i w1 ⟨hx1, hi, he⟩
    dsimp only at *
    refine And.intro (fun h2 => ?_) (fun h2 => ?_)
    · have hin := ltTo h2
      obtain ⟨r, hr, hxr, hri⟩ := hx.get hin
      obtain ⟨s, hs, hys, hsi⟩ := hy.get (j := i) (by omega)
      refine ⟨sq 10, by kernel_rfl, i, ⟨rfl, hin, hx.ones.base (by omega)⟩, r.v, (hx.ones.ext hx1).load (T := tt) (ty := tV) (sz := 1) (svs_get hr) rfl rfl, i, ⟨rfl, by omega, hy.ones.base (by omega)⟩, s.v, (hy.ones.ext hx1).load (T := tt) (ty := tV) (sz := 1) (svs_get hs) rfl rfl, ?_⟩
      have hc : ∀ w', Ext w1 w' → True → CallS Try.prog 17 #[r.v, s.v] w' fun v w'' => Ext w' w'' ∧ v = .bool (decide (xss.getD i [] = yss.getD i [])) := fun w' hw _ => svec_at ((hri.ext hx1).ext hw) ((hsi.ext hx1).ext hw) hk
      by_cases h4 : xss.getD i [] = yss.getD i []
      · rw [decide_eq_true h4] at hc
        refine dcallV (.bool true) hc ?_
        intro w2 hx2 _
        exact ⟨((i + 1 : Nat) : Int), sucI i (by omega), i + 1, ⟨rfl, rfl, rfl, trivial⟩, ⟨Ext.trans' hx1 hx2, hin, take_same he (by rw [hxr, hys, h4])⟩, Nat.sub_lt_sub_left hin (Nat.lt_succ_self i)⟩
      · rw [decide_eq_false h4] at hc
        refine dcallV (.bool false) hc ?_
        intro w2 hx2 _
        have : ¬ xss = yss := fun h => h4 (by rw [h])
        exact ⟨Ext.trans' hx1 hx2, by rw [decide_eq_false this]; rfl⟩
    · have e : i = n := Nat.le_antisymm hi (geTo h2)
      have : xss = yss := by
        rw [List.take_of_length_le (by omega), List.take_of_length_le (by omega)] at he
        exact he
      exact ⟨hx1, by rw [decide_eq_true this]; rfl⟩
/-- A row of vectors that comes in, opened. -/
structure OpVs (w : World) (a : Option Addr) (n c : Nat) (rs : List SlR) (tss : List (List TmR)) : Prop where
  ones : Ones w a n (svs rs)
  len : tss.length = n
  row : ∀ (j : Nat) r ts, rs[j]? = some r → tss[j]? = some ts → OpV w r ts
  nc : n ≤ c
  cm : c ≤ 9223372036854775807
theorem OpVs.get {w : World} {a : Option Addr} {n c : Nat} {rs : List SlR} {tss : List (List TmR)} (h : OpVs w a n c rs tss) {j : Nat} (hj : j < n) : ∃ r, rs[j]? = some r ∧ tss[j]? = some (tss.getD j []) ∧ OpV w r (tss.getD j []) := by
  have h1 := h.ones.len
  rw [svs_length] at h1
  have h2 := h.len
  have e1 : rs[j]? = some (rs[j]'(by omega)) := List.getElem?_eq_getElem (by omega)
  have e2 : tss[j]? = some (tss.getD j []) := by rw [List.getD_eq_getElem?_getD, List.getElem?_eq_getElem (by omega)]; rfl
  exact ⟨_, e1, e2, h.row j _ _ e1 e2⟩
theorem OpV.ext {w w' : World} {r : SlR} {ts : List TmR} (h : OpV w r ts) (e : Ext w w') : OpV w' r ts := ⟨h.tms.ext e, fun t ht => by
  obtain ⟨⟨L, h1⟩, ⟨M, h2⟩, h3, h4, h5, h6⟩ := h.all t ht
  exact ⟨⟨L, h1.ext e⟩, ⟨M, h2.ext e⟩, h3, h4, h5, h6⟩, h.nc, h.cm⟩
theorem OpVs.ext {w w' : World} {a : Option Addr} {n c : Nat} {rs : List SlR} {tss : List (List TmR)} (h : OpVs w a n c rs tss) (e : Ext w w') : OpVs w' a n c rs tss := ⟨h.ones.ext e, h.len, fun j r ts h1 h2 => OpV.ext (h.row j r ts h1 h2) e, h.nc, h.cm⟩
def shVs (n : Nat) (tss : List (List TmR)) (cnt l d : Nat) : Prop := n ≤ cnt ∧ ∀ ts ∈ tss, shV ts.length ts l d
noncomputable instance (n : Nat) (tss : List (List TmR)) (cnt l d : Nat) : Decidable (shVs n tss cnt l d) := Classical.propDecidable _
theorem ShortVecs_ok {w : World} {a : Option Addr} {n c : Nat} {rs : List SlR} {tss : List (List TmR)} (h : OpVs w a n c rs tss) (cnt l d : Nat) (hc : cnt ≤ 1099511627776) (hl : l ≤ 1099511627776) :
    CallS Try.prog 41 #[.slice a n c, .int .i64 (cnt : Int), .int .i64 (l : Int), .int .i64 (d : Int)] w fun v w' => Ext w w' ∧ v = .bool (decide (shVs n tss cnt l d)) := by
  have hlen := h.len
  refine enter ttOk mixed (args := [.slice a n c, .int .i64 (cnt : Int), .int .i64 (l : Int), .int .i64 (d : Int)]) Try.func41 rfl (by kernel_rfl) (by kernel_rfl) rfl ?_
  refine And.intro (fun h1 => ?_) (fun h1 => ?_)
  · exact ⟨Ext.rfl w, by rw [decide_eq_false (show ¬ shVs n tss cnt l d from fun h => by have := h.1; omega)]; rfl⟩
  · refine ⟨Nat, fun x => [(0, .slice a n c), (2, .int .i64 (l : Int)), (3, .int .i64 (d : Int)), (9, .int .i64 (x : Int))], fun x w' => Ext w w' ∧ x ≤ n ∧ ∀ ts ∈ tss.take x, shV ts.length ts l d, fun x _ => n - x, ⟨0, ⟨rfl, rfl, rfl, rfl, trivial⟩, Ext.rfl w, Nat.zero_le _, fun t h => by simp at h⟩, ?_⟩
    rintro i w1 ⟨hx1, hi, hs⟩
    dsimp only at *
    refine And.intro (fun h2 => ?_) (fun h2 => ?_)
    · have hin := ltTo h2
      obtain ⟨r, hr, ht, ho⟩ := h.get hin
      refine ⟨i, ⟨rfl, hin, h.ones.base (by omega)⟩, r.v, (h.ones.ext hx1).load (T := tt) (ty := tV) (sz := 1) (svs_get hr) rfl rfl, ?_⟩
      refine CallS.mono (ShortVec_ok (ho.tms.ext hx1) l d hl) ?_
      rintro _ w2 ⟨hx2, rfl⟩
      rw [← ho.tms.len]
      by_cases hc : shV (tss.getD i []).length (tss.getD i []) l d
      · rw [decide_eq_true hc]
        refine ⟨((i + 1 : Nat) : Int), sucI i (by omega), i + 1, ⟨rfl, rfl, rfl, rfl, trivial⟩, ⟨Ext.trans' hx1 hx2, hin, fun t ht' => ?_⟩, Nat.sub_lt_sub_left hin (Nat.lt_succ_self i)⟩
        rw [List.take_add_one, ht, List.mem_append] at ht'
        rcases ht' with ht' | ht'
        · exact hs t ht'
        · simp at ht'; rw [ht']; simpa [List.getD_eq_getElem?_getD] using hc
      · rw [decide_eq_false hc]
        exact ⟨Ext.trans' hx1 hx2, by rw [decide_eq_false (show ¬ shVs n tss cnt l d from fun h => hc (h.2 _ (List.mem_of_getElem? ht)))]; rfl⟩
    · have e : i = n := Nat.le_antisymm hi (geTo h2)
      rw [List.take_of_length_le (by omega)] at hs
      exact ⟨hx1, by rw [decide_eq_true (show shVs n tss cnt l d from ⟨by omega, hs⟩)]; rfl⟩
end Go.Proofs.Ytpgagepleffjlaa
