/-
  A row of rows of terms, each of which is being built. Helpers; no statement of the program is proved here.
-/
import Derived.Test.YtlfdobjdlgebbaaKA
import Derived.Test.YtlfdobjdlgebbaaRows
import Derived.Deep.Strs
set_option maxRecDepth 100000
set_option linter.unusedSimpArgs false
set_option linter.unusedVariables false
namespace Go.Proofs.Ytlfdobjdlgebbaa
open Go Go.Tw Go.RowKit
attribute [local irreducible] LoadAt StoreOk Stored rawVC

def gridH (H : Hd) (ss : List SlR) : Hd := fun c => H c ∨ ∃ s ∈ ss, s.v.ownBlock = some c
structure Grid (K : Nat) (H : Hd) (base : Nat) (w : World) (ss : List SlR) (zss : List VL) : Prop where
  len : ss.length = zss.length
  own : ∀ (i : Nat) s zs, ss[i]? = some s → zss[i]? = some zs → Acc K (gridH H ss) base tT w s zs
  apart : ∀ (i j : Nat) s t c, ss[i]? = some s → ss[j]? = some t → s.v.ownBlock = some c → t.v.ownBlock = some c → i = j
section
variable {K base : Nat} {H : Hd} {w w' : World} {ss : List SlR} {zss : List VL}
theorem Grid.ext (h : Grid K H base w ss zss) (e : Ext w w') : Grid K H base w' ss zss := ⟨h.len, fun i s zs h1 h2 => (h.own i s zs h1 h2).ext e, h.apart⟩
theorem accGrow {k base e : Nat} {H : Hd} {w w' : World} {row : Option Nat} {s : SlR} {zs : VL} (h : Acc k H base e w s zs) (hg : w.grownBy w' row) (hb : ∀ b, row = some b → H b) (hne : ∀ b, row = some b → s.v.ownBlock ≠ some b) : Acc k H base e w' s zs := by
  obtain ⟨⟨ts, h1, h2⟩, h3⟩ := h
  refine ⟨⟨ts, h1.kept hg ?_, h2.map (Nat.le_refl _) fun h => h.grow hg (fun i hi => .inl (hb i hi))⟩, h3⟩
  cases hv : s.v.ownBlock with
  | none => exact .inl rfl
  | some b => exact .inr fun e => hne b e.symm hv
theorem Grid.grow {b : Nat} (h : Grid K H base w ss zss) (hg : w.grownBy w' (some b)) (hb : H b) (hlt : b < base) : Grid K H base w' ss zss :=
  ⟨h.len, fun i s zs h1 h2 => accGrow (h.own i s zs h1 h2) hg (fun c hc => by cases hc; exact .inl hb) (fun c hc e => by
    cases hc
    have := ((h.own i s zs h1 h2).own_lt e).2
    omega), h.apart⟩
theorem Grid.nil (n : Nat) : Grid K H base w (List.replicate n ⟨none, 0, 0⟩) (List.replicate n []) := by
  refine ⟨by simp, fun i s zs h1 h2 => ?_, fun i j s t c h1 h2 h3 h4 => ?_⟩
  · rw [List.getElem?_replicate] at h1 h2
    split at h1
    · cases h1
      rw [if_pos (by assumption)] at h2
      cases h2
      exact Acc.nil _ _ _ _ _
    · cases h1
  · rw [List.getElem?_replicate] at h1
    split at h1
    · cases h1; cases h3
    · cases h1
theorem Grid.at (h : Grid K H base w ss zss) {i : Nat} (hi : i < ss.length) : ∃ s, ss[i]? = some s ∧ zss[i]? = some (zss.getD i []) ∧ Acc K (gridH H ss) base tT w s (zss.getD i []) := by
  have h1 : ss[i]? = some ss[i] := List.getElem?_eq_getElem hi
  have h2 : zss[i]? = some (zss.getD i []) := by rw [List.getD_eq_getElem?_getD, List.getElem?_eq_getElem (by rw [← h.len]; exact hi)]; rfl
  exact ⟨_, h1, h2, h.own i _ _ h1 h2⟩
/-- A row grown by a term. -/
theorem Grid.push (h : Grid K H base w ss zss) {i : Nat} {s s' : SlR} {zs : VL} {p : Int × Rat} (hi : ss[i]? = some s) (hz : zss[i]? = some zs) (hA : Acc K (gridH H ss) base tT w' s' (zs ++ [p])) (hg : w.grownBy w' s.v.ownBlock) (hn : rowNew w s.v s'.v) : Grid K H base w' (ss.set i s') (zss.set i (zs ++ [p])) := by
  have hil : i < ss.length := by
    rcases Nat.lt_or_ge i ss.length with h' | h'
    · exact h'
    · rw [List.getElem?_eq_none h'] at hi; cases hi
  have hsub : ∀ b, gridH H (ss.set i s') b → gridH H ss b ∨ s'.v.ownBlock = some b := by
    intro b hb
    rcases hb with hb | ⟨t, ht, hb⟩
    · exact .inl (.inl hb)
    · rcases List.mem_or_eq_of_mem_set ht with ht | rfl
      · exact .inl (.inr ⟨t, ht, hb⟩)
      · exact .inr hb
  refine ⟨by rw [List.length_set, List.length_set]; exact h.len, fun j t zt h1 h2 => ?_, fun j q t u c h1 h2 h3 h4 => ?_⟩
  · by_cases hji : i = j
    · subst hji
      rw [List.getElem?_set_self hil] at h1
      rw [List.getElem?_set_self (by rw [← h.len]; exact hil)] at h2
      cases h1; cases h2
      obtain ⟨⟨ts, a1, a2⟩, a3⟩ := hA
      refine ⟨⟨ts, a1, a2.map (Nat.le_refl _) fun h => h.to fun b hb => .inl ?_⟩, a3⟩
      rcases hb with hb | hb
      · exact hsub b hb
      · exact .inr hb
    · rw [List.getElem?_set_ne hji] at h1 h2
      have hA0 := h.own j t zt h1 h2
      have hA1 : Acc K (fun b => gridH H ss b ∨ s'.v.ownBlock = some b) base tT w t zt := hA0.to fun b hb => by
        rcases hb with hb | hb
        · exact .inl hb
        · rcases hn with hn | hn
          · exact .inl (.inr ⟨s, List.mem_of_getElem? hi, by rw [← hn]; exact hb⟩)
          · exact .inr (hn b hb)
      have hA2 := accGrow hA1 hg (fun b hb => .inl (.inr ⟨s, List.mem_of_getElem? hi, hb⟩)) (fun b hb e => hji (h.apart i j s t b hi h1 hb e))
      exact hA2.to fun b hb => .inl (hsub b hb)
  · have key : ∀ (j : Nat) t c, j ≠ i → ss[j]? = some t → t.v.ownBlock = some c → s'.v.ownBlock = some c → False := by
      intro j t c hj h1 h3 h4
      rcases hn with hn | hn
      · exact hj (h.apart j i t s c h1 hi h3 (by rw [← hn]; exact h4))
      · have hjl : j < ss.length := by
          rcases Nat.lt_or_ge j ss.length with h' | h'
          · exact h'
          · rw [List.getElem?_eq_none h'] at h1; cases h1
        obtain ⟨t', e1, e2, e3⟩ := h.at hjl
        rw [h1] at e1; cases e1
        have := (e3.own_lt h3).1
        have := hn c h4
        omega
    by_cases hj : i = j
    · subst hj
      rw [List.getElem?_set_self hil] at h1; cases h1
      by_cases hq : i = q
      · exact hq
      · rw [List.getElem?_set_ne hq] at h2
        exact (key q u c (fun e => hq e.symm) h2 h4 h3).elim
    · rw [List.getElem?_set_ne hj] at h1
      by_cases hq : i = q
      · subst hq
        rw [List.getElem?_set_self hil] at h2; cases h2
        exact (key j t c (fun e => hj e.symm) h1 h3 h4).elim
      · rw [List.getElem?_set_ne hq] at h2
        exact h.apart j q t u c h1 h2 h3 h4
theorem Grid.vc (h : Grid K H base w ss zss) {i : Nat} {s : SlR} {zs : VL} (hi : ss[i]? = some s) (hz : zss[i]? = some zs) : CanV K H0 w s zs :=
  ((h.own i s zs hi hz).to (H' := H0) (fun b hb => hb.elim)).out (fun b hb => hb.elim)
end
/-- A row of the matrix turned: of the first k columns. -/
def turnN (xss : List VL) (i : Nat) (k : Nat) : VL :=
  match k with
  | 0 => []
  | k + 1 => putL (turnN xss i k) (k : Int) (getL (xss.getD k []) (i : Int))
theorem turnN_cn (xss : List VL) (i : Nat) (k : Nat) : Cn (turnN xss i k) ∧ (∀ s ∈ turnN xss i k, s.1 < (k : Int)) ∧ (turnN xss i k).length ≤ k := by
  induction k with
  | zero => exact ⟨Cn.nil, fun s h => by simp [turnN] at h, Nat.le_refl _⟩
  | succ k ih =>
    refine ⟨putL_cn ih.1 ih.2.1, putL_lt ih.2.1 (by omega), ?_⟩
    have := putL_len (turnN xss i k) (k : Int) (getL (xss.getD k []) (i : Int))
    simp only [turnN]; omega
def turnL (xss : List VL) (n k : Nat) : List VL := (List.range n).map fun i => turnN xss i k
/-- .. and of the first j terms of the next one. -/
def turnJ (xss : List VL) (zs : VL) (n k j : Nat) : List VL := (List.range n).map fun (i : Nat) => putL (turnN xss i k) (k : Int) (getL (zs.take j) (i : Int))
theorem turnJ_get {xss : List VL} {zs : VL} {n k j i : Nat} (h : i < n) : (turnJ xss zs n k j)[i]? = some (putL (turnN xss i k) (k : Int) (getL (zs.take j) (i : Int))) := by
  simp [turnJ, h]
theorem turnJ_zero (xss : List VL) (zs : VL) (n k : Nat) : turnJ xss zs n k 0 = turnL xss n k := by
  unfold turnJ turnL
  apply List.map_congr_left
  intro i _
  simp [putL, getL]
theorem turnJ_all {xss : List VL} {zs : VL} {n k : Nat} (h : ∀ p, getL zs p = getL (xss.getD k []) p) : turnJ xss zs n k zs.length = turnL xss n (k + 1) := by
  unfold turnJ turnL
  apply List.map_congr_left
  intro i _
  rw [List.take_length, h]; rfl
theorem turnJ_skip {xss : List VL} {zs : VL} {n k j : Nat} (hj : j < zs.length) (h : ∀ i : Nat, i < n → pl zs j ≠ (i : Int)) : turnJ xss zs n k (j + 1) = turnJ xss zs n k j := by
  unfold turnJ
  apply List.map_congr_left
  intro i hi
  rw [List.mem_range] at hi
  rw [getL_take_succ hj, if_neg (h i hi), Rat.add_zero]
theorem turnJ_push {xss : List VL} {zs : VL} {n k j p : Nat} (hc : Cn zs) (hj : j < zs.length) (hp : p < n) (h : pl zs j = (p : Int)) : (turnJ xss zs n k j)[p]? = some (turnN xss p k) ∧ turnJ xss zs n k (j + 1) = (turnJ xss zs n k j).set p (turnN xss p k ++ [((k : Int), xl zs j)]) := by
  have h0 : getL (zs.take j) (p : Int) = 0 := by rw [← h]; exact getL_take_self hc.ris hj
  have hne : xl zs j ≠ 0 := hc.2 _ (List.mem_of_getElem? (vget hj))
  refine ⟨by rw [turnJ_get hp, h0]; simp [putL], ?_⟩
  apply List.ext_getElem?
  intro i
  by_cases hi : i < n
  · rw [turnJ_get hi]
    by_cases hip : p = i
    · subst hip
      rw [List.getElem?_set_self (by simp [turnJ]; exact hi), getL_take_succ hj, if_pos h, h0, Rat.zero_add]
      simp [putL, hne]
    · rw [List.getElem?_set_ne hip, turnJ_get hi, getL_take_succ hj, if_neg (by rw [h]; omega), Rat.add_zero]
  · rw [List.getElem?_eq_none (by simp [turnJ]; omega), List.getElem?_eq_none (by simp [turnJ]; omega)]
end Go.Proofs.Ytlfdobjdlgebbaa
/-
  Rows of structs, of whatever shape; rows that are being built side by side. Helpers; no statement of the program is proved here.
-/
set_option maxRecDepth 100000
set_option linter.unusedSimpArgs false
set_option linter.unusedVariables false
namespace Go.Tw
open Go Go.RowKit

/-- How an element lies in cells. -/
class Enc (α : Type) where
  cs : α → List Value
  k : Nat
  len : ∀ x, (cs x).length = k
  pos : 0 < k
  one : ∀ x, ∀ v ∈ cs x, v.oneCell' = true
section
variable {α : Type} [Enc α]
def gcs (xs : List α) : List Value :=
  match xs with
  | [] => []
  | x :: xs => Enc.cs x ++ gcs xs
theorem gcs_append (a b : List α) : gcs (a ++ b) = gcs a ++ gcs b := by
  induction a with
  | nil => rfl
  | cons t a ih => simp only [List.cons_append, gcs, ih, List.append_assoc]
theorem gcs_one (t : α) : gcs [t] = Enc.cs t := by simp [gcs]
theorem gcs_length (xs : List α) : (gcs xs).length = xs.length * Enc.k α := by
  induction xs with
  | nil => simp [gcs]
  | cons t xs ih => simp only [gcs, List.length_append, ih, List.length_cons, Enc.len]; rw [Nat.add_mul]; omega
theorem enc_lt {t : α} {k : Nat} {v : Value} (hk : (Enc.cs t)[k]? = some v) : k < Enc.k α := by
  rcases Nat.lt_or_ge k (Enc.k α) with h | h
  · exact h
  · rw [List.getElem?_eq_none (by rw [Enc.len]; exact h)] at hk; cases hk
theorem gcs_get {xs : List α} {j k : Nat} {t : α} {v : Value} (hj : xs[j]? = some t) (hk : (Enc.cs t)[k]? = some v) : (gcs xs)[j * Enc.k α + k]? = some v := by
  have hlt := enc_lt hk
  induction xs generalizing j with
  | nil => simp at hj
  | cons s xs ih =>
    cases j with
    | zero =>
      simp at hj; subst hj
      simp only [gcs]
      rw [Nat.zero_mul, Nat.zero_add, List.getElem?_append_left (by rw [Enc.len]; exact hlt)]
      exact hk
    | succ j =>
      simp only [gcs]
      rw [Nat.succ_mul, List.getElem?_append_right (by rw [Enc.len]; omega), Enc.len]
      have e : j * Enc.k α + Enc.k α + k - Enc.k α = j * Enc.k α + k := by omega
      rw [e]
      exact ih (by simpa using hj)
theorem gcs_mem_one (xs : List α) : ∀ v ∈ gcs xs, v.oneCell' = true := by
  induction xs with
  | nil => intro v hv; simp [gcs] at hv
  | cons t xs ih =>
    intro v hv
    simp only [gcs, List.mem_append] at hv
    rcases hv with hv | hv
    · exact Enc.one t v hv
    · exact ih v hv
theorem gcs_at {xs : List α} {i : Nat} {v : Value} (h : (gcs xs)[i]? = some v) : ∃ t, xs[i / Enc.k α]? = some t ∧ (Enc.cs t)[i % Enc.k α]? = some v := by
  have hp := Enc.pos (α := α)
  induction xs generalizing i with
  | nil => simp [gcs] at h
  | cons s xs ih =>
    simp only [gcs] at h
    by_cases hi : i < Enc.k α
    · rw [List.getElem?_append_left (by rw [Enc.len]; exact hi)] at h
      exact ⟨s, by rw [Nat.div_eq_of_lt hi]; rfl, by rw [Nat.mod_eq_of_lt hi]; exact h⟩
    · rw [List.getElem?_append_right (by rw [Enc.len]; omega), Enc.len] at h
      obtain ⟨t, h1, h2⟩ := ih h
      refine ⟨t, ?_, ?_⟩
      · rw [Nat.div_eq_sub_div hp (by omega)]; exact h1
      · rw [Nat.mod_eq_sub_mod (by omega)]; exact h2
/-- Elements lie in a row. -/
structure Gr (w : World) (a : Option Addr) (n : Nat) (xs : List α) : Prop where
  len : xs.length = n
  base : 0 < n → okB a
  get : ∀ (i : Nat) (v : Value), (gcs xs)[i]? = some v → w.cell? (addrAt a i) = some v
variable {T : TT} {w w' : World} {a : Option Addr} {n : Nat} {xs : List α}
theorem Gr.ext (h : Gr w a n xs) (k : Ext w w') : Gr w' a n xs := ⟨h.len, h.base, fun i v hv => k.cellEq (h.get i v hv)⟩
theorem Gr.nil (w : World) (a : Option Addr) : Gr w a 0 ([] : List α) := ⟨rfl, fun h => by omega, fun i v h => by simp [gcs] at h⟩
theorem Gr.lt_size (h : Gr w a n xs) (hn : 0 < n) : Tw.blk a < w.heap.size := by
  have hl := h.len
  have hl2 := gcs_length xs
  have hp := Enc.pos (α := α)
  have hlt : 0 < (gcs xs).length := by rw [hl2, hl]; exact Nat.mul_pos hn hp
  have h0 : (gcs xs)[0]? = some ((gcs xs)[0]'hlt) := List.getElem?_eq_getElem hlt
  exact World.block_lt_of_cell? w _ (h.get 0 _ h0)
theorem Gr.blk {g e : Nat} {R : List Value} (h : Blk w g e (gcs xs ++ R)) : Gr w (some ⟨g, 0, none⟩) xs.length xs := by
  refine ⟨rfl, fun _ => ⟨_, rfl, rfl⟩, fun i v hi => ?_⟩
  have hlt : i < (gcs xs).length := by
    rcases Nat.lt_or_ge i (gcs xs).length with h' | h'
    · exact h'
    · rw [List.getElem?_eq_none h'] at hi; cases hi
  refine h.cell (i := 0 + i) ?_
  rw [Nat.zero_add, List.getElem?_append_left hlt]; exact hi
theorem Gr.load {j sz ty : Nat} {t : α} (h : Gr w a n xs) (hj : xs[j]? = some t) (hk : (known (tyAt T ty) && (tyAt T ty).agg && Nat.beq (Enc.k α) (tyAt T ty).size) = true) (hs : sz = Enc.k α) : LoadAt T w ty (addrAt a (j * sz)) (.agg (Enc.cs t).toArray) := by
  subst hs
  refine loadAgg (cs := Enc.cs t) (by rw [Enc.len]; exact hk) fun k u hu => ?_
  show w.cell? ((⟨Tw.blk a, ofs a + j * Enc.k α, none⟩ : Addr).add k) = _
  rw [Addr.add_lit]
  have := h.get (j * Enc.k α + k) u (gcs_get hj hu)
  rw [← this]
  show _ = w.cell? ⟨Tw.blk a, ofs a + (j * Enc.k α + k), none⟩
  rw [Nat.add_assoc]
theorem Gr.grow {row : Option Nat} {H : Hd} (h : Gr w a n xs) (k : w.grownBy w' row) (hr : ∀ b, row = some b → H b) (hv : Av H a n) : Gr w' a n xs := by
  refine ⟨h.len, h.base, fun i v hi => ?_⟩
  have hc := h.get i v hi
  have hlt := World.block_lt_of_cell? w _ hc
  have hn : 0 < n := by
    have := h.len
    rcases Nat.eq_zero_or_pos n with h0 | h0
    · rw [h0] at this; rw [List.eq_nil_of_length_eq_zero this] at hi; simp [gcs] at hi
    · exact h0
  rw [World.cell?_of_block (k.block _ hlt (fun e => hv hn (hr _ e.symm)))]
  exact hc
theorem owns_gr {base e : Nat} {s : SlR} (h : w.ownsRow base e (Enc.k α) s.v n (gcs xs)) : s.n = n ∧ Gr w s.a s.n xs ∧ s.n ≤ s.c ∧ s.c ≤ 9223372036854775807 := by
  obtain ⟨hl, h⟩ := h
  rw [gcs_length] at hl
  have hp := Enc.pos (α := α)
  have hln : xs.length = n := Nat.eq_of_mul_eq_mul_right hp hl
  rcases h with ⟨he, hn⟩ | ⟨g, cap, cur, he, hg, hb, hnc, hcm, hcs, htk⟩
  · have : s = ⟨none, 0, 0⟩ := SlR.inj he
    subst this
    rw [hn] at hln
    have : xs = [] := List.eq_nil_of_length_eq_zero hln
    subst this
    exact ⟨hn.symm, Gr.nil _ _, Nat.le_refl _, by show 0 ≤ _; omega⟩
  · have : s = ⟨some ⟨g, 0, none⟩, n, cap⟩ := SlR.inj he
    subst this
    refine ⟨rfl, ?_, hnc, by unfold maxLen at hcm; exact hcm⟩
    have hB : Blk w g e (gcs xs ++ cur.toList.drop (n * Enc.k α)) := by
      unfold Blk
      rw [← htk, List.take_append_drop]
      simpa using hb
    have := Gr.blk hB
    rw [hln] at this
    exact this
end
/-! ### rows that are being built, side by side -/
/-- What a row holds: its elements' type, their size, how many, the cells. -/
structure Ro where
  e : Nat
  sz : Nat
  n : Nat
  cs : List Value
def gH (H : Hd) (ss : List SlR) : Hd := fun c => H c ∨ ∃ s ∈ ss, s.v.ownBlock = some c
structure Gd (H : Hd) (base : Nat) (w : World) (ss : List SlR) (rs : List Ro) : Prop where
  len : ss.length = rs.length
  own : ∀ (i : Nat) s r, ss[i]? = some s → rs[i]? = some r → w.ownsRow base r.e r.sz s.v r.n r.cs
  apart : ∀ (i j : Nat) s t c, ss[i]? = some s → ss[j]? = some t → s.v.ownBlock = some c → t.v.ownBlock = some c → i = j
section
variable {H : Hd} {base : Nat} {w w' : World} {ss : List SlR} {rs : List Ro}
theorem owns_ext' {e sz n : Nat} {v : Value} {xs : List Value} (h1 : w.ownsRow base e sz v n xs) (x : Ext w w') : w'.ownsRow base e sz v n xs := by
  refine ⟨h1.1, ?_⟩
  rcases h1.2 with h | ⟨g, cap, cur, he, hg, hb, h⟩
  · exact .inl h
  · refine .inr ⟨g, cap, cur, he, hg, ?_, h⟩
    have hlt : g < w.heap.size := by
      rcases Nat.lt_or_ge g w.heap.size with h' | h'
      · exact h'
      · rw [Array.getElem?_eq_none h'] at hb; cases hb
    rw [x.block g hlt]; exact hb
theorem Gd.ext (h : Gd H base w ss rs) (x : Ext w w') : Gd H base w' ss rs := ⟨h.len, fun i s r h1 h2 => owns_ext' (h.own i s r h1 h2) x, h.apart⟩
theorem Gd.lt (h : Gd H base w ss rs) {i : Nat} {s : SlR} {c : Nat} (hi : ss[i]? = some s) (hc : s.v.ownBlock = some c) : base ≤ c ∧ c < w.heap.size := by
  have hil : i < ss.length := by
    rcases Nat.lt_or_ge i ss.length with h' | h'
    · exact h'
    · rw [List.getElem?_eq_none h'] at hi; cases hi
  have hr : rs[i]? = some (rs[i]'(by rw [← h.len]; exact hil)) := List.getElem?_eq_getElem _
  exact (h.own i s _ hi hr).lt c hc
theorem Gd.hb (h : Gd H base w ss rs) (hH : HB H w) : HB (gH H ss) w := by
  intro b hb
  rcases hb with hb | ⟨s, hs, hb⟩
  · exact hH b hb
  · obtain ⟨i, hi, rfl⟩ := List.getElem_of_mem hs
    exact (h.lt (List.getElem?_eq_getElem hi) hb).2
theorem Gd.keep {row : Option Nat} (h : Gd H base w ss rs) (hg : w.grownBy w' row) (hr : ∀ b, row = some b → b < base) : Gd H base w' ss rs :=
  ⟨h.len, fun i s r h1 h2 => (h.own i s r h1 h2).kept hg (by
    cases hv : s.v.ownBlock with
    | none => exact .inl rfl
    | some b => exact .inr fun e => by have := hr b e.symm; have := (h.lt h1 hv).1; omega), h.apart⟩
/-- A row exchanged for what it has become. -/
theorem Gd.set (h : Gd H base w ss rs) {i : Nat} {s s' : SlR} {r' : Ro} (hi : ss[i]? = some s) (ho : w'.ownsRow base r'.e r'.sz s'.v r'.n r'.cs) (hg : w.grownBy w' s.v.ownBlock) (hn : rowNew w s.v s'.v) : Gd H base w' (ss.set i s') (rs.set i r') := by
  have hil : i < ss.length := by
    rcases Nat.lt_or_ge i ss.length with h' | h'
    · exact h'
    · rw [List.getElem?_eq_none h'] at hi; cases hi
  refine ⟨by rw [List.length_set, List.length_set]; exact h.len, fun j t r h1 h2 => ?_, fun j q t u c h1 h2 h3 h4 => ?_⟩
  · by_cases hji : i = j
    · subst hji
      rw [List.getElem?_set_self hil] at h1
      rw [List.getElem?_set_self (by rw [← h.len]; exact hil)] at h2
      cases h1; cases h2
      exact ho
    · rw [List.getElem?_set_ne hji] at h1 h2
      refine (h.own j t r h1 h2).kept hg ?_
      cases hv : t.v.ownBlock with
      | none => exact .inl rfl
      | some b => exact .inr fun e => hji (h.apart i j s t b hi h1 e.symm hv)
  · have key : ∀ (j : Nat) t c, j ≠ i → ss[j]? = some t → t.v.ownBlock = some c → s'.v.ownBlock = some c → False := by
      intro j t c hj h1 h3 h4
      rcases hn with hn | hn
      · exact hj (h.apart j i t s c h1 hi h3 (by rw [← hn]; exact h4))
      · have := (h.lt h1 h3).2
        have := hn c h4
        omega
    by_cases hj : i = j
    · subst hj
      rw [List.getElem?_set_self hil] at h1; cases h1
      by_cases hq : i = q
      · exact hq
      · rw [List.getElem?_set_ne hq] at h2
        exact (key q u c (fun e => hq e.symm) h2 h4 h3).elim
    · rw [List.getElem?_set_ne hj] at h1
      by_cases hq : i = q
      · subst hq
        rw [List.getElem?_set_self hil] at h2; cases h2
        exact (key j t c (fun e => hj e.symm) h1 h3 h4).elim
      · rw [List.getElem?_set_ne hq] at h2
        exact h.apart j q t u c h1 h2 h3 h4
/-- A new row beside the others. -/
theorem Gd.push (h : Gd H base w ss rs) {s : SlR} {r : Ro} (ho : w'.ownsRow base r.e r.sz s.v r.n r.cs) (hx : Ext w w') (hn : ∀ c, s.v.ownBlock = some c → w.heap.size ≤ c) : Gd H base w' (ss ++ [s]) (rs ++ [r]) := by
  refine ⟨by simp [h.len], fun i t u h1 h2 => ?_, fun i j t u c h1 h2 h3 h4 => ?_⟩
  · rcases Nat.lt_or_ge i ss.length with hi | hi
    · rw [List.getElem?_append_left hi] at h1
      rw [List.getElem?_append_left (by rw [← h.len]; exact hi)] at h2
      exact owns_ext' (h.own i t u h1 h2) hx
    · rw [List.getElem?_append_right hi] at h1
      rw [List.getElem?_append_right (by rw [← h.len]; exact hi), ← h.len] at h2
      have h0 : i - ss.length = 0 := by
        rcases Nat.eq_zero_or_pos (i - ss.length) with h' | h'
        · exact h'
        · rw [List.getElem?_eq_none (by simp; omega)] at h1; cases h1
      rw [h0] at h1 h2
      cases h1; cases h2
      exact ho
  · have key : ∀ (i : Nat) t c, (ss ++ [s])[i]? = some t → t.v.ownBlock = some c → (i < ss.length ∧ ss[i]? = some t ∧ c < w.heap.size) ∨ (i = ss.length ∧ t = s ∧ w.heap.size ≤ c) := by
      intro i t c h1 h3
      rcases Nat.lt_or_ge i ss.length with hi | hi
      · rw [List.getElem?_append_left hi] at h1
        exact .inl ⟨hi, h1, (h.lt h1 h3).2⟩
      · rw [List.getElem?_append_right hi] at h1
        have h0 : i - ss.length = 0 := by
          rcases Nat.eq_zero_or_pos (i - ss.length) with h' | h'
          · exact h'
          · rw [List.getElem?_eq_none (by simp; omega)] at h1; cases h1
        rw [h0] at h1
        cases h1
        exact .inr ⟨by omega, rfl, hn c h3⟩
    rcases key i t c h1 h3 with ⟨a1, a2, a3⟩ | ⟨a1, a2, a3⟩
    · rcases key j u c h2 h4 with ⟨b1, b2, b3⟩ | ⟨b1, b2, b3⟩
      · exact h.apart i j t u c a2 b2 h3 h4
      · omega
    · rcases key j u c h2 h4 with ⟨b1, b2, b3⟩ | ⟨b1, b2, b3⟩
      · omega
      · omega
theorem gH_set {i : Nat} {s s' : SlR} (hi : ss[i]? = some s) (hn : rowNew w s.v s'.v) : ∀ b, gH H (ss.set i s') b → gH H ss b ∨ w.heap.size ≤ b := by
  intro b hb
  rcases hb with hb | ⟨t, ht, hb⟩
  · exact .inl (.inl hb)
  · rcases List.mem_or_eq_of_mem_set ht with ht | rfl
    · exact .inl (.inr ⟨t, ht, hb⟩)
    · rcases hn with hn | hn
      · exact .inl (.inr ⟨s, List.mem_of_getElem? hi, by rw [← hn]; exact hb⟩)
      · exact .inr (hn b hb)
/-- A fraction that stays out of all rows stays so when one of them grows. -/
theorem canQ_set {i : Nat} {s s' : SlR} (hi : ss[i]? = some s) (hg : w.grownBy w' s.v.ownBlock) (hn : rowNew w s.v s'.v) {r : RatR} {q : Rat} (h : CanQ (gH H ss) w r q) : CanQ (gH H (ss.set i s')) w' r q := by
  have h1 : CanQ (fun b => gH H ss b ∨ gH H (ss.set i s') b) w r q := h.to fun b hb => hb.elim .inl (gH_set hi hn b)
  exact (h1.grow hg (fun b hb => .inl (.inr ⟨s, List.mem_of_getElem? hi, hb⟩))).to fun b hb => .inl (.inr hb)
theorem inQ_set {k i : Nat} {s s' : SlR} (hi : ss[i]? = some s) (hg : w.grownBy w' s.v.ownBlock) (hn : rowNew w s.v s'.v) {r : RatR} {q : Rat} (h : InQ k (gH H ss) w r q) : InQ k (gH H (ss.set i s')) w' r q := by
  have h1 : InQ k (fun b => gH H ss b ∨ gH H (ss.set i s') b) w r q := h.to fun b hb => hb.elim .inl (gH_set hi hn b)
  exact (h1.grow hg (fun b hb => .inl (.inr ⟨s, List.mem_of_getElem? hi, hb⟩))).to fun b hb => .inl (.inr hb)
theorem gH_push {s : SlR} (hn : ∀ c, s.v.ownBlock = some c → w.heap.size ≤ c) : ∀ b, gH H (ss ++ [s]) b → gH H ss b ∨ w.heap.size ≤ b := by
  intro b hb
  rcases hb with hb | ⟨t, ht, hb⟩
  · exact .inl (.inl hb)
  · rw [List.mem_append, List.mem_singleton] at ht
    rcases ht with ht | rfl
    · exact .inl (.inr ⟨t, ht, hb⟩)
    · exact .inr (hn b hb)
end
end Go.Tw
/-
  Programs as the model's values have them. Contracts of the layer program: a vector times a point. Helpers; no statement of the program is proved here.
-/
set_option maxRecDepth 100000
set_option linter.unusedSimpArgs false
set_option linter.unusedVariables false
namespace Go.Tw
open Go Go.RowKit
instance : Enc RatR where
  cs := RatR.cs
  k := 4
  len := fun _ => rfl
  pos := by decide
  one := fun x v hv => by
    simp only [RatR.cs, List.mem_cons, List.not_mem_nil, or_false] at hv
    rcases hv with rfl | rfl | rfl | rfl <;> rfl
structure VarR where
  lo : RatR
  hi : RatR
  int : Bool
def VarR.cs (v : VarR) : List Value := [.bool v.lo.num.neg, .slice v.lo.num.a v.lo.num.n v.lo.num.c, .bool v.lo.den.neg, .slice v.lo.den.a v.lo.den.n v.lo.den.c, .bool v.hi.num.neg, .slice v.hi.num.a v.hi.num.n v.hi.num.c, .bool v.hi.den.neg, .slice v.hi.den.a v.hi.den.n v.hi.den.c, .bool v.int]
def VarR.v (v : VarR) : Value := .agg v.cs.toArray
instance : Enc VarR where
  cs := VarR.cs
  k := 9
  len := fun _ => rfl
  pos := by decide
  one := fun x v hv => by
    simp only [VarR.cs, List.mem_cons, List.not_mem_nil, or_false] at hv
    rcases hv with rfl | rfl | rfl | rfl | rfl | rfl | rfl | rfl | rfl <;> rfl
instance : Inhabited VarR := ⟨⟨RatR.zero, RatR.zero, false⟩⟩
structure RowR where
  a : SlR
  kind : Int
  b : RatR
def RowR.cs (r : RowR) : List Value := [r.a.v, .int .u8 r.kind, .bool r.b.num.neg, .slice r.b.num.a r.b.num.n r.b.num.c, .bool r.b.den.neg, .slice r.b.den.a r.b.den.n r.b.den.c]
def RowR.v (r : RowR) : Value := .agg r.cs.toArray
instance : Enc RowR where
  cs := RowR.cs
  k := 6
  len := fun _ => rfl
  pos := by decide
  one := fun x v hv => by
    simp only [RowR.cs, List.mem_cons, List.not_mem_nil, or_false] at hv
    rcases hv with rfl | rfl | rfl | rfl | rfl | rfl <;> rfl
instance : Inhabited RowR := ⟨⟨⟨none, 0, 0⟩, 0, RatR.zero⟩⟩
structure PrgR where
  vars : SlR
  rows : SlR
  cost : SlR
def PrgR.cs (p : PrgR) : List Value := [p.vars.v, p.rows.v, p.cost.v]
def PrgR.v (p : PrgR) : Value := .agg p.cs.toArray
structure FormR where
  m : Int
  cols : SlR
  lo : SlR
  hi : SlR
  cost : SlR
  b : SlR
def FormR.cs (f : FormR) : List Value := [.int .i64 f.m, f.cols.v, f.lo.v, f.hi.v, f.cost.v, f.b.v]
def FormR.v (f : FormR) : Value := .agg f.cs.toArray
theorem gr_getD {α : Type} [Enc α] [Inhabited α] {w : World} {a : Option Addr} {n : Nat} {xs : List α} (h : Gr w a n xs) {j : Nat} (hj : j < n) : xs[j]? = some (xs.getD j default) := by
  rw [List.getD_eq_getElem?_getD, List.getElem?_eq_getElem (by rw [h.len]; exact hj)]; rfl
end Go.Tw
namespace Go.Proofs.Ytlfdobjdlgebbaa
open Go Go.Tw Go.RowKit
attribute [local irreducible] LoadAt StoreOk Stored rawVC

abbrev VS := List (Rat × Rat × Bool)
abbrev RWS := List (VL × Int × Rat)
/-- A vector that comes in, in any order. -/
structure VJ (k l : Nat) (w : World) (r : SlR) (xs : VL) : Prop where
  inv : InV k H0 w r xs
  len : xs.length ≤ l
theorem VJ.ext {k l : Nat} {w w' : World} {r : SlR} {xs : VL} (h : VJ k l w r xs) (e : Ext w w') : VJ k l w' r xs := ⟨h.inv.ext e, h.len⟩
theorem VI.vj {k l : Nat} {w : World} {r : SlR} {xs : VL} (h : VI k l w r xs) : VJ k l w r xs := ⟨h.inv, h.len⟩
/-- A program that comes in: its numbers by parts of at most k digits, its vectors of at most l terms. -/
structure PrgI (k l : Nat) (w : World) (p : PrgR) (vr : List VarR) (rr : List RowR) (vs : VS) (rws : RWS) (cost : VL) : Prop where
  vars : Gr w p.vars.a p.vars.n vr
  vlen : vr.length = vs.length
  var : ∀ (j : Nat) v x, vr[j]? = some v → vs[j]? = some x → InQ k H0 w v.lo x.1 ∧ InQ k H0 w v.hi x.2.1 ∧ v.int = x.2.2
  rows : Gr w p.rows.a p.rows.n rr
  rlen : rr.length = rws.length
  row : ∀ (j : Nat) r x, rr[j]? = some r → rws[j]? = some x → VJ k l w r.a x.1 ∧ r.kind = x.2.1 ∧ InQ k H0 w r.b x.2.2
  cost : VJ k l w p.cost cost
theorem PrgI.ext {k l : Nat} {w w' : World} {p : PrgR} {vr : List VarR} {rr : List RowR} {vs : VS} {rws : RWS} {cost : VL} (h : PrgI k l w p vr rr vs rws cost) (e : Ext w w') : PrgI k l w' p vr rr vs rws cost :=
  ⟨h.vars.ext e, h.vlen, fun j v x h1 h2 => ⟨(h.var j v x h1 h2).1.ext e, (h.var j v x h1 h2).2.1.ext e, (h.var j v x h1 h2).2.2⟩, h.rows.ext e, h.rlen, fun j r x h1 h2 => ⟨(h.row j r x h1 h2).1.ext e, (h.row j r x h1 h2).2.1, (h.row j r x h1 h2).2.2.ext e⟩, h.cost.ext e⟩
/-- A point: a row of fractions. -/
structure PtI (k : Nat) (H : Hd) (w : World) (r : SlR) (rs : List RatR) (qs : List Rat) : Prop where
  row : Gr w r.a r.n rs
  len : rs.length = qs.length
  at' : ∀ (j : Nat) x q, rs[j]? = some x → qs[j]? = some q → InQ k H w x q
theorem PtI.to {k : Nat} {H H' : Hd} {w : World} {r : SlR} {rs : List RatR} {qs : List Rat} (h : PtI k H w r rs qs) (hH : ∀ b, H' b → H b ∨ w.heap.size ≤ b) : PtI k H' w r rs qs := ⟨h.row, h.len, fun j x q h1 h2 => (h.at' j x q h1 h2).to hH⟩
theorem PtI.ext {k : Nat} {H : Hd} {w w' : World} {r : SlR} {rs : List RatR} {qs : List Rat} (h : PtI k H w r rs qs) (e : Ext w w') : PtI k H w' r rs qs := ⟨h.row.ext e, h.len, fun j x q h1 h2 => (h.at' j x q h1 h2).ext e⟩
theorem num_at {w : World} (n : Int) (hn : n.natAbs < 65536) (hf : FitQ 1 (Rat.divInt n 1)) :
    CallS Try.prog 72 #[.int .i64 n] w fun v w' => Ext w w' ∧ ∃ s : RatR, v = s.v ∧ QC 1 w' s (Rat.divInt n 1) := by
  refine enter ttOk mixed (args := [.int .i64 n]) Try.func72 rfl (by kernel_rfl) (by kernel_rfl) rfl ?_
  intro b w1 hb
  refine CallS.mono (ROf_ok ((H0.hb w).up hb.ext) (by omega) (by omega) (by omega) (by omega)) ?_
  rintro _ w2 ⟨hx2, r, rfl, hr⟩
  have st := storeQ (r := r) (hb.toBlk.ext hx2) (hb.extFrom (Ext.rfl w) |>.trans' hx2) (hb.ge (Ext.rfl w)) rfl
  refine ⟨st.1, fun w3 hs3 => ?_⟩
  obtain ⟨hB3, hg3, hx3⟩ := st.2 w3 hs3
  refine ⟨r.v, loadQ hB3, ?_⟩
  exact ⟨hx3, r, rfl, (hr.far hg3 (hb.inUp (Ext.rfl w) (Ext.rfl w1))).less, hf⟩
/-- A vector times a point: the first i terms. -/
def timesQ (xs : VL) (qs : List Rat) (i : Nat) : Rat :=
  match i with
  | 0 => 0
  | i + 1 => if 0 ≤ pl xs i ∧ pl xs i < (qs.length : Int) then timesQ xs qs i + xl xs i * qs.getD (pl xs i).toNat 0 else timesQ xs qs i
def pK (k : Nat) (i : Nat) : Nat := 1 + i * (2 * k + 5)
theorem pK_mono {k i j : Nat} (h : i ≤ j) : pK k i ≤ pK k j := Nat.add_le_add_left (Nat.mul_le_mul_right _ h) _
theorem ptimes_ok {k l : Nat} {H : Hd} {w : World} {rx rp : SlR} {xs : VL} {rs : List RatR} {qs : List Rat} (hH : HB H w) (hx : InV k H w rx xs) (hp : PtI k H w rp rs qs) (hl : xs.length ≤ l) (hk : k ≤ 16777216 ∧ l ≤ 65536 ∧ pK k l ≤ 34359738368 ∧ rp.n ≤ 1099511627776) :
    CallS Try.prog 70 #[rx.v, rp.v] w fun v w' => Ext w w' ∧ ∃ s : RatR, v = s.v ∧ CanQ H w' s (timesQ xs qs xs.length) ∧ FitQ (pK k l) (timesQ xs qs xs.length) := by
  obtain ⟨hk1, hl1, hK, hn40⟩ := hk
  have hlen := hx.len
  have hpl := hp.row.len
  have hql := hp.len
  obtain ⟨⟨ts, hT, hI⟩, _, _, _⟩ := hx
  refine enter ttOk mixed (args := [rx.v, rp.v]) Try.func70 rfl (by kernel_rfl) (by kernel_rfl) rfl ?_
  intro b4 w1 hb4 b5 w2 hb5
  have hx2 := hb5.extFrom hb4.ext
  have hne : b4 ≠ b5 := by have := hb4.lt; have := hb5.isNew; omega
  have hB5 : Blk w2 b5 33 (rcs RatR.zero) := hb5.toBlk
  have hB4 : Blk w2 b4 33 (rcs RatR.zero) := hb4.toBlk.ext hb5.ext
  have hup4 : upH H w w2 b4 := hb4.inUp (Ext.rfl w) hb5.ext
  have hup5 : upH H w w2 b5 := hb5.inUp hb4.ext (Ext.rfl w2)
  have hge4 := hb4.ge (Ext.rfl w)
  have hge5 := hb5.ge hb4.ext
  refine ⟨Nat × RatR, fun x => [(1, rp.v), (4, .pointer (some ⟨b4, 0, none⟩)), (5, .pointer (some ⟨b5, 0, none⟩)), (8, rx.v), (9, .int .i64 (rx.n : Int)), (10, .int .i64 (x.1 : Int))],
    fun x w' => Ext w w' ∧ x.1 ≤ rx.n ∧ Blk w' b4 33 (rcs RatR.zero) ∧ Blk w' b5 33 (rcs x.2) ∧ w2.heap.size ≤ w'.heap.size ∧ CanQ (upH H w w2) w' x.2 (timesQ xs qs x.1) ∧ FitQ (pK k x.1) (timesQ xs qs x.1), fun x _ => rx.n - x.1,
    ⟨(0, RatR.zero), ⟨rfl, rfl, rfl, rfl, rfl, rfl, trivial⟩, hx2, Nat.zero_le _, hB4, hB5, Nat.le_refl _, CanQ.zero _ _, FitQ.zero (Nat.le_add_right _ _)⟩, ?_⟩
  rintro ⟨i, r⟩ w3 ⟨hx3, hi, hB43, hB53, hsz, hc, hf⟩
  dsimp only at *
  have hHB : HB (upH H w w2) w3 := fun b hb => hb.elim (fun h => Nat.lt_of_lt_of_le (hH b h) hx3.size) (fun h => Nat.lt_of_lt_of_le h.2 hsz)
  refine And.intro (fun h1 => ?_) (fun h1 => ?_)
  · have hin := ltTo h1
    obtain ⟨t, ht, hat, hq⟩ := hI.get (vget (ys := xs) (j := i) (by omega))
    refine ⟨i, ⟨rfl, hin, hT.base (by omega)⟩, t.v, (hT.ext hx3).load (ty := tT) ht rfl rfl, ?_⟩
    intro b7 w4 hb7
    have hs := storeTmB (w' := w4) (t := t) hb7.toBlk rfl
    refine ⟨hs.1, fun w5 hs5 => ?_⟩
    have h5 := (storeTmB (t := t) hb7.toBlk rfl).2 hs5
    have hx35 : Ext w3 w5 := Ext.grownB hb7.ext h5.2 (hb7.ge (Ext.rfl w3))
    have hx5 := Ext.trans' hx3 hx35
    have hB := h5.1
    have skip : ¬ (0 ≤ pl xs i ∧ pl xs i < (qs.length : Int)) → (Ext w w5 ∧ i + 1 ≤ rx.n ∧ Blk w5 b4 33 (rcs RatR.zero) ∧ Blk w5 b5 33 (rcs r) ∧ w2.heap.size ≤ w5.heap.size ∧ CanQ (upH H w w2) w5 r (timesQ xs qs (i + 1)) ∧ FitQ (pK k (i + 1)) (timesQ xs qs (i + 1))) := by
      intro hno
      have e : timesQ xs qs (i + 1) = timesQ xs qs i := by simp only [timesQ]; rw [if_neg hno]
      rw [e]
      exact ⟨hx5, hin, hB43.ext hx35, hB53.ext hx35, Nat.le_trans hsz hx35.size, hc.ext hx35, hf.mono (pK_mono (Nat.le_succ i))⟩
    refine ⟨_, hB.one (off := 0) rfl rfl, ?_⟩
    refine And.intro (fun h2 => ?_) (fun h2 => ?_)
    · refine ⟨_, hB.one (off := 0) rfl rfl, ?_⟩
      refine And.intro (fun h3 => ?_) (fun h3 => ?_)
      · obtain ⟨p, hp'⟩ : ∃ p : Nat, t.at' = (p : Int) := ⟨t.at'.toNat, by omega⟩
        have hat2 : pl xs i = (p : Int) := hat.symm.trans hp'
        have hpn : p < rp.n := by omega
        have hpr := gr_getD hp.row hpn
        have hqp : qs[p]? = some (qs.getD p 0) := by rw [List.getD_eq_getElem?_getD, List.getElem?_eq_getElem (by omega)]; rfl
        have hxq := hp.at' p _ _ hpr hqp
        have hupTo : ∀ b, upH H w w2 b → H b ∨ w.heap.size ≤ b := fun b hb => hb.elim .inl (fun h => .inr h.1)
        have hxq5 := (hxq.to hupTo).ext hx5
        have hq5 := (hq.to hupTo).ext hx5
        have hcond : 0 ≤ pl xs i ∧ pl xs i < (qs.length : Int) := by omega
        have hHB5 := HB.ext hHB hx35
        have hKi : pK k i ≤ pK k l := pK_mono (by omega)
        have hxp := hp.row.ext hx5
        refine ⟨sq 11, by kernel_rfl, r.v, loadQ (hB53.ext hx35), t.x.v, hB.agg (sub := rcs t.x) rfl rfl, _, hB.one (off := 0) rfl rfl, p, ⟨hp', hpn, hxp.base (by omega)⟩, (rs.getD p default).v, hxp.load hpr rfl rfl, ?_⟩
        refine dcallR (mk := RatR.v) (Q := fun r' w' => CanQ (upH H w w2) w' r' (xl xs i * qs.getD p 0)) RatR.inj (fun _ => CanQ.stable) (fun w' hw hF => RMul_ok (HB.ext hHB5 hw) ((hq5.ext hw).mono (by omega)) ((hxq5.ext hw).mono (by omega))) ?_
        intro rm
        have hfm : FitQ (k + 1 + (k + 1)) (xl xs i * qs.getD p 0) := FitQ.mul hq5.fit hxq5.fit (by omega)
        refine dcallR (mk := RatR.v) (Q := fun r' w' => CanQ (upH H w w2) w' r' (timesQ xs qs i + xl xs i * qs.getD p 0)) RatR.inj (fun _ => CanQ.stable) (fun w' hw hF => RAdd_ok (HB.ext hHB5 hw) (((hc.ext hx35).ext hw).inq (hf.mono (show pK k i ≤ 137438953472 by omega)) (by omega)) (hF.1.inq (hfm.mono (by omega)) (by omega))) ?_
        intro ra w6 hx6 hF6
        have st := storeQ (r := ra) ((hB53.ext hx35).ext hx6) (Ext.trans' hx5 hx6) hge5 rfl
        refine ⟨st.1, fun w7 hs7 => ?_⟩
        obtain ⟨hB7, hg7, hx7⟩ := st.2 w7 hs7
        intro w8 hx8 _
        have e : timesQ xs qs (i + 1) = timesQ xs qs i + xl xs i * qs.getD p 0 := by
          simp only [timesQ]; rw [if_pos hcond, hat2, Int.toNat_natCast]
        refine ⟨((i + 1 : Nat) : Int), sucI i (by omega), (i + 1, ra), ⟨rfl, rfl, rfl, rfl, rfl, rfl, trivial⟩, ⟨Ext.trans' hx7 hx8, hin, ?_, hB7.ext hx8, ?_, ?_, ?_⟩, Nat.sub_lt_sub_left hin (Nat.lt_succ_self i)⟩
        · exact (Blk.grownN ((hB43.ext hx35).ext hx6) hg7 hne).ext hx8
        · exact Nat.le_trans hsz (Nat.le_trans hx35.size (Nat.le_trans hx6.size (Nat.le_trans hg7.size hx8.size)))
        · show CanQ (upH H w w2) w8 ra (timesQ xs qs (i + 1))
          rw [e]; exact (hF6.1.far hg7 hup5).ext hx8
        · show FitQ (pK k (i + 1)) (timesQ xs qs (i + 1))
          rw [e]
          refine (FitQ.add hf hfm).mono ?_
          unfold pK; rw [Nat.add_mul]; omega
      · exact ⟨((i + 1 : Nat) : Int), sucI i (by omega), (i + 1, r), ⟨rfl, rfl, rfl, rfl, rfl, rfl, trivial⟩, skip (fun h => h3 (by omega)), Nat.sub_lt_sub_left hin (Nat.lt_succ_self i)⟩
    · exact ⟨((i + 1 : Nat) : Int), sucI i (by omega), (i + 1, r), ⟨rfl, rfl, rfl, rfl, rfl, rfl, trivial⟩, skip (fun h => h2 (by omega)), Nat.sub_lt_sub_left hin (Nat.lt_succ_self i)⟩
  · have hi' : i = rx.n := Nat.le_antisymm hi (geTo h1)
    rw [hi', hlen] at hc hf
    refine ⟨r.v, loadQ hB53, ?_⟩
    have st := storeQ (r := r) hB43 hx3 hge4 rfl
    refine ⟨st.1, fun w4 hs4 => ?_⟩
    obtain ⟨hB4', hg4, hx4⟩ := st.2 w4 hs4
    refine ⟨r.v, loadQ hB4', ?_⟩
    exact ⟨hx4, r, rfl, (hc.far hg4 hup4).less, hf.mono (pK_mono hl)⟩
end Go.Proofs.Ytlfdobjdlgebbaa
/-
  What comes in, opened, with a bound on its bulk: numbers, vectors, programs. Helpers; no statement of the program is proved here.
-/
set_option maxRecDepth 100000
set_option linter.unusedSimpArgs false
set_option linter.unusedVariables false
namespace Go.Proofs.Ytlfdobjdlgebbaa
open Go Go.Tw Go.RowKit Go.ChangeShapes Go.WideShapes Go.Deep

section
variable {H : Type}
theorem bulk_pos (d : DataW H) : 1 ≤ Rows.uptoBulk d := by
  cases d with
  | lit l => cases l <;> simp [Rows.uptoBulk]
  | _ => simp [Rows.uptoBulk]
theorem bulk_mem {l : List (DataW H)} {d : DataW H} (h : d ∈ l) : Rows.uptoBulk d ≤ Rows.uptoBulkAll l := by
  induction l with
  | nil => cases h
  | cons e l ih =>
    simp only [Rows.uptoBulkAll]
    rcases List.mem_cons.1 h with rfl | h
    · omega
    · have := ih h; omega
theorem bulk_len (l : List (DataW H)) : l.length ≤ Rows.uptoBulkAll l := by
  induction l with
  | nil => exact Nat.zero_le _
  | cons e l ih =>
    simp only [Rows.uptoBulkAll, List.length_cons]
    have := bulk_pos e
    omega
variable {enc : TypeId × Value → H} {w : World} {base B : Nat} {sp : Nat → Bool} {held : Bool} {fuel : Nat} {cs : List Value} {x : DataW H × List MemPlace}
theorem opLen {t e : Nat} (ht : Try.prog.underlying t = some (.slice e)) (h : DataW.trod enc Try.prog w base sp held fuel t cs = some x) (hB : Rows.uptoBulk x.1 ≤ B) : ∃ a n c, cs = [.slice a n c] ∧ n ≤ B := by
  rcases open_slice ht h with ⟨rfl, _⟩ | ⟨a, len, cap, m, n, D, Pl, rfl, hb, hl, hm, hmm, hx, hi⟩
  · exact ⟨none, 0, 0, rfl, Nat.zero_le _⟩
  · refine ⟨some a, len, cap, rfl, ?_⟩
    rw [hx] at hB
    simp only [Rows.uptoBulk] at hB
    have := bulk_len ((List.range len).map D)
    rw [List.length_map, List.length_range] at this
    omega
theorem opWordsB (h : DataW.trod enc Try.prog w base sp held fuel 29 cs = some x) (hB : Rows.uptoBulk x.1 ≤ B) : ∃ a n c L, cs = [.slice a n c] ∧ Words w a n L ∧ n ≤ c ∧ c ≤ 9223372036854775807 ∧ n ≤ B := by
  obtain ⟨a, n, c, L, e1, h1, h2, h3⟩ := opWords h
  obtain ⟨a', n', c', e2, h4⟩ := opLen (t := 29) (e := 88) rfl h hB
  rw [e1] at e2
  cases e2
  exact ⟨a, n, c, L, e1, h1, h2, h3, h4⟩
theorem opIntB (h : DataW.trod enc Try.prog w base sp held fuel 31 cs = some x) (hB : Rows.uptoBulk x.1 ≤ B) : ∃ r : IntR, cs = [.bool r.neg, .slice r.a r.n r.c] ∧ (∃ L, Words w r.a r.n L) ∧ r.n ≤ r.c ∧ r.c ≤ 9223372036854775807 ∧ r.n ≤ B := by
  obtain ⟨y0, y1, n, rfl, hl, h0, h1⟩ := trod_struct2 (t := 31) rfl h
  simp only [Rows.uptoBulk, Rows.uptoBulkAll] at hB
  obtain ⟨b, hb, _⟩ := DataW.trod_bool rfl h0
  obtain ⟨a, m, c, L, hs, hw, h2, h3, h4⟩ := opWordsB (B := B) h1 (by omega)
  have hl : cs.length = 2 := hl.trans (by kernel_rfl)
  match cs, hl with
  | [c0, c1], _ =>
    have k0 : c0 = Value.bool b := (List.cons.inj (show [c0] = [Value.bool b] from hb)).1
    have k1 : c1 = Value.slice a m c := (List.cons.inj (show [c1] = [Value.slice a m c] from hs)).1
    rw [k0, k1]
    exact ⟨⟨b, a, m, c⟩, rfl, ⟨L, hw⟩, h2, h3, h4⟩
theorem opRatB (h : DataW.trod enc Try.prog w base sp held fuel 33 cs = some x) (hB : Rows.uptoBulk x.1 ≤ B) : ∃ r : RatR, cs = rcs r ∧ OpQ w r ∧ shQ r B := by
  obtain ⟨y0, y1, n, rfl, hl, h0, h1⟩ := trod_struct2 (t := 33) rfl h
  simp only [Rows.uptoBulk, Rows.uptoBulkAll] at hB
  obtain ⟨r0, e0, w0, a0, b0, s0⟩ := opIntB (B := B) h0 (by omega)
  obtain ⟨r1, e1, w1, a1, b1, s1⟩ := opIntB (B := B) h1 (by omega)
  have hl : cs.length = 4 := hl.trans (by kernel_rfl)
  match cs, hl with
  | [c0, c1, c2, c3], _ =>
    have k0 : [c0, c1] = [Value.bool r0.neg, Value.slice r0.a r0.n r0.c] := e0
    have k1 : [c2, c3] = [Value.bool r1.neg, Value.slice r1.a r1.n r1.c] := e1
    have k2 : [c0, c1, c2, c3] = [c0, c1] ++ [c2, c3] := rfl
    rw [k2, k0, k1]
    exact ⟨⟨r0, r1⟩, rfl, ⟨w0, w1, a0, b0, a1, b1⟩, s0, s1⟩
theorem opTmB (h : DataW.trod enc Try.prog w base sp held fuel 77 cs = some x) (hB : Rows.uptoBulk x.1 ≤ B) : ∃ t : TmR, cs = t.cs ∧ OpQ w t.x ∧ shQ t.x B := by
  obtain ⟨y0, y1, n, rfl, hl, h0, h1⟩ := trod_struct2 (t := 77) rfl h
  simp only [Rows.uptoBulk, Rows.uptoBulkAll] at hB
  obtain ⟨z, e0, _, _⟩ := DataW.trod_int (k := .i64) rfl h0
  obtain ⟨r1, e1, w1, s1⟩ := opRatB (B := B) h1 (by omega)
  have hl : cs.length = 5 := hl.trans (by kernel_rfl)
  match cs, hl with
  | [c0, c1, c2, c3, c4], _ =>
    have k0 : c0 = Value.int .i64 z := (List.cons.inj (show [c0] = [Value.int .i64 z] from e0)).1
    have k1 : [c1, c2, c3, c4] = rcs r1 := e1
    rw [k0, k1]
    exact ⟨⟨z, r1⟩, rfl, w1, s1⟩
/-- A row of structs, opened. -/
theorem opGrB {α : Type} [Enc α] [Inhabited α] {Q : α → Prop} {t e : Nat} (ht : Try.prog.underlying t = some (.slice e)) (hk : Try.prog.cellsOf e = Enc.k α)
    (hone : ∀ {fuel : Nat} {cs : List Value} {x : DataW H × List MemPlace}, DataW.trod enc Try.prog w base sp held fuel e cs = some x → Rows.uptoBulk x.1 ≤ B → ∃ s : α, cs = Enc.cs s ∧ Q s)
    (h : DataW.trod enc Try.prog w base sp held fuel t cs = some x) (hB : Rows.uptoBulk x.1 ≤ B) :
    ∃ (r : SlR) (ts : List α), cs = [r.v] ∧ Gr w r.a r.n ts ∧ (∀ s ∈ ts, Q s) ∧ r.n ≤ r.c ∧ r.c ≤ 9223372036854775807 ∧ r.n ≤ B := by
  obtain ⟨a', n', c', e2, hnB⟩ := opLen ht h hB
  rcases open_slice ht h with ⟨rfl, _⟩ | ⟨a, len, cap, m, n, D, Pl, rfl, hb, hl, hm, hmm, hx, hi⟩
  · exact ⟨⟨none, 0, 0⟩, [], rfl, Gr.nil w none, fun s h => by simp at h, Nat.le_refl _, by show 0 ≤ _; omega, Nat.zero_le _⟩
  · have hnB : len ≤ B := by cases e2; exact hnB
    have hlm : len ≤ m := by rw [hmm]; split <;> omega
    have hp := Enc.pos (α := α)
    have hone' : ∀ i, i < len → ∃ s : α, Q s ∧ ∀ j v, (Enc.cs s)[j]? = some v → w.cell? (a.add (i * Enc.k α + j)) = some v := by
      intro i hil
      obtain ⟨cs', hc, ht⟩ := hi i (by omega)
      have hbd : Rows.uptoBulk (D i) ≤ B := by
        rw [hx] at hB
        simp only [Rows.uptoBulk] at hB
        have := bulk_mem (l := (List.range len).map D) (d := D i) (List.mem_map.2 ⟨i, List.mem_range.2 hil, rfl⟩)
        omega
      obtain ⟨s, rfl, hq⟩ := hone ht hbd
      refine ⟨s, hq, fun j v hj => ?_⟩
      have := (cells1 hc).2 j (by rw [hk]; exact enc_lt hj)
      rw [hk, add_add', hj] at this
      exact this
    obtain ⟨ts, hL, hP⟩ := listOf len hone'
    have hsp : 0 < len → a.spot = none := by
      intro h0
      obtain ⟨s, _, hz⟩ := hone' 0 h0
      have h1 : (Enc.cs s)[0]? = some ((Enc.cs s)[0]'(by rw [Enc.len]; exact hp)) := List.getElem?_eq_getElem _
      have := World.cell?_spot (hz 0 _ h1)
      cases a; simpa [Addr.add] using this
    refine ⟨⟨some a, len, cap⟩, ts, rfl, ⟨hL, fun h0 => ⟨a, rfl, hsp h0⟩, fun i v hv => ?_⟩, fun s hs => ?_, hl, by unfold maxLen at hm; exact hm, hnB⟩
    · obtain ⟨s, h1, h2⟩ := gcs_at hv
      have hj : i / Enc.k α < len := by
        rcases Nat.lt_or_ge (i / Enc.k α) len with h' | h'
        · exact h'
        · rw [List.getElem?_eq_none (by rw [hL]; exact h')] at h1; cases h1
      have := (hP _ s h1).2 _ v h2
      rw [Nat.div_add_mod'] at this
      show w.cell? (addrAt (some a) i) = _
      rw [← add_eq_addrAt (hsp (Nat.lt_of_le_of_lt (Nat.zero_le _) hj)) i]
      exact this
    · obtain ⟨j, hj, rfl⟩ := List.getElem_of_mem hs
      exact (hP j _ (List.getElem?_eq_getElem hj)).1
instance : Inhabited TmR := ⟨⟨0, RatR.zero⟩⟩
/-- A vector that comes in, its bulk bounded. -/
structure OpVB (B : Nat) (w : World) (r : SlR) (ts : List TmR) : Prop where
  op : OpV w r ts
  sh : ∀ t ∈ ts, shQ t.x B
  len : r.n ≤ B
theorem opVecB {t : Nat} (ht : Try.prog.underlying t = some (.slice 77)) (h : DataW.trod enc Try.prog w base sp held fuel t cs = some x) (hB : Rows.uptoBulk x.1 ≤ B) : ∃ (r : SlR) (ts : List TmR), cs = [r.v] ∧ OpVB B w r ts := by
  obtain ⟨a', n', c', e2, hnB⟩ := opLen ht h hB
  rcases open_slice ht h with ⟨rfl, _⟩ | ⟨a, len, cap, m, n, D, Pl, rfl, hb, hl, hm, hmm, hx, hi⟩
  · exact ⟨⟨none, 0, 0⟩, [], rfl, ⟨Tms.nil w none, fun t h => by simp at h, Nat.le_refl _, by show 0 ≤ _; omega⟩, fun t h => by simp at h, Nat.zero_le _⟩
  · have hnB : len ≤ B := by cases e2; exact hnB
    have hlm : len ≤ m := by rw [hmm]; split <;> omega
    have h5 : Try.prog.cellsOf 77 = 5 := by kernel_rfl
    have hone : ∀ i, i < len → ∃ t : TmR, (OpQ w t.x ∧ shQ t.x B) ∧ ∀ j v, t.cs[j]? = some v → w.cell? (a.add (i * 5 + j)) = some v := by
      intro i hil
      obtain ⟨cs', hc, ht⟩ := hi i (by omega)
      have hbd : Rows.uptoBulk (D i) ≤ B := by
        rw [hx] at hB
        simp only [Rows.uptoBulk] at hB
        have := bulk_mem (l := (List.range len).map D) (d := D i) (List.mem_map.2 ⟨i, List.mem_range.2 hil, rfl⟩)
        omega
      obtain ⟨t, rfl, hq⟩ := opTmB ht hbd
      refine ⟨t, hq, fun j v hj => ?_⟩
      have hj5 : j < 5 := by
        rcases Nat.lt_or_ge j 5 with h' | h'
        · exact h'
        · rw [List.getElem?_eq_none (by exact h')] at hj; cases hj
      have := (cells1 hc).2 j (by rw [h5]; exact hj5)
      rw [h5, add_add', hj] at this
      exact this
    obtain ⟨ts, hL, hP⟩ := listOf len hone
    have hsp : 0 < len → a.spot = none := by
      intro h0
      obtain ⟨t, _, hz⟩ := hone 0 h0
      have := World.cell?_spot (hz 0 _ rfl)
      cases a; simpa [Addr.add] using this
    have hall : ∀ t ∈ ts, OpQ w t.x ∧ shQ t.x B := fun t ht => by
      obtain ⟨j, hj, rfl⟩ := List.getElem_of_mem ht
      exact (hP j _ (List.getElem?_eq_getElem hj)).1
    refine ⟨⟨some a, len, cap⟩, ts, rfl, ⟨⟨hL, fun h0 => ⟨a, rfl, hsp h0⟩, fun i v hv => ?_⟩, fun t ht => (hall t ht).1, hl, by unfold maxLen at hm; exact hm⟩, fun t ht => (hall t ht).2, hnB⟩
    · obtain ⟨t, h1, h2⟩ := tcs_at hv
      have hj : i / 5 < len := by
        rcases Nat.lt_or_ge (i / 5) len with h' | h'
        · exact h'
        · rw [List.getElem?_eq_none (by omega)] at h1; cases h1
      have := (hP _ t h1).2 _ v h2
      rw [Nat.div_add_mod'] at this
      show w.cell? (addrAt (some a) i) = _
      rw [← add_eq_addrAt (hsp (by omega)) i]
      exact this
structure OpVar (B : Nat) (w : World) (v : VarR) : Prop where
  lo : OpQ w v.lo
  hi : OpQ w v.hi
  slo : shQ v.lo B
  shi : shQ v.hi B
structure OpRow (B : Nat) (w : World) (r : RowR) : Prop where
  a : ∃ ts, OpVB B w r.a ts
  b : OpQ w r.b
  sb : shQ r.b B
/-- A program that comes in. -/
structure OpPrg (B : Nat) (w : World) (p : PrgR) (vr : List VarR) (rr : List RowR) : Prop where
  vars : Gr w p.vars.a p.vars.n vr
  va : ∀ v ∈ vr, OpVar B w v
  rows : Gr w p.rows.a p.rows.n rr
  ra : ∀ r ∈ rr, OpRow B w r
  cost : ∃ ts, OpVB B w p.cost ts
  nv : p.vars.n ≤ B
  nr : p.rows.n ≤ B
theorem opVar (h : DataW.trod enc Try.prog w base sp held fuel 44 cs = some x) (hB : Rows.uptoBulk x.1 ≤ B) : ∃ v : VarR, cs = v.cs ∧ OpVar B w v := by
  obtain ⟨y0, y1, y2, n, rfl, hl, h0, h1, h2⟩ := trod_struct3 (t := 44) rfl h
  simp only [Rows.uptoBulk, Rows.uptoBulkAll] at hB
  obtain ⟨r0, e0, o0, s0⟩ := opRatB (B := B) h0 (by omega)
  obtain ⟨r1, e1, o1, s1⟩ := opRatB (B := B) h1 (by omega)
  obtain ⟨b, e2, _⟩ := DataW.trod_bool rfl h2
  have hl : cs.length = 9 := hl.trans (by kernel_rfl)
  match cs, hl with
  | [c0, c1, c2, c3, c4, c5, c6, c7, c8], _ =>
    have k0 : [c0, c1, c2, c3] = rcs r0 := e0
    have k1 : [c4, c5, c6, c7] = rcs r1 := e1
    have k2 : c8 = Value.bool b := (List.cons.inj (show [c8] = [Value.bool b] from e2)).1
    have k3 : [c0, c1, c2, c3, c4, c5, c6, c7, c8] = [c0, c1, c2, c3] ++ ([c4, c5, c6, c7] ++ [c8]) := rfl
    rw [k3, k0, k1, k2]
    exact ⟨⟨r0, r1, b⟩, rfl, o0, o1, s0, s1⟩
theorem opRow (h : DataW.trod enc Try.prog w base sp held fuel 35 cs = some x) (hB : Rows.uptoBulk x.1 ≤ B) : ∃ r : RowR, cs = r.cs ∧ OpRow B w r := by
  obtain ⟨y0, y1, y2, n, rfl, hl, h0, h1, h2⟩ := trod_struct3 (t := 35) rfl h
  simp only [Rows.uptoBulk, Rows.uptoBulkAll] at hB
  obtain ⟨s, ts, e0, o0⟩ := opVecB (B := B) rfl h0 (by omega)
  obtain ⟨z, e1, _, _⟩ := DataW.trod_int (k := .u8) rfl h1
  obtain ⟨r1, e2, o2, s2⟩ := opRatB (B := B) h2 (by omega)
  have hl : cs.length = 6 := hl.trans (by kernel_rfl)
  match cs, hl with
  | [c0, c1, c2, c3, c4, c5], _ =>
    have k0 : c0 = s.v := (List.cons.inj (show [c0] = [s.v] from e0)).1
    have k1 : c1 = Value.int .u8 z := (List.cons.inj (show [c1] = [Value.int .u8 z] from e1)).1
    have k2 : [c2, c3, c4, c5] = rcs r1 := e2
    rw [k0, k1, k2]
    exact ⟨⟨s, z, r1⟩, rfl, ⟨ts, o0⟩, o2, s2⟩
theorem opPrg (h : DataW.trod enc Try.prog w base sp held fuel 27 cs = some x) (hB : Rows.uptoBulk x.1 ≤ B) : ∃ (p : PrgR) (vr : List VarR) (rr : List RowR), cs = p.cs ∧ OpPrg B w p vr rr := by
  obtain ⟨y0, y1, y2, n, rfl, hl, h0, h1, h2⟩ := trod_struct3 (t := 27) rfl h
  simp only [Rows.uptoBulk, Rows.uptoBulkAll] at hB
  obtain ⟨vs, vr, e0, g0, a0, _, _, n0⟩ := opGrB (α := VarR) (B := B) (Q := OpVar B w) (t := 22) (e := 44) rfl (by kernel_rfl) (fun h hB => opVar h hB) h0 (by omega)
  obtain ⟨rs, rr, e1, g1, a1, _, _, n1⟩ := opGrB (α := RowR) (B := B) (Q := OpRow B w) (t := 23) (e := 35) rfl (by kernel_rfl) (fun h hB => opRow h hB) h1 (by omega)
  obtain ⟨cs0, ts, e2, o2⟩ := opVecB (B := B) rfl h2 (by omega)
  have hl : cs.length = 3 := hl.trans (by kernel_rfl)
  match cs, hl with
  | [c0, c1, c2], _ =>
    have k0 : c0 = vs.v := (List.cons.inj (show [c0] = [vs.v] from e0)).1
    have k1 : c1 = rs.v := (List.cons.inj (show [c1] = [rs.v] from e1)).1
    have k2 : c2 = cs0.v := (List.cons.inj (show [c2] = [cs0.v] from e2)).1
    rw [k0, k1, k2]
    exact ⟨⟨vs, rs, cs0⟩, vr, rr, rfl, g0, a0, g1, a1, ⟨ts, o2⟩, n0, n1⟩
end
end Go.Proofs.Ytlfdobjdlgebbaa
/-
  Contracts of the layer program: what a point costs; whether a program may be. Helpers; no statement of the program is proved here.
-/
set_option maxRecDepth 100000
set_option linter.unusedSimpArgs false
set_option linter.unusedVariables false
namespace Go.Tw
open Go Go.RowKit
theorem over_all : ∀ {cs vs : List Value}, cs.length = vs.length → over cs vs = vs
  | [], [], _ => rfl
  | c :: cs, v :: vs, h => by simp only [over]; rw [over_all (by simpa using h)]
/-- An element stored in a block of its own. -/
theorem storeE {α : Type} [Enc α] {T : TT} {w : World} {b t ty : Nat} {cs : List Value} (x : α) (hb : Blk w b t cs) (hk : (known (tyAt T ty) && Nat.beq (Enc.k α) (tyAt T ty).size && Nat.beq cs.length (Enc.k α)) = true) :
    StoreOk T w ty ⟨b, 0, none⟩ (.agg (Enc.cs x).toArray) ∧ ∀ w', Stored w w' ⟨b, 0, none⟩ (Value.agg (Enc.cs x).toArray).cells.toList → Blk w' b t (Enc.cs x) ∧ w.grownBy w' (some b) := by
  simp only [Bool.and_eq_true] at hk
  obtain ⟨⟨h1, h2⟩, h3⟩ := hk
  have h2 := (beq_iff _ _).1 h2
  have h3 := (beq_iff _ _).1 h3
  have hcells : (Value.agg (Enc.cs x).toArray).cells.toList = Enc.cs x := rfl
  refine ⟨storeOk (i := 0) rfl ?_ hb (by omega), fun w' hs => ?_⟩
  · rw [hcells, h1, Enc.len, ← h2, Nat.beq_refl]
    simp only [Bool.true_and]
    exact List.all_eq_true.2 (Enc.one x)
  · have h4 := Stored.blk hs hb
    have h5 : splice cs 0 (Enc.cs x) = Enc.cs x := by
      rw [show splice cs 0 (Enc.cs x) = over cs (Enc.cs x) by simp [splice]]
      exact over_all (by rw [Enc.len]; exact h3)
    rw [hcells, h5] at h4
    exact ⟨h4, (Stored.grown hs).1⟩
end Go.Tw
namespace Go.Proofs.Ytlfdobjdlgebbaa
open Go Go.Tw Go.RowKit
attribute [local irreducible] LoadAt StoreOk Stored rawVC

abbrev tPrg : Nat := 27
abbrev tVar : Nat := 44
abbrev tRow : Nat := 35
section
variable {k l : Nat} {w : World} {p : PrgR} {vr : List VarR} {rr : List RowR} {vs : VS} {rws : RWS} {cost : VL}
theorem Value_ok {rp : SlR} {rs : List RatR} {qs : List Rat} (hP : PrgI k l w p vr rr vs rws cost) (hp : PtI k H0 w rp rs qs) (hk : k ≤ 16777216 ∧ l ≤ 65536 ∧ pK k l ≤ 34359738368 ∧ rp.n ≤ 1099511627776) :
    CallS Try.prog 15 #[p.v, rp.v] w fun v w' => Ext w w' ∧ ∃ s : RatR, v = s.v ∧ QC (pK k l) w' s (timesQ cost qs cost.length) := by
  refine enter ttOk mixed (args := [p.v, rp.v]) Try.func15 rfl (by kernel_rfl) (by kernel_rfl) rfl ?_
  intro b2 w1 hb2 b4 w2 hb4
  have hx2 := hb4.extFrom hb2.ext
  have hB2 : Blk w2 b2 tPrg p.cs := hb2.toBlk.ext hb4.ext
  refine ⟨_, hB2.one (off := 2) rfl rfl, ?_⟩
  have hup : upH H0 w w2 b4 := hb4.inUp hb2.ext (Ext.rfl w2)
  have hto : ∀ b, upH H0 w w2 b → H0 b ∨ w.heap.size ≤ b := fun b hb => hb.imp_right fun h => h.1
  refine CallS.mono (ptimes_ok ((H0.hb w).up hx2) ((hP.cost.inv.to hto).ext hx2) ((hp.to hto).ext hx2) hP.cost.len hk) ?_
  rintro _ w3 ⟨hx3, r, rfl, hr, hf⟩
  have st := storeQ (r := r) (hb4.toBlk.ext hx3) (Ext.trans' hx2 hx3) (hb4.ge hb2.ext) rfl
  refine ⟨st.1, fun w4 hs4 => ?_⟩
  obtain ⟨hB4, hg4, hx4⟩ := st.2 w4 hs4
  refine ⟨r.v, loadQ hB4, ?_⟩
  exact ⟨hx4, r, rfl, (hr.far hg4 hup).less, hf⟩
/-- May it be a program? -/
structure Good (vs : VS) (rws : RWS) (RC : Bool) (RR : Nat → Bool) : Prop where
  nv : vs.length ≤ 600
  nr : rws.length ≤ 600
  rc : RC = true
  le : ∀ (j : Nat) x, vs[j]? = some x → x.1 ≤ x.2.1
  row : ∀ (j : Nat) x, rws[j]? = some x → 1 ≤ x.2.1 ∧ x.2.1 ≤ 3 ∧ RR j = true
theorem PRight_ok {RC : Bool} {RR : Nat → Bool} (hP : PrgI k l w p vr rr vs rws cost) (hk : k ≤ 137438953472 ∧ p.vars.n ≤ 1099511627776 ∧ p.rows.n ≤ 1099511627776)
    (hRC : ∀ w', Ext w w' → CallS Try.prog 50 #[p.cost.v, .int .i64 (vs.length : Int)] w' fun v w'' => Ext w' w'' ∧ v = .bool RC)
    (hRR : ∀ (j : Nat) r, rr[j]? = some r → ∀ w', Ext w w' → CallS Try.prog 50 #[r.a.v, .int .i64 (vs.length : Int)] w' fun v w'' => Ext w' w'' ∧ v = .bool (RR j)) :
    CallS Try.prog 13 #[p.v] w fun v w' => Ext w w' ∧ ∃ e : Int, v = .int .i64 e ∧ ((Good vs rws RC RR ∧ e = 0) ∨ (¬ Good vs rws RC RR ∧ e = 100)) := by
  obtain ⟨hk1, hn1, hn2⟩ := hk
  have hvn := hP.vars.len
  have hvl := hP.vlen
  have hrn := hP.rows.len
  have hrl := hP.rlen
  refine enter ttOk mixed (args := [p.v]) Try.func13 rfl (by kernel_rfl) (by kernel_rfl) rfl ?_
  intro b1 w1 hb1
  have hx1 := hb1.ext
  have hB1 : Blk w1 b1 tPrg p.cs := hb1.toBlk
  have clo : ∀ (r : SlR) (B : Bool), (∀ w', Ext w w' → CallS Try.prog 50 #[r.v, .int .i64 (vs.length : Int)] w' fun v w'' => Ext w' w'' ∧ v = .bool B) → ∀ w', Ext w1 w' → CallS Try.prog 67 #[r.v, .pointer (some ⟨b1, 0, none⟩)] w' fun v w'' => Ext w' w'' ∧ v = .bool B := by
    intro r B hB w' hx'
    refine enter ttOk mixed (args := [r.v, .pointer (some ⟨b1, 0, none⟩)]) Try.func67 rfl (by kernel_rfl) (by kernel_rfl) rfl ?_
    refine ⟨_, (hB1.ext hx').one (off := 0) rfl rfl, ?_⟩
    have e : ((p.vars.n : Nat) : Int) = (vs.length : Int) := by omega
    have hc := hB w' (Ext.trans' hx1 hx')
    rw [← e] at hc
    refine CallS.mono hc ?_
    rintro _ w2 ⟨hx2, rfl⟩
    exact ⟨hx2, rfl⟩
  refine ⟨_, hB1.one (off := 0) rfl rfl, ?_⟩
  refine And.intro (fun h1 => ?_) (fun h1 => ?_)
  · exact ⟨hx1, 100, rfl, .inr ⟨fun h => by have := h.nv; omega, rfl⟩⟩
  refine ⟨_, hB1.one (off := 1) rfl rfl, ?_⟩
  refine And.intro (fun h2 => ?_) (fun h2 => ?_)
  · exact ⟨hx1, 100, rfl, .inr ⟨fun h => by have := h.nr; omega, rfl⟩⟩
  refine ⟨_, hB1.one (off := 2) rfl rfl, ?_⟩
  refine CallS.mono (clo p.cost RC hRC w1 (Ext.rfl w1)) ?_
  rintro _ w2 ⟨hx2, rfl⟩
  cases hrc : RC with
  | false => exact ⟨Ext.trans' hx1 hx2, 100, rfl, .inr ⟨fun h => (by cases h.rc), rfl⟩⟩
  | true =>
    have hx02 := Ext.trans' hx1 hx2
    have hB2 := hB1.ext hx2
    refine ⟨_, hB2.one (off := 0) rfl rfl, ?_⟩
    refine ⟨Nat, fun x => [(1, .pointer (some ⟨b1, 0, none⟩)), (3, .func (.func 67) #[] #[.pointer (some ⟨b1, 0, none⟩)]), (27, p.vars.v), (28, .int .i64 (p.vars.n : Int)), (29, .int .i64 (x : Int))],
      fun x w' => Ext w1 w' ∧ x ≤ p.vars.n ∧ ∀ (j : Nat) y, j < x → vs[j]? = some y → y.1 ≤ y.2.1, fun x _ => p.vars.n - x, ⟨0, ⟨rfl, rfl, rfl, rfl, rfl, trivial⟩, hx2, Nat.zero_le _, fun j y h => absurd h (Nat.not_lt_zero _)⟩, ?_⟩
    rintro i w3 ⟨hx3, hi, hle⟩
    have hx03 := Ext.trans' hx1 hx3
    refine And.intro (fun h3 => ?_) (fun h3 => ?_)
    · have hin := ltTo h3
      have hg := gr_getD hP.vars hin
      have hgx : vs[i]? = some (vs[i]'(by omega)) := List.getElem?_eq_getElem (by omega)
      generalize vr.getD i default = v at hg
      generalize vs[i]'(by omega) = y at hgx
      obtain ⟨hlo, hhi, _⟩ := hP.var i v y hg hgx
      refine ⟨i, ⟨rfl, hin, hP.vars.base (by omega)⟩, v.v, (hP.vars.ext hx03).load hg rfl rfl, ?_⟩
      intro b5 w4 hb5
      have st := storeE (T := tt) (ty := tVar) v hb5.toBlk rfl
      refine ⟨st.1, fun w5 hs5 => ?_⟩
      obtain ⟨hB5, hg5⟩ := st.2 w5 hs5
      have hx35 : Ext w3 w5 := Ext.grownB hb5.ext hg5 (hb5.ge (Ext.rfl w3))
      have hx05 := Ext.trans' hx03 hx35
      refine ⟨v.lo.v, hB5.agg (sub := rcs v.lo) rfl rfl, v.hi.v, hB5.agg (sub := rcs v.hi) rfl rfl, ?_⟩
      refine CallS.mono (RCmp_ok (H0.hb w5) ((hlo.ext hx05).mono (by omega)) ((hhi.ext hx05).mono (by omega))) ?_
      rintro _ w6 ⟨hx6, rfl⟩
      refine And.intro (fun h4 => ?_) (fun h4 => ?_)
      · refine ⟨Ext.trans' hx05 hx6, 100, rfl, .inr ⟨fun h => ?_, rfl⟩⟩
        have h5 := h.le i y hgx
        have h6 := cmpQ_pos.1 h4
        exact absurd h5 (Rat.not_le.2 h6)
      · refine ⟨((i + 1 : Nat) : Int), sucI i (by omega), i + 1, ⟨rfl, rfl, rfl, rfl, rfl, trivial⟩, ⟨Ext.trans' (Ext.trans' hx3 hx35) hx6, hin, fun j z hj hz => ?_⟩, Nat.sub_lt_sub_left hin (Nat.lt_succ_self i)⟩
        rcases Nat.lt_or_eq_of_le (Nat.le_of_lt_succ hj) with h | h
        · exact hle j z h hz
        · subst h
          rw [hgx] at hz; cases hz
          exact Rat.not_lt.1 (fun h => h4 (cmpQ_pos.2 h))
    · have hi' : i = p.vars.n := Nat.le_antisymm hi (geTo h3)
      have hleA : ∀ (j : Nat) y, vs[j]? = some y → y.1 ≤ y.2.1 := fun j y hy => hle j y (by
        rcases Nat.lt_or_ge j vs.length with h | h
        · omega
        · rw [List.getElem?_eq_none h] at hy; cases hy) hy
      refine ⟨_, (hB1.ext hx3).one (off := 1) rfl rfl, ?_⟩
      refine ⟨Nat, fun x => [(1, .pointer (some ⟨b1, 0, none⟩)), (3, .func (.func 67) #[] #[.pointer (some ⟨b1, 0, none⟩)]), (41, p.rows.v), (42, .int .i64 (p.rows.n : Int)), (43, .int .i64 (x : Int))],
        fun x w' => Ext w1 w' ∧ x ≤ p.rows.n ∧ ∀ (j : Nat) y, j < x → rws[j]? = some y → 1 ≤ y.2.1 ∧ y.2.1 ≤ 3 ∧ RR j = true, fun x _ => p.rows.n - x, ⟨0, ⟨rfl, rfl, rfl, rfl, rfl, trivial⟩, hx3, Nat.zero_le _, fun j y h => absurd h (Nat.not_lt_zero _)⟩, ?_⟩
      rintro q w4 ⟨hx4, hq, hrow⟩
      have hx04 := Ext.trans' hx1 hx4
      refine And.intro (fun h4 => ?_) (fun h4 => ?_)
      · have hqn := ltTo h4
        have hg := gr_getD hP.rows hqn
        have hgx : rws[q]? = some (rws[q]'(by omega)) := List.getElem?_eq_getElem (by omega)
        generalize rr.getD q default = r at hg
        generalize rws[q]'(by omega) = y at hgx
        obtain ⟨hra, hrk, hrb⟩ := hP.row q r y hg hgx
        refine ⟨q, ⟨rfl, hqn, hP.rows.base (by omega)⟩, r.v, (hP.rows.ext hx04).load hg rfl rfl, ?_⟩
        intro b7 w5 hb7
        have st := storeE (T := tt) (ty := tRow) r hb7.toBlk rfl
        refine ⟨st.1, fun w6 hs6 => ?_⟩
        obtain ⟨hB6, hg6⟩ := st.2 w6 hs6
        have hx46 : Ext w4 w6 := Ext.grownB hb7.ext hg6 (hb7.ge (Ext.rfl w4))
        have hx06 := Ext.trans' hx04 hx46
        have bad : ¬ (1 ≤ y.2.1 ∧ y.2.1 ≤ 3 ∧ RR q = true) → ∀ w', Ext w6 w' → (Ext w w' ∧ ∃ e : Int, Value.int .i64 100 = .int .i64 e ∧ ((Good vs rws true RR ∧ e = 0) ∨ (¬ Good vs rws true RR ∧ e = 100))) := fun hno w' hx' => ⟨Ext.trans' hx06 hx', 100, rfl, .inr ⟨fun h => hno (h.row q y hgx), rfl⟩⟩
        refine ⟨_, hB6.one (off := 1) rfl rfl, ?_⟩
        refine And.intro (fun h5 => ?_) (fun h5 => ?_)
        · exact bad (fun h => by omega) w6 (Ext.rfl w6)
        refine ⟨_, hB6.one (off := 1) rfl rfl, ?_⟩
        refine And.intro (fun h6 => ?_) (fun h6 => ?_)
        · exact bad (fun h => by omega) w6 (Ext.rfl w6)
        refine ⟨_, hB6.one (off := 0) rfl rfl, ?_⟩
        refine CallS.mono (clo r.a (RR q) (fun w' hx' => hRR q r hg w' hx') w6 (Ext.trans' hx4 hx46)) ?_
        rintro _ w7 ⟨hx7, rfl⟩
        cases hrr : RR q with
        | false => exact bad (fun h => by rw [hrr] at h; cases h.2.2) w7 hx7
        | true =>
          refine ⟨((q + 1 : Nat) : Int), sucI q (by omega), q + 1, ⟨rfl, rfl, rfl, rfl, rfl, trivial⟩, ⟨Ext.trans' (Ext.trans' hx4 hx46) hx7, hqn, fun j z hj hz => ?_⟩, Nat.sub_lt_sub_left hqn (Nat.lt_succ_self q)⟩
          rcases Nat.lt_or_eq_of_le (Nat.le_of_lt_succ hj) with h | h
          · exact hrow j z h hz
          · subst h
            rw [hgx] at hz; cases hz
            exact ⟨by omega, by omega, hrr⟩
      · have hq' : q = p.rows.n := Nat.le_antisymm hq (geTo h4)
        refine ⟨Ext.trans' hx1 hx4, 0, rfl, .inl ⟨⟨by omega, by omega, rfl, hleA, fun j y hy => hrow j y (by
          rcases Nat.lt_or_ge j rws.length with h | h
          · omega
          · rw [List.getElem?_eq_none h] at hy; cases hy) hy⟩, rfl⟩⟩
end
end Go.Proofs.Ytlfdobjdlgebbaa
/-
  Contracts of the layer program: the span of a vector. Helpers; no statement of the program is proved here.
-/
set_option maxRecDepth 100000
set_option linter.unusedSimpArgs false
set_option linter.unusedVariables false
namespace Go.Proofs.Ytlfdobjdlgebbaa
open Go Go.Tw Go.RowKit
attribute [local irreducible] LoadAt StoreOk Stored rawVC

theorem _root_.Go.Tw.Words.noInt {w : World} {a : Option Addr} {n b t : Nat} {L : List Nat} {cs : List Value} (h : Words w a n L) (hb : Blk w b t cs) (hc : ∀ v ∈ cs, ∀ x, v ≠ .int .u64 x) (hn : 0 < n) : Tw.blk a ≠ b := by
  intro e
  have hl := h.len
  have h0 := h.get 0 _ (List.getElem?_eq_getElem (by omega))
  unfold Blk at hb
  have e2 : (addrAt a 0).block = b := e
  simp only [World.cell?, e2, hb] at h0
  split at h0
  · cases h0
  · have := List.mem_of_getElem? (l := cs) (by simpa using h0)
    exact hc _ this _ rfl
theorem _root_.Go.Tw.CanI.with {H : Hd} {w : World} {r : IntR} {z : Int} {b t : Nat} {cs : List Value} (h : CanI H w r z) (hb : Blk w b t cs) (hc : ∀ v ∈ cs, ∀ x, v ≠ .int .u64 x) : CanI (fun c => H c ∨ c = b) w r z :=
  ⟨h.neg, h.words, h.nc, h.cm, fun hn h' => h'.elim (h.av hn) (h.words.noInt hb hc hn)⟩
/-- No digits lie in the cell of a fraction. -/
theorem _root_.Go.Tw.CanQ.with {H : Hd} {w : World} {r s : RatR} {q : Rat} {b t : Nat} (h : CanQ H w r q) (hb : Blk w b t (rcs s)) : CanQ (fun c => H c ∨ c = b) w r q := by
  have hc : ∀ v ∈ rcs s, ∀ x, v ≠ .int .u64 x := by
    intro v hv x e
    subst e
    simp [rcs] at hv
  exact ⟨h.num.with hb hc, h.den.with hb hc⟩
/-- .. nor in that of a term. -/
theorem _root_.Go.Tw.CanQ.withT {H : Hd} {w : World} {r : RatR} {t : TmR} {q : Rat} {b t' : Nat} (h : CanQ H w r q) (hb : Blk w b t' (tcs [t])) : CanQ (fun c => H c ∨ c = b) w r q := by
  have hc : ∀ v ∈ tcs [t], ∀ x, v ≠ .int .u64 x := by
    intro v hv x e
    subst e
    rw [tcs_one] at hv
    simp [TmR.cs] at hv
  exact ⟨h.num.with hb hc, h.den.with hb hc⟩
/-- Variables that come in. -/
structure VarsI (k : Nat) (H : Hd) (w : World) (s : SlR) (vr : List VarR) (vs : VS) : Prop where
  row : Gr w s.a s.n vr
  len : vr.length = vs.length
  at' : ∀ (j : Nat) v x, vr[j]? = some v → vs[j]? = some x → InQ k H w v.lo x.1 ∧ InQ k H w v.hi x.2.1 ∧ v.int = x.2.2
theorem VarsI.ext {k : Nat} {H : Hd} {w w' : World} {s : SlR} {vr : List VarR} {vs : VS} (h : VarsI k H w s vr vs) (e : Ext w w') : VarsI k H w' s vr vs := ⟨h.row.ext e, h.len, fun j v x h1 h2 => ⟨(h.at' j v x h1 h2).1.ext e, (h.at' j v x h1 h2).2.1.ext e, (h.at' j v x h1 h2).2.2⟩⟩
theorem VarsI.to {k : Nat} {H H' : Hd} {w : World} {s : SlR} {vr : List VarR} {vs : VS} (h : VarsI k H w s vr vs) (hH : ∀ b, H' b → H b ∨ w.heap.size ≤ b) : VarsI k H' w s vr vs := ⟨h.row, h.len, fun j v x h1 h2 => ⟨(h.at' j v x h1 h2).1.to hH, (h.at' j v x h1 h2).2.1.to hH, (h.at' j v x h1 h2).2.2⟩⟩
theorem PrgI.vs {k l : Nat} {w : World} {p : PrgR} {vr : List VarR} {rr : List RowR} {vs : VS} {rws : RWS} {cost : VL} (h : PrgI k l w p vr rr vs rws cost) : VarsI k H0 w p.vars vr vs := ⟨h.vars, h.vlen, h.var⟩
def minQ (p q : Rat) : Rat := if q < p then q else p
def maxQ (p q : Rat) : Rat := if p < q then q else p
/-- The least and the greatest that a vector can tell: its first i terms. -/
def spanQ (vs : VS) (xs : VL) (i : Nat) : Rat × Rat :=
  match i with
  | 0 => (0, 0)
  | i + 1 =>
    if 0 ≤ pl xs i ∧ pl xs i < (vs.length : Int) then
      ((spanQ vs xs i).1 + minQ (xl xs i * (vs.getD (pl xs i).toNat default).1) (xl xs i * (vs.getD (pl xs i).toNat default).2.1), (spanQ vs xs i).2 + maxQ (xl xs i * (vs.getD (pl xs i).toNat default).1) (xl xs i * (vs.getD (pl xs i).toNat default).2.1))
    else spanQ vs xs i
theorem fit_min {k : Nat} {p q : Rat} (h : FitQ k p) (h' : FitQ k q) : FitQ k (minQ p q) := by unfold minQ; split <;> assumption
theorem fit_max {k : Nat} {p q : Rat} (h : FitQ k p) (h' : FitQ k q) : FitQ k (maxQ p q) := by unfold maxQ; split <;> assumption
structure SpI (k : Nat) (H : Hd) (w w5 : World) (b4 b5 b6 b7 : Nat) (vs : VS) (xs : VL) (i : Nat) (rl rh : RatR) (w' : World) : Prop where
  ext : Ext w w'
  sz : w5.heap.size ≤ w'.heap.size
  c4 : Blk w' b4 33 (rcs RatR.zero)
  c5 : Blk w' b5 33 (rcs RatR.zero)
  c6 : Blk w' b6 33 (rcs rl)
  c7 : Blk w' b7 33 (rcs rh)
  ql : CanQ (upH H w w5) w' rl (spanQ vs xs i).1
  qh : CanQ (upH H w w5) w' rh (spanQ vs xs i).2
  fl : FitQ (pK k i) (spanQ vs xs i).1
  fh : FitQ (pK k i) (spanQ vs xs i).2
theorem SpI.go {k : Nat} {H : Hd} {w w5 : World} {b4 b5 b6 b7 : Nat} {vs : VS} {xs : VL} {i : Nat} {rl rh : RatR} {w' w'' : World} (h : SpI k H w w5 b4 b5 b6 b7 vs xs i rl rh w') (e : Ext w' w'') : SpI k H w w5 b4 b5 b6 b7 vs xs i rl rh w'' :=
  ⟨Ext.trans' h.ext e, Nat.le_trans h.sz e.size, h.c4.ext e, h.c5.ext e, h.c6.ext e, h.c7.ext e, h.ql.ext e, h.qh.ext e, h.fl, h.fh⟩
theorem Span_ok {k l : Nat} {H : Hd} {w : World} {p : PrgR} {vr : List VarR} {vs : VS} {rx : SlR} {xs : VL} (hH : HB H w) (hv : VarsI k H w p.vars vr vs) (hx : InV k H w rx xs) (hl : xs.length ≤ l) (hk : k ≤ 16777216 ∧ l ≤ 65536 ∧ pK k l ≤ 34359738368 ∧ p.vars.n ≤ 1099511627776) :
    CallS Try.prog 53 #[p.v, rx.v] w fun v w' => Ext w w' ∧ ∃ s t : RatR, v = .tuple #[s.v, t.v] ∧ (CanQ H w' s (spanQ vs xs xs.length).1 ∧ FitQ (pK k l) (spanQ vs xs xs.length).1) ∧ (CanQ H w' t (spanQ vs xs xs.length).2 ∧ FitQ (pK k l) (spanQ vs xs xs.length).2) := by
  obtain ⟨hk1, hl1, hK, hn40⟩ := hk
  have hlen := hx.len
  have hvl := hv.row.len
  have hvn := hv.len
  obtain ⟨⟨ts, hT, hI⟩, _, _, _⟩ := hx
  refine enter ttOk mixed (args := [p.v, rx.v]) Try.func53 rfl (by kernel_rfl) (by kernel_rfl) rfl ?_
  intro b2 w1 hb2 b4 w2 hb4 b5 w3 hb5 b6 w4 hb6 b7 w5 hb7
  have x1 := hb2.ext
  have x2 := hb4.extFrom x1
  have x3 := hb5.extFrom x2
  have x4 := hb6.extFrom x3
  have x5 := hb7.extFrom x4
  have hB2 : Blk w5 b2 tPrg p.cs := hb2.toBlk.ext (Ext.trans' (Ext.trans' (Ext.trans' hb4.ext hb5.ext) hb6.ext) hb7.ext)
  have l4 := hb4.lt
  have l5 := hb5.lt
  have l6 := hb6.lt
  have n5 := hb5.isNew
  have n6 := hb6.isNew
  have n7 := hb7.isNew
  have s45 := hb5.ext.size
  have s56 := hb6.ext.size
  have n26 : b2 ≠ b6 := by have := hb2.lt; have := hb4.ext.size; omega
  have n27 : b2 ≠ b7 := by have := hb2.lt; have := hb4.ext.size; omega
  have ne45 : b4 ≠ b5 := by omega
  have ne46 : b4 ≠ b6 := by omega
  have ne47 : b4 ≠ b7 := by omega
  have ne56 : b5 ≠ b6 := by omega
  have ne57 : b5 ≠ b7 := by omega
  have ne67 : b6 ≠ b7 := by omega
  have u4 : upH H w w5 b4 := hb4.inUp x1 (Ext.trans' (Ext.trans' hb5.ext hb6.ext) hb7.ext)
  have u5 : upH H w w5 b5 := hb5.inUp x2 (Ext.trans' hb6.ext hb7.ext)
  have u6 : upH H w w5 b6 := hb6.inUp x3 hb7.ext
  have u7 : upH H w w5 b7 := hb7.inUp x4 (Ext.rfl w5)
  have g4 := hb4.ge x1
  have g5 := hb5.ge x2
  have g6 := hb6.ge x3
  have g7 := hb7.ge x4
  refine ⟨Nat × RatR × RatR, fun x => [(2, .pointer (some ⟨b2, 0, none⟩)), (4, .pointer (some ⟨b4, 0, none⟩)), (5, .pointer (some ⟨b5, 0, none⟩)), (6, .pointer (some ⟨b6, 0, none⟩)), (7, .pointer (some ⟨b7, 0, none⟩)), (13, rx.v), (14, .int .i64 (rx.n : Int)), (15, .int .i64 (x.1 : Int))],
    fun x w' => SpI k H w w5 b4 b5 b6 b7 vs xs x.1 x.2.1 x.2.2 w' ∧ Blk w' b2 tPrg p.cs ∧ x.1 ≤ rx.n, fun x _ => rx.n - x.1,
    ⟨(0, RatR.zero, RatR.zero), ⟨rfl, rfl, rfl, rfl, rfl, rfl, rfl, rfl, trivial⟩, ⟨x5, Nat.le_refl _, hb4.toBlk.ext (Ext.trans' (Ext.trans' hb5.ext hb6.ext) hb7.ext), hb5.toBlk.ext (Ext.trans' hb6.ext hb7.ext), hb6.toBlk.ext hb7.ext, hb7.toBlk, CanQ.zero _ _, CanQ.zero _ _, FitQ.zero (Nat.le_add_right _ _), FitQ.zero (Nat.le_add_right _ _)⟩, hB2, Nat.zero_le _⟩, ?_⟩
  clear hB2 l4 l5 l6 n5 n6 n7 s45 s56 x1 x2 x3 x4
  rintro ⟨i, rl, rh⟩ w6 ⟨hS, hB2, hi⟩
  dsimp only at *
  refine And.intro (fun h1 => ?_) (fun h1 => ?_)
  · have hin := ltTo h1
    obtain ⟨t, ht, hat, hq⟩ := hI.get (vget (ys := xs) (j := i) (by omega))
    refine ⟨i, ⟨rfl, hin, hT.base (by omega)⟩, t.v, (hT.ext hS.ext).load (ty := tT) ht rfl rfl, ?_⟩
    intro b9 w7 hb9
    have hs := storeTmB (w' := w7) (t := t) hb9.toBlk rfl
    refine ⟨hs.1, fun w8 hs8 => ?_⟩
    have h8 := (storeTmB (t := t) hb9.toBlk rfl).2 hs8
    have hx68 : Ext w6 w8 := Ext.grownB hb9.ext h8.2 (hb9.ge (Ext.rfl w6))
    have hS8 := hS.go hx68
    have hB28 := hB2.ext hx68
    have hB := h8.1
    have skip : ¬ (0 ≤ pl xs i ∧ pl xs i < (vs.length : Int)) → SpI k H w w5 b4 b5 b6 b7 vs xs (i + 1) rl rh w8 := by
      intro hno
      have e : spanQ vs xs (i + 1) = spanQ vs xs i := by simp only [spanQ]; rw [if_neg hno]
      exact ⟨hS8.ext, hS8.sz, hS8.c4, hS8.c5, hS8.c6, hS8.c7, by rw [e]; exact hS8.ql, by rw [e]; exact hS8.qh, by rw [e]; exact hS8.fl.mono (pK_mono (Nat.le_succ i)), by rw [e]; exact hS8.fh.mono (pK_mono (Nat.le_succ i))⟩
    refine ⟨_, hB.one (off := 0) rfl rfl, ?_⟩
    refine And.intro (fun h2 => ?_) (fun h2 => ?_)
    · exact ⟨((i + 1 : Nat) : Int), sucI i (by omega), (i + 1, rl, rh), ⟨rfl, rfl, rfl, rfl, rfl, rfl, rfl, rfl, trivial⟩, ⟨skip (fun h => by omega), hB28, hin⟩, Nat.sub_lt_sub_left hin (Nat.lt_succ_self i)⟩
    refine ⟨_, hB.one (off := 0) rfl rfl, _, hB28.one (off := 0) rfl rfl, ?_⟩
    refine And.intro (fun h3 => ?_) (fun h3 => ?_)
    · exact ⟨((i + 1 : Nat) : Int), sucI i (by omega), (i + 1, rl, rh), ⟨rfl, rfl, rfl, rfl, rfl, rfl, rfl, rfl, trivial⟩, ⟨skip (fun h => by omega), hB28, hin⟩, Nat.sub_lt_sub_left hin (Nat.lt_succ_self i)⟩
    refine (show ∃ q : Nat, t.at' = (q : Int) from ⟨t.at'.toNat, by omega⟩).elim fun q hq' => ?_
    have hqn : q < p.vars.n := by omega
    have hat2 : pl xs i = (q : Int) := hat.symm.trans hq'
    have hg := gr_getD hv.row hqn
    have hgx : vs[q]? = some (vs.getD q default) := by rw [List.getD_eq_getElem?_getD, List.getElem?_eq_getElem (by omega)]; rfl
    generalize vr.getD q default = v at hg
    have hva := hv.at' q v _ hg hgx
    have hcond : 0 ≤ pl xs i ∧ pl xs i < (vs.length : Int) := by omega
    have e : spanQ vs xs (i + 1) = ((spanQ vs xs i).1 + minQ (xl xs i * (vs.getD q default).1) (xl xs i * (vs.getD q default).2.1), (spanQ vs xs i).2 + maxQ (xl xs i * (vs.getD q default).1) (xl xs i * (vs.getD q default).2.1)) := by
      simp only [spanQ]; rw [if_pos hcond, hat2, Int.toNat_natCast]
    generalize (vs.getD q default) = y at hva e
    refine ⟨_, hB28.one (off := 0) rfl rfl, _, hB.one (off := 0) rfl rfl, q, ⟨hq', hqn, (hv.row.ext hS8.ext).base (by omega)⟩, v.v, (hv.row.ext hS8.ext).load hg rfl rfl, ?_⟩
    intro b10 w9 hb10
    have st := storeE (T := tt) (ty := tVar) v hb10.toBlk rfl
    refine ⟨st.1, fun w10 hs10 => ?_⟩
    obtain ⟨hB10, hg10⟩ := st.2 w10 hs10
    have hx810 : Ext w8 w10 := Ext.grownB hb10.ext hg10 (hb10.ge (Ext.rfl w8))
    have hS10 := hS8.go hx810
    have hB210 := hB28.ext hx810
    have hBt := hB.ext hx810
    have hHB : HB (upH H w w5) w10 := fun b hb => hb.elim (fun h => Nat.lt_of_lt_of_le (hH b h) hS10.ext.size) (fun h => Nat.lt_of_lt_of_le h.2 hS10.sz)
    have hupTo : ∀ b, upH H w w5 b → H b ∨ w.heap.size ≤ b := fun b hb => hb.elim .inl (fun h => .inr h.1)
    have ilo := (hva.1.to hupTo).ext hS10.ext
    have ihi := (hva.2.1.to hupTo).ext hS10.ext
    have iq := (hq.to hupTo).ext hS10.ext
    have hfl : FitQ (k + 1 + (k + 1)) (xl xs i * y.1) := FitQ.mul iq.fit ilo.fit (by omega)
    have hfh : FitQ (k + 1 + (k + 1)) (xl xs i * y.2.1) := FitQ.mul iq.fit ihi.fit (by omega)
    have hKi : pK k i ≤ pK k l := pK_mono (by omega)
    refine ⟨sq 14, by kernel_rfl, t.x.v, hBt.agg (sub := rcs t.x) rfl rfl, v.lo.v, hB10.agg (sub := rcs v.lo) rfl rfl, ?_⟩
    refine dcallR (mk := RatR.v) (Q := fun r' w' => CanQ (upH H w w5) w' r' (xl xs i * y.1)) RatR.inj (fun _ => CanQ.stable) (fun w' hw hF => RMul_ok (HB.ext hHB hw) ((iq.ext hw).mono (by omega)) ((ilo.ext hw).mono (by omega))) ?_
    intro rx1
    refine ⟨t.x.v, hBt.agg (sub := rcs t.x) rfl rfl, v.hi.v, hB10.agg (sub := rcs v.hi) rfl rfl, ?_⟩
    refine dcallR (mk := RatR.v) (Q := fun r' w' => CanQ (upH H w w5) w' r' (xl xs i * y.2.1)) RatR.inj (fun _ => CanQ.stable) (fun w' hw hF => RMul_ok (HB.ext hHB hw) ((iq.ext hw).mono (by omega)) ((ihi.ext hw).mono (by omega))) ?_
    intro rx2
    intro b11 _ b12 hb12 w11 hx11 hF11
    have hB11 : Blk w11 b11 33 (rcs RatR.zero) := hF11.2.1.1
    have hB12 : Blk w11 b12 33 (rcs RatR.zero) := hF11.1.1
    have ne : b12 ≠ b11 := fun h => hb12.1 (.inl h)
    have q1 := (hF11.2.2.2.1.with hB11).with hB12
    have q2 := (hF11.2.2.1.with hB11).with hB12
    have s1 := storeQ (r := rx1) hB11 hx11 hF11.2.1.2 rfl
    refine ⟨s1.1, fun w12 hs12 => ?_⟩
    obtain ⟨hB11a, hg12, hx12⟩ := s1.2 w12 hs12
    intro w13 hx13 _
    have s2 := storeQ (r := rx2) ((Blk.grownN hB12 hg12 ne).ext hx13) (Ext.trans' hx12 hx13) hF11.1.2 rfl
    refine ⟨s2.1, fun w14 hs14 => ?_⟩
    obtain ⟨hB12b, hg14, hx14⟩ := s2.2 w14 hs14
    intro w15 hx15 _
    have q1' := ((((q1.far hg12 (.inl (.inr rfl))).ext hx13).far hg14 (.inr rfl)).ext hx15).to (H' := upH H w w5) fun c hc => .inl (.inl (.inl hc))
    have q2' := ((((q2.far hg12 (.inl (.inr rfl))).ext hx13).far hg14 (.inr rfl)).ext hx15).to (H' := upH H w w5) fun c hc => .inl (.inl (.inl hc))
    have hB11b := (Blk.grownN (hB11a.ext hx13) hg14 ne.symm).ext hx15
    have hB12c := hB12b.ext hx15
    have hx1015 : Ext w10 w15 := Ext.trans' hx14 hx15
    have hS15 := hS10.go hx1015
    have hHB15 := HB.ext hHB hx1015
    have hml : FitQ (k + 1 + (k + 1)) (minQ (xl xs i * y.1) (xl xs i * y.2.1)) := fit_min hfl hfh
    have hmh : FitQ (k + 1 + (k + 1)) (maxQ (xl xs i * y.1) (xl xs i * y.2.1)) := fit_max hfl hfh
    have hK2 : pK k i ≤ 137438953472 := by omega
    have hK3 : pK k i + (k + 1 + (k + 1)) + 1 ≤ pK k (i + 1) := by unfold pK; rw [Nat.add_mul]; omega
    refine ⟨sq 12, by kernel_rfl, rl.v, loadQ hS15.c6, rx1.v, loadQ hB11b, rx2.v, loadQ hB12c, ?_⟩
    refine dcallR (mk := RatR.v) (Q := fun r' w' => CanQ (upH H w w5) w' r' (minQ (xl xs i * y.1) (xl xs i * y.2.1))) RatR.inj (fun _ => CanQ.stable) (fun w' hw hF => RMin_ok (HB.ext hHB15 hw) ((q1'.ext hw).inq (hfl.mono (by omega)) (by omega)) ((q2'.ext hw).inq (hfh.mono (by omega)) (by omega))) ?_
    intro rm
    refine dcallR (mk := RatR.v) (Q := fun r' w' => CanQ (upH H w w5) w' r' ((spanQ vs xs i).1 + minQ (xl xs i * y.1) (xl xs i * y.2.1))) RatR.inj (fun _ => CanQ.stable) (fun w' hw hF => RAdd_ok (HB.ext hHB15 hw) ((hS15.ql.ext hw).inq (hS15.fl.mono hK2) (by omega)) (hF.1.inq (hml.mono (by omega)) (by omega))) ?_
    intro rl'
    refine ⟨rh.v, loadQ hS15.c7, rx1.v, loadQ hB11b, rx2.v, loadQ hB12c, ?_⟩
    refine dcallR (mk := RatR.v) (Q := fun r' w' => CanQ (upH H w w5) w' r' (maxQ (xl xs i * y.1) (xl xs i * y.2.1))) RatR.inj (fun _ => CanQ.stable) (fun w' hw hF => RMax_ok (HB.ext hHB15 hw) ((q1'.ext hw).inq (hfl.mono (by omega)) (by omega)) ((q2'.ext hw).inq (hfh.mono (by omega)) (by omega))) ?_
    intro rM
    refine dcallR (mk := RatR.v) (Q := fun r' w' => CanQ (upH H w w5) w' r' ((spanQ vs xs i).2 + maxQ (xl xs i * y.1) (xl xs i * y.2.1))) RatR.inj (fun _ => CanQ.stable) (fun w' hw hF => RAdd_ok (HB.ext hHB15 hw) ((hS15.qh.ext hw).inq (hS15.fh.mono hK2) (by omega)) (hF.1.inq (hmh.mono (by omega)) (by omega))) ?_
    intro rh' w16 hx16 hF16
    have hS16 := hS15.go hx16
    have s6 := storeQ (r := rl') hS16.c6 hS16.ext g6 rfl
    refine ⟨s6.1, fun w17 hs17 => ?_⟩
    obtain ⟨hB6a, hg17, hx17⟩ := s6.2 w17 hs17
    intro w18 hx18 _
    have s7 := storeQ (r := rh') ((Blk.grownN hS16.c7 hg17 ne67.symm).ext hx18) (Ext.trans' hx17 hx18) g7 rfl
    refine ⟨s7.1, fun w19 hs19 => ?_⟩
    obtain ⟨hB7a, hg19, hx19⟩ := s7.2 w19 hs19
    intro w20 hx20 _
    refine ⟨((i + 1 : Nat) : Int), sucI i (by omega), (i + 1, rl', rh'), ⟨rfl, rfl, rfl, rfl, rfl, rfl, rfl, rfl, trivial⟩, ⟨⟨Ext.trans' hx19 hx20, ?_, ?_, ?_, ?_, hB7a.ext hx20, ?_, ?_, ?_, ?_⟩, ?_, hin⟩, Nat.sub_lt_sub_left hin (Nat.lt_succ_self i)⟩
    · exact Nat.le_trans hS16.sz (Nat.le_trans hg17.size (Nat.le_trans hx18.size (Nat.le_trans hg19.size hx20.size)))
    · exact (Blk.grownN ((Blk.grownN hS16.c4 hg17 ne46).ext hx18) hg19 ne47).ext hx20
    · exact (Blk.grownN ((Blk.grownN hS16.c5 hg17 ne56).ext hx18) hg19 ne57).ext hx20
    · exact (Blk.grownN (hB6a.ext hx18) hg19 ne67).ext hx20
    · rw [e]; exact (((hF16.2.2.1.far hg17 u6).ext hx18).far hg19 u7).ext hx20
    · rw [e]; exact (((hF16.1.far hg17 u6).ext hx18).far hg19 u7).ext hx20
    · rw [e]; exact (FitQ.add hS16.fl hml).mono hK3
    · rw [e]; exact (FitQ.add hS16.fh hmh).mono hK3
    · exact (Blk.grownN ((Blk.grownN ((hB210.ext hx1015).ext hx16) hg17 n26).ext hx18) hg19 n27).ext hx20
  · have hi' : i = rx.n := Nat.le_antisymm hi (geTo h1)
    have hix : i = xs.length := by omega
    refine ⟨sqK 4 [1, 2], by kernel_rfl, rl.v, loadQ hS.c6, rh.v, fun w' hw _ => loadQ (hS.c7.ext hw), ?_⟩
    intro w7 hx7 hF7
    have hS7 := hS.go hx7
    have h7 : Blk w7 b7 33 (rcs rh) := hS7.c7
    have s4 := storeQ (r := rl) hS7.c4 hS7.ext g4 rfl
    refine ⟨s4.1, fun w8 hs8 => ?_⟩
    obtain ⟨h84, hg8, hx8⟩ := s4.2 w8 hs8
    refine ⟨⟨⟨fun c hc hlt => hg8.block c hlt (fun e => Nat.lt_irrefl c (Nat.lt_of_lt_of_le (by cases e; exact hS.c4.lt) hc)), hg8.size⟩, loadQ (Blk.grownN h7 hg8 ne47.symm), trivial⟩, ?_⟩
    intro w9 hx9 hF9
    have s5 := storeQ (r := rh) ((Blk.grownN hS7.c5 hg8 ne45.symm).ext hx9) (Ext.trans' hx8 hx9) g5 rfl
    refine ⟨s5.1, fun w10 hs10 => ?_⟩
    obtain ⟨h105, hg10, hx10⟩ := s5.2 w10 hs10
    intro w11 hx11 _
    refine ⟨rl.v, loadQ ((Blk.grownN (h84.ext hx9) hg10 ne45).ext hx11), rh.v, loadQ (h105.ext hx11), ?_⟩
    have ql := ((((hS7.ql.far hg8 u4).ext hx9).far hg10 u5).ext hx11).less
    have qh := ((((hS7.qh.far hg8 u4).ext hx9).far hg10 u5).ext hx11).less
    have fl := hS7.fl
    have fh := hS7.fh
    have hKl : pK k i ≤ pK k l := pK_mono (by omega)
    rw [hix] at ql qh fl fh hKl
    exact ⟨Ext.trans' hx10 hx11, rl, rh, rfl, ⟨ql, fl.mono hKl⟩, qh, fh.mono hKl⟩
end Go.Proofs.Ytlfdobjdlgebbaa
