/-
  Contracts of the layer matrix: orders. Helpers; no statement of the program is proved here.
-/
import Derived.Test.YtlfdobjdlgebbaaK9
import Derived.Laws.BytesString
set_option maxRecDepth 100000
set_option linter.unusedSimpArgs false
set_option linter.unusedVariables false
namespace Go.Proofs.Ytlfdobjdlgebbaa
open Go Go.Tw Go.RowKit
attribute [local irreducible] LoadAt StoreOk Stored rawVC

/-- An order of the places below a row's length. -/
structure PermL (L : List Int) : Prop where
  rng : ∀ x ∈ L, 0 ≤ x ∧ x < (L.length : Int)
  nodup : L.Nodup
noncomputable instance (L : List Int) : Decidable (PermL L) := Classical.propDecidable _
theorem zero3 : (Try.prog.info? 3).map (fun i => i.zero) = some (some (.int .i64 0)) := by kernel_rfl
theorem ints_get {w : World} {a : Option Addr} {n : Nat} {L : List Int} (h : Ones w a n (ivs L)) {i : Nat} (hi : i < n) : L[i]? = some (L.getD i 0) := by
  have := h.len
  rw [ivs_length] at this
  rw [List.getD_eq_getElem?_getD, List.getElem?_eq_getElem (by omega)]; rfl
theorem take_succ' {L : List Int} {i : Nat} {x : Int} (h : L[i]? = some x) : L.take (i + 1) = L.take i ++ [x] := by
  rw [List.take_add_one, h]; rfl
/-- What the map of what was seen holds. -/
def seenM (L : List Int) (k : Int) : Int := if k ∈ L then 1 else 0
theorem Perm_ok {w : World} {a : Option Addr} {n c : Nat} {L : List Int} (hL : Ones w a n (ivs L)) (hn : n ≤ 1099511627776) :
    CallS Try.prog 36 #[.slice a n c] w fun v w' => Ext w w' ∧ v = .bool (decide (PermL L)) := by
  have hlen := hL.len
  rw [ivs_length] at hlen
  refine enter ttOk mixed (args := [.slice a n c]) Try.func36 rfl (by kernel_rfl) (by kernel_rfl) rfl ?_
  refine raw_makeMap rfl (fun b w1 hb hx1 hlt hm => ?_)
  refine ⟨Nat, fun x => [(0, .slice a n c), (3, .map (some b)), (7, .slice a n c), (8, .int .i64 (n : Int)), (9, .int .i64 (x : Int))], fun i w' => Ext w w' ∧ MapAt w' b (seenM (L.take i)) ∧ i ≤ n ∧ (∀ x ∈ L.take i, 0 ≤ x ∧ x < (n : Int)) ∧ (L.take i).Nodup, fun i _ => n - i, ⟨0, ⟨rfl, rfl, rfl, rfl, rfl, trivial⟩, hx1, ?_, Nat.zero_le _, ?_, ?_⟩, ?_⟩
  · exact ⟨hm.ex.elim fun es h => h.elim fun c h => ⟨es, c, h.1, h.2.1, fun k => by rw [h.2.2]; simp [seenM]⟩⟩
  · intro x hx; simp at hx
  · simp
  rintro i w2 ⟨hx2, hm2, hi, hr, hd⟩
  refine And.intro (fun h1 => ?_) (fun h1 => ?_)
  · have hin := ltTo h1
    have hg := ints_get hL hin
    generalize L.getD i 0 = x at hg
    refine ⟨i, ⟨rfl, hin, hL.base (by omega)⟩, _, (hL.ext hx2).load (ivs_get hg) rfl rfl, ?_⟩
    refine raw_lookup ttOk rfl rfl rfl zero3 rfl rfl hm2 ?_
    have h01 : 0 ≤ seenM (L.take i) x ∧ seenM (L.take i) x ≤ 1 := by unfold seenM; split <;> omega
    refine ⟨seenM (L.take i) x + 1, ⟨rfl, by omega, by omega⟩, ?_⟩
    refine raw_mapUpdate ttOk rfl rfl rfl rfl rfl rfl hm2 (fun w3 hg3 hs3 hm3 => ?_)
    have hx3 : Ext w w3 := Ext.grownB hx2 hg3 (Nat.le_of_eq hb.symm)
    have hmem : x ∈ L := List.mem_of_getElem? hg
    refine And.intro (fun h2 => ?_) (fun h2 => ?_)
    · have hno : ¬ PermL L := fun hp => by have := (hp.rng x hmem).1; omega
      exact ⟨hx3, by rw [decide_eq_false hno]; rfl⟩
    · refine And.intro (fun h3 => ?_) (fun h3 => ?_)
      · have hno : ¬ PermL L := fun hp => by have := (hp.rng x hmem).2; omega
        exact ⟨hx3, by rw [decide_eq_false hno]; rfl⟩
      · refine raw_lookup ttOk rfl rfl rfl zero3 rfl rfl hm3 ?_
        rw [if_pos rfl]
        refine And.intro (fun h4 => ?_) (fun h4 => ?_)
        · have hin' : x ∈ L.take i := by
            unfold seenM at h4
            split at h4
            · assumption
            · omega
          have hno : ¬ PermL L := fun hp => by
            have hnd := hp.nodup
            have e : L = L.take (i + 1) ++ L.drop (i + 1) := (List.take_append_drop _ _).symm
            rw [e, take_succ' hg, List.nodup_append, List.nodup_append] at hnd
            exact hnd.1.2.2 x hin' x (by simp) rfl
          exact ⟨hx3, by rw [decide_eq_false hno]; rfl⟩
        · have hni : x ∉ L.take i := by
            intro h
            apply h4
            unfold seenM
            rw [if_pos h]; omega
          refine ⟨((i + 1 : Nat) : Int), sucI i (by omega), i + 1, ⟨rfl, rfl, rfl, rfl, rfl, trivial⟩, ⟨hx3, ?_, hin, ?_, ?_⟩, Nat.sub_lt_sub_left hin (Nat.lt_succ_self i)⟩
          · obtain ⟨es, cl, e1, e2, e3⟩ := hm3.ex
            refine ⟨es, cl, e1, e2, fun k => ?_⟩
            rw [e3, take_succ' hg]
            unfold seenM
            by_cases hk : k = x
            · subst hk; simp [hni]
            · simp [hk]
          · intro y hy
            rw [take_succ' hg, List.mem_append, List.mem_singleton] at hy
            rcases hy with hy | rfl
            · exact hr y hy
            · omega
          · rw [take_succ' hg, List.nodup_append]
            refine ⟨hd, by simp, fun y hy z hz => ?_⟩
            rw [List.mem_singleton] at hz
            subst hz
            intro e; subst e; exact hni hy
  · have hi' : i = n := Nat.le_antisymm hi (geTo h1)
    rw [List.take_of_length_le (by omega)] at hr hd
    have hp : PermL L := ⟨fun x hx => by rw [hlen]; exact hr x hx, hd⟩
    exact ⟨hx2, by rw [decide_eq_true hp]; rfl⟩
/-- M undoes L. -/
structure InvL (L M : List Int) : Prop where
  len : M.length = L.length
  inv : ∀ (j k : Nat), L[j]? = some (k : Int) → M[k]? = some (j : Int)
theorem Inverse_ok {w : World} {a : Option Addr} {n c : Nat} {L : List Int} (hL : Ones w a n (ivs L)) (hn : n ≤ 1099511627776) (hp : PermL L) :
    CallS Try.prog 35 #[.slice a n c] w fun v w' => Ext w w' ∧ ∃ b M, v = .tuple #[.slice (some ⟨b, 0, none⟩) n n, .int .i64 0] ∧ Ones w' (some ⟨b, 0, none⟩) n (ivs M) ∧ InvL L M := by
  have hlen := hL.len
  rw [ivs_length] at hlen
  refine enter ttOk mixed (args := [.slice a n c]) Try.func35 rfl (by kernel_rfl) (by kernel_rfl) rfl ?_
  refine CallS.mono (Perm_ok hL hn) ?_
  rintro _ w1 ⟨hx1, rfl⟩
  rw [decide_eq_true hp]
  refine ⟨n, n, ⟨rfl, rfl, Nat.le_refl _, by show n * 8 ≤ _; omega, by omega⟩, fun b w2 hb => ?_⟩
  have hB : Blk w2 b 3 (ivs (List.replicate n 0) ++ []) := by
    have := hb.toBlk
    rw [List.append_nil]
    have e : ivs (List.replicate n 0) = rep n [.int .i64 0] := by rw [rep_one]; simp [ivs]
    rw [e]; exact this
  have hx2 : Ext w w2 := hb.extFrom hx1
  have hge := hb.ge hx1
  refine ⟨Nat × List Int, fun x => [(4, .slice (some ⟨b, 0, none⟩) n n), (13, .slice a n c), (14, .int .i64 (n : Int)), (15, .int .i64 (x.1 : Int))], fun x w' => Ext w w' ∧ Blk w' b 3 (ivs x.2 ++ []) ∧ x.2.length = n ∧ x.1 ≤ n ∧ ∀ (j k : Nat), j < x.1 → L[j]? = some (k : Int) → x.2[k]? = some (j : Int), fun x _ => n - x.1,
    ⟨(0, List.replicate n 0), ⟨rfl, rfl, rfl, rfl, trivial⟩, hx2, hB, List.length_replicate, Nat.zero_le _, fun j k hj => by exact absurd hj (Nat.not_lt_zero _)⟩, ?_⟩
  rintro ⟨i, M⟩ w3 ⟨hx3, hB3, hM, hi, hinv⟩
  dsimp only at *
  refine And.intro (fun h1 => ?_) (fun h1 => ?_)
  · have hin := ltTo h1
    have hg := ints_get hL hin
    generalize L.getD i 0 = x at hg
    have hxr := hp.rng x (List.mem_of_getElem? hg)
    rw [hlen] at hxr
    obtain ⟨k, rfl⟩ : ∃ k : Nat, x = (k : Int) := ⟨x.toNat, by omega⟩
    have hkn : k < n := by omega
    refine ⟨i, ⟨rfl, hin, hL.base (by omega)⟩, _, (hL.ext hx3).load (ivs_get hg) rfl rfl, ?_⟩
    refine ⟨k, ⟨rfl, hkn, ⟨_, rfl, rfl⟩⟩, storeOne rfl rfl hB3 (by rw [ivs_length]; omega), fun w4 hs4 => ?_⟩
    have hS := storedOne hs4 rfl rfl hB3 (by rw [ivs_length]; omega)
    rw [ivs_set] at hS
    refine ⟨((i + 1 : Nat) : Int), sucI i (by omega), (i + 1, M.set k (i : Int)), ⟨rfl, rfl, rfl, rfl, trivial⟩, ⟨Ext.grownB hx3 hS.2 hge, hS.1, by rw [List.length_set]; exact hM, hin, fun j k' hj hjk => ?_⟩, Nat.sub_lt_sub_left hin (Nat.lt_succ_self i)⟩
    by_cases hji : j = i
    · subst hji
      rw [hg] at hjk
      have : k = k' := by have := Option.some.inj hjk; omega
      subst this
      rw [List.getElem?_set_self (by omega)]
    · have hne : k ≠ k' := by
        intro e; subst e
        have h1 := (List.getElem?_inj (i := i) (j := j) (by omega) hp.nodup).1 (by rw [hg, hjk])
        exact hji h1.symm
      rw [List.getElem?_set_ne hne]
      exact hinv j k' (by omega) hjk
  · have hi' : i = n := Nat.le_antisymm hi (geTo h1)
    have hB' := Ones.blk hB3
    rw [ivs_length, hM] at hB'
    exact ⟨hx3, b, M, rfl, hB', by omega, fun j k hjk => hinv j k (by
      rcases Nat.lt_or_ge j L.length with h | h
      · omega
      · rw [List.getElem?_eq_none h] at hjk; cases hjk) hjk⟩
theorem InverseNo_ok {w : World} {a : Option Addr} {n c : Nat} {L : List Int} (hL : Ones w a n (ivs L)) (hn : n ≤ 1099511627776) (hp : ¬ PermL L) :
    CallS Try.prog 35 #[.slice a n c] w fun v w' => Ext w w' ∧ v = .tuple #[.slice none 0 0, .int .i64 2] := by
  refine enter ttOk mixed (args := [.slice a n c]) Try.func35 rfl (by kernel_rfl) (by kernel_rfl) rfl ?_
  refine CallS.mono (Perm_ok hL hn) ?_
  rintro _ w1 ⟨hx1, rfl⟩
  rw [decide_eq_false hp]
  exact ⟨hx1, rfl⟩
end Go.Proofs.Ytlfdobjdlgebbaa
/-
  Contracts of the layer matrix: a vector moved by an order. Helpers; no statement of the program is proved here.
-/
set_option maxRecDepth 100000
set_option linter.unusedSimpArgs false
set_option linter.unusedVariables false
namespace Go.Tw
open Go Go.RowKit
theorem tcs_setAt {ts : List TmR} {R : List Value} {j : Nat} {t : TmR} (z : Int) (h : ts[j]? = some t) : splice (tcs ts ++ R) (j * 5) [.int .i64 z] = tcs (ts.set j ⟨z, t.x⟩) ++ R := by
  induction ts generalizing j with
  | nil => simp at h
  | cons s ts ih =>
    cases j with
    | zero =>
      simp only [List.getElem?_cons_zero, Option.some.injEq] at h
      subst h
      rw [Nat.zero_mul]
      simp [tcs, TmR.cs, splice, over]
    | succ j =>
      have := ih (j := j) (by simpa using h)
      simp only [tcs, List.set_cons_succ, List.append_assoc]
      rw [← this, show (j + 1) * 5 = s.cs.length + j * 5 by simp [TmR.cs]; omega]
      exact splice_append s.cs (tcs ts ++ R) [.int .i64 z] (j * 5)
theorem storeAt {T : TT} {w : World} {g e j ty : Nat} {ts : List TmR} {R : List Value} {z : Int} (hk : (known (tyAt T ty) && Nat.beq 1 (tyAt T ty).size) = true) (hb : Blk w g e (tcs ts ++ R)) (hj : j < ts.length) :
    StoreOk T w ty ⟨g, 0 + j * 5 + 0, none⟩ (.int .i64 z) := by
  simp only [Bool.and_eq_true] at hk
  have h1 := (beq_iff _ _).1 hk.2
  refine storeOk (i := j * 5) (by rw [Nat.zero_add, Nat.add_zero]) ?_ hb (by rw [List.length_append, tcs_length]; omega)
  rw [hk.1, ← h1]; rfl
theorem storedAt {w w' : World} {g e j : Nat} {ts : List TmR} {R : List Value} {t : TmR} {z : Int} (h : Stored w w' ⟨g, 0 + j * 5 + 0, none⟩ (Value.int .i64 z).cells.toList) (hb : Blk w g e (tcs ts ++ R)) (hj : ts[j]? = some t) :
    Blk w' g e (tcs (ts.set j ⟨z, t.x⟩) ++ R) ∧ w.grownBy w' (some g) := by
  rw [Nat.zero_add, Nat.add_zero] at h
  have h1 := Stored.blk h hb
  have h2 : splice (tcs ts ++ R) (j * 5) (Value.int .i64 z).cells.toList = tcs (ts.set j ⟨z, t.x⟩) ++ R := tcs_setAt z hj
  rw [h2] at h1
  exact ⟨h1, (Stored.grown h).1⟩
theorem TsCan.setAt {k : Nat} {H : Hd} {w : World} {ts : List TmR} {xs : VL} (h : TsCan k H w ts xs) {j : Nat} {t : TmR} {p : Int × Rat} (z : Int) (h1 : ts[j]? = some t) (h2 : xs[j]? = some p) : TsCan k H w (ts.set j ⟨z, t.x⟩) (xs.set j (z, p.2)) := by
  induction h generalizing j with
  | nil => simp at h1
  | cons a b c d ih =>
    cases j with
    | zero =>
      simp only [List.getElem?_cons_zero, Option.some.injEq] at h1 h2
      subst h1 h2
      exact .cons rfl b c d
    | succ j => exact .cons a b c (ih (by simpa using h1) (by simpa using h2))
end Go.Tw
namespace Go.Proofs.Ytlfdobjdlgebbaa
open Go Go.Tw Go.RowKit
attribute [local irreducible] LoadAt StoreOk Stored rawVC

/-- Places put by an order. -/
def mvL (L : List Int) (xs : VL) : VL := xs.map fun t => (L.getD t.1.toNat 0, t.2)
def InR (n : Nat) (xs : VL) : Prop := ∀ t ∈ xs, 0 ≤ t.1 ∧ t.1 < (n : Int)
instance (n : Nat) (xs : VL) : Decidable (InR n xs) := inferInstanceAs (Decidable (∀ t ∈ xs, _))
theorem inR_ends {n : Nat} {xs : VL} (h : Ris xs) (h0 : 0 < xs.length) : InR n xs ↔ 0 ≤ pl xs 0 ∧ pl xs (xs.length - 1) < (n : Int) := by
  have key : ∀ i (hi : i < xs.length), pl xs i = xs[i].1 := by
    intro i hi
    unfold pl
    rw [List.getD_eq_getElem?_getD, List.getElem?_eq_getElem hi]; rfl
  constructor
  · intro hr
    rw [key 0 h0, key _ (by omega)]
    exact ⟨(hr _ (List.getElem_mem _)).1, (hr _ (List.getElem_mem _)).2⟩
  · rintro ⟨h1, h2⟩ t ht
    obtain ⟨i, hi, rfl⟩ := List.getElem_of_mem ht
    rw [key 0 h0] at h1
    rw [key _ (by omega)] at h2
    have hm : ∀ p q (hp : p < xs.length) (hq : q < xs.length), p ≤ q → xs[p].1 ≤ xs[q].1 := by
      intro p q hp hq hpq
      rcases Nat.lt_or_eq_of_le hpq with h' | h'
      · exact Int.le_of_lt (List.pairwise_iff_getElem.1 h p q hp hq h')
      · subst h'; exact Int.le_refl _
    have := hm 0 i h0 hi (Nat.zero_le _)
    have := hm i (xs.length - 1) hi (by omega) (by omega)
    omega
theorem MoveNo_ok {k l : Nat} {w : World} {a : Option Addr} {n c : Nat} {L : List Int} {rx : SlR} {xs : VL} (hL : Ones w a n (ivs L)) (hn : n ≤ 1099511627776) (hx : VI k l w rx xs) (hk : k ≤ 16777216) (hl : l ≤ 21) (hno : ¬ (PermL L ∧ InR n (nrm xs))) :
    CallS Try.prog 38 #[.slice a n c, rx.v] w fun v w' => Ext w w' ∧ v = .tuple #[.slice none 0 0, .int .i64 2] := by
  have hlen := hL.len
  rw [ivs_length] at hlen
  have hxl := hx.len
  refine enter ttOk mixed (args := [.slice a n c, rx.v]) Try.func38 rfl (by kernel_rfl) (by kernel_rfl) rfl ?_
  refine CallS.mono (VNormA_ok (H0.hb w) hx.inv (by omega) (by omega) (.inl (by omega))) ?_
  rintro _ w1 ⟨hx1, s, rfl, hA⟩
  refine CallS.mono (Perm_ok (hL.ext hx1) hn) ?_
  rintro _ w2 ⟨hx2, rfl⟩
  by_cases hp : PermL L
  case neg =>
    rw [decide_eq_false hp]
    exact ⟨Ext.trans' hx1 hx2, rfl⟩
  rw [decide_eq_true hp]
  have hno : ¬ InR n (nrm xs) := fun h => hno ⟨hp, h⟩
  have hcn := nrm_cn xs
  have hnl := nrm_len xs
  have hsn := hA.n
  have hx02 := Ext.trans' hx1 hx2
  have hA2 := hA.ext hx2
  obtain ⟨⟨ts, ho, hC⟩, _⟩ := hA2
  obtain ⟨hT, hnc, hcm, hge⟩ := owns_tms ho hsn
  have htl : ts.length = (nrm xs).length := hC.length
  have hpl : ∀ i, i < (nrm xs).length → ∃ t, ts[i]? = some t ∧ t.at' = pl (nrm xs) i := by
    intro i hi
    obtain ⟨t, h1, h2, _⟩ := tsCan_get hC (vget hi)
    exact ⟨t, h1, h2⟩
  have hz0 : 0 < (nrm xs).length := by
    rcases Nat.eq_zero_or_pos (nrm xs).length with h | h
    · exfalso; apply hno; rw [List.eq_nil_of_length_eq_zero h]; intro t ht; simp at ht
    · exact h
  have hends := inR_ends (n := n) hcn.ris hz0
  obtain ⟨t0, e0, p0⟩ := hpl 0 hz0
  obtain ⟨t1, e1, p1⟩ := hpl ((nrm xs).length - 1) (by omega)
  refine And.intro (fun h1 => ?_) (fun h1 => ?_)
  · refine ⟨0, ⟨rfl, by omega, hT.base (by omega)⟩, _, hT.loadAt e0 rfl rfl, ?_⟩
    refine And.intro (fun h2 => ?_) (fun h2 => ?_)
    · exact ⟨hx02, rfl⟩
    · refine ⟨(((nrm xs).length - 1 : Nat) : Int), ⟨by omega, by omega, by omega⟩, (nrm xs).length - 1, ⟨rfl, by omega, hT.base (by omega)⟩, _, hT.loadAt e1 rfl rfl, ?_⟩
      refine And.intro (fun h3 => ?_) (fun h3 => ?_)
      · exact ⟨hx02, rfl⟩
      · exact absurd (hends.2 ⟨by omega, by omega⟩) hno
  · exfalso
    apply h1
    show (0 : Int) < (s.n : Int)
    omega
theorem mvL_length (L : List Int) (xs : VL) : (mvL L xs).length = xs.length := by simp [mvL]
/-- The first i moved, the rest as it was. -/
def mvP (L : List Int) (xs : VL) (i : Nat) : VL := (mvL L xs).take i ++ xs.drop i
theorem mvP_get {L : List Int} {xs : VL} {i : Nat} (h : i < xs.length) : (mvP L xs i)[i]? = some (pl xs i, xl xs i) := by
  unfold mvP
  rw [List.getElem?_append_right (by rw [List.length_take, mvL_length]; omega), List.length_take, mvL_length, Nat.min_eq_left (by omega), Nat.sub_self, List.getElem?_drop, Nat.add_zero]
  exact vget h
theorem mvP_set {L : List Int} {xs : VL} {i : Nat} (h : i < xs.length) : (mvP L xs i).set i (L.getD (pl xs i).toNat 0, xl xs i) = mvP L xs (i + 1) := by
  unfold mvP
  have hl : ((mvL L xs).take i).length = i := by rw [List.length_take, mvL_length]; omega
  rw [List.set_append_right _ _ (by omega), hl, Nat.sub_self, List.drop_eq_getElem_cons h, List.set_cons_zero, List.take_add_one, List.append_assoc]
  congr 1
  have hg := vget (ys := xs) h
  have e : (mvL L xs)[i]? = some (L.getD (pl xs i).toNat 0, xl xs i) := by
    unfold mvL
    rw [List.getElem?_map, hg]; rfl
  rw [e]; rfl
theorem Move_ok {k l : Nat} {w : World} {a : Option Addr} {n c : Nat} {L : List Int} {rx : SlR} {xs : VL} (hL : Ones w a n (ivs L)) (hn : n ≤ 1099511627776) (hx : VI k l w rx xs) (hk : k ≤ 16777216) (hl : l ≤ 21) (hp : PermL L) (hr : InR n (nrm xs)) :
    CallS Try.prog 38 #[.slice a n c, rx.v] w fun v w' => Ext w w' ∧ ∃ s : SlR, v = .tuple #[s.v, .int .i64 0] ∧ VC (nK (nK k)) l w' s (nrm (mvL L (nrm xs))) := by
  have hlen := hL.len
  rw [ivs_length] at hlen
  have hxl := hx.len
  refine enter ttOk mixed (args := [.slice a n c, rx.v]) Try.func38 rfl (by kernel_rfl) (by kernel_rfl) rfl ?_
  refine CallS.mono (VNormA_ok (H0.hb w) hx.inv (by omega) (by omega) (.inl (by omega))) ?_
  rintro _ w1 ⟨hx1, s, rfl, hA⟩
  refine CallS.mono (Perm_ok (hL.ext hx1) hn) ?_
  rintro _ w2 ⟨hx2, rfl⟩
  rw [decide_eq_true hp]
  have hcn := nrm_cn xs
  have hnl := nrm_len xs
  have hsn := hA.n
  have hx02 := Ext.trans' hx1 hx2
  have hA2 := hA.ext hx2
  obtain ⟨⟨ts, ho, hC⟩, _⟩ := hA2
  obtain ⟨hT, hnc, hcm, hge⟩ := owns_tms ho hsn
  have htl : ts.length = (nrm xs).length := hC.length
  have hpl : ∀ i, i < (nrm xs).length → ∃ t, ts[i]? = some t ∧ t.at' = pl (nrm xs) i := by
    intro i hi
    obtain ⟨t, h1, h2, _⟩ := tsCan_get hC (vget hi)
    exact ⟨t, h1, h2⟩
  have hnK : nK k ≤ 1073741824 := by unfold nK; omega
  rcases Nat.eq_zero_or_pos (nrm xs).length with hz0 | hz0
  · have hz : nrm xs = [] := List.eq_nil_of_length_eq_zero hz0
    refine And.intro (fun h1 => ?_) (fun h1 => ?_)
    · exfalso
      have h1 : (0 : Int) < (s.n : Int) := h1
      omega
    · refine ⟨Unit, fun x => [(0, .slice a n c), (1, s.v), (37, .int .i64 (s.n : Int)), (38, .int .i64 0)], fun _ w' => w' = w2, fun _ _ => 0, ⟨(), ⟨rfl, rfl, rfl, rfl, trivial⟩, rfl⟩, ?_⟩
      rintro u w3 rfl
      refine And.intro (fun h2 => ?_) (fun h2 => ?_)
      · exfalso; omega
      · have hv : VI (nK k) l w3 s (mvL L (nrm xs)) := by
          rw [hz]
          exact ⟨⟨⟨ts, hT, by
            have := hC
            rw [hz] at this
            cases this; exact .nil⟩, hnc, hcm, H0.av _ _⟩, Nat.zero_le _, .inl (Nat.zero_le _)⟩
        refine CallS.mono (norm_at hv ⟨hnK, hl⟩) ?_
        rintro _ w4 ⟨hx4, s', rfl, hs'⟩
        exact ⟨Ext.trans' hx02 hx4, s', rfl, hs'⟩
  · have hends := (inR_ends (n := n) hcn.ris hz0).1 hr
    obtain ⟨t0, e0, p0⟩ := hpl 0 hz0
    obtain ⟨t1, e1, p1⟩ := hpl ((nrm xs).length - 1) (by omega)
    refine And.intro (fun h1 => ?_) (fun h1 => ?_)
    · refine ⟨0, ⟨rfl, by omega, hT.base (by omega)⟩, _, hT.loadAt e0 rfl rfl, ?_⟩
      refine And.intro (fun h2 => ?_) (fun h2 => ?_)
      · exfalso; omega
      refine ⟨(((nrm xs).length - 1 : Nat) : Int), ⟨by omega, by omega, by omega⟩, (nrm xs).length - 1, ⟨rfl, by omega, hT.base (by omega)⟩, _, hT.loadAt e1 rfl rfl, ?_⟩
      refine And.intro (fun h3 => ?_) (fun h3 => ?_)
      · exfalso; omega
      obtain ⟨g, cap, R, hsv, hgb, hB, hgc, hgm, hgl⟩ := owns_blk5 ho (by omega)
      have hsg : s = ⟨some ⟨g, 0, none⟩, (nrm xs).length, cap⟩ := SlR.inj hsv
      subst hsg
      refine ⟨Nat × List TmR, fun x => [(0, .slice a n c), (1, (SlR.mk (some ⟨g, 0, none⟩) (nrm xs).length cap).v), (37, .int .i64 ((nrm xs).length : Int)), (38, .int .i64 (x.1 : Int))],
        fun x w' => Ext w w' ∧ Blk w' g tT (tcs x.2 ++ R) ∧ TsCan (nK k) (rowH H0 (SlR.mk (some ⟨g, 0, none⟩) (nrm xs).length cap).v) w' x.2 (mvP L (nrm xs) x.1) ∧ x.1 ≤ (nrm xs).length ∧ x.2.length = (nrm xs).length, fun x _ => (nrm xs).length - x.1,
        ⟨(0, ts), ⟨rfl, rfl, rfl, rfl, trivial⟩, hx02, hB, hC, Nat.zero_le _, htl⟩, ?_⟩
      rintro ⟨i, us⟩ w3 ⟨hx3, hB3, hC3, hi, hul⟩
      dsimp only at *
      refine And.intro (fun h4 => ?_) (fun h4 => ?_)
      · have hin := ltTo h4
        have hgi := mvP_get (L := L) hin
        obtain ⟨t, ht, hat, hq, hf⟩ := tsCan_get hC3 hgi
        have hT3 := Tms.blk hB3
        rw [hul] at hT3
        have hrg := hr _ (List.mem_of_getElem? (vget hin))
        obtain ⟨m, hm⟩ : ∃ m : Nat, pl (nrm xs) i = (m : Int) := ⟨(pl (nrm xs) i).toNat, by have := hrg.1; omega⟩
        have hmn : m < n := by have := hrg.2; omega
        have hg := ints_get hL hmn
        have hlat := hT3.loadAt (T := tt) (ty := 3) (sz := 5) ht rfl rfl
        have hat : t.at' = (m : Int) := hat.trans hm
        rw [hat] at hlat
        refine ⟨i, ⟨rfl, hin, ⟨_, rfl, rfl⟩⟩, _, hlat, m, ⟨rfl, hmn, hL.base (by omega)⟩, _, (hL.ext hx3).load (ivs_get hg) rfl rfl, i, ⟨rfl, hin, ⟨_, rfl, rfl⟩⟩, storeAt rfl hB3 (by omega), fun w4 hs4 => ?_⟩
        have hS := storedAt hs4 hB3 ht
        have hC4 := (hC3.map (k' := nK k) (H' := rowH H0 (SlR.mk (some ⟨g, 0, none⟩) (nrm xs).length cap).v) (w' := w4) (Nat.le_refl _) (fun h => h.grow hS.2 (fun b hb => .inr hb))).setAt (L.getD m 0) ht hgi
        have e := mvP_set (L := L) hin
        rw [hm, Int.toNat_natCast] at e
        have hC4 : TsCan (nK k) (rowH H0 (SlR.mk (some ⟨g, 0, none⟩) (nrm xs).length cap).v) w4 (us.set i ⟨L.getD m 0, t.x⟩) (mvP L (nrm xs) (i + 1)) := by rw [← e]; exact hC4
        exact ⟨((i + 1 : Nat) : Int), sucI i (by omega), (i + 1, us.set i ⟨L.getD m 0, t.x⟩), ⟨rfl, rfl, rfl, rfl, trivial⟩, ⟨Ext.grownB hx3 hS.2 hgb, hS.1, hC4, hin, by rw [List.length_set]; exact hul⟩, Nat.sub_lt_sub_left hin (Nat.lt_succ_self i)⟩
      · have hi' : i = (nrm xs).length := Nat.le_antisymm hi (geTo h4)
        have hT3 := Tms.blk hB3
        rw [hul] at hT3
        have e : mvP L (nrm xs) i = mvL L (nrm xs) := by
          unfold mvP
          rw [hi', List.drop_eq_nil_of_le (Nat.le_refl _), List.append_nil, List.take_of_length_le (by rw [mvL_length]; exact Nat.le_refl _)]
        rw [e] at hC3
        have hv : VI (nK k) l w3 ⟨some ⟨g, 0, none⟩, (nrm xs).length, cap⟩ (mvL L (nrm xs)) :=
          ⟨⟨⟨us, hT3, (hC3.map (H' := H0) (w' := w3) (Nat.le_refl _) (fun h => h.to (fun b hb => hb.elim))).inq (by omega)⟩, hgc, hgm, H0.av _ _⟩, by rw [mvL_length]; have := hx.len; omega, .inl (by rw [mvL_length]; have := hx.len; omega)⟩
        refine CallS.mono (norm_at hv ⟨hnK, hl⟩) ?_
        rintro _ w4 ⟨hx4, s', rfl, hs'⟩
        exact ⟨Ext.trans' hx3 hx4, s', rfl, hs'⟩
    · exfalso
      apply h1
      show (0 : Int) < (s.n : Int)
      omega
end Go.Proofs.Ytlfdobjdlgebbaa
/-
  Contracts of what compares rows of numbers, and picks a number below one. Helpers; no statement of the program is proved here.
-/
set_option maxRecDepth 100000
set_option linter.unusedSimpArgs false
set_option linter.unusedVariables false
namespace Go.Proofs.Ytlfdobjdlgebbaa
open Go Go.Tw Go.RowKit
attribute [local irreducible] LoadAt StoreOk Stored rawVC

theorem SameInts_ok {w : World} {a b : Option Addr} {n c m d : Nat} {L M : List Int} (hL : Ones w a n (ivs L)) (hM : Ones w b m (ivs M)) (hn : n ≤ 1099511627776) :
    CallS Try.prog 37 #[.slice a n c, .slice b m d] w fun v w' => Ext w w' ∧ v = .bool (decide (L = M)) := by
  have hl := hL.len
  have hm := hM.len
  rw [ivs_length] at hl hm
  refine enter ttOk mixed (args := [.slice a n c, .slice b m d]) Try.func37 rfl (by kernel_rfl) (by kernel_rfl) rfl ?_
  refine And.intro (fun h1 => ?_) (fun h1 => ?_)
  · have : ¬ L = M := fun h => h1 (by rw [← hl, ← hm, h])
    exact ⟨Ext.rfl w, by rw [decide_eq_false this]; rfl⟩
  · have hnm : n = m := by omega
    refine ⟨Nat, fun x => [(0, .slice a n c), (1, .slice b m d), (5, .int .i64 (x : Int))], fun x w' => Ext w w' ∧ x ≤ n ∧ L.take x = M.take x, fun x _ => n - x, ⟨0, ⟨rfl, rfl, rfl, trivial⟩, Ext.rfl w, Nat.zero_le _, rfl⟩, ?_⟩
    rintro i w1 ⟨hx1, hi, he⟩
    dsimp only at *
    refine And.intro (fun h2 => ?_) (fun h2 => ?_)
    · have hin := ltTo h2
      have gL := ints_get hL hin
      have gM := ints_get hM (i := i) (by omega)
      refine ⟨sq 9, by kernel_rfl, i, ⟨rfl, hin, hL.base (by omega)⟩, _, (hL.ext hx1).load (ivs_get gL) rfl rfl, i, ⟨rfl, by omega, hM.base (by omega)⟩, _, (hM.ext hx1).load (ivs_get gM) rfl rfl, fun h3 => ?_, fun h3 => ?_⟩
      · intro w2 hx2 _
        have : ¬ L = M := fun h => h3 (by rw [h])
        exact ⟨Ext.trans' hx1 hx2, by rw [decide_eq_false this]; rfl⟩
      · intro w2 hx2 _
        have e : L.getD i 0 = M.getD i 0 := by omega
        exact ⟨((i + 1 : Nat) : Int), sucI i (by omega), i + 1, ⟨rfl, rfl, rfl, trivial⟩, ⟨Ext.trans' hx1 hx2, hin, take_same he (by rw [gL, gM, e])⟩, Nat.sub_lt_sub_left hin (Nat.lt_succ_self i)⟩
    · have e : i = n := Nat.le_antisymm hi (geTo h2)
      have : L = M := by
        rw [List.take_of_length_le (by omega), List.take_of_length_le (by omega)] at he
        exact he
      exact ⟨hx1, by rw [decide_eq_true this]; rfl⟩
theorem Pick_ok {w : World} {x : Int} {n : Nat} (hn : 0 < n) (hm : n ≤ 4611686018427387904) (h1 : -9223372036854775808 ≤ x) (h2 : x ≤ 9223372036854775807) :
    CallS Try.prog 34 #[.int .i64 x, .int .i64 (n : Int)] w fun v w' => Ext w w' ∧ ∃ m : Nat, m < n ∧ v = .int .i64 (m : Int) := by
  have ht := Int.tmod_lt_of_pos x (show (0 : Int) < (n : Int) by omega)
  have ht2 : -(n : Int) < x.tmod (n : Int) := by
    have h3 := Int.natAbs_tmod x (n : Int)
    have h4 : (x.tmod (n : Int)).natAbs < n := by
      rw [h3, Int.natAbs_natCast]; exact Nat.mod_lt _ hn
    omega
  refine enter ttOk mixed (args := [.int .i64 x, .int .i64 (n : Int)]) Try.func34 rfl (by kernel_rfl) (by kernel_rfl) rfl ?_
  refine And.intro (fun h => ?_) (fun h => ?_)
  · exfalso; omega
  · refine ⟨x.tmod (n : Int), ⟨rfl, fun h => by omega⟩, ?_⟩
    generalize x.tmod (n : Int) = y at *
    refine And.intro (fun h3 => ?_) (fun h3 => ?_)
    · refine ⟨y + n, ⟨rfl, by omega, by omega⟩, ?_⟩
      exact ⟨Ext.rfl w, (y + n).toNat, by omega, by rw [Int.toNat_of_nonneg (by omega)]; rfl⟩
    · exact ⟨Ext.rfl w, y.toNat, by omega, by rw [Int.toNat_of_nonneg (by omega)]; rfl⟩
end Go.Proofs.Ytlfdobjdlgebbaa
/-
  Contracts of the layer sparse: one, and a multiple of another one, with a closer bound of the numbers. Helpers; no statement of the program is proved here.
-/
set_option maxRecDepth 100000
set_option linter.unusedSimpArgs false
set_option linter.unusedVariables false
namespace Go.Proofs.Ytlfdobjdlgebbaa
open Go Go.Tw Go.RowKit
attribute [local irreducible] LoadAt StoreOk Stored rawVC

/-- What may be put in order, and the bound of its numbers then. -/
def Srt (k j : Nat) (xs : VL) : Prop := (xs.length ≤ 21 ∧ k ≤ 1073741824 ∧ nK k ≤ j) ∨ (Ris xs ∧ k ≤ j)
theorem sortedF_ok {k j : Nat} {H : Hd} {w : World} {r : SlR} {xs : VL} (hH : HB H w) (hx : InV k H w r xs) (hn : xs.length ≤ 1099511627776) (h21 : Srt k j xs) :
    CallS Try.prog 74 #[r.v] w fun v w' => Ext w w' ∧ ∃ s : SlR, v = s.v ∧ InV j H w' s (srt xs) := by
  refine enter ttOk mixed (args := [r.v]) Try.func74 rfl (by kernel_rfl) (by kernel_rfl) rfl ?_
  refine CallS.mono (rising_ok hx hn) ?_
  rintro _ w2 ⟨hx2, b, rfl, hb⟩
  cases b
  · have hnr : ¬ Ris xs := fun h => by have := hb.2 h; cases this
    have e : srt xs = nrm xs := by unfold srt; exact if_neg hnr
    obtain ⟨hl, hk, hj⟩ := h21.elim id fun h => absurd h.1 hnr
    refine CallS.mono (VNorm_ok (HB.ext hH hx2) (hx.ext hx2) hk hl) ?_
    rintro _ w3 ⟨hx3, s, rfl, hs⟩
    rw [e]
    exact ⟨Ext.trans' hx2 hx3, s, rfl, (hs.inv (Nat.le_trans (nK_le hk) (by omega))).mono hj⟩
  · have e : srt xs = xs := by unfold srt; exact if_pos (hb.1 rfl)
    rw [e]
    have hj : k ≤ j := h21.elim (fun h => Nat.le_trans (k_le_nK k) h.2.2) (fun h => h.2)
    exact ⟨hx2, r, rfl, (hx.ext hx2).mono hj⟩
structure AxF (jx jy ka : Nat) (H : Hd) (w3 : World) (b4 b7 : Nat) (a : Rat) (xs ys : VL) (rx ry : SlR) (x y : VL) (s : SlR) (zs : VL) (w' : World) : Prop where
  ext : Ext w3 w'
  lt : b7 < w'.heap.size
  blk : Blk w' b7 25 [s.v]
  acc : Acc (jx + jy + ka + 8) (AH H b4 b7) (b7 + 1) tT w' s zs
  vx : InV jx (AH H b4 b7) w3 rx x
  vy : InV jy (AH H b4 b7) w3 ry y
  mrg : MrgI a x y (srt xs) (srt ys) zs
theorem AxF.hb {jx jy ka : Nat} {H : Hd} {w3 : World} {b4 b7 : Nat} {a : Rat} {xs ys : VL} {rx ry : SlR} {x y : VL} {s : SlR} {zs : VL} {w' : World} (h : AxF jx jy ka H w3 b4 b7 a xs ys rx ry x y s zs w') (hH : HB H w3) (h4 : b4 < w3.heap.size) : HB (rowH (AH H b4 b7) s.v) w' := by
  intro b hb
  have := h.ext.size
  rcases hb with ((hb | hb) | hb) | hb
  · exact Nat.lt_of_lt_of_le (hH b hb) this
  · omega
  · rw [hb]; exact h.lt
  · exact (h.acc.own_lt hb).1
theorem AxF.zl {jx jy ka : Nat} {H : Hd} {w3 : World} {b4 b7 : Nat} {a : Rat} {xs ys : VL} {rx ry : SlR} {x y : VL} {s : SlR} {zs : VL} {w' : World} (h : AxF jx jy ka H w3 b4 b7 a xs ys rx ry x y s zs w') (hx : xs.length ≤ 65536) (hy : ys.length ≤ 65536) : zs.length ≤ 1099511627775 := by
  have := h.mrg.len
  have := srt_len xs
  have := srt_len ys
  omega
theorem AxF.up {jx jy ka : Nat} {H : Hd} {w3 : World} {b4 b7 : Nat} {a : Rat} {xs ys : VL} {rx ry : SlR} {x y : VL} {s : SlR} {zs : VL} {w' : World} (h : AxF jx jy ka H w3 b4 b7 a xs ys rx ry x y s zs w') (h7 : w3.heap.size = b7) {j : Nat} {r : RatR} {q : Rat} (hq : InQ j (AH H b4 b7) w3 r q) : InQ j (rowH (AH H b4 b7) s.v) w' r q :=
  (hq.to fun b hb => hb.elim .inl fun e => .inr (by have := (h.acc.own_lt e).2; omega)).ext h.ext
theorem fitF_y {jx jy ka : Nat} {q : Rat} (h : FitQ (jy + 1) q) : FitQ (jx + jy + ka + 8) q := h.mono (by omega)
theorem fitF_x0 {jx ka : Nat} {a q : Rat} (ha : FitQ (ka + 1) a) (h : FitQ (jx + 1) q) : FitQ (ka + 1 + (jx + 1)) (a * q) := FitQ.mul ha h (by omega)
theorem fitF_x {jx jy ka : Nat} {a q : Rat} (ha : FitQ (ka + 1) a) (h : FitQ (jx + 1) q) : FitQ (jx + jy + ka + 8) (a * q) := (fitF_x0 ha h).mono (by omega)
theorem fitF_xy {jx jy ka : Nat} {a q u : Rat} (ha : FitQ (ka + 1) a) (h : FitQ (jx + 1) q) (h' : FitQ (jy + 1) u) : FitQ (jx + jy + ka + 8) (u + a * q) := (FitQ.add h' (fitF_x0 ha h)).mono (by omega)

theorem AxpyF_ok {kx ky ka jx jy : Nat} {H : Hd} {w : World} {ry rx : SlR} {ra : RatR} {xs ys : VL} {a : Rat} (hH : HB H w) (hy : InV ky H w ry ys) (hra : InQ ka H w ra a) (hx : InV kx H w rx xs) (hk : jx + jy + ka ≤ 68719476736) (hxl : xs.length ≤ 65536) (hyl : ys.length ≤ 65536) (ox : Srt kx jx xs) (oy : Srt ky jy ys) :
    CallS Try.prog 22 #[ry.v, ra.v, rx.v] w fun v w' => Ext w w' ∧ ∃ s : SlR, v = s.v ∧ CanV (jx + jy + ka + 8) H w' s (axp ys a xs) := by
  refine enter ttOk mixed (args := [ry.v, ra.v, rx.v]) Try.func22 rfl (by kernel_rfl) (by kernel_rfl) rfl ?_
  intro b4 w1 hb4
  have hH1 := hH.up hb4.ext
  refine CallS.mono (sortedF_ok hH1 (hx.up hb4.ext) (by omega) ox) ?_
  rintro _ w2 ⟨hx2, rx0, rfl, hvx⟩
  refine CallS.mono (sortedF_ok (HB.ext hH1 hx2) ((hy.up hb4.ext).ext hx2) (by omega) oy) ?_
  rintro _ w3 ⟨hx3, ry0, rfl, hvy⟩
  have hx13 := Ext.trans' hx2 hx3
  have hx03 := Ext.trans' hb4.ext hx13
  intro b7 w4 hb7
  have h7 : w3.heap.size = b7 := hb7.isNew.symm
  have hH3 := HB.ext hH hx03
  have hb4lt : b4 < w3.heap.size := Nat.lt_of_lt_of_le hb4.lt hx13.size
  have hB4 : Blk w3 b4 33 (rcs ra) := hb4.toBlk.ext hx13
  have toA : ∀ b, AH H b4 b7 b → upH H w w1 b ∨ w3.heap.size ≤ b := by
    intro b hb
    rcases hb with (hb | hb) | hb
    · exact .inl (.inl hb)
    · rw [hb]; exact .inl (hb4.inUp (Ext.rfl _) (Ext.rfl _))
    · rw [hb]; exact .inr (Nat.le_of_eq h7)
  have hra : InQ ka (AH H b4 b7) w3 ra a := ((hra.up hb4.ext).ext hx13).to toA
  refine ⟨SlR × SlR × VL × VL × SlR × VL, fun x => [(0, x.2.1.v), (2, x.1.v), (4, .pointer (some ⟨b4, 0, none⟩)), (7, .pointer (some ⟨b7, 0, none⟩)), (8, .func (.func 75) #[] #[.pointer (some ⟨b7, 0, none⟩)])],
    fun x w' => AxF jx jy ka H w3 b4 b7 a xs ys x.1 x.2.1 x.2.2.1 x.2.2.2.1 x.2.2.2.2.1 x.2.2.2.2.2 w', fun x _ => x.2.2.1.length + x.2.2.2.1.length,
    ⟨(rx0, ry0, srt xs, srt ys, ⟨none, 0, 0⟩, []), ⟨rfl, rfl, rfl, rfl, rfl, trivial⟩, ⟨hb7.ext, hb7.lt, hb7.toBlk, Acc.nil _ _ _ _ _, (hvx.ext hx3).to toA, hvy.to toA, MrgI.first (srt_ris xs) (srt_ris ys)⟩⟩, ?_⟩
  rintro ⟨rx, ry, x, y, s, zs⟩ w5 hI
  dsimp only at *
  have hnx := hI.vx.len
  have hny := hI.vy.len
  have hHs := hI.hb hH3 hb4lt
  have hzl := hI.zl hxl hyl
  cases x with
  | nil =>
    have hnx : rx.n = 0 := hnx
    refine And.intro (fun h1 => ?_) (fun h1 => ?_)
    · exfalso; omega
    cases y with
    | nil =>
      have hny : ry.n = 0 := hny
      refine And.intro (fun h2 => ?_) (fun h2 => ?_)
      · exfalso; omega
      have hd := hI.mrg.done
      have he : zs = axp ys a xs := axp_eq hd.1 fun p => by rw [hd.2.1, srt_get, srt_get]
      have hc := hI.acc.out (fun b hb => by rcases hb with (hb | hb) | hb; have := hH3 b hb; omega; omega; omega)
      rw [he] at hc
      refine ⟨s.v, hI.blk.one (off := 0) rfl rfl, ?_⟩
      exact ⟨Ext.trans' hx03 hI.ext, s, rfl, hc.to fun b hb => .inl (.inl (.inl hb))⟩
    | cons t y =>
      have hy0 := InV.head hI.vy
      refine And.intro (fun h2 => ?_) (fun h2 => ?_)
      rotate_left
      · exfalso; have := hy0.1; omega
      refine hy0.2.2.elim fun uy ly => ?_
      refine ⟨sq 20, by kernel_rfl, ?_⟩
      refine And.intro (fun h3 => ?_) (fun h3 => ?_)
      rotate_left
      · exfalso; omega
      intro w5' hx5 _
      have hI : AxF jx jy ka H w3 b4 b7 a xs ys rx ry [] (t :: y) s zs w5' := ⟨Ext.trans' hI.ext hx5, Nat.lt_of_lt_of_le hI.lt hx5.size, hI.blk.ext hx5, hI.acc.ext hx5, hI.vx, hI.vy, hI.mrg⟩
      have hHs := hI.hb hH3 hb4lt
      have hzl := hI.zl hxl hyl
      refine ⟨sqT 10, by kernel_rfl, 0, ⟨rfl, hy0.1, hy0.2.1⟩, _, ly.1.ext hI.ext, 0, ⟨rfl, hy0.1, hy0.2.1⟩, uy.x.v, ly.2.1.ext hI.ext, ?_⟩
      refine dcallR (mk := RatR.v) (Q := fun r w' => CanQ (rowH (AH H b4 b7) s.v) w' r t.2) RatR.inj (fun _ => CanQ.stable) (fun w' hw _ => Norm_ok (HB.ext hHs hw) ((hI.up h7 ly.2.2).is.ext hw)) ?_
      intro rn
      intro w6 hx6 hF6
      refine CallS.mono (putC_ok (t.1) (HB.ext hHs hx6) (hI.blk.ext hx6) (hI.acc.ext hx6) (.inr rfl) (Nat.lt_succ_self b7) (Nat.le_trans hI.lt hx6.size) hF6.1 (fitF_y ly.2.2.fit) (by omega) hzl) ?_
      rintro v7 w7 ⟨hB7, hs7, s', hb7', hA7⟩
      intro w8 hx8 _
      have hx38 : Ext w3 w8 := Ext.trans' (Ext.below (Ext.trans' hI.ext hx6) hB7 (Nat.le_of_eq h7)) hx8
      have hlt8 : b7 < w8.heap.size := Nat.lt_of_lt_of_le hI.lt (Nat.le_trans hx6.size (Nat.le_trans hs7 hx8.size))
      have hb8 := hb7'.ext hx8
      have hA8 := hA7.ext hx8
      refine ⟨1, ry.n, ⟨rfl, rfl, hy0.1, hI.vy.nc⟩, ?_⟩
      exact ⟨(rx, ⟨subA ry.a ry.c 1 5, ry.n - 1, ry.c - 1⟩, [], y, s', _), ⟨rfl, rfl, rfl, rfl, rfl, trivial⟩, ⟨hx38, hlt8, hb8, hA8, hI.vx, hI.vy.tail, (hI.mrg.takeY (fun s hs => by simp at hs))⟩, by show _ < _; simp only [List.length_cons]; omega⟩
  | cons u x =>
    have hx0 := InV.head hI.vx
    refine hx0.2.2.elim fun ux lx => ?_
    refine And.intro (fun h1 => ?_) (fun h1 => ?_)
    rotate_left
    · exfalso; have := hx0.1; omega
    refine ⟨sq 20, by kernel_rfl, ?_⟩
    refine And.intro (fun h2 => ?_) (fun h2 => ?_)
    · exfalso; have := hx0.1; omega
    cases y with
    | nil =>
      have hny : ry.n = 0 := hny
      refine And.intro (fun h3 => ?_) (fun h3 => ?_)
      · exfalso; omega
      intro w5' hx5 _
      have hI : AxF jx jy ka H w3 b4 b7 a xs ys rx ry (u :: x) [] s zs w5' := ⟨Ext.trans' hI.ext hx5, Nat.lt_of_lt_of_le hI.lt hx5.size, hI.blk.ext hx5, hI.acc.ext hx5, hI.vx, hI.vy, hI.mrg⟩
      have hHs := hI.hb hH3 hb4lt
      have hzl := hI.zl hxl hyl
      refine ⟨sq 15, by kernel_rfl, ?_⟩
      refine And.intro (fun h4 => ?_) (fun h4 => ?_)
      rotate_left
      · exfalso; omega
      intro w6' hx6 _
      have hI : AxF jx jy ka H w3 b4 b7 a xs ys rx ry (u :: x) [] s zs w6' := ⟨Ext.trans' hI.ext hx6, Nat.lt_of_lt_of_le hI.lt hx6.size, hI.blk.ext hx6, hI.acc.ext hx6, hI.vx, hI.vy, hI.mrg⟩
      have hHs := hI.hb hH3 hb4lt
      have hzl := hI.zl hxl hyl
      refine ⟨sqT 11, by kernel_rfl, 0, ⟨rfl, hx0.1, hx0.2.1⟩, _, lx.1.ext hI.ext, ra.v, loadQ (hB4.ext hI.ext), 0, ⟨rfl, hx0.1, hx0.2.1⟩, ux.x.v, lx.2.1.ext hI.ext, ?_⟩
      refine dcallR (mk := RatR.v) (Q := fun r w' => CanQ (rowH (AH H b4 b7) s.v) w' r (a * u.2)) RatR.inj (fun _ => CanQ.stable) (fun w' hw _ => RMul_ok (HB.ext hHs hw) (((hI.up h7 hra).ext hw).mono (by omega)) (((hI.up h7 lx.2.2).ext hw).mono (by omega))) ?_
      intro rn
      intro w6 hx6 hF6
      refine CallS.mono (putC_ok (u.1) (HB.ext hHs hx6) (hI.blk.ext hx6) (hI.acc.ext hx6) (.inr rfl) (Nat.lt_succ_self b7) (Nat.le_trans hI.lt hx6.size) hF6.1 (fitF_x hra.fit lx.2.2.fit) (by omega) hzl) ?_
      rintro v7 w7 ⟨hB7, hs7, s', hb7', hA7⟩
      intro w8 hx8 _
      have hx38 : Ext w3 w8 := Ext.trans' (Ext.below (Ext.trans' hI.ext hx6) hB7 (Nat.le_of_eq h7)) hx8
      have hlt8 : b7 < w8.heap.size := Nat.lt_of_lt_of_le hI.lt (Nat.le_trans hx6.size (Nat.le_trans hs7 hx8.size))
      have hb8 := hb7'.ext hx8
      have hA8 := hA7.ext hx8
      refine ⟨1, rx.n, ⟨rfl, rfl, hx0.1, hI.vx.nc⟩, ?_⟩
      exact ⟨(⟨subA rx.a rx.c 1 5, rx.n - 1, rx.c - 1⟩, ry, x, [], s', _), ⟨rfl, rfl, rfl, rfl, rfl, trivial⟩, ⟨hx38, hlt8, hb8, hA8, hI.vx.tail, hI.vy, hI.mrg.takeX (fun s hs => by simp at hs)⟩, by show _ < _; simp only [List.length_cons]; omega⟩
    | cons t y =>
      have hy0 := InV.head hI.vy
      refine hy0.2.2.elim fun uy ly => ?_
      refine And.intro (fun h3 => ?_) (fun h3 => ?_)
      rotate_left
      · exfalso; have := hy0.1; omega
      refine ⟨0, ⟨rfl, hy0.1, hy0.2.1⟩, _, ly.1.ext hI.ext, 0, ⟨rfl, hx0.1, hx0.2.1⟩, _, lx.1.ext hI.ext, ?_⟩
      refine And.intro (fun h4 => ?_) (fun h4 => ?_)
      · intro w5' hx5 _
        have hI : AxF jx jy ka H w3 b4 b7 a xs ys rx ry (u :: x) (t :: y) s zs w5' := ⟨Ext.trans' hI.ext hx5, Nat.lt_of_lt_of_le hI.lt hx5.size, hI.blk.ext hx5, hI.acc.ext hx5, hI.vx, hI.vy, hI.mrg⟩
        have hHs := hI.hb hH3 hb4lt
        have hzl := hI.zl hxl hyl
        have hbef : ∀ s ∈ u :: x, t.1 < s.1 := fun s hs => by
          rcases List.mem_cons.1 hs with rfl | hs
          · exact h4
          · exact Int.lt_trans h4 (hI.mrg.rx.head s hs)
        refine ⟨sqT 10, by kernel_rfl, 0, ⟨rfl, hy0.1, hy0.2.1⟩, _, ly.1.ext hI.ext, 0, ⟨rfl, hy0.1, hy0.2.1⟩, uy.x.v, ly.2.1.ext hI.ext, ?_⟩
        refine dcallR (mk := RatR.v) (Q := fun r w' => CanQ (rowH (AH H b4 b7) s.v) w' r t.2) RatR.inj (fun _ => CanQ.stable) (fun w' hw _ => Norm_ok (HB.ext hHs hw) ((hI.up h7 ly.2.2).is.ext hw)) ?_
        intro rn
        intro w6 hx6 hF6
        refine CallS.mono (putC_ok (t.1) (HB.ext hHs hx6) (hI.blk.ext hx6) (hI.acc.ext hx6) (.inr rfl) (Nat.lt_succ_self b7) (Nat.le_trans hI.lt hx6.size) hF6.1 (fitF_y ly.2.2.fit) (by omega) hzl) ?_
        rintro v7 w7 ⟨hB7, hs7, s', hb7', hA7⟩
        intro w8 hx8 _
        have hx38 : Ext w3 w8 := Ext.trans' (Ext.below (Ext.trans' hI.ext hx6) hB7 (Nat.le_of_eq h7)) hx8
        have hlt8 : b7 < w8.heap.size := Nat.lt_of_lt_of_le hI.lt (Nat.le_trans hx6.size (Nat.le_trans hs7 hx8.size))
        have hb8 := hb7'.ext hx8
        have hA8 := hA7.ext hx8
        refine ⟨1, ry.n, ⟨rfl, rfl, hy0.1, hI.vy.nc⟩, ?_⟩
        exact ⟨(rx, ⟨subA ry.a ry.c 1 5, ry.n - 1, ry.c - 1⟩, u :: x, y, s', _), ⟨rfl, rfl, rfl, rfl, rfl, trivial⟩, ⟨hx38, hlt8, hb8, hA8, hI.vx, hI.vy.tail, (hI.mrg.takeY hbef)⟩, by show _ < _; simp only [List.length_cons]; omega⟩
      · intro w5' hx5 _
        have hI : AxF jx jy ka H w3 b4 b7 a xs ys rx ry (u :: x) (t :: y) s zs w5' := ⟨Ext.trans' hI.ext hx5, Nat.lt_of_lt_of_le hI.lt hx5.size, hI.blk.ext hx5, hI.acc.ext hx5, hI.vx, hI.vy, hI.mrg⟩
        have hHs := hI.hb hH3 hb4lt
        have hzl := hI.zl hxl hyl
        refine ⟨sq 15, by kernel_rfl, ?_⟩
        refine And.intro (fun h5 => ?_) (fun h5 => ?_)
        · exfalso; have := hy0.1; omega
        refine ⟨0, ⟨rfl, hx0.1, hx0.2.1⟩, _, lx.1.ext hI.ext, 0, ⟨rfl, hy0.1, hy0.2.1⟩, _, ly.1.ext hI.ext, ?_⟩
        refine And.intro (fun h6 => ?_) (fun h6 => ?_)
        · intro w6' hx6 _
          have hI : AxF jx jy ka H w3 b4 b7 a xs ys rx ry (u :: x) (t :: y) s zs w6' := ⟨Ext.trans' hI.ext hx6, Nat.lt_of_lt_of_le hI.lt hx6.size, hI.blk.ext hx6, hI.acc.ext hx6, hI.vx, hI.vy, hI.mrg⟩
          have hHs := hI.hb hH3 hb4lt
          have hzl := hI.zl hxl hyl
          have hbef : ∀ s ∈ t :: y, u.1 < s.1 := fun s hs => by
            rcases List.mem_cons.1 hs with rfl | hs
            · exact h6
            · exact Int.lt_trans h6 (hI.mrg.ry.head s hs)
          refine ⟨sqT 11, by kernel_rfl, 0, ⟨rfl, hx0.1, hx0.2.1⟩, _, lx.1.ext hI.ext, ra.v, loadQ (hB4.ext hI.ext), 0, ⟨rfl, hx0.1, hx0.2.1⟩, ux.x.v, lx.2.1.ext hI.ext, ?_⟩
          refine dcallR (mk := RatR.v) (Q := fun r w' => CanQ (rowH (AH H b4 b7) s.v) w' r (a * u.2)) RatR.inj (fun _ => CanQ.stable) (fun w' hw _ => RMul_ok (HB.ext hHs hw) (((hI.up h7 hra).ext hw).mono (by omega)) (((hI.up h7 lx.2.2).ext hw).mono (by omega))) ?_
          intro rn
          intro w6 hx6 hF6
          refine CallS.mono (putC_ok (u.1) (HB.ext hHs hx6) (hI.blk.ext hx6) (hI.acc.ext hx6) (.inr rfl) (Nat.lt_succ_self b7) (Nat.le_trans hI.lt hx6.size) hF6.1 (fitF_x hra.fit lx.2.2.fit) (by omega) hzl) ?_
          rintro v7 w7 ⟨hB7, hs7, s', hb7', hA7⟩
          intro w8 hx8 _
          have hx38 : Ext w3 w8 := Ext.trans' (Ext.below (Ext.trans' hI.ext hx6) hB7 (Nat.le_of_eq h7)) hx8
          have hlt8 : b7 < w8.heap.size := Nat.lt_of_lt_of_le hI.lt (Nat.le_trans hx6.size (Nat.le_trans hs7 hx8.size))
          have hb8 := hb7'.ext hx8
          have hA8 := hA7.ext hx8
          refine ⟨1, rx.n, ⟨rfl, rfl, hx0.1, hI.vx.nc⟩, ?_⟩
          exact ⟨(⟨subA rx.a rx.c 1 5, rx.n - 1, rx.c - 1⟩, ry, x, t :: y, s', _), ⟨rfl, rfl, rfl, rfl, rfl, trivial⟩, ⟨hx38, hlt8, hb8, hA8, hI.vx.tail, hI.vy, hI.mrg.takeX hbef⟩, by show _ < _; simp only [List.length_cons]; omega⟩
        · intro w6' hx6 _
          have hI : AxF jx jy ka H w3 b4 b7 a xs ys rx ry (u :: x) (t :: y) s zs w6' := ⟨Ext.trans' hI.ext hx6, Nat.lt_of_lt_of_le hI.lt hx6.size, hI.blk.ext hx6, hI.acc.ext hx6, hI.vx, hI.vy, hI.mrg⟩
          have hHs := hI.hb hH3 hb4lt
          have hzl := hI.zl hxl hyl
          have heq : u.1 = t.1 := Int.le_antisymm (Int.not_lt.1 h4) (Int.not_lt.1 h6)
          refine ⟨sqT 16, by kernel_rfl, 0, ⟨rfl, hx0.1, hx0.2.1⟩, _, lx.1.ext hI.ext, 0, ⟨rfl, hy0.1, hy0.2.1⟩, uy.x.v, ly.2.1.ext hI.ext, ra.v, loadQ (hB4.ext hI.ext), 0, ⟨rfl, hx0.1, hx0.2.1⟩, ux.x.v, lx.2.1.ext hI.ext, ?_⟩
          refine dcallR (mk := RatR.v) (Q := fun r w' => CanQ (rowH (AH H b4 b7) s.v) w' r (a * u.2)) RatR.inj (fun _ => CanQ.stable) (fun w' hw _ => RMul_ok (HB.ext hHs hw) (((hI.up h7 hra).ext hw).mono (by omega)) (((hI.up h7 lx.2.2).ext hw).mono (by omega))) ?_
          intro rm
          refine dcallR (mk := RatR.v) (Q := fun r w' => CanQ (rowH (AH H b4 b7) s.v) w' r (t.2 + a * u.2)) RatR.inj (fun _ => CanQ.stable) (fun w' hw hF => RAdd_ok (HB.ext hHs hw) (((hI.up h7 ly.2.2).ext hw).mono (by omega)) (hF.1.inq ((fitF_x0 hra.fit lx.2.2.fit).mono (by omega)) (by omega))) ?_
          intro rn
          intro w6 hx6 hF6
          refine CallS.mono (putC_ok (u.1) (HB.ext hHs hx6) (hI.blk.ext hx6) (hI.acc.ext hx6) (.inr rfl) (Nat.lt_succ_self b7) (Nat.le_trans hI.lt hx6.size) hF6.1 (fitF_xy hra.fit lx.2.2.fit ly.2.2.fit) (by omega) hzl) ?_
          rintro v7 w7 ⟨hB7, hs7, s', hb7', hA7⟩
          intro w8 hx8 _
          have hx38 : Ext w3 w8 := Ext.trans' (Ext.below (Ext.trans' hI.ext hx6) hB7 (Nat.le_of_eq h7)) hx8
          have hlt8 : b7 < w8.heap.size := Nat.lt_of_lt_of_le hI.lt (Nat.le_trans hx6.size (Nat.le_trans hs7 hx8.size))
          have hb8 := hb7'.ext hx8
          have hA8 := hA7.ext hx8
          refine ⟨sq 6, by kernel_rfl, 1, rx.n, ⟨rfl, rfl, hx0.1, hI.vx.nc⟩, 1, ry.n, ⟨rfl, rfl, hy0.1, hI.vy.nc⟩, ?_⟩
          intro w9 hx9 _
          exact ⟨(⟨subA rx.a rx.c 1 5, rx.n - 1, rx.c - 1⟩, ⟨subA ry.a ry.c 1 5, ry.n - 1, ry.c - 1⟩, x, y, s', _), ⟨rfl, rfl, rfl, rfl, rfl, trivial⟩, ⟨Ext.trans' hx38 hx9, Nat.lt_of_lt_of_le hlt8 hx9.size, hb8.ext hx9, hA8.ext hx9, hI.vx.tail, hI.vy.tail, hI.mrg.both heq⟩, by show _ < _; simp only [List.length_cons]; omega⟩
end Go.Proofs.Ytlfdobjdlgebbaa
/-
  A row of bytes made a text. Helpers; no statement of the program is proved here.
-/
set_option maxRecDepth 100000
set_option linter.unusedSimpArgs false
set_option linter.unusedVariables false
namespace Go.Tw
open Go Go.RowKit
def txt (ns : List Int) : ByteArray := ns.foldl (fun r n => r.push (UInt8.ofNat n.toNat)) ByteArray.empty
theorem raw_bytes {P : Program} {T : TT} (hT : TOk P T) {o : Oper} {e : Env} {w : World} {K : Value → World → Prop} {s d el : Nat} {x : Operand} (ho : o.op = .convert s d x) (hs : (tyAt T s).d = .slice el) (he : (tyAt T el).d = .int .u8) (hd : (tyAt T d).d = .str)
    {a : Addr} {m n : Nat} (hx : ev e x = some (.slice (some a) m n)) {ns : List Int} (hl : ns.length = m) (hc : ∀ j v, (ns.map (Value.int .u8))[j]? = some v → w.cell? (a.add j) = some v) (hK : K (.string (txt ns)) w) : rawVC P o e w K := by
  intro r hr
  obtain ⟨dst, op, type, pos, after, guard⟩ := o
  simp only at ho
  subst ho
  have h1 : (loadCells a m).run P w = .ok (ns.map (Value.int .u8)).toArray w := by
    have := run_loadCells_list (P := P) w a (ns.map (Value.int .u8)) hc
    simpa [hl] using this
  have h2 := run_bytesToString (P := P) w a m n ns h1
  have h3 := run_convert_bytes_string (P := P) w s d el (some a) m n (hT.slice hs) (hT.int he) (hT.str hd)
  simp only [execOp, hr x _ hx, Sem.run_bind, h3, h2, Result.andThen, Sem.run_pure]
  exact hK
end Go.Tw
/-
  Contracts: the text of a small number. Helpers; no statement of the program is proved here.
-/
set_option maxRecDepth 100000
set_option linter.unusedSimpArgs false
set_option linter.unusedVariables false
namespace Go.Proofs.Ytlfdobjdlgebbaa
open Go Go.Tw Go.RowKit
attribute [local irreducible] LoadAt StoreOk Stored rawVC

abbrev tB : Nat := 5
theorem Rev1_ok {w : World} {a : Option Addr} {c : Nat} : CallS Try.prog 120 #[.slice a 1 c] w fun v w' => Ext w w' ∧ v = .tuple #[] := by
  refine enter ttOk mixed (args := [.slice a 1 c]) Try.func120 rfl (by kernel_rfl) (by kernel_rfl) rfl ?_
  refine ⟨0, by omega, ?_⟩
  refine ⟨Unit, fun _ => [(0, .slice a 1 c), (2, .int .i64 0), (3, .int .i64 0)], fun _ w' => Ext w w', fun _ _ => 0, ⟨(), ⟨rfl, rfl, rfl, trivial⟩, Ext.rfl w⟩, ?_⟩
  rintro u w1 hx1
  refine And.intro (fun h1 => ?_) (fun h1 => ?_)
  · exfalso; omega
  · exact ⟨hx1, rfl⟩
theorem Text1_ok {w : World} {rx : IntR} {z : Nat} (hx : CanI H0 w rx (z : Int)) (h1 : 1 ≤ z) (h9 : z ≤ 9) :
    CallS Try.prog 90 #[rx.v] w fun v w' => Ext w w' ∧ v = .string (txt [48 + (z : Int)]) := by
  have hw := hx.words
  rw [Int.natAbs_natCast] at hw
  have hdz : dig z = [z] := by
    rw [dig_pos (by omega), Nat.mod_eq_of_lt (by omega), Nat.div_eq_of_lt (by omega), dig_zero]
  rw [hdz] at hw
  have hn1 : rx.n = 1 := hw.len.symm
  have hneg : rx.neg = false := by rw [hx.neg]; exact decide_eq_false (by omega)
  refine enter ttOk mixed (args := [rx.v]) Try.func90 rfl (by kernel_rfl) (by kernel_rfl) rfl ?_
  intro b1 w1 hb1
  have hB : Blk w1 b1 31 [.bool rx.neg, .slice rx.a rx.n rx.c] := hb1.toBlk
  rw [hneg] at hB
  refine ⟨_, hB.one (off := 1) rfl rfl, ?_⟩
  refine CallS.mono (Trim_ok (hw.ext hb1.ext) hx.nc hx.cm (by omega)) ?_
  rintro v w2 ⟨hx2, a4, n4, c4, rfl, hW4, hc4, hm4⟩
  have hv : val [z] = z := by simp [val]
  rw [hv, hdz] at hW4
  have hx02 := Ext.trans' hb1.ext hx2
  refine ⟨SlR × SlR × Bool, fun x => [(1, .pointer (some ⟨b1, 0, none⟩)), (3, x.1.v), (4, x.2.1.v)], fun x w' => Ext w2 w' ∧ (if x.2.2 = true then (Words w' x.2.1.a x.2.1.n [] ∧ w'.ownsRow w2.heap.size tB 1 x.1.v 1 [.int .u8 (48 + (z : Int))]) else (x.2.1 = ⟨a4, n4, c4⟩ ∧ x.1 = ⟨none, 0, 0⟩)), fun x _ => if x.2.2 = true then 0 else 1,
    ⟨(⟨none, 0, 0⟩, ⟨a4, n4, c4⟩, false), ⟨rfl, rfl, rfl, trivial⟩, Ext.rfl w2, ⟨rfl, rfl⟩⟩, ?_⟩
  rintro ⟨s3, s4, d⟩ w3 ⟨hx3, hI⟩
  dsimp only at *
  cases d with
  | true =>
    have hI : Words w3 s4.a s4.n [] ∧ w3.ownsRow w2.heap.size tB 1 s3.v 1 [.int .u8 (48 + (z : Int))] := hI
    have h40 : s4.n = 0 := hI.1.len.symm
    refine And.intro (fun h2 => ?_) (fun h2 => ?_)
    · exfalso; omega
    · have hs3 : ∃ g cap, s3 = ⟨some ⟨g, 0, none⟩, 1, cap⟩ ∧ w3.cell? ⟨g, 0, none⟩ = some (.int .u8 (48 + (z : Int))) := by
        rcases hI.2.2 with ⟨_, h0⟩ | ⟨g, cap, cur, he, hg, hb, hnc, hcm, hcs, htk⟩
        · omega
        · refine ⟨g, cap, SlR.inj he, ?_⟩
          have h5 : cur.toList.take 1 = [Value.int .u8 (48 + (z : Int))] := htk
          have h6 : cur[0]? = some (.int .u8 (48 + (z : Int))) := by
            have := congrArg (fun l => l[0]?) h5
            simpa using this
          simp only [World.cell?, hb]
          simpa using h6
      obtain ⟨g, cap, rfl, hcell⟩ := hs3
      have hB3 := (hB.ext hx2).ext hx3
      refine And.intro (fun h3 => ?_) (fun h3 => ?_)
      · exfalso
        have h3 : ((1 : Nat) : Int) = 0 := h3
        omega
      · refine ⟨_, hB3.one (off := 0) rfl rfl, ?_⟩
        refine CallS.mono Rev1_ok ?_
        rintro _ w4 ⟨hx4, rfl⟩
        refine raw_bytes (ns := [48 + (z : Int)]) ttOk rfl rfl rfl rfl rfl rfl (fun j v hj => ?_) ⟨Ext.trans' (Ext.trans' hx02 hx3) hx4, rfl⟩
        cases j with
        | zero =>
          have hj : some (Value.int .u8 (48 + (z : Int))) = some v := hj
          cases hj
          exact hx4.cellEq hcell
        | succ j => simp at hj
  | false =>
    have hI : s4 = ⟨a4, n4, c4⟩ ∧ s3 = ⟨none, 0, 0⟩ := hI
    obtain ⟨rfl, rfl⟩ := hI
    have h41 : n4 = 1 := hW4.len.symm
    refine And.intro (fun h2 => ?_) (fun h2 => ?_)
    · intro b5 w4 hb5
      have hb5 : New w3 w4 b5 88 (wv [1000000000000000000]) := hb5
      have hW5 : Words w4 (some ⟨b5, 0, none⟩) 1 [1000000000000000000] := Words.blkAll (A := [1000000000000000000]) hb5.toBlk (fun x hx => by simp at hx; omega)
      refine CallS.mono (DivMod_ok ((hW4.ext hx3).ext hb5.ext) hc4 hm4 (show n4 ≤ 1099511627776 by omega) hW5 (Nat.le_refl _) (by omega) (by omega)) ?_
      rintro _ w5 ⟨hx5, q, r, rfl, hq, hr⟩
      have hv2 : val [1000000000000000000] = 1000000000000000000 := by simp [val]
      rw [hv, hv2, Nat.div_eq_of_lt (by omega), dig_zero] at hq
      have hmod : modN z 1000000000000000000 = z := by unfold modN; rw [if_neg (by omega)]; exact Nat.mod_eq_of_lt (by omega)
      rw [hv, hv2, hmod, hdz] at hr
      obtain ⟨aq, nq, cq, rfl, hWq, hcq, hmq⟩ := hq
      obtain ⟨ar, nr, cr, rfl, hWr, hcr, hmr⟩ := hr
      have hnq : nq = 0 := hWq.len.symm
      have hnr : nr = 1 := hWr.len.symm
      have hx45 := Ext.trans' hb5.ext hx5
      refine And.intro (fun h3 => ?_) (fun h3 => ?_)
      · refine ⟨0, ⟨rfl, by omega, hWr.base (by omega)⟩, _, hWr.load rfl rfl rfl, ?_⟩
        refine ⟨SlR × Bool, fun x => [(1, .pointer (some ⟨b1, 0, none⟩)), (3, x.1.v), (4, .slice aq nq cq), (6, .int .u64 (if x.2 = true then 0 else (z : Int))), (7, .int .i64 (if x.2 = true then 1 else 0))], fun x w' => Ext w5 w' ∧ (if x.2 = true then w'.ownsRow w2.heap.size tB 1 x.1.v 1 [.int .u8 (48 + (z : Int))] else x.1 = ⟨none, 0, 0⟩), fun x _ => if x.2 = true then 0 else 1,
          ⟨(⟨none, 0, 0⟩, false), ⟨rfl, rfl, rfl, rfl, rfl, trivial⟩, Ext.rfl w5, rfl⟩, ?_⟩
        rintro ⟨s3, d⟩ w6 ⟨hx6, hJ⟩
        cases d with
        | true =>
          have hJ : w6.ownsRow w2.heap.size tB 1 s3.v 1 [.int .u8 (48 + (z : Int))] := hJ
          refine And.intro (fun h4 => ?_) (fun h4 => ?_)
          · refine And.intro (fun h5 => ?_) (fun h5 => ?_)
            · exfalso; exact absurd (show (0 : Int) > 0 from h5) (by decide)
            · refine And.intro (fun h6 => ?_) (fun h6 => ?_)
              · exfalso
                have h6 : (0 : Int) < (nq : Int) := h6
                omega
              · exact ⟨(s3, ⟨aq, nq, cq⟩, true), ⟨rfl, rfl, rfl, trivial⟩, ⟨Ext.trans' hx3 (Ext.trans' hx45 hx6), hWq.ext hx6, hJ⟩, Nat.zero_lt_one⟩
          · exfalso; apply h4; show (1 : Int) < 18; decide
        | false =>
          have hJ : s3 = ⟨none, 0, 0⟩ := hJ
          subst hJ
          refine And.intro (fun h4 => ?_) (fun h4 => ?_)
          · refine And.intro (fun h5 => ?_) (fun h5 => ?_)
            · refine ⟨((z % 10 : Nat) : Int), ⟨remZ z 10, fun h => by omega⟩, 48 + (z : Int), by omega, 48 + (z : Int), by omega, ?_⟩
              intro b8 w7 hb8
              have hb8 : New w6 w7 b8 tB [.int .u8 (48 + (z : Int))] := hb8
              have h27 : Ext w2 w7 := Ext.trans' (Ext.trans' (Ext.trans' hx3 hx45) hx6) hb8.ext
              refine ⟨rfl, w2.heap.size, 0, [], [.int .u8 (48 + (z : Int))], ⟨World.ownsRow_nil _ _ _ _, rfl, ?_, ?_, fun _ => ⟨_, rfl, rfl⟩, by omega, by show 1 * 1 ≤ _; omega, h27.size⟩, ?_⟩
              · intro j v hj
                exact hb8.toBlk.cell (i := 0 + j) (v := v) (by rw [Nat.zero_add]; exact hj)
              · intro v hv
                rw [List.mem_singleton] at hv
                subst hv; rfl
              intro v' w8 ho hg hn
              have ho : w8.ownsRow w2.heap.size tB 1 v' 1 [.int .u8 (48 + (z : Int))] := ho
              have hx8 : Ext w2 w8 := Ext.grown h27 hg (fun b hb => by cases hb)
              have hx68 : Ext w6 w8 := Ext.grown hb8.ext hg (fun b hb => by cases hb)
              have hv : ∃ s : SlR, v' = s.v := by
                rcases ho.2 with ⟨rfl, h0⟩ | ⟨g, cap, cur, rfl, _⟩
                · omega
                · exact ⟨⟨_, _, _⟩, rfl⟩
              obtain ⟨s, rfl⟩ := hv
              have hq0 := quoZ z 10 (by omega)
              rw [Nat.div_eq_of_lt (by omega)] at hq0
              refine ⟨0, ⟨hq0, fun h => by omega⟩, 1, ⟨rfl, by decide⟩, ?_⟩
              exact ⟨(s, true), ⟨rfl, rfl, rfl, rfl, rfl, trivial⟩, ⟨Ext.trans' hx6 hx68, ho⟩, Nat.zero_lt_one⟩
            · exfalso; apply h5; show (0 : Int) < (z : Int); omega
          · exfalso; apply h4; show (0 : Int) < 18; decide
      · exfalso; apply h3; show (0 : Int) < (nr : Int); omega
    · exfalso; apply h2; show (0 : Int) < (n4 : Int); omega
theorem txt_size1 (n : Int) : (txt [n]).size = 1 := rfl
/-- The text of a fraction of one digit above and below. -/
theorem RText_ok {w : World} {rx : RatR} {q : Rat} {z : Nat} (hx : QI 1 w rx q) (hq : q.num = (z : Int)) (h1 : 1 ≤ z) (h9 : z ≤ 9) (hd : q.den ≤ 9) :
    CallS Try.prog 49 #[rx.v] w fun v w' => Ext w w' ∧ v = .string (if q.den = 1 then txt [48 + (z : Int)] else txt [48 + (z : Int)] ++ ⟨#[47]⟩ ++ txt [48 + (q.den : Int)]) := by
  refine enter ttOk mixed (args := [rx.v]) Try.func49 rfl (by kernel_rfl) (by kernel_rfl) rfl ?_
  intro b1 w1 hb1
  have hB1 : Blk w1 b1 33 (rcs rx) := hb1.toBlk
  refine ⟨rx.v, loadQ hB1, ?_⟩
  refine CallS.mono (Norm_ok ((H0.hb w).up hb1.ext) (hx.inq.is.up hb1.ext)) ?_
  rintro _ w2 ⟨hx2, r, rfl, hr⟩
  have st := storeQ (r := r) (hB1.ext hx2) (Ext.trans' hb1.ext hx2) (hb1.ge (Ext.rfl _)) rfl
  refine ⟨st.1, fun w3 hs3 => ?_⟩
  have hB3 := (st.2 w3 hs3).1
  have hx3 := (st.2 w3 hs3).2.2
  have hr3 := (hr.far (st.2 w3 hs3).2.1 (hb1.inUp (Ext.rfl w) (Ext.rfl w1))).less
  have hnum : CanI H0 w3 r.num (z : Int) := hq ▸ hr3.num
  refine ⟨_, hB3.one (off := 3) rfl rfl, ?_⟩
  by_cases h0 : q.den = 1
  · have hn0 : r.den.n = 0 := by
      rw [hr3.den.n0]; unfold denC; rw [if_pos h0]
    rw [if_pos h0]
    refine And.intro (fun h2 => ?_) (fun h2 => ?_)
    · refine ⟨r.num.v, loadQn hB3, ?_⟩
      refine CallS.mono (Text1_ok hnum h1 h9) ?_
      rintro _ w4 ⟨hx4, rfl⟩
      exact ⟨Ext.trans' hx3 hx4, rfl⟩
    · exfalso; apply h2; show (r.den.n : Int) = 0; omega
  · have hdn : CanI H0 w3 r.den ((q.den : Nat) : Int) := by
      have := hr3.den
      unfold denC at this
      rw [if_neg h0] at this
      exact this
    have hd0 := q.den_pos
    have hn0 : r.den.n ≠ 0 := by
      intro h
      have := hr3.den.n0.1 h
      unfold denC at this
      rw [if_neg h0] at this
      omega
    rw [if_neg h0]
    refine And.intro (fun h2 => ?_) (fun h2 => ?_)
    · exfalso
      have h2 : (r.den.n : Int) = 0 := h2
      omega
    · refine ⟨sq 9, by kernel_rfl, r.num.v, loadQn hB3, ?_⟩
      refine dcallV (.string (txt [48 + (z : Int)])) (fun w' hw hF => Text1_ok (hnum.ext hw) h1 h9) ?_
      refine ⟨show (txt [48 + (z : Int)]).size + 1 ≤ _ by rw [txt_size1]; omega, ?_⟩
      refine ⟨r.den.v, hB3.agg (sub := [.bool r.den.neg, .slice r.den.a r.den.n r.den.c]) rfl rfl, ?_⟩
      refine dcallV (.string (txt [48 + (q.den : Int)])) (fun w' hw hF => Text1_ok (hdn.ext hw) (by omega) hd) ?_
      refine ⟨show (txt [48 + (z : Int)] ++ ⟨#[47]⟩ : ByteArray).size + (txt [48 + (q.den : Int)]).size ≤ _ by rw [ByteArray.size_append, txt_size1, txt_size1]; show 1 + 1 + 1 ≤ _; omega, ?_⟩
      intro w4 hx4 _
      exact ⟨Ext.trans' hx3 hx4, rfl⟩
end Go.Proofs.Ytlfdobjdlgebbaa
/-
  The watch of the layer sparse: its terms. Helpers; no statement of the program is proved here.
-/
set_option maxRecDepth 100000
set_option linter.unusedSimpArgs false
set_option linter.unusedVariables false
namespace Go.Proofs.Ytlfdobjdlgebbaa
open Go Go.Tw Go.RowKit
attribute [local irreducible] LoadAt StoreOk Stored rawVC

theorem TmR.inj {x y : TmR} (h : x.v = y.v) : x = y := by
  obtain ⟨a, ⟨⟨b, c, d, e⟩, ⟨f, g, i, j⟩⟩⟩ := x
  obtain ⟨a', ⟨⟨b', c', d', e'⟩, ⟨f', g', i', j'⟩⟩⟩ := y
  simp only [TmR.v, Value.agg.injEq, Array.mk.injEq, List.cons.injEq, Value.int.injEq, Value.bool.injEq, Value.slice.injEq, true_and, and_true] at h
  obtain ⟨h1, h2, ⟨h3, h4, h5⟩, h6, h7, h8, h9⟩ := h
  subst h1 h2 h3 h4 h5 h6 h7 h8 h9
  rfl
structure TC (i : Int) (q : Rat) (w : World) (t : TmR) : Prop where
  at' : t.at' = i
  qc : QC 1 w t.x q
theorem TC.ext {i : Int} {q : Rat} {w w' : World} {t : TmR} (h : TC i q w t) (e : Ext w w') : TC i q w' t := ⟨h.at', h.qc.ext e⟩
theorem TC.stable {i : Int} {q : Rat} (t : TmR) : Stable (fun w => TC i q w t) := fun _ _ h e => h.ext e
theorem term_at {w : World} (i n d : Int) (hn : n.natAbs < 65536) (hd : d.natAbs < 65536) (hf : FitQ 1 (Rat.divInt n d)) :
    CallS Try.prog 47 #[.int .i64 i, .int .i64 n, .int .i64 d] w fun v w' => Ext w w' ∧ ∃ t : TmR, v = t.v ∧ TC i (Rat.divInt n d) w' t := by
  refine enter ttOk mixed (args := [.int .i64 i, .int .i64 n, .int .i64 d]) Try.func47 rfl (by kernel_rfl) (by kernel_rfl) rfl ?_
  intro b w1 hb
  refine CallS.mono (ROf_ok ((H0.hb w).up hb.ext) (by omega) (by omega) (by omega) (by omega)) ?_
  rintro _ w2 ⟨hx2, r, rfl, hr⟩
  have hB2 := hb.toBlk.ext hx2
  refine ⟨(storeTmB (w' := w2) (t := ⟨i, r⟩) hB2 rfl).1, fun w3 hs3 => ?_⟩
  have h3 := (storeTmB (t := ⟨i, r⟩) hB2 rfl).2 hs3
  have hr3 := (hr.far h3.2 (hb.inUp (Ext.rfl w) (Ext.rfl w1))).less
  refine ⟨(TmR.mk i r).v, h3.1.agg (sub := (TmR.mk i r).cs) rfl rfl, ?_⟩
  exact ⟨Ext.grownB (Ext.trans' hb.ext hx2) h3.2 (hb.ge (Ext.rfl w)), ⟨i, r⟩, rfl, rfl, hr3, hf⟩
theorem fit1 {q : Rat} (h : (Nat.blt q.num.natAbs 18446744073709551616 && Nat.blt q.den 18446744073709551616) = true) : FitQ 1 q := by
  simp only [Bool.and_eq_true, Nat.blt_eq] at h
  exact ⟨Fit_iff.2 (by rw [Nat.pow_one]; exact h.1), Fit_iff.2 (by rw [Nat.pow_one]; exact h.2)⟩
/-! ### rows of terms -/
inductive TCs (w : World) : List TmR → VL → Prop
  | nil : TCs w [] []
  | cons {i : Int} {q : Rat} {t : TmR} {ts : List TmR} {xs : VL} : TC i q w t → TCs w ts xs → TCs w (t :: ts) ((i, q) :: xs)
theorem TCs.ext {w w' : World} {ts : List TmR} {xs : VL} (h : TCs w ts xs) (e : Ext w w') : TCs w' ts xs := by
  induction h with
  | nil => exact .nil
  | cons h _ ih => exact .cons (h.ext e) ih
theorem TCs.can {w : World} {ts : List TmR} {xs : VL} (h : TCs w ts xs) : TsCan 1 H0 w ts xs := by
  induction h with
  | nil => exact .nil
  | cons h _ ih => exact .cons h.at' h.qc.can h.qc.fit ih
theorem TCs.vc {w : World} {ts : List TmR} {xs : VL} {b e : Nat} (n : Nat) (h : TCs w ts xs) (hb : Blk w b e (tcs ts)) (hn : ts.length = n) (hl : n ≤ 21) (hc : Cn xs) : VC 1 n w ⟨some ⟨b, 0, none⟩, n, n⟩ xs := by
  subst hn
  have hB : Blk w b e (tcs ts ++ []) := by rw [List.append_nil]; exact hb
  have hl' := h.can.length
  exact ⟨⟨⟨ts, Tms.blk hB, h.can⟩, Nat.le_refl _, by show ts.length ≤ _; omega, H0.av _ _⟩, hc, by omega⟩
theorem TCs.vi {w : World} {ts : List TmR} {xs : VL} {b e : Nat} (n : Nat) (h : TCs w ts xs) (hb : Blk w b e (tcs ts)) (hn : ts.length = n) (hl : n ≤ 21) : VI 1 n w ⟨some ⟨b, 0, none⟩, n, n⟩ xs := by
  subst hn
  have hB : Blk w b e (tcs ts ++ []) := by rw [List.append_nil]; exact hb
  have hl' := h.can.length
  exact ⟨⟨⟨ts, Tms.blk hB, h.can.inq (by omega)⟩, Nat.le_refl _, by show ts.length ≤ _; omega, H0.av _ _⟩, by omega, .inl (by omega)⟩
end Go.Proofs.Ytlfdobjdlgebbaa
/-
  The watch of the layer sparse: its own example. Helpers; no statement of the program is proved here.
-/
set_option maxRecDepth 100000
set_option linter.unusedSimpArgs false
set_option linter.unusedVariables false
namespace Go.Proofs.Ytlfdobjdlgebbaa
open Go Go.Tw Go.RowKit
attribute [local irreducible] LoadAt StoreOk Stored rawVC

def cnB (x : VL) : Bool :=
  match x with
  | [] => true
  | t :: x => !decide (t.2 = 0) && x.all (fun s => decide (t.1 < s.1)) && cnB x
theorem cnL {x : VL} (h : cnB x = true) : Cn x := by
  induction x with
  | nil => exact Cn.nil
  | cons t x ih =>
    simp only [cnB, Bool.and_eq_true, List.all_eq_true, decide_eq_true_eq, Bool.not_eq_true', decide_eq_false_iff_not] at h
    refine ⟨List.pairwise_cons.2 ⟨h.1.2, (ih h.2).1⟩, ?_⟩
    intro s hs
    rcases List.mem_cons.1 hs with rfl | hs
    · exact h.1.1
    · exact (ih h.2).2 s hs
theorem sratT_at {k1 k2 : Nat} {w : World} {x y : RatR} {p q : Rat} (hx : QC k1 w x p) (hy : QC k2 w y q) (h : k1 ≤ 1099511627776) (e : p = q) :
    CallS Try.prog 73 #[x.v, y.v] w fun v w' => Ext w w' ∧ v = .bool true := by
  have := srat_at hx hy h
  rw [decide_eq_true e] at this; exact this
theorem awake5_at (w0 : World) : CallS Try.prog 19 #[] w0 fun v w' => Ext w0 w' ∧ v = .bool true := by
  refine enter ttOk mixed (args := []) Try.func19 rfl (by kernel_rfl) (by kernel_rfl) rfl ?_
  refine CallS.mono (term_at (2) (1) (1) (by decide) (by decide) (fit1 (by kernel_rfl))) ?_
  rintro _ w1 ⟨x1, ta0, rfl, qta0⟩
  refine CallS.mono (term_at (0) (1) (2) (by decide) (by decide) (fit1 (by kernel_rfl))) ?_
  rintro _ w2 ⟨x2, ta1, rfl, qta1⟩
  refine CallS.mono (term_at (2) (-1) (1) (by decide) (by decide) (fit1 (by kernel_rfl))) ?_
  rintro _ w3 ⟨x3, ta2, rfl, qta2⟩
  intro a w4 ha
  have ha : New w3 w4 a tT (tcs [ta0, ta1, ta2]) := ha
  have x4 := ha.ext
  have va := TCs.vi 3 (.cons (qta0.ext (Ext.trans' (Ext.trans' x2 x3) x4)) (.cons (qta1.ext (Ext.trans' x3 x4)) (.cons (qta2.ext x4) (.nil)))) ha.toBlk rfl (by decide)
  refine CallS.mono (norm_at va (by decide)) ?_
  rintro _ w5 ⟨x5, s1, rfl, h1⟩
  refine CallS.mono (term_at (0) (1) (1) (by decide) (by decide) (fit1 (by kernel_rfl))) ?_
  rintro _ w6 ⟨x6, tb0, rfl, qtb0⟩
  refine CallS.mono (term_at (3) (2) (1) (by decide) (by decide) (fit1 (by kernel_rfl))) ?_
  rintro _ w7 ⟨x7, tb1, rfl, qtb1⟩
  intro b w8 hb
  have hb : New w7 w8 b tT (tcs [tb0, tb1]) := hb
  have x8 := hb.ext
  have vb := TCs.vi 2 (.cons (qtb0.ext (Ext.trans' x7 x8)) (.cons (qtb1.ext x8) (.nil))) hb.toBlk rfl (by decide)
  refine CallS.mono (term_at (3) (-2) (1) (by decide) (by decide) (fit1 (by kernel_rfl))) ?_
  rintro _ w9 ⟨x9, tc0, rfl, qtc0⟩
  refine CallS.mono (term_at (4) (1) (1) (by decide) (by decide) (fit1 (by kernel_rfl))) ?_
  rintro _ w10 ⟨x10, tc1, rfl, qtc1⟩
  intro c w11 hc
  have hc : New w10 w11 c tT (tcs [tc0, tc1]) := hc
  have x11 := hc.ext
  have vc := TCs.vi 2 (.cons (qtc0.ext (Ext.trans' x10 x11)) (.cons (qtc1.ext x11) (.nil))) hc.toBlk rfl (by decide)
  refine CallS.mono (add_at 1 (vb.ext (Ext.trans' (Ext.trans' x9 x10) x11)) vc (by decide)) ?_
  rintro _ w12 ⟨x12, s2, rfl, h2⟩
  refine CallS.mono (term_at (0) (1) (1) (by decide) (by decide) (fit1 (by kernel_rfl))) ?_
  rintro _ w13 ⟨x13, td0, rfl, qtd0⟩
  intro d w14 hd
  have hd : New w13 w14 d tT (tcs [td0]) := hd
  have x14 := hd.ext
  have vd := TCs.vi 1 (.cons (qtd0.ext x14) (.nil)) hd.toBlk rfl (by decide)
  refine CallS.mono (of_at (-2) 1 (by decide) (by decide) (fit1 (by kernel_rfl))) ?_
  rintro _ w15 ⟨x15, r3, rfl, hr3⟩
  refine CallS.mono (term_at (0) (1) (2) (by decide) (by decide) (fit1 (by kernel_rfl))) ?_
  rintro _ w16 ⟨x16, te0, rfl, qte0⟩
  refine CallS.mono (term_at (1) (1) (1) (by decide) (by decide) (fit1 (by kernel_rfl))) ?_
  rintro _ w17 ⟨x17, te1, rfl, qte1⟩
  intro e w18 he
  have he : New w17 w18 e tT (tcs [te0, te1]) := he
  have x18 := he.ext
  have ve := TCs.vi 2 (.cons (qte0.ext (Ext.trans' x17 x18)) (.cons (qte1.ext x18) (.nil))) he.toBlk rfl (by decide)
  refine CallS.mono (axpy_at 1 (vd.ext (Ext.trans' (Ext.trans' (Ext.trans' x15 x16) x17) x18)) ((hr3.ext (Ext.trans' (Ext.trans' x16 x17) x18)).qi (by decide)) ve (by decide)) ?_
  rintro _ w19 ⟨x19, s3, rfl, h3⟩
  refine CallS.mono (term_at (0) (1) (1) (by decide) (by decide) (fit1 (by kernel_rfl))) ?_
  rintro _ w20 ⟨x20, tf0, rfl, qtf0⟩
  refine CallS.mono (term_at (2) (3) (1) (by decide) (by decide) (fit1 (by kernel_rfl))) ?_
  rintro _ w21 ⟨x21, tf1, rfl, qtf1⟩
  intro f w22 hf
  have hf : New w21 w22 f tT (tcs [tf0, tf1]) := hf
  have x22 := hf.ext
  have vf := TCs.vi 2 (.cons (qtf0.ext (Ext.trans' x21 x22)) (.cons (qtf1.ext x22) (.nil))) hf.toBlk rfl (by decide)
  refine CallS.mono (term_at (2) (1) (3) (by decide) (by decide) (fit1 (by kernel_rfl))) ?_
  rintro _ w23 ⟨x23, tg0, rfl, qtg0⟩
  refine CallS.mono (term_at (5) (9) (1) (by decide) (by decide) (fit1 (by kernel_rfl))) ?_
  rintro _ w24 ⟨x24, tg1, rfl, qtg1⟩
  intro g w25 hg
  have hg : New w24 w25 g tT (tcs [tg0, tg1]) := hg
  have x25 := hg.ext
  have vg := TCs.vi 2 (.cons (qtg0.ext (Ext.trans' x24 x25)) (.cons (qtg1.ext x25) (.nil))) hg.toBlk rfl (by decide)
  refine CallS.mono (dot_at 1 (vf.ext (Ext.trans' (Ext.trans' x23 x24) x25)) vg (by decide)) ?_
  rintro _ w26 ⟨x26, r4, rfl, h4⟩
  intro b4 u4 hb4
  have st4 := storeQ (r := r4) hb4.toBlk hb4.ext (hb4.ge (Ext.rfl _)) rfl
  refine ⟨st4.1, fun w27 hs4 => ?_⟩
  have hB4 := (st4.2 w27 hs4).1
  have x27 := (st4.2 w27 hs4).2.2
  have h1 := (h1.ext (Ext.trans' (Ext.trans' (Ext.trans' (Ext.trans' (Ext.trans' (Ext.trans' (Ext.trans' (Ext.trans' (Ext.trans' (Ext.trans' (Ext.trans' (Ext.trans' (Ext.trans' (Ext.trans' (Ext.trans' (Ext.trans' (Ext.trans' (Ext.trans' (Ext.trans' (Ext.trans' (Ext.trans' x6 x7) x8) x9) x10) x11) x12) x13) x14) x15) x16) x17) x18) x19) x20) x21) x22) x23) x24) x25) x26) x27))
  have h2 := (h2.ext (Ext.trans' (Ext.trans' (Ext.trans' (Ext.trans' (Ext.trans' (Ext.trans' (Ext.trans' (Ext.trans' (Ext.trans' (Ext.trans' (Ext.trans' (Ext.trans' (Ext.trans' (Ext.trans' x13 x14) x15) x16) x17) x18) x19) x20) x21) x22) x23) x24) x25) x26) x27))
  have h3 := (h3.ext (Ext.trans' (Ext.trans' (Ext.trans' (Ext.trans' (Ext.trans' (Ext.trans' (Ext.trans' x20 x21) x22) x23) x24) x25) x26) x27))
  have h4 := (h4.ext x27)
  refine ⟨sq 26, by kernel_rfl, ?_⟩
  refine dcallR (mk := TmR.v) (Q := fun r w' => TC (0) (Rat.divInt (1) (2)) w' r) TmR.inj (fun _ => TC.stable _) (fun w' hw hF => term_at (0) (1) (2) (by decide) (by decide) (fit1 (by kernel_rfl))) ?_
  intro ti0
  intro i _
  refine dcallV (.bool true) (fun w' hw hF => svecT_at ((h1).ext hw) (TCs.vc 1 (ts := [ti0]) (.cons (hF.2.1) (.nil)) (show Blk w' i tT (tcs [ti0]) from (hF.1).1) rfl (by decide) (cnL (by kernel_rfl))) (by decide) (by kernel_rfl)) ?_
  refine dcallR (mk := TmR.v) (Q := fun r w' => TC (0) (Rat.divInt (1) (1)) w' r) TmR.inj (fun _ => TC.stable _) (fun w' hw hF => term_at (0) (1) (1) (by decide) (by decide) (fit1 (by kernel_rfl))) ?_
  intro tj0
  refine dcallR (mk := TmR.v) (Q := fun r w' => TC (4) (Rat.divInt (1) (1)) w' r) TmR.inj (fun _ => TC.stable _) (fun w' hw hF => term_at (4) (1) (1) (by decide) (by decide) (fit1 (by kernel_rfl))) ?_
  intro tj1
  intro j _
  refine dcallV (.bool true) (fun w' hw hF => svecT_at ((h2).ext hw) (TCs.vc 2 (ts := [tj0, tj1]) (.cons (hF.2.2.1) (.cons (hF.2.1) (.nil))) (show Blk w' j tT (tcs [tj0, tj1]) from (hF.1).1) rfl (by decide) (cnL (by kernel_rfl))) (by decide) (by kernel_rfl)) ?_
  refine dcallR (mk := TmR.v) (Q := fun r w' => TC (1) (Rat.divInt (-2) (1)) w' r) TmR.inj (fun _ => TC.stable _) (fun w' hw hF => term_at (1) (-2) (1) (by decide) (by decide) (fit1 (by kernel_rfl))) ?_
  intro tk0
  intro k _
  refine dcallV (.bool true) (fun w' hw hF => svecT_at ((h3).ext hw) (TCs.vc 1 (ts := [tk0]) (.cons (hF.2.1) (.nil)) (show Blk w' k tT (tcs [tk0]) from (hF.1).1) rfl (by decide) (cnL (by kernel_rfl))) (by decide) (by kernel_rfl)) ?_
  refine ⟨r4.v, loadQ hB4, ?_⟩
  refine dcallR (mk := RatR.v) (Q := fun r w' => QC 1 w' r (Rat.divInt 1 1)) RatR.inj (fun _ => QC.stable) (fun w' hw hF => of_at 1 1 (by decide) (by decide) (fit1 (by kernel_rfl))) ?_
  intro r5
  refine dcallV (.bool true) (fun w' hw hF => sratT_at ((h4).ext hw) (hF.1) (by decide) (by kernel_rfl)) ?_
  intro w28 x28 hF
  exact ⟨(Ext.trans' (Ext.trans' (Ext.trans' (Ext.trans' (Ext.trans' (Ext.trans' (Ext.trans' (Ext.trans' (Ext.trans' (Ext.trans' (Ext.trans' (Ext.trans' (Ext.trans' (Ext.trans' (Ext.trans' (Ext.trans' (Ext.trans' (Ext.trans' (Ext.trans' (Ext.trans' (Ext.trans' (Ext.trans' (Ext.trans' (Ext.trans' (Ext.trans' (Ext.trans' (Ext.trans' x1 x2) x3) x4) x5) x6) x7) x8) x9) x10) x11) x12) x13) x14) x15) x16) x17) x18) x19) x20) x21) x22) x23) x24) x25) x26) x27) x28), rfl⟩
end Go.Proofs.Ytlfdobjdlgebbaa
/-
  What the fixed examples of the layer sparse ask: rows of terms told whether right, rows of fractions read. Helpers; no statement of the program is proved here.
-/
set_option maxRecDepth 100000
set_option linter.unusedSimpArgs false
set_option linter.unusedVariables false
namespace Go.Proofs.Ytlfdobjdlgebbaa
open Go Go.Tw Go.RowKit
attribute [local irreducible] LoadAt StoreOk Stored rawVC

theorem formedC_at {k : Nat} {w : World} {rx : RatR} {q : Rat} (h : QC k w rx q) (hk : k ≤ 1099511627776) :
    CallS Try.prog 91 #[rx.v] w fun v w' => Ext w w' ∧ v = .bool (decide (q ≠ 0)) := by
  have := formed_ok h.can.num.words h.can.den.words (h.qi hk).inq.is (h.fit.mono hk)
  refine CallS.mono this ?_
  rintro _ w2 ⟨hx2, rfl⟩
  refine ⟨hx2, ?_⟩
  have e : (q ≠ 0 ∧ frmN q rx (dig q.num.natAbs) ∧ frmD q rx (dig (denC q).natAbs)) ↔ q ≠ 0 := ⟨fun h => h.1, fun h1 => ⟨h1, ⟨h.can.num.neg.symm, rfl⟩, ⟨h.can.den.neg.symm, rfl⟩⟩⟩
  rw [decide_eq_decide.2 e]
/-- Terms in a block of their own. -/
structure TR (w : World) (b n : Nat) (ts : List TmR) (xs : VL) : Prop where
  tcs : TCs w ts xs
  blk : Blk w b tT (Tw.tcs ts)
  len : ts.length = n
  n21 : n ≤ 21
section
variable {w w' : World} {b n : Nat} {ts : List TmR} {xs : VL}
theorem TR.ext (h : TR w b n ts xs) (e : Ext w w') : TR w' b n ts xs := ⟨h.tcs.ext e, h.blk.ext e, h.len, h.n21⟩
theorem TR.vi (h : TR w b n ts xs) : VI 1 n w ⟨some ⟨b, 0, none⟩, n, n⟩ xs := TCs.vi n h.tcs h.blk h.len h.n21
theorem TCs.at {w : World} {ts : List TmR} {xs : VL} (h : TCs w ts xs) {j : Nat} {t : TmR} (hj : ts[j]? = some t) : ∃ p, xs[j]? = some p ∧ t.at' = p.1 ∧ QC 1 w t.x p.2 := by
  induction h generalizing j with
  | nil => simp at hj
  | cons h1 _ ih =>
    cases j with
    | zero => simp at hj; subst hj; exact ⟨_, rfl, h1.at', h1.qc⟩
    | succ j => simpa using ih (by simpa using hj)
theorem TCs.length {w : World} {ts : List TmR} {xs : VL} (h : TCs w ts xs) : ts.length = xs.length := h.can.length
def prB (xs : VL) : List (Int × Bool) := xs.map fun p => (p.1, !decide (p.2 = 0))
theorem right_at (h : TR w b n ts xs) (N : Int) (r : Bool) (hr : rightL N (-1) (prB xs) = r) :
    CallS Try.prog 50 #[.slice (some ⟨b, 0, none⟩) n n, .int .i64 N] w fun v w' => Ext w w' ∧ v = .bool r := by
  subst hr
  have hB : Blk w b tT (tcs ts ++ []) := by rw [List.append_nil]; exact h.blk
  have hT := Tms.blk hB
  rw [h.len] at hT
  have h21 := h.n21
  refine Right_ok (prB xs) hT (by omega) (by unfold prB; rw [List.length_map, h.tcs.length]) ?_
  intro j t p hj hp
  obtain ⟨p', hp', hat, hq⟩ := h.tcs.at hj
  have e : p = (p'.1, !decide (p'.2 = 0)) := by
    unfold prB at hp
    rw [List.getElem?_map, hp'] at hp
    exact (Option.some.inj hp).symm
  subst e
  refine ⟨hat, fun w' hx => ?_⟩
  refine CallS.mono (formedC_at (hq.ext hx) (by omega)) ?_
  rintro _ w2 ⟨hx2, rfl⟩
  refine ⟨hx2, ?_⟩
  by_cases h0 : p'.2 = 0 <;> simp [h0]
theorem rightNil_at (w : World) (N : Int) : CallS Try.prog 50 #[.slice none 0 0, .int .i64 N] w fun v w' => Ext w w' ∧ v = .bool true :=
  Right_ok [] (Tms.nil w none) (by omega) rfl (fun j t p h => by simp at h)
theorem qc_to {k : Nat} {w : World} {rx : RatR} {q : Rat} (h : CanQ H0 w rx q) (hf : FitQ k q) : QC k w rx q := ⟨h, hf⟩
theorem loadQs {T : TT} {w : World} {b e j sz ty : Nat} {rs : List RatR} {r : RatR} (hb : Blk w b e (qcs rs)) (hj : rs[j]? = some r) (hk : (known (tyAt T ty) && (tyAt T ty).agg && Nat.beq 4 (tyAt T ty).size) = true) (hs : sz = 4) : LoadAt T w ty (addrAt (some ⟨b, 0, none⟩) (j * sz)) r.v := by
  subst hs
  refine loadAgg (cs := r.cs) hk fun k u hu => ?_
  show w.cell? ((⟨b, 0 + j * 4, none⟩ : Addr).add k) = _
  rw [Addr.add_lit]
  exact hb.cell (i := 0 + j * 4 + k) (by rw [Nat.zero_add]; exact qcs_get hj hu)
/-- Fractions in a block of their own. -/
structure QR (k : Nat) (w : World) (b n : Nat) (rs : List RatR) (f : Nat → Rat) : Prop where
  blk : Blk w b 33 (qcs rs)
  len : rs.length = n
  row : ∀ j, j < n → QC k w (rs.getD j default) (f j)
theorem QR.ext {k : Nat} {rs : List RatR} {f : Nat → Rat} (h : QR k w b n rs f) (e : Ext w w') : QR k w' b n rs f := ⟨h.blk.ext e, h.len, fun j hj => (h.row j hj).ext e⟩
theorem QR.at {k : Nat} {rs : List RatR} {f : Nat → Rat} (h : QR k w b n rs f) {j : Nat} (hj : j < n) : LoadAt tt w 33 (addrAt (some ⟨b, 0, none⟩) (j * (tyAt tt 33).size)) (rs.getD j default).v := by
  refine loadQs h.blk ?_ rfl rfl
  rw [List.getD_eq_getElem?_getD, List.getElem?_eq_getElem (by rw [h.len]; exact hj)]; rfl
theorem dense_at {k l m : Nat} {r : SlR} (hx : VI k l w r xs) (hk : k ≤ 1073741824 ∧ l ≤ 21) (N n : Nat) (hN : 1 ≤ N ∧ N ≤ 4611686018427387904) (hn : n = min N 65536) (hf : ∀ j : Nat, FitQ m (getL xs (j : Int))) :
    CallS Try.prog 48 #[r.v, .int .i64 (N : Int)] w fun v w' => Ext w w' ∧ ∃ b rs, v = .slice (some ⟨b, 0, none⟩) n n ∧ QR m w' b n rs (fun j => getL xs (j : Int)) := by
  refine CallS.mono (Dense_ok hx hk hN hn) ?_
  rintro _ w2 ⟨hx2, b, rs, rfl, hB, hl, hr⟩
  exact ⟨hx2, b, rs, rfl, hB, hl, fun j hj => ⟨hr j hj, hf j⟩⟩
theorem VI.nil (k l : Nat) (w : World) : VI k l w ⟨none, 0, 0⟩ [] := ⟨InV.nil k H0 w, Nat.zero_le _, .inl (Nat.zero_le _)⟩
theorem rsign_at {k : Nat} {rx : RatR} {q : Rat} (h : QI k w rx q) : CallS Try.prog 14 #[rx.v] w fun v w' => Ext w w' ∧ v = .int .i64 (sgQ q) := RSign_ok (H0.hb w) h.inq.is
end
/-- The fraction 2/4, as it is written. -/
structure Raw24 (w : World) (r : RatR) : Prop where
  num : Words w r.num.a r.num.n [2]
  den : Words w r.den.a r.den.n [4]
  neg : r.num.neg = false ∧ r.den.neg = false
  cap : r.num.c = 1 ∧ r.den.c = 1
theorem Raw24.ext {w w' : World} {r : RatR} (h : Raw24 w r) (e : Ext w w') : Raw24 w' r := ⟨h.num.ext e, h.den.ext e, h.neg, h.cap⟩
theorem Raw24.qi {w : World} {r : RatR} (h : Raw24 w r) : QI 1 w r (Rat.divInt 1 2) := by
  have n1 := h.num.len
  have n2 := h.den.len
  have c1 := h.cap.1
  have c2 := h.cap.2
  simp only [List.length_cons, List.length_nil, Nat.zero_add] at n1 n2
  refine ⟨⟨⟨2, 4, ⟨⟨_, h.num, ?_⟩, by omega, by omega, by omega, H0.av _ _⟩, ⟨⟨_, h.den, ?_⟩, by omega, by omega, by omega, H0.av _ _⟩, ?_⟩, by omega, by omega⟩⟩
  · rw [h.neg.1]; rfl
  · rw [h.neg.2]; rfl
  · unfold denZ
    rw [if_neg (by omega)]
    kernel_rfl
theorem Raw24.formed_at {w : World} {r : RatR} (h : Raw24 w r) : CallS Try.prog 91 #[r.v] w fun v w' => Ext w w' ∧ v = .bool false := by
  refine CallS.mono (formed_ok h.num h.den h.qi.inq.is (fit1 (by kernel_rfl) |>.mono (by omega))) ?_
  rintro _ w2 ⟨hx2, rfl⟩
  refine ⟨hx2, ?_⟩
  congr 1
  refine decide_eq_false fun e => ?_
  have h1 := e.2.1.2
  have h2 : dig (Rat.divInt 1 2).num.natAbs = [1] := by kernel_rfl
  rw [h2] at h1
  cases h1
end Go.Proofs.Ytlfdobjdlgebbaa
/-
  Contracts of the layer matrix: rows of vectors; a matrix times a vector, and a vector times a matrix. Helpers; no statement of the program is proved here.
-/
set_option maxRecDepth 100000
set_option linter.unusedSimpArgs false
set_option linter.unusedVariables false
namespace Go.Proofs.Ytlfdobjdlgebbaa
open Go Go.Tw Go.RowKit
attribute [local irreducible] LoadAt StoreOk Stored rawVC

abbrev tV : Nat := 25
def svs (rs : List SlR) : List Value := rs.map SlR.v
theorem svs_length (rs : List SlR) : (svs rs).length = rs.length := by simp [svs]
theorem svs_get {rs : List SlR} {j : Nat} {r : SlR} (h : rs[j]? = some r) : (svs rs)[j]? = some r.v := by simp [svs, h]
theorem svs_set (rs : List SlR) (j : Nat) (r : SlR) : (svs rs).set j r.v = svs (rs.set j r) := by simp [svs, List.map_set]
theorem svs_append (rs ss : List SlR) : svs (rs ++ ss) = svs rs ++ svs ss := by simp [svs]
theorem svs_one (rs : List SlR) : ∀ v ∈ svs rs, v.oneCell' = true := by
  intro v hv
  obtain ⟨x, _, rfl⟩ := List.mem_map.1 hv
  rfl
/-- A row of vectors, each of which says what P asks. -/
structure Vs (P : World → SlR → VL → Prop) (w : World) (a : Option Addr) (n : Nat) (rs : List SlR) (xss : List VL) : Prop where
  ones : Ones w a n (svs rs)
  len : xss.length = n
  row : ∀ (j : Nat) r xs, rs[j]? = some r → xss[j]? = some xs → P w r xs
section
variable {P Q : World → SlR → VL → Prop} {w w' : World} {a : Option Addr} {n : Nat} {rs : List SlR} {xss : List VL}
theorem Vs.extP (hP : ∀ {w w' r xs}, P w r xs → Ext w w' → P w' r xs) (h : Vs P w a n rs xss) (e : Ext w w') : Vs P w' a n rs xss := ⟨h.ones.ext e, h.len, fun j r xs h1 h2 => hP (h.row j r xs h1 h2) e⟩
theorem Vs.map (hP : ∀ {r xs}, P w r xs → Q w r xs) (h : Vs P w a n rs xss) : Vs Q w a n rs xss := ⟨h.ones, h.len, fun j r xs h1 h2 => hP (h.row j r xs h1 h2)⟩
theorem Vs.get (h : Vs P w a n rs xss) {j : Nat} (hj : j < n) : ∃ r, rs[j]? = some r ∧ xss[j]? = some (xss.getD j []) ∧ P w r (xss.getD j []) := by
  have h1 := h.ones.len
  rw [svs_length] at h1
  have h2 := h.len
  have e1 : rs[j]? = some (rs[j]'(by omega)) := List.getElem?_eq_getElem (by omega)
  have e2 : xss[j]? = some (xss.getD j []) := by rw [List.getD_eq_getElem?_getD, List.getElem?_eq_getElem (by omega)]; rfl
  exact ⟨_, e1, e2, h.row j _ _ e1 e2⟩
end
theorem Vs.ext {k l : Nat} {w w' : World} {a : Option Addr} {n : Nat} {rs : List SlR} {xss : List VL} (h : Vs (VC k l) w a n rs xss) (e : Ext w w') : Vs (VC k l) w' a n rs xss := Vs.extP (fun h e => h.ext e) h e
theorem Vs.extI {k l : Nat} {w w' : World} {a : Option Addr} {n : Nat} {rs : List SlR} {xss : List VL} (h : Vs (VI k l) w a n rs xss) (e : Ext w w') : Vs (VI k l) w' a n rs xss := Vs.extP (fun h e => h.ext e) h e
/-- A matrix times a vector: as the program takes the terms, one after the other. -/
def timesN (xss : List VL) (zs : VL) (i : Nat) : VL :=
  match i with
  | 0 => []
  | i + 1 => if 0 ≤ pl zs i ∧ pl zs i < (xss.length : Int) then axp (timesN xss zs i) (xl zs i) (xss.getD (pl zs i).toNat []) else timesN xss zs i
theorem timesN_cn (xss : List VL) (zs : VL) (i : Nat) : Cn (timesN xss zs i) := by
  induction i with
  | zero => exact Cn.nil
  | succ i ih =>
    simp only [timesN]
    split
    · exact nrm_cn _
    · exact ih
/-- The bound of its numbers. -/
def tK (k kc : Nat) (i : Nat) : Nat := i * (nK kc + nK k + 8)
theorem tK_mono {k kc i j : Nat} (h : i ≤ j) : tK k kc i ≤ tK k kc j := Nat.mul_le_mul_right _ h
theorem Times_ok {k l kc lc : Nat} {w : World} {a : Option Addr} {n c : Nat} {rs : List SlR} {xss : List VL} {rx : SlR} {xs : VL} (hl : Vs (VI kc lc) w a n rs xss) (hn : n ≤ 1099511627776) (hx : VI k l w rx xs) (hk : k ≤ 16777216 ∧ kc ≤ 16777216 ∧ lc ≤ 21 ∧ l * lc ≤ 65536 ∧ l ≤ 65536 ∧ tK k kc l + nK kc + nK k ≤ 68719476736) :
    CallS Try.prog 43 #[.slice a n c, rx.v] w fun v w' => Ext w w' ∧ ∃ s : SlR, v = s.v ∧ VC (tK k kc l) (l * lc) w' s (timesN xss (nrm xs) (nrm xs).length) := by
  obtain ⟨hk1, hk2, hl2, hll, hl1, hKK⟩ := hk
  have hxl := hx.len
  have hlen := hl.len
  refine enter ttOk mixed (args := [.slice a n c, rx.v]) Try.func43 rfl (by kernel_rfl) (by kernel_rfl) rfl ?_
  refine CallS.mono (normR_at hx (by omega)) ?_
  rintro _ w1 ⟨hx1, s0, rfl, h0⟩
  have hnl := h0.can.len
  have hzl := h0.len
  refine ⟨Nat × SlR, fun x => [(0, .slice a n c), (5, x.2.v), (9, s0.v), (10, .int .i64 (s0.n : Int)), (11, .int .i64 (x.1 : Int))],
    fun x w' => Ext w1 w' ∧ x.1 ≤ s0.n ∧ CanV (tK k kc x.1) H0 w' x.2 (timesN xss (nrm xs) x.1) ∧ (timesN xss (nrm xs) x.1).length ≤ x.1 * lc, fun x _ => s0.n - x.1, ⟨(0, ⟨none, 0, 0⟩), ⟨rfl, rfl, rfl, rfl, rfl, trivial⟩, Ext.rfl w1, Nat.zero_le _, CanV.nil _ _ _, Nat.zero_le _⟩, ?_⟩
  rintro ⟨i, s⟩ w2 ⟨hx2, hi, hs, hsl⟩
  dsimp only at *
  refine And.intro (fun h1 => ?_) (fun h1 => ?_)
  · have hin := ltTo h1
    have hiz : i < (nrm xs).length := by omega
    obtain ⟨⟨ts, hT, hC⟩, _⟩ := h0.can
    obtain ⟨t, ht, hat, hqc, hqf⟩ := tsCan_get hC (vget hiz)
    refine ⟨i, ⟨rfl, hin, hT.base (by omega)⟩, t.v, (hT.ext hx2).load (ty := tT) ht rfl rfl, ?_⟩
    intro b7 w3 hb7
    refine ⟨(storeTmB (w' := w3) (t := t) hb7.toBlk rfl).1, fun w4 hs4 => ?_⟩
    have h4 := (storeTmB (t := t) hb7.toBlk rfl).2 hs4
    have hx24 : Ext w2 w4 := Ext.grownB hb7.ext h4.2 (hb7.ge (Ext.rfl w2))
    have hx14 := Ext.trans' hx2 hx24
    have hB := h4.1
    have hqi : QI (nK k) w4 t.x (xl (nrm xs) i) := ((QC.mk hqc hqf).ext hx14).qi (by unfold nK; omega)
    have skip : ¬ (0 ≤ pl (nrm xs) i ∧ pl (nrm xs) i < (xss.length : Int)) → ∃ x' : Nat × SlR, (x'.1 = i + 1 ∧ x'.2 = s) ∧ Ext w1 w4 ∧ x'.1 ≤ s0.n ∧ CanV (tK k kc x'.1) H0 w4 x'.2 (timesN xss (nrm xs) x'.1) ∧ (timesN xss (nrm xs) x'.1).length ≤ x'.1 * lc := by
      intro hno
      refine ⟨(i + 1, s), ⟨rfl, rfl⟩, hx14, hin, ?_, ?_⟩
      · simp only [timesN]; rw [if_neg hno]; exact (hs.ext hx24).mono (tK_mono (Nat.le_succ i))
      · simp only [timesN]; rw [if_neg hno, Nat.add_mul]; omega
    refine ⟨_, hB.one (off := 0) rfl rfl, ?_⟩
    refine And.intro (fun h2 => ?_) (fun h2 => ?_)
    · refine ⟨_, hB.one (off := 0) rfl rfl, ?_⟩
      refine And.intro (fun h3 => ?_) (fun h3 => ?_)
      · obtain ⟨m, hm⟩ : ∃ m : Nat, t.at' = (m : Int) := ⟨t.at'.toNat, by omega⟩
        have hmn : m < n := by omega
        obtain ⟨r, hr, hxs, hri⟩ := hl.get hmn
        have hlo := (hl.ones.ext (Ext.trans' hx1 hx14)).load (T := tt) (ty := tV) (sz := 1) (svs_get hr) rfl rfl
        have hat2 : (pl (nrm xs) i) = (m : Int) := hat.symm.trans hm
        have hcond : 0 ≤ pl (nrm xs) i ∧ pl (nrm xs) i < (xss.length : Int) := by omega
        refine ⟨sq 10, by kernel_rfl, t.x.v, hB.agg (sub := rcs t.x) rfl rfl, _, hB.one (off := 0) rfl rfl, m, ⟨hm, hmn, hl.ones.base (by omega)⟩, r.v, hlo, ?_⟩
        have hK : tK k kc i + nK kc + nK k ≤ 68719476736 := by
          have := tK_mono (k := k) (kc := kc) (show i ≤ l by omega)
          omega
        have hil : i * lc ≤ 65536 := Nat.le_trans (Nat.mul_le_mul_right _ (by omega)) hll
        refine dcallR (mk := SlR.v) (Q := fun r' w' => CanV (nK kc + tK k kc i + nK k + 8) H0 w' r' (axp (timesN xss (nrm xs) i) (xl (nrm xs) i) (xss.getD m []))) SlR.inj (fun _ _ _ h e => h.ext e) (fun w' hw hF =>
          AxpyF_ok (jx := nK kc) (jy := tK k kc i) (ka := nK k) (H0.hb w') (((hs.ext hx24).ext hw).inv (by omega)) (hqi.ext hw).inq ((hri.ext (Ext.trans' hx1 hx14)).ext hw).inv (by omega) (by have := hri.len; omega) (by omega)
            (.inl ⟨by have := hri.len; omega, by omega, Nat.le_refl _⟩) (.inr ⟨(timesN_cn _ _ _).ris, Nat.le_refl _⟩)) ?_
        intro s' w5 hx5 hF5
        have e : timesN xss (nrm xs) (i + 1) = axp (timesN xss (nrm xs) i) (xl (nrm xs) i) (xss.getD m []) := by
          simp only [timesN]; rw [if_pos hcond, hat2, Int.toNat_natCast]
        refine ⟨((i + 1 : Nat) : Int), sucI i (by omega), (i + 1, s'), ⟨rfl, rfl, rfl, rfl, rfl, trivial⟩, ⟨Ext.trans' hx14 hx5, hin, ?_, ?_⟩, Nat.sub_lt_sub_left hin (Nat.lt_succ_self i)⟩
        · show CanV (tK k kc (i + 1)) H0 w5 s' (timesN xss (nrm xs) (i + 1))
          rw [e]
          refine hF5.1.mono ?_
          unfold tK; rw [Nat.add_mul]; omega
        · show (timesN xss (nrm xs) (i + 1)).length ≤ (i + 1) * lc
          rw [e, Nat.add_mul]
          have := axp_len (timesN xss (nrm xs) i) (xl (nrm xs) i) (xss.getD m [])
          have := hri.len
          omega
      · obtain ⟨⟨i', s'⟩, ⟨h5, h6⟩, h7⟩ := skip (fun h => h3 (by omega))
        dsimp only at h5 h6
        subst h5 h6
        exact ⟨((i + 1 : Nat) : Int), sucI i (by omega), (i + 1, s'), ⟨rfl, rfl, rfl, rfl, rfl, trivial⟩, h7, Nat.sub_lt_sub_left hin (Nat.lt_succ_self i)⟩
    · obtain ⟨⟨i', s'⟩, ⟨h5, h6⟩, h7⟩ := skip (fun h => h2 (by omega))
      dsimp only at h5 h6
      subst h5 h6
      exact ⟨((i + 1 : Nat) : Int), sucI i (by omega), (i + 1, s'), ⟨rfl, rfl, rfl, rfl, rfl, trivial⟩, h7, Nat.sub_lt_sub_left hin (Nat.lt_succ_self i)⟩
  · have hi' : i = s0.n := Nat.le_antisymm hi (geTo h1)
    rw [hi', hnl] at hs hsl
    refine ⟨Ext.trans' hx1 hx2, s, rfl, hs.mono (tK_mono (by omega)), timesN_cn _ _ _, Nat.le_trans hsl (Nat.mul_le_mul_right _ (by omega))⟩
end Go.Proofs.Ytlfdobjdlgebbaa
/-
  Contracts of the layer matrix: a vector times a matrix; the watch's terms and columns. Helpers; no statement of the program is proved here.
-/
set_option maxRecDepth 100000
set_option linter.unusedSimpArgs false
set_option linter.unusedVariables false
namespace Go.Proofs.Ytlfdobjdlgebbaa
open Go Go.Tw Go.RowKit
attribute [local irreducible] LoadAt StoreOk Stored rawVC

/-- A vector times a matrix, its first i columns. -/
def leftN (ys : VL) (xss : List VL) (i : Nat) : VL :=
  match i with
  | 0 => []
  | i + 1 => putL (leftN ys xss i) (i : Int) (dotL ys (xss.getD i []))
theorem putL_cn {zs : VL} {p : Int} {q : Rat} (h : Cn zs) (hl : ∀ s ∈ zs, s.1 < p) : Cn (putL zs p q) := by
  unfold putL
  split
  · exact h
  · rename_i h0; exact h.snoc hl h0
theorem putL_lt {zs : VL} {p r : Int} {q : Rat} (hl : ∀ s ∈ zs, s.1 < p) (hp : p < r) : ∀ s ∈ putL zs p q, s.1 < r := by
  intro s hs
  unfold putL at hs
  split at hs
  · have := hl s hs; omega
  · rw [List.mem_append, List.mem_singleton] at hs
    rcases hs with hs | rfl
    · have := hl s hs; omega
    · exact hp
theorem putL_len (zs : VL) (p : Int) (q : Rat) : (putL zs p q).length ≤ zs.length + 1 := by
  unfold putL
  split
  · omega
  · simp
theorem leftN_cn (ys : VL) (xss : List VL) (i : Nat) : Cn (leftN ys xss i) ∧ (∀ s ∈ leftN ys xss i, s.1 < (i : Int)) ∧ (leftN ys xss i).length ≤ i := by
  induction i with
  | zero => exact ⟨Cn.nil, fun s h => by simp [leftN] at h, Nat.le_refl _⟩
  | succ i ih =>
    refine ⟨putL_cn ih.1 ih.2.1, putL_lt ih.2.1 (by omega), ?_⟩
    have := putL_len (leftN ys xss i) (i : Int) (dotL ys (xss.getD i []))
    simp only [leftN]; omega
theorem Left_ok {k l kc lc : Nat} {w : World} {a : Option Addr} {n c : Nat} {rs : List SlR} {xss : List VL} {ry : SlR} {ys : VL} (hl : Vs (VI kc lc) w a n rs xss) (hn : n ≤ 65536) (hy : VI k l w ry ys) (K : Nat) (hk : k ≤ K ∧ kc ≤ K ∧ K ≤ 16777216 ∧ l ≤ 65536 ∧ lc ≤ 65536 ∧ dK K l ≤ 68719476736) :
    CallS Try.prog 45 #[ry.v, .slice a n c] w fun v w' => Ext w w' ∧ ∃ s : SlR, v = s.v ∧ VC (dK K l) n w' s (leftN ys xss n) := by
  obtain ⟨hk1, hk2, hK, hl1, hl2, hD⟩ := hk
  have hyl := hy.len
  have hlen := hl.len
  refine enter ttOk mixed (args := [ry.v, .slice a n c]) Try.func45 rfl (by kernel_rfl) (by kernel_rfl) rfl ?_
  refine ⟨Nat × SlR, fun x => [(0, ry.v), (5, x.2.v), (9, .slice a n c), (10, .int .i64 (n : Int)), (11, .int .i64 (x.1 : Int))],
    fun x w' => Ext w w' ∧ x.1 ≤ n ∧ Acc (dK K l) H0 w.heap.size tT w' x.2 (leftN ys xss x.1), fun x _ => n - x.1, ⟨(0, ⟨none, 0, 0⟩), ⟨rfl, rfl, rfl, rfl, rfl, trivial⟩, Ext.rfl w, Nat.zero_le _, Acc.nil _ _ _ _ _⟩, ?_⟩
  rintro ⟨i, s⟩ w2 ⟨hx2, hi, hA⟩
  dsimp only at *
  refine And.intro (fun h1 => ?_) (fun h1 => ?_)
  · have hin := ltTo h1
    obtain ⟨r, hr, hxs, hri⟩ := hl.get hin
    have hlo := (hl.ones.ext hx2).load (T := tt) (ty := tV) (sz := 1) (svs_get hr) rfl rfl
    refine ⟨i, ⟨rfl, hin, hl.ones.base (by omega)⟩, r.v, hlo, ?_⟩
    have hown : ∀ b, s.v.ownBlock = some b → w.heap.size ≤ b := fun b hb => (hA.own_lt hb).2
    have hto : ∀ b, rowH H0 s.v b → H0 b ∨ w.heap.size ≤ b := fun b hb => hb.elim (fun h => h.elim) (fun h => .inr (hown b h))
    have hHB : HB (rowH H0 s.v) w2 := fun b hb => hb.elim (fun h => h.elim) (fun h => (hA.own_lt h).1)
    have hyi : InV K (rowH H0 s.v) w2 ry ys := ((hy.inv.mono hk1).to hto).ext hx2
    have hxi : InV K (rowH H0 s.v) w2 r (xss.getD i []) := ((hri.inv.mono hk2).to hto).ext hx2
    have hxl := hri.len
    refine CallS.mono (VDot_ok hHB hyi hxi hK (by omega) (by omega) hy.ok hri.ok (Nat.le_trans (dK_mono hyl) hD)) ?_
    rintro _ w3 ⟨hx3, rr, rfl, hq, hf⟩
    have hx03 := Ext.trans' hx2 hx3
    intro b8 w4 hb8
    have hH3 := HB.ext hHB hx3
    have hqu := hq.up hb8.ext
    have st := storeQ (r := rr) hb8.toBlk (hb8.extFrom hx03) (hb8.ge hx03) rfl
    refine ⟨st.1, fun w5 hs5 => ?_⟩
    obtain ⟨hB5, hg5, hx05⟩ := st.2 w5 hs5
    have hq5 : CanQ (rowH H0 s.v) w5 rr (dotL ys (xss.getD i [])) := (hqu.far hg5 (hb8.inUp (Ext.rfl _) (Ext.rfl _))).less
    have hx35 : Ext w3 w5 := Ext.grownB hb8.ext hg5 (hb8.ge (Ext.rfl _))
    have hA5 := (hA.ext hx3).ext hx35
    refine ⟨rr.v, loadQ hB5, ?_⟩
    refine CallS.mono (RSign_ok (HB.ext hH3 hx35) (hq5.is (hf.mono (Nat.le_trans (dK_mono hyl) (by omega))))) ?_
    rintro _ w6 ⟨hx6, rfl⟩
    have hx06 := Ext.trans' hx05 hx6
    refine And.intro (fun h2 => ?_) (fun h2 => ?_)
    · have hq0 : dotL ys (xss.getD i []) ≠ 0 := fun h => h2 (sgQ_zero.2 h)
      have e : leftN ys xss (i + 1) = leftN ys xss i ++ [((i : Int), dotL ys (xss.getD i []))] := by
        simp only [leftN, putL]; rw [if_neg hq0]
      refine ⟨rr.v, loadQ (hB5.ext hx6), ?_⟩
      intro b7 w7 hb7
      have hb7 : New w6 w7 b7 tT (tcs [⟨(i : Int), rr⟩]) := hb7
      have hx57 := Ext.trans' hx6 hb7.ext
      have hA7 := hA5.ext hx57
      have hx07 := Ext.trans' hx05 hx57
      have hzl := (leftN_cn ys xss i).2.2
      refine hA7.ts.elim fun ts0 d => ?_
      refine ⟨rfl, w.heap.size, (leftN ys xss i).length, tcs ts0, tcs [⟨(i : Int), rr⟩], ⟨d.1, rfl, ?_, tcs_mem_one _, fun _ => ⟨_, rfl, rfl⟩, by omega, by show ((leftN ys xss i).length + 1) * 72 ≤ _; omega, hx07.size⟩, ?_⟩
      · intro j v hj
        exact hb7.toBlk.cell (i := 0 + j) (v := v) (by rw [Nat.zero_add]; exact hj)
      intro v' w8 ho hg hn8
      have ho : w8.ownsRow w.heap.size tT 5 v' ((leftN ys xss i).length + 1) (tcs ts0 ++ (TmR.mk (i : Int) rr).cs) := by rw [tcs_one] at ho; exact ho
      refine (Acc.push (t := ⟨(i : Int), rr⟩) (p := ((i : Int), dotL ys (xss.getD i []))) d.1 d.2 ho hg hn8 rfl (hq5.ext hx57) (hf.mono (dK_mono hyl))).elim fun s' d' => ?_
      have hx08 : Ext w w8 := Ext.grown hx07 hg (fun b hb => hown b hb)
      refine ⟨((i + 1 : Nat) : Int), sucI i (by omega), (i + 1, s'), ⟨rfl, congrArg some d'.1, rfl, rfl, rfl, trivial⟩, ⟨hx08, hin, ?_⟩, Nat.sub_lt_sub_left hin (Nat.lt_succ_self i)⟩
      show Acc (dK K l) H0 w.heap.size tT w8 s' (leftN ys xss (i + 1))
      rw [e]; exact d'.2
    · have hq0 : dotL ys (xss.getD i []) = 0 := sgQ_zero.1 (Classical.not_not.1 h2)
      have e : leftN ys xss (i + 1) = leftN ys xss i := by
        simp only [leftN, putL]; rw [if_pos hq0]
      refine ⟨((i + 1 : Nat) : Int), sucI i (by omega), (i + 1, s), ⟨rfl, rfl, rfl, rfl, rfl, trivial⟩, ⟨hx06, hin, ?_⟩, Nat.sub_lt_sub_left hin (Nat.lt_succ_self i)⟩
      show Acc (dK K l) H0 w.heap.size tT w6 s (leftN ys xss (i + 1))
      rw [e]; exact hA5.ext hx6
  · have hi' : i = n := Nat.le_antisymm hi (geTo h1)
    subst hi'
    exact ⟨hx2, s, rfl, hA.out (fun b hb => hb.elim), (leftN_cn ys xss i).1, (leftN_cn ys xss i).2.2⟩
theorem term6_at {w : World} (i n : Int) (hn : n.natAbs < 65536) (hf : FitQ 1 (Rat.divInt n 1)) :
    CallS Try.prog 41 #[.int .i64 i, .int .i64 n] w fun v w' => Ext w w' ∧ ∃ t : TmR, v = t.v ∧ TC i (Rat.divInt n 1) w' t := by
  refine enter ttOk mixed (args := [.int .i64 i, .int .i64 n]) Try.func41 rfl (by kernel_rfl) (by kernel_rfl) rfl ?_
  intro b w1 hb
  refine CallS.mono (ROf_ok ((H0.hb w).up hb.ext) (by omega) (by omega) (by omega) (by omega)) ?_
  rintro _ w2 ⟨hx2, r, rfl, hr⟩
  have hB2 := hb.toBlk.ext hx2
  refine ⟨(storeTmB (w' := w2) (t := ⟨i, r⟩) hB2 rfl).1, fun w3 hs3 => ?_⟩
  have h3 := (storeTmB (t := ⟨i, r⟩) hB2 rfl).2 hs3
  have hr3 := (hr.far h3.2 (hb.inUp (Ext.rfl w) (Ext.rfl w1))).less
  refine ⟨(TmR.mk i r).v, h3.1.agg (sub := (TmR.mk i r).cs) rfl rfl, ?_⟩
  exact ⟨Ext.grownB (Ext.trans' hb.ext hx2) h3.2 (hb.ge (Ext.rfl w)), ⟨i, r⟩, rfl, rfl, hr3, hf⟩
end Go.Proofs.Ytlfdobjdlgebbaa
