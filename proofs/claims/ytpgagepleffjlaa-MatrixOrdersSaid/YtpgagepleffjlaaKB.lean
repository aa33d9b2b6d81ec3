/-
  The laws of the layer sparse, plain. Helpers; no statement of the program is proved here.
-/
import Derived.Test.YtpgagepleffjlaaKA
set_option maxRecDepth 100000
set_option linter.unusedSimpArgs false
set_option linter.unusedVariables false
namespace Go.Proofs.Ytpgagepleffjlaa
open Go Go.Tw Go.RowKit

theorem getL_nil (p : Int) : getL [] p = 0 := rfl
theorem nrm_ext {u v : VL} (h : ∀ p, getL u p = getL v p) : nrm u = nrm v := nrm_congr h
theorem axp_ext {y y' x x' : VL} {a a' : Rat} (h : ∀ p, getL y p + a * getL x p = getL y' p + a' * getL x' p) : axp y a x = axp y' a' x' :=
  Cn.ext (nrm_cn _) (nrm_cn _) fun p => by
    have h1 := axp_get y a x p
    have h2 := axp_get y' a' x' p
    rw [h1, h2, h p]
theorem m1 : Rat.divInt (-1) 1 = -1 := by rw [divInt_one]; rfl
theorem L_comm (x y : VL) : axp x 1 y = axp y 1 x := axp_ext fun p => by grind
theorem L_assoc (x y z : VL) : axp (axp x 1 y) 1 z = axp x 1 (axp y 1 z) := axp_ext fun p => by rw [axp_get, axp_get]; grind
theorem L_self (x : VL) : axp x (Rat.divInt (-1) 1) x = [] := by
  rw [m1]
  refine (axp_eq Cn.nil fun p => ?_).symm
  rw [getL_nil]; grind
theorem L_back (x y : VL) : axp (axp x 1 y) (Rat.divInt (-1) 1) y = nrm x := by
  rw [m1]
  refine (axp_eq (nrm_cn x) fun p => ?_).symm
  rw [nrm_get, axp_get]; grind
theorem L_dist (x y : VL) (c : Rat) : axp [] c (axp x 1 y) = axp (axp [] c x) 1 (axp [] c y) := axp_ext fun p => by rw [axp_get, axp_get, axp_get, getL_nil]; grind
theorem L_dist2 (x : VL) (c d : Rat) : axp [] (c + d) x = axp (axp [] c x) 1 (axp [] d x) := axp_ext fun p => by rw [axp_get, axp_get, getL_nil]; grind
theorem L_mul (x : VL) (c d : Rat) : axp [] (c * d) x = axp [] c (axp [] d x) := axp_ext fun p => by rw [axp_get, getL_nil]; grind
theorem L_axpy (x y : VL) (c : Rat) : axp y c x = axp y 1 (axp [] c x) := axp_ext fun p => by rw [axp_get, getL_nil]; grind
theorem L_dot (x y z : VL) (c : Rat) : dotL (axp y c x) z = dotL y z + c * dotL x z := dotL_lin fun p => axp_get y c x p
theorem getL_keep (xs : VL) (i p : Int) : getL (xs.filter fun t => !decide (t.1 = i)) p = if p = i then 0 else getL xs p := by
  induction xs with
  | nil => simp [getL]
  | cons t xs ih =>
    by_cases h : t.1 = i
    · simp only [List.filter_cons, h, decide_true, Bool.not_true, Bool.false_eq_true, if_false, ih, getL]
      by_cases hp : p = i
      · rw [if_pos hp, if_pos hp]
      · rw [if_neg hp, if_neg hp, if_neg (fun e => hp e.symm), Rat.zero_add]
    · simp only [List.filter_cons, h, decide_false, Bool.not_false, if_true, getL, ih]
      by_cases hp : p = i
      · rw [if_pos hp, if_pos hp, if_neg (fun e => h (e.trans hp)), Rat.zero_add]
      · rw [if_neg hp, if_neg hp]
theorem getL_put (xs : VL) (i p : Int) (q : Rat) : getL (putV xs i q) p = if p = i then q else getL xs p := by
  unfold putV
  rw [getL_append, getL_keep]
  simp only [getL]
  by_cases hp : p = i
  · rw [if_pos hp, if_pos hp, if_pos hp.symm]; grind
  · rw [if_neg hp, if_neg hp, if_neg (fun e => hp e.symm)]; grind
theorem L_put (xs : VL) (i : Int) (q : Rat) : getL (nrm (putV xs i q)) i = q := by rw [nrm_get, getL_put, if_pos rfl]
theorem L_put2 (xs : VL) (i : Int) (q : Rat) : nrm (putV (nrm (putV xs i q)) i (getL xs i)) = nrm xs := nrm_ext fun p => by
  rw [getL_put, nrm_get, getL_put]
  by_cases hp : p = i
  · rw [if_pos hp, hp]
  · rw [if_neg hp, if_neg hp]
theorem put_len {xs : VL} {i : Int} {q : Rat} (h : xs.length ≤ 20) : (putV xs i q).length ≤ 21 := by
  unfold putV
  have := List.length_filter_le (fun t : Int × Rat => !decide (t.1 = i)) xs
  simp only [List.length_append, List.length_singleton]
  omega
theorem put_len2 {xs : VL} {i : Int} {q r : Rat} (h : xs.length ≤ 20) : (putV (nrm (putV xs i q)) i r).length ≤ 21 := by
  have h1 := nrm_off (putV xs i q) i
  have h2 : ((putV xs i q).filter (fun s => !decide (s.1 = i))).length ≤ 20 := by
    unfold putV
    rw [List.filter_append, List.length_append]
    have h3 := List.length_filter_le (fun t : Int × Rat => !decide (t.1 = i)) xs
    have h4 := List.length_filter_le (fun t : Int × Rat => !decide (t.1 = i)) (xs.filter fun t => !decide (t.1 = i))
    have h5 : ([(i, q)] : VL).filter (fun s => !decide (s.1 = i)) = [] := by simp
    rw [h5]
    simp only [List.length_nil]
    omega
  have h6 : (putV (nrm (putV xs i q)) i r).length = ((nrm (putV xs i q)).filter (fun s => !decide (s.1 = i))).length + 1 := by
    show (List.filter _ _ ++ [_]).length = _
    rw [List.length_append]; rfl
  omega
theorem L_same (x y : VL) : decide (axp x (-1) y = []) = decide (nrm x = nrm y) := by
  apply decide_eq_decide.2
  constructor
  · intro h
    refine nrm_ext fun p => ?_
    have := axp_get x (-1) y p
    rw [h, getL_nil] at this
    grind
  · intro h
    refine (axp_eq Cn.nil fun p => ?_).symm
    have h1 := nrm_get x p
    have h2 := nrm_get y p
    rw [h] at h1
    rw [getL_nil]; grind
end Go.Proofs.Ytpgagepleffjlaa
/-
  Orders, in plain lists: what is put among them, what undoes them, what is moved by them. Helpers; no statement of the program is proved here.
-/
set_option maxRecDepth 100000
set_option linter.unusedSimpArgs false
set_option linter.unusedVariables false
namespace Go.Proofs.Ytpgagepleffjlaa
open Go Go.Tw Go.RowKit

/-- z put at a place. -/
def shL (L : List Int) (k : Nat) (z : Int) : List Int := L.take k ++ z :: L.drop k
theorem shL_length (L : List Int) (k : Nat) (z : Int) : (shL L k z).length = L.length + 1 := by
  unfold shL
  simp; omega
theorem shL_last (L : List Int) (z : Int) : L ++ [z] = shL L L.length z := by simp [shL]
theorem shL_get {L : List Int} {k : Nat} {z x : Int} (h : L[k]? = some x) : (shL L (k + 1) z)[k]? = some x := by
  have hk : k < L.length := by
    rcases Nat.lt_or_ge k L.length with h' | h'
    · exact h'
    · rw [List.getElem?_eq_none h'] at h; cases h
  unfold shL
  rw [List.getElem?_append_left (by rw [List.length_take]; omega), List.getElem?_take_of_lt (by omega)]
  exact h
theorem shL_down {L : List Int} {k : Nat} {z x : Int} (h : L[k]? = some x) : (shL L (k + 1) z).set (k + 1) x = shL L k x := by
  have hk : k < L.length := by
    rcases Nat.lt_or_ge k L.length with h' | h'
    · exact h'
    · rw [List.getElem?_eq_none h'] at h; cases h
  unfold shL
  have hl : (L.take (k + 1)).length = k + 1 := by rw [List.length_take]; omega
  rw [List.set_append_right _ _ (by omega), hl, Nat.sub_self, List.set_cons_zero, List.take_add_one, h]
  rw [List.getElem?_eq_getElem hk] at h
  rw [List.drop_eq_getElem_cons hk, Option.some.inj h]
  simp
theorem shL_get' {L : List Int} {k : Nat} {z x : Int} (hk : 0 < k) (h : L[k - 1]? = some x) : (shL L k z)[k - 1]? = some x := by
  obtain ⟨q, rfl⟩ : ∃ q, k = q + 1 := ⟨k - 1, by omega⟩
  exact shL_get h
theorem shL_down' {L : List Int} {k : Nat} {z x : Int} (hk : 0 < k) (h : L[k - 1]? = some x) : (shL L k z).set k x = shL L (k - 1) x := by
  obtain ⟨q, rfl⟩ : ∃ q, k = q + 1 := ⟨k - 1, by omega⟩
  exact shL_down h
theorem shL_set {L : List Int} {k : Nat} {z x : Int} (hk : k ≤ L.length) : (shL L k z).set k x = shL L k x := by
  unfold shL
  have hl : (L.take k).length = k := by rw [List.length_take]; omega
  rw [List.set_append_right _ _ (by omega), hl, Nat.sub_self, List.set_cons_zero]
theorem shL_perm {L : List Int} {k : Nat} (h : PermL L) (hk : k ≤ L.length) : PermL (shL L k (L.length : Int)) := by
  have hm : ∀ x, x ∈ shL L k (L.length : Int) ↔ x = (L.length : Int) ∨ x ∈ L := by
    intro x
    unfold shL
    rw [List.mem_append, List.mem_cons]
    constructor
    · rintro (h | rfl | h)
      · exact .inr (List.mem_of_mem_take h)
      · exact .inl rfl
      · exact .inr (List.mem_of_mem_drop h)
    · rintro (rfl | h)
      · exact .inr (.inl rfl)
      · rw [← List.take_append_drop k L, List.mem_append] at h
        rcases h with h | h
        · exact .inl h
        · exact .inr (.inr h)
  refine ⟨fun x hx => ?_, ?_⟩
  · rw [shL_length]
    rcases (hm x).1 hx with rfl | hx
    · omega
    · have := h.rng x hx; omega
  · have hp : (shL L k (L.length : Int)).Perm ((L.length : Int) :: L) := by
      unfold shL
      have := List.perm_middle (a := (L.length : Int)) (l₁ := L.take k) (l₂ := L.drop k)
      rwa [List.take_append_drop] at this
    rw [hp.nodup_iff, List.nodup_cons]
    refine ⟨fun hx => ?_, h.nodup⟩
    have := (h.rng _ hx).2; omega
/-! ### an order has every place -/
theorem nodup_len : ∀ (n : Nat) (L : List Int), L.Nodup → (∀ x ∈ L, 0 ≤ x ∧ x < (n : Int)) → L.length ≤ n
  | 0, L, _, h => by
    cases L with
    | nil => exact Nat.le_refl _
    | cons x L => have := h x (by simp); omega
  | n + 1, L, hd, h => by
    by_cases hn : (n : Int) ∈ L
    · have h1 := nodup_len n (L.erase (n : Int)) (hd.erase _) (fun x hx => by
        have hx' := List.mem_of_mem_erase hx
        have := h x hx'
        have hne : x ≠ (n : Int) := fun e => by rw [e] at hx; exact absurd hx (hd.not_mem_erase)
        omega)
      rw [List.length_erase_of_mem hn] at h1
      omega
    · have := nodup_len n L hd (fun x hx => by
        have := h x hx
        have hne : x ≠ (n : Int) := fun e => hn (e ▸ hx)
        omega)
      omega
theorem PermL.all {L : List Int} (h : PermL L) {k : Nat} (hk : k < L.length) : (k : Int) ∈ L := by
  by_cases hm : (k : Int) ∈ L
  · exact hm
  · have := nodup_len L.length ((k : Int) :: L) (List.nodup_cons.2 ⟨hm, h.nodup⟩) (fun x hx => by
      rcases List.mem_cons.1 hx with rfl | hx
      · omega
      · exact h.rng x hx)
    rw [List.length_cons] at this
    omega
theorem InvL.nat {L : List Int} (h : PermL L) {k : Nat} (hk : k < L.length) : ∃ m : Nat, L[k]? = some (m : Int) ∧ m < L.length := by
  have h1 := h.rng _ (List.getElem_mem hk)
  exact ⟨L[k].toNat, by rw [List.getElem?_eq_getElem hk, Int.toNat_of_nonneg h1.1], by omega⟩
theorem InvL.back {L M : List Int} (hp : PermL L) (h : InvL L M) : InvL M L := by
  refine ⟨h.len.symm, fun j k hj => ?_⟩
  have hjl : j < L.length := by
    rw [← h.len]
    rcases Nat.lt_or_ge j M.length with h' | h'
    · exact h'
    · rw [List.getElem?_eq_none h'] at hj; cases hj
  obtain ⟨q, hq, hqj⟩ := List.getElem_of_mem (hp.all hjl)
  have := h.inv q j (by rw [List.getElem?_eq_getElem hq, hqj])
  rw [hj] at this
  have : k = q := by have := Option.some.inj this; omega
  subst this
  rw [List.getElem?_eq_getElem hq, hqj]
theorem InvL.perm {L M : List Int} (hp : PermL L) (h : InvL L M) : PermL M := by
  have hb := h.back hp
  refine ⟨fun x hx => ?_, ?_⟩
  · obtain ⟨j, hj, rfl⟩ := List.getElem_of_mem hx
    obtain ⟨q, hq, hqj⟩ := List.getElem_of_mem (hp.all (k := j) (by rw [← h.len]; exact hj))
    have := h.inv q j (by rw [List.getElem?_eq_getElem hq, hqj])
    rw [List.getElem?_eq_getElem hj] at this
    rw [Option.some.inj this, h.len]
    omega
  · unfold List.Nodup
    rw [List.pairwise_iff_getElem]
    intro i j hi hj hij he
    have key : ∀ i, i < M.length → ∃ q : Nat, M[i]? = some (q : Int) ∧ L[q]? = some (i : Int) := by
      intro i hi
      obtain ⟨q, hq, hqj⟩ := List.getElem_of_mem (hp.all (k := i) (by rw [← h.len]; exact hi))
      exact ⟨q, h.inv q i (by rw [List.getElem?_eq_getElem hq, hqj]), by rw [List.getElem?_eq_getElem hq, hqj]⟩
    obtain ⟨q, a1, a2⟩ := key i hi
    obtain ⟨r, b1, b2⟩ := key j hj
    rw [List.getElem?_eq_getElem hi] at a1
    rw [List.getElem?_eq_getElem hj] at b1
    have a1 := Option.some.inj a1
    have b1 := Option.some.inj b1
    have : q = r := by omega
    subst this
    rw [a2] at b2
    have := Option.some.inj b2
    omega
theorem InvL.uniq {L M N : List Int} (hp : PermL L) (h : InvL L M) (h' : InvL M N) : N = L := by
  have hpm := h.perm hp
  have hb := h'.back hpm
  have hl : N.length = L.length := by rw [h'.len, h.len]
  apply List.ext_getElem?
  intro i
  rcases Nat.lt_or_ge i L.length with hi | hi
  · obtain ⟨m, hm, hml⟩ := InvL.nat hp hi
    have h1 := h.inv i m hm
    have h2 := h'.inv m i h1
    rw [hm, h2]
  · rw [List.getElem?_eq_none hi, List.getElem?_eq_none (by omega)]
/-! ### moved -/
theorem mv_get {L : List Int} (hp : PermL L) : ∀ {zs : VL}, InR L.length zs → ∀ {k : Nat}, k < L.length → getL (mvL L zs) (L.getD k 0) = getL zs (k : Int)
  | [], _, k, _ => rfl
  | t :: zs, hr, k, hk => by
    have ih := mv_get hp (zs := zs) (fun s hs => hr s (by simp [hs])) hk
    have ht := hr t (by simp)
    obtain ⟨m, hm⟩ : ∃ m : Nat, t.1 = (m : Int) := ⟨t.1.toNat, by omega⟩
    have hml : m < L.length := by omega
    have e : (L.getD m 0 = L.getD k 0) ↔ (m = k) := by
      constructor
      · intro h
        have h1 : L[m]? = L[k]? := by
          rw [List.getD_eq_getElem?_getD, List.getD_eq_getElem?_getD, List.getElem?_eq_getElem hml, List.getElem?_eq_getElem hk] at h
          rw [List.getElem?_eq_getElem hml, List.getElem?_eq_getElem hk]
          exact congrArg some h
        exact (List.getElem?_inj hml hp.nodup).1 h1
      · rintro rfl; rfl
    show (if L.getD t.1.toNat 0 = L.getD k 0 then t.2 else 0) + getL (mvL L zs) (L.getD k 0) = (if t.1 = (k : Int) then t.2 else 0) + getL zs (k : Int)
    rw [ih, hm, Int.toNat_natCast]
    congr 1
    by_cases h : m = k
    · rw [if_pos (e.2 h), if_pos (by omega)]
    · rw [if_neg (fun h' => h (e.1 h')), if_neg (by omega)]
theorem getL_out {n : Nat} {zs : VL} (h : InR n zs) {p : Int} (hp : ¬ (0 ≤ p ∧ p < (n : Int))) : getL zs p = 0 :=
  getL_none fun t ht e => hp (by have := h t ht; omega)
theorem mv_inR {L : List Int} (hp : PermL L) {zs : VL} (hr : InR L.length zs) : InR L.length (mvL L zs) := by
  intro t ht
  unfold mvL at ht
  obtain ⟨s, hs, rfl⟩ := List.mem_map.1 ht
  have h1 := hr s hs
  have hk : s.1.toNat < L.length := by omega
  have := hp.rng L[s.1.toNat] (List.getElem_mem hk)
  show 0 ≤ L.getD s.1.toNat 0 ∧ L.getD s.1.toNat 0 < (L.length : Int)
  rw [List.getD_eq_getElem?_getD, List.getElem?_eq_getElem hk]
  exact this
/-- What has a place where it is not 0. -/
theorem mem_of_get {zs : VL} {p : Int} (h : getL zs p ≠ 0) : ∃ t ∈ zs, t.1 = p := by
  apply Classical.byContradiction
  intro hn
  exact h (getL_none fun t ht e => hn ⟨t, ht, e⟩)
theorem nrm_inR {n : Nat} {zs : VL} (h : InR n zs) : InR n (nrm zs) := by
  intro t ht
  have hc := nrm_cn zs
  have h1 : getL (nrm zs) t.1 ≠ 0 := by
    obtain ⟨i, hi, rfl⟩ := List.getElem_of_mem ht
    have h0 : getL (nrm zs) (nrm zs)[i].1 = (nrm zs)[i].2 := by
      have e1 := getL_take_succ hi (pl (nrm zs) i)
      have e2 : pl (nrm zs) i = (nrm zs)[i].1 := by
        unfold pl; rw [List.getD_eq_getElem?_getD, List.getElem?_eq_getElem hi]; rfl
      have e3 : xl (nrm zs) i = (nrm zs)[i].2 := by
        unfold xl; rw [List.getD_eq_getElem?_getD, List.getElem?_eq_getElem hi]; rfl
      rw [if_pos rfl, getL_take_self hc.ris hi, Rat.zero_add] at e1
      have e4 : nrm zs = (nrm zs).take (i + 1) ++ (nrm zs).drop (i + 1) := (List.take_append_drop _ _).symm
      have e5 : getL ((nrm zs).drop (i + 1)) (pl (nrm zs) i) = 0 := getL_none fun s hs => by
        obtain ⟨j, hj, rfl⟩ := List.getElem_of_mem hs
        rw [List.getElem_drop, e2]
        rw [List.length_drop] at hj
        have := List.pairwise_iff_getElem.1 hc.1 i (i + 1 + j) hi (by omega) (by omega)
        omega
      have e6 : getL (nrm zs) (pl (nrm zs) i) = xl (nrm zs) i := by
        rw [e4, getL_append, ← e4, e1, e5, Rat.add_zero]
      rw [← e2, ← e3]; exact e6
    rw [h0]
    exact hc.2 _ ht
  rw [nrm_get] at h1
  obtain ⟨s, hs, e⟩ := mem_of_get h1
  rw [← e]; exact h s hs
theorem mv_back {L M : List Int} (hp : PermL L) (hi : InvL L M) {zs : VL} (hc : Cn zs) (hr : InR L.length zs) : nrm (mvL M (nrm (nrm (mvL L zs)))) = zs := by
  have hpm := hi.perm hp
  have hu : InR M.length (nrm (nrm (mvL L zs))) := by rw [hi.len]; exact nrm_inR (nrm_inR (mv_inR hp hr))
  refine Cn.ext (nrm_cn _) hc fun p => ?_
  rw [nrm_get]
  by_cases h : 0 ≤ p ∧ p < (L.length : Int)
  · obtain ⟨k, rfl⟩ : ∃ k : Nat, p = (k : Int) := ⟨p.toNat, by omega⟩
    have hk : k < L.length := by omega
    obtain ⟨m, hm, hml⟩ := InvL.nat hp hk
    have h1 := hi.inv k m hm
    have h2 := mv_get hpm hu (k := m) (by rw [hi.len]; exact hml)
    rw [List.getD_eq_getElem?_getD, h1] at h2
    have h3 := mv_get hp hr hk
    rw [List.getD_eq_getElem?_getD, hm] at h3
    simp only [Option.getD_some] at h2 h3
    rw [h2, nrm_get, nrm_get, h3]
  · rw [getL_out hr h]
    have := mv_inR hpm hu
    rw [hi.len] at this
    exact getL_out this h
theorem mv_dot {L : List Int} (hp : PermL L) {ws : VL} (hw : InR L.length ws) : ∀ {zs : VL}, InR L.length zs → dotL (mvL L zs) (mvL L ws) = dotL zs ws
  | [], _ => rfl
  | t :: zs, hr => by
    have ih := mv_dot hp hw (zs := zs) (fun s hs => hr s (by simp [hs]))
    have ht := hr t (by simp)
    obtain ⟨m, hm⟩ : ∃ m : Nat, t.1 = (m : Int) := ⟨t.1.toNat, by omega⟩
    have hml : m < L.length := by omega
    show t.2 * getL (mvL L ws) (L.getD t.1.toNat 0) + dotL (mvL L zs) (mvL L ws) = t.2 * getL ws t.1 + dotL zs ws
    rw [ih, hm, Int.toNat_natCast, mv_get hp hw hml]
theorem mv_dots {L : List Int} (hp : PermL L) {xs ys : VL} (hx : InR L.length (nrm xs)) (hy : InR L.length (nrm ys)) : dotL (nrm (mvL L (nrm xs))) (nrm (mvL L (nrm ys))) = dotL xs ys := by
  rw [dotL_congr (x' := mvL L (nrm xs)) (y' := mvL L (nrm ys)) (nrm_get _) (nrm_get _), mv_dot hp hy hx]
  exact dotL_congr (nrm_get _) (nrm_get _)
end Go.Proofs.Ytpgagepleffjlaa
/-
  What comes in, opened: rows of numbers, rows of vectors. Helpers; no statement of the program is proved here.
-/
set_option maxRecDepth 100000
set_option linter.unusedSimpArgs false
set_option linter.unusedVariables false
namespace Go.Proofs.Ytpgagepleffjlaa
open Go Go.Tw Go.RowKit Go.ChangeShapes Go.WideShapes Go.Deep

section
variable {H : Type} {enc : TypeId × Value → H} {w : World} {base : Nat} {sp : Nat → Bool} {held : Bool} {fuel : Nat} {cs : List Value} {x : DataW H × List MemPlace}
/-- A row of numbers that comes in. -/
structure OpL (w : World) (a : Option Addr) (n c : Nat) (L : List Int) : Prop where
  ones : Ones w a n (ivs L)
  nc : n ≤ c
  cm : c ≤ 9223372036854775807
  rng : ∀ z ∈ L, -9223372036854775808 ≤ z ∧ z ≤ 9223372036854775807
theorem opInts {t : Nat} (ht : Try.prog.underlying t = some (.slice 3)) (h : DataW.trod enc Try.prog w base sp held fuel t cs = some x) : ∃ a n c L, cs = [.slice a n c] ∧ OpL w a n c L := by
  rcases open_slice ht h with ⟨rfl, _⟩ | ⟨a, len, cap, m, n, D, Pl, rfl, hb, hl, hm, hmm, hx, hi⟩
  · exact ⟨none, 0, 0, [], rfl, Ones.nil w none, Nat.le_refl _, by omega, fun z h => by simp at h⟩
  · have hlm : len ≤ m := by rw [hmm]; split <;> omega
    have hone : ∀ i, i < len → ∃ z : Int, (-9223372036854775808 ≤ z ∧ z ≤ 9223372036854775807) ∧ w.cell? (a.add i) = some (.int .i64 z) := by
      intro i hil
      obtain ⟨cs', hc, ht⟩ := hi i (by omega)
      obtain ⟨z, rfl, _, hw⟩ := DataW.trod_int (k := .i64) rfl ht
      have hb : -9223372036854775808 ≤ z ∧ z ≤ 9223372036854775807 := by
        simp [Lit.wf, IntKind.min, IntKind.max, IntKind.signed, IntKind.bits] at hw
        omega
      have hcc := (cells1 hc).2 0 (by decide)
      refine ⟨z, hb, ?_⟩
      have e : (a.add (i * Try.prog.cellsOf 3)).add 0 = a.add i := by
        have : Try.prog.cellsOf 3 = 1 := by kernel_rfl
        rw [this, Nat.mul_one, add_add', Nat.add_zero]
      rw [e] at hcc
      exact hcc
    obtain ⟨L, hL, hP⟩ := listOf len hone
    have hsp : 0 < len → a.spot = none := by
      intro h0
      obtain ⟨z, _, hz⟩ := hone 0 h0
      have := World.cell?_spot hz
      cases a; simpa [Addr.add] using this
    refine ⟨some a, len, cap, L, rfl, ⟨by rw [ivs_length]; exact hL, fun h0 => ⟨a, rfl, hsp h0⟩, fun j v hv => ?_⟩, hl, by unfold maxLen at hm; exact hm, fun z hz => ?_⟩
    · unfold ivs at hv
      rw [List.getElem?_map] at hv
      cases hz : L[j]? with
      | none => rw [hz] at hv; cases hv
      | some z =>
        rw [hz] at hv
        have hv : Value.int .i64 z = v := Option.some.inj hv
        have hj : j < len := by
          rcases Nat.lt_or_ge j len with h' | h'
          · exact h'
          · rw [List.getElem?_eq_none (by omega)] at hz; cases hz
        rw [← add_eq_addrAt (hsp (by omega)) j, ← hv]
        exact (hP j z hz).2
    · obtain ⟨j, hj, rfl⟩ := List.getElem_of_mem hz
      exact (hP j _ (List.getElem?_eq_getElem hj)).1
theorem opVecs {t : Nat} (ht : Try.prog.underlying t = some (.slice 25)) (h : DataW.trod enc Try.prog w base sp held fuel t cs = some x) : ∃ a n c rs tss, cs = [.slice a n c] ∧ OpVs w a n c rs tss := by
  rcases open_slice ht h with ⟨rfl, _⟩ | ⟨a, len, cap, m, n, D, Pl, rfl, hb, hl, hm, hmm, hx, hi⟩
  · exact ⟨none, 0, 0, [], [], rfl, Ones.nil w none, rfl, fun j r ts h => by simp at h, Nat.le_refl _, by omega⟩
  · have hlm : len ≤ m := by rw [hmm]; split <;> omega
    have hone : ∀ i, i < len → ∃ z : SlR × List TmR, OpV w z.1 z.2 ∧ w.cell? (a.add i) = some z.1.v := by
      intro i hil
      obtain ⟨cs', hc, ht⟩ := hi i (by omega)
      obtain ⟨r, ts, rfl, ho⟩ := opVec rfl ht
      have hcc := (cells1 hc).2 0 (by decide)
      refine ⟨(r, ts), ho, ?_⟩
      have e : (a.add (i * Try.prog.cellsOf 25)).add 0 = a.add i := by
        have : Try.prog.cellsOf 25 = 1 := by kernel_rfl
        rw [this, Nat.mul_one, add_add', Nat.add_zero]
      rw [e] at hcc
      exact hcc
    haveI : Inhabited (SlR × List TmR) := ⟨(⟨none, 0, 0⟩, [])⟩
    obtain ⟨L, hL, hP⟩ := listOf len hone
    have hsp : 0 < len → a.spot = none := by
      intro h0
      obtain ⟨z, _, hz⟩ := hone 0 h0
      have := World.cell?_spot hz
      cases a; simpa [Addr.add] using this
    refine ⟨some a, len, cap, L.map (·.1), L.map (·.2), rfl, ⟨by rw [svs_length, List.length_map]; exact hL, fun h0 => ⟨a, rfl, hsp h0⟩, fun j v hv => ?_⟩, by rw [List.length_map]; exact hL, fun j r ts h1 h2 => ?_, hl, by unfold maxLen at hm; exact hm⟩
    · unfold svs at hv
      rw [List.getElem?_map, List.getElem?_map] at hv
      cases hz : L[j]? with
      | none => rw [hz] at hv; cases hv
      | some z =>
        rw [hz] at hv
        have hv : z.1.v = v := Option.some.inj hv
        have hj : j < len := by
          rcases Nat.lt_or_ge j len with h' | h'
          · exact h'
          · rw [List.getElem?_eq_none (by omega)] at hz; cases hz
        rw [← add_eq_addrAt (hsp (by omega)) j, ← hv]
        exact (hP j z hz).2
    · rw [List.getElem?_map] at h1 h2
      cases hz : L[j]? with
      | none => rw [hz] at h1; cases h1
      | some z =>
        rw [hz] at h1 h2
        cases h1; cases h2
        exact (hP j z hz).1
end
section
variable {H : Type} {enc : TypeId × Value → H} {W : World} {base : Nat} {sp : Nat → Bool} {held : Bool} {r : Reach} {b0 : Nat} {v : Value} {d : DataW H} {p : List MemPlace}
theorem openV' {t : Nat} (ht : Try.prog.underlying t = some (.slice 77)) (hv : Value.okWide Try.prog W r b0 t v) (h : DataW.Trod enc Try.prog W base sp held t v d p) : ∃ (s : SlR) (ts : List TmR), v = s.v ∧ OpV W s ts := by
  obtain ⟨a, n, c, rfl⟩ := okWide_slice ht hv
  obtain ⟨fuel, hf⟩ := h
  obtain ⟨s, ts, e, ho⟩ := opVec ht hf
  exact ⟨s, ts, (List.cons.inj e).1, ho⟩
theorem openQ' (hv : Value.okWide Try.prog W r b0 33 v) (h : DataW.Trod enc Try.prog W base sp held 33 v d p) : ∃ s : RatR, v = s.v ∧ OpQ W s := by
  obtain ⟨cs, rfl, _⟩ := okWide_struct (t := 33) rfl hv
  obtain ⟨fuel, hf⟩ := h
  obtain ⟨s, e, ho⟩ := opRat hf
  refine ⟨s, ?_, ho⟩
  have e : cs.toList = rcs s := e
  show Value.agg cs = Value.agg (rcs s).toArray
  rw [← e]
theorem openL {t : Nat} (ht : Try.prog.underlying t = some (.slice 3)) (hv : Value.okWide Try.prog W r b0 t v) (h : DataW.Trod enc Try.prog W base sp held t v d p) : ∃ a n c L, v = .slice a n c ∧ OpL W a n c L := by
  obtain ⟨a, n, c, rfl⟩ := okWide_slice ht hv
  obtain ⟨fuel, hf⟩ := h
  obtain ⟨a', n', c', L, e, ho⟩ := opInts ht hf
  exact ⟨a', n', c', L, (List.cons.inj e).1, ho⟩
theorem openVs {t : Nat} (ht : Try.prog.underlying t = some (.slice 25)) (hv : Value.okWide Try.prog W r b0 t v) (h : DataW.Trod enc Try.prog W base sp held t v d p) : ∃ a n c rs tss, v = .slice a n c ∧ OpVs W a n c rs tss := by
  obtain ⟨a, n, c, rfl⟩ := okWide_slice ht hv
  obtain ⟨fuel, hf⟩ := h
  obtain ⟨a', n', c', rs, tss, e, ho⟩ := opVecs ht hf
  exact ⟨a', n', c', rs, tss, (List.cons.inj e).1, ho⟩
end
end Go.Proofs.Ytpgagepleffjlaa
/-
  MatrixOrders, walked. Helpers; no statement of the program is proved here.
-/
set_option maxRecDepth 100000
set_option linter.unusedSimpArgs false
set_option linter.unusedVariables false
namespace Go.Proofs.Ytpgagepleffjlaa
open Go Go.Tw Go.RowKit
attribute [local irreducible] LoadAt StoreOk Stored rawVC

abbrev tI : Nat := 3
theorem MatrixOrders_ok {w0 : World} {a : Option Addr} {n c : Nat} {P : List Int} {rx ry : SlR} {tx ty : List TmR} (oP : OpL w0 a n c P) (ox : OpV w0 rx tx) (oy : OpV w0 ry ty) :
    Calls Try.prog 5 #[.slice a n c, rx.v, ry.v] w0 fun e w' => ∃ v, e = .returned v ∧ (Ext w0 w' ∧ v = .bool true) := by
  refine enterC (fun _ => none) ttOk mixed (args := [.slice a n c, rx.v, ry.v]) Try.func5 rfl (by kernel_rfl) (by kernel_rfl) ?_
  refine And.intro (fun k0 => ?_) (fun k0 => ?_)
  · refine CallS.mono (awake6_at _) ?_
    rintro _ w9 ⟨x9, rfl⟩
    exact ⟨Ext.trans' (Ext.rfl w0) x9, rfl⟩
  have hn20 : n ≤ 20 := by omega
  refine CallS.mono (ShortVec_ok ox.tms 12 2 (by omega)) ?_
  rintro _ w1 ⟨x1, rfl⟩
  by_cases k1 : shV rx.n tx 12 2
  case neg =>
    rw [decide_eq_false k1]
    refine CallS.mono (awake6_at _) ?_
    rintro _ w9 ⟨x9, rfl⟩
    exact ⟨Ext.trans' x1 x9, rfl⟩
  rw [decide_eq_true k1]
  refine CallS.mono (ShortVec_ok (oy.tms.ext x1) 12 2 (by omega)) ?_
  rintro _ w2 ⟨x2, rfl⟩
  have x02 := Ext.trans' x1 x2
  by_cases k2 : shV ry.n ty 12 2
  case neg =>
    rw [decide_eq_false k2]
    refine CallS.mono (awake6_at _) ?_
    rintro _ w9 ⟨x9, rfl⟩
    exact ⟨Ext.trans' x02 x9, rfl⟩
  rw [decide_eq_true k2]
  refine (ox.inv (by decide) k1).elim fun xs ix => ?_
  have vx : VI 2 12 w2 rx xs := VI.ext ⟨ix.1, ix.2, .inl (Nat.le_trans ix.2 (by decide))⟩ x02
  refine (oy.inv (by decide) k2).elim fun ys iy => ?_
  have vy : VI 2 12 w2 ry ys := VI.ext ⟨iy.1, iy.2, .inl (Nat.le_trans iy.2 (by decide))⟩ x02
  have oP2 := oP.ones.ext x02
  have hPl := oP.ones.len
  rw [ivs_length] at hPl
  refine ⟨Nat × SlR × List Int, fun x => [(0, .slice a n c), (1, rx.v), (2, ry.v), (7, x.2.1.v), (8, .int .i64 (x.1 : Int))],
    fun x w' => Ext w2 w' ∧ x.1 ≤ n ∧ w'.ownsRow w2.heap.size tI 1 x.2.1.v x.1 (ivs x.2.2) ∧ x.2.2.length = x.1 ∧ PermL x.2.2, fun x _ => n - x.1,
    ⟨(0, ⟨none, 0, 0⟩, []), ⟨rfl, rfl, rfl, rfl, rfl, trivial⟩, Ext.rfl w2, Nat.zero_le _, World.ownsRow_nil _ _ _ _, rfl, ⟨fun x h => by simp at h, List.nodup_nil⟩⟩, ?_⟩
  rintro ⟨i, s, L⟩ w3 ⟨x3, hi, hO, hLl, hp⟩
  dsimp only at *
  refine And.intro (fun h1 => ?_) (fun h1 => ?_)
  · have hin := ltTo h1
    have hg := ints_get oP2 hin
    have hrng := oP.rng _ (List.mem_of_getElem? hg)
    refine ⟨i, ⟨rfl, hin, oP2.base (by omega)⟩, _, (oP2.ext x3).load (ivs_get hg) rfl rfl, ((i + 1 : Nat) : Int), sucI i (by omega), ?_⟩
    refine CallS.mono (Pick_ok (n := i + 1) (Nat.succ_pos i) (by omega) hrng.1 hrng.2) ?_
    rintro _ w4 ⟨x4, m, hm, rfl⟩
    intro b5 w5 hb5
    have hb5 : New w4 w5 b5 tI [.int .i64 0] := hb5
    have x35 := Ext.trans' x4 hb5.ext
    have x25 := Ext.trans' x3 x35
    refine ⟨rfl, w2.heap.size, i, ivs L, [.int .i64 0], ⟨owns_ext hO x35, rfl, ?_, ?_, fun _ => ⟨_, rfl, rfl⟩, by omega, by show (i + 1) * 8 ≤ _; omega, x25.size⟩, ?_⟩
    · intro j v hj
      exact hb5.toBlk.cell (i := 0 + j) (v := v) (by rw [Nat.zero_add]; exact hj)
    · intro v hv
      rw [List.mem_singleton] at hv
      subst hv; rfl
    intro v' w6 ho hg6 hn6
    have hown : ∀ b, s.v.ownBlock = some b → w2.heap.size ≤ b := fun b hb => (owns_in hO hb).1
    have x26 : Ext w2 w6 := Ext.grown x25 hg6 hown
    have e6 : ivs L ++ [Value.int .i64 0] = ivs (shL L i 0) := by rw [← hLl, ← shL_last, ivs_append]; rfl
    have ho : w6.ownsRow w2.heap.size tI 1 v' (i + 1) (ivs (shL L i 0)) := by rw [← e6]; exact ho
    refine (owns_blk1 ho (Nat.succ_pos i)).elim fun g h => h.elim fun cap h => h.elim fun R h => ?_
    have hv7 := h.1
    have hge := h.2.1
    have hB := h.2.2.1
    have hcap := h.2.2.2.1
    have hcm := h.2.2.2.2.1
    have hl1 := h.2.2.2.2.2.1
    have hl2 := h.2.2.2.2.2.2
    clear h
    have hR : R.length = cap - (i + 1) := by
      rw [List.length_append, hl1] at hl2; omega
    refine ⟨Nat × Int, fun x => [(0, .slice a n c), (1, rx.v), (2, ry.v), (7, .slice (some ⟨g, 0, none⟩) (i + 1) cap), (8, .int .i64 (i : Int)), (9, .int .i64 (m : Int)), (10, .int .i64 (x.1 : Int))],
      fun x w' => Ext w2 w' ∧ m ≤ x.1 ∧ x.1 ≤ i ∧ Blk w' g tI (ivs (shL L x.1 x.2) ++ R), fun x _ => x.1, ⟨(i, 0), ⟨rfl, rfl, rfl, congrArg some hv7, rfl, rfl, rfl, trivial⟩, x26, by omega, Nat.le_refl _, hB⟩, ?_⟩
    rintro ⟨k, z⟩ w7 ⟨x7, hmk, hki, hB7⟩
    dsimp only at *
    refine And.intro (fun h2 => ?_) (fun h2 => ?_)
    · have hmk2 : m < k := by omega
      have hk0 : 0 < k := by omega
      have hkl : k - 1 < L.length := by omega
      have hgk : L[k - 1]? = some (L.getD (k - 1) 0) := by rw [List.getD_eq_getElem?_getD, List.getElem?_eq_getElem hkl]; rfl
      have hon := Ones.blk hB7
      have hlen7 : (ivs (shL L k z)).length = i + 1 := by rw [ivs_length, shL_length]; omega
      have hsub : ((k - 1 : Nat) : Int) = (k : Int) - 1 ∧ (-9223372036854775808 ≤ (k : Int) - 1 ∧ (k : Int) - 1 ≤ 9223372036854775807) := by omega
      refine ⟨((k - 1 : Nat) : Int), hsub, k - 1, ⟨rfl, by omega, ⟨_, rfl, rfl⟩⟩, _, hon.load (ivs_get (shL_get' hk0 hgk)) rfl rfl, k, ⟨rfl, by omega, ⟨_, rfl, rfl⟩⟩, storeOne rfl rfl hB7 (by omega), fun w8 hs8 => ?_⟩
      have hS := storedOne hs8 rfl rfl hB7 (by omega)
      rw [ivs_set, shL_down' hk0 hgk] at hS
      exact ⟨((k - 1 : Nat) : Int), hsub, (k - 1, L.getD (k - 1) 0), ⟨rfl, rfl, rfl, rfl, rfl, rfl, rfl, trivial⟩, ⟨Ext.grownB x7 hS.2 hge, by omega, by omega, hS.1⟩, Nat.sub_lt hk0 Nat.zero_lt_one⟩
    · have hk : k = m := by omega
      have hlen7 : (ivs (shL L k z)).length = i + 1 := by rw [ivs_length, shL_length]; omega
      refine ⟨m, ⟨rfl, by omega, ⟨_, rfl, rfl⟩⟩, storeOne rfl rfl hB7 (by omega), fun w8 hs8 => ?_⟩
      have hS := storedOne hs8 rfl rfl hB7 (by omega)
      rw [ivs_set, hk, shL_set (by omega)] at hS
      have hlen8 : (shL L m (i : Int)).length = i + 1 := by rw [shL_length]; omega
      have hlast : (ivs (shL L m (i : Int)) ++ R).length = cap := by rw [List.length_append, ivs_length, hlen8, hR]; exact Nat.add_sub_cancel' hcap
      have hp8 : PermL (shL L m (i : Int)) := by rw [← hLl]; exact shL_perm hp (by omega)
      exact ⟨((i + 1 : Nat) : Int), sucI i (by omega), (i + 1, ⟨some ⟨g, 0, none⟩, i + 1, cap⟩, shL L m (i : Int)), ⟨rfl, rfl, rfl, rfl, rfl, trivial⟩,
        ⟨Ext.grownB x7 hS.2 hge, hin, owns_of_blk1 hS.1 hge (by rw [ivs_length]; exact hlen8) hcap hcm hlast, hlen8, hp8⟩, Nat.sub_lt_sub_left hin (Nat.lt_succ_self i)⟩
  have hi' : i = n := Nat.le_antisymm hi (geTo h1)
  have hi20 : i ≤ 20 := by omega
  have hsn : s.n = i ∧ Ones w3 s.a s.n (ivs L) := by
    obtain ⟨a', c', hsv, hL, _⟩ := owns_ones hO
    have : s = ⟨a', i, c'⟩ := SlR.inj hsv
    subst this
    exact ⟨rfl, hL⟩
  have hL := hsn.2
  have hsn := hsn.1
  have vx := vx.ext x3
  have vy := vy.ext x3
  have x03 := Ext.trans' x02 x3
  refine CallS.mono (Inverse_ok hL (by omega) hp) ?_
  rintro _ w4 ⟨x4, b4, M, rfl, hM, iM⟩
  have hpM := iM.perm hp
  refine CallS.mono (Inverse_ok hM (by omega) hpM) ?_
  rintro _ w5 ⟨x5, b5, M2, rfl, hM2, iM2⟩
  refine CallS.mono (Perm_ok ((hL.ext x4).ext x5) (by omega)) ?_
  rintro _ w6 ⟨x6, rfl⟩
  rw [decide_eq_true hp]
  refine And.intro (fun h => absurd rfl h) (fun _ => ?_)
  refine And.intro (fun h => absurd rfl h) (fun _ => ?_)
  refine CallS.mono (SameInts_ok (hM2.ext x6) (((hL.ext x4).ext x5).ext x6) (by omega)) ?_
  rintro _ w7 ⟨x7, rfl⟩
  rw [decide_eq_true (InvL.uniq hp iM iM2)]
  have x37 := Ext.trans' (Ext.trans' (Ext.trans' x4 x5) x6) x7
  have x07 := Ext.trans' x03 x37
  have hL7 := hL.ext x37
  have hM7 := hM.ext (Ext.trans' (Ext.trans' x5 x6) x7)
  have vx := vx.ext x37
  have vy := vy.ext x37
  by_cases hrx : InR s.n (nrm xs)
  · refine CallS.mono (Move_ok hL7 (by omega) vx (by decide) (by decide) hp hrx) ?_
    rintro _ w8 ⟨x8, su, rfl, hu⟩
    by_cases hry : InR s.n (nrm ys)
    · refine CallS.mono (Move_ok (hL7.ext x8) (by omega) (vy.ext x8) (by decide) (by decide) hp hry) ?_
      rintro _ w9 ⟨x9, sv, rfl, hv⟩
      refine And.intro (fun h => absurd rfl h) (fun _ => ?_)
      refine And.intro (fun h => absurd rfl h) (fun _ => ?_)
      have hux : InR L.length (nrm xs) := by rw [hLl, ← hsn]; exact hrx
      have hvx : InR L.length (nrm ys) := by rw [hLl, ← hsn]; exact hry
      have hu9 := hu.ext x9
      have hru : InR s.n (nrm (nrm (mvL L (nrm xs)))) := by
        have := nrm_inR (nrm_inR (mv_inR hp hux))
        rw [hLl, ← hsn] at this; exact this
      refine CallS.mono (Move_ok ((hM7.ext x8).ext x9) (by omega) (hu9.vi (by decide)) (by decide) (by decide) hpM hru) ?_
      rintro _ w10 ⟨x10, sb, rfl, hb⟩
      have x710 := Ext.trans' (Ext.trans' x8 x9) x10
      refine And.intro (fun _ => ?_) (fun h => absurd rfl h)
      refine CallS.mono (norm_at (vx.ext x710) (by decide)) ?_
      rintro _ w11 ⟨x11, sn, rfl, hn⟩
      refine CallS.mono (svecT_at (hb.ext x11) hn (by decide) (mv_back hp iM (nrm_cn xs) hux)) ?_
      rintro _ w12 ⟨x12, rfl⟩
      have x912 := Ext.trans' (Ext.trans' x10 x11) x12
      have x712 := Ext.trans' (Ext.trans' x8 x9) x912
      refine CallS.mono (dot_at (nK (nK 2)) ((hu9.ext x912).vi (by decide)) ((hv.ext x912).vi (by decide)) (by decide)) ?_
      rintro _ w13 ⟨x13, r1, rfl, q1⟩
      have x713 := Ext.trans' x712 x13
      refine CallS.mono (dot_at 2 (vx.ext x713) (vy.ext x713) (by decide)) ?_
      rintro _ w14 ⟨x14, r2, rfl, q2⟩
      refine CallS.mono (rsameT_at ((q1.ext x14).qi (by decide)) (q2.qi (by decide)) (by decide) (mv_dots hp hux hvx)) ?_
      rintro _ w15 ⟨x15, rfl⟩
      refine CallS.mono (awake6_at _) ?_
      rintro _ w16 ⟨x16, rfl⟩
      exact ⟨Ext.trans' x07 (Ext.trans' (Ext.trans' (Ext.trans' x713 x14) x15) x16), rfl⟩
    · refine CallS.mono (MoveNo_ok (hL7.ext x8) (by omega) (vy.ext x8) (by decide) (by decide) (fun h => hry h.2)) ?_
      rintro _ w9 ⟨x9, rfl⟩
      refine And.intro (fun h => absurd rfl h) (fun _ => ?_)
      refine And.intro (fun _ => ?_) (fun h => absurd (by decide) h)
      refine And.intro (fun _ => ?_) (fun h => absurd rfl h)
      refine And.intro (fun h => absurd h (by decide)) (fun _ => ?_)
      refine And.intro (fun _ => ?_) (fun h => absurd rfl h)
      refine CallS.mono (awake6_at _) ?_
      rintro _ w10 ⟨x10, rfl⟩
      exact ⟨Ext.trans' x07 (Ext.trans' (Ext.trans' x8 x9) x10), rfl⟩
  · refine CallS.mono (MoveNo_ok hL7 (by omega) vx (by decide) (by decide) (fun h => hrx h.2)) ?_
    rintro _ w8 ⟨x8, rfl⟩
    by_cases hry : InR s.n (nrm ys)
    · refine CallS.mono (Move_ok (hL7.ext x8) (by omega) (vy.ext x8) (by decide) (by decide) hp hry) ?_
      rintro _ w9 ⟨x9, sv, rfl, hv⟩
      refine And.intro (fun _ => ?_) (fun h => absurd (by decide) h)
      refine And.intro (fun h => absurd h (by decide)) (fun _ => ?_)
      refine And.intro (fun _ => ?_) (fun h => absurd rfl h)
      refine And.intro (fun _ => ?_) (fun h => absurd rfl h)
      refine CallS.mono (awake6_at _) ?_
      rintro _ w10 ⟨x10, rfl⟩
      exact ⟨Ext.trans' x07 (Ext.trans' (Ext.trans' x8 x9) x10), rfl⟩
    · refine CallS.mono (MoveNo_ok (hL7.ext x8) (by omega) (vy.ext x8) (by decide) (by decide) (fun h => hry h.2)) ?_
      rintro _ w9 ⟨x9, rfl⟩
      refine And.intro (fun _ => ?_) (fun h => absurd (by decide) h)
      refine And.intro (fun h => absurd h (by decide)) (fun _ => ?_)
      refine And.intro (fun _ => ?_) (fun h => absurd rfl h)
      refine And.intro (fun h => absurd h (by decide)) (fun _ => ?_)
      refine And.intro (fun _ => ?_) (fun h => absurd rfl h)
      refine CallS.mono (awake6_at _) ?_
      rintro _ w10 ⟨x10, rfl⟩
      exact ⟨Ext.trans' x07 (Ext.trans' (Ext.trans' x8 x9) x10), rfl⟩
end Go.Proofs.Ytpgagepleffjlaa
