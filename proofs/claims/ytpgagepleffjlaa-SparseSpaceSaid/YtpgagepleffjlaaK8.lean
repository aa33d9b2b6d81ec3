/-
  Plain numbers: rows of digits divided digit by digit. No program in sight; helpers.
-/
import Derived.Test.YtpgagepleffjlaaK7
set_option maxRecDepth 100000
set_option linter.unusedSimpArgs false
set_option linter.unusedVariables false
namespace Go.Proofs.Ytpgagepleffjlaa
open Go.Tw

theorem dig_len_eq {V n : Nat} (h1 : 18446744073709551616 ^ n ≤ V) (h2 : V < 18446744073709551616 ^ (n + 1)) : (dig V).length = n + 1 := by
  have a := dig_len_le _ _ h2
  have b := dig_lt V
  rcases Nat.lt_or_ge (dig V).length (n + 1) with h | h
  · exfalso
    have : 18446744073709551616 ^ (dig V).length ≤ 18446744073709551616 ^ n := Nat.pow_le_pow_right (by omega) (by omega)
    omega
  · omega
/-- Behind the shift the digit on top is great. -/
theorem norm_shift {Y k n : Nat} (hn : (dig Y).length = n + 1) (hB : Bl ((dig Y).getD n 0) k) (hk : k ≤ 64) : 1 ≤ k ∧ 9223372036854775808 * 18446744073709551616 ^ n ≤ Y * 2 ^ (64 - k) ∧ Y * 2 ^ (64 - k) < 18446744073709551616 ^ (n + 1) := by
  have hY : Y ≠ 0 := by intro h; subst h; simp [dig_zero] at hn
  have ht := dig_top hY
  rw [hn, Nat.add_sub_cancel] at ht
  obtain ⟨k1, hb⟩ := hB.2.2 ht
  have hv := val_take_next (dig Y) n
  rw [val_take_all _ (n + 1) (by omega), val_dig] at hv
  have hl := val_take_lt (dig Y) n (dig_wd Y)
  have hlt := hB.1
  generalize (dig Y).getD n 0 = T at *
  generalize val ((dig Y).take n) = r at *
  have p0 : 0 < 2 ^ (64 - k) := Nat.pow_pos (by omega)
  have hp : 2 ^ k * 2 ^ (64 - k) = 18446744073709551616 := by rw [← Nat.pow_add, show k + (64 - k) = 64 by omega]
  have hp2 : 2 ^ (k - 1) * 2 ^ (64 - k) = 9223372036854775808 := by rw [← Nat.pow_add, show k - 1 + (64 - k) = 63 by omega]
  refine ⟨k1, ?_, ?_⟩
  · have a : 18446744073709551616 ^ n * 2 ^ (k - 1) ≤ Y := by
      rw [hv]; exact Nat.le_trans (Nat.mul_le_mul_left _ hb) (Nat.le_add_left ..)
    have b := Nat.mul_le_mul_right (2 ^ (64 - k)) a
    rw [Nat.mul_assoc, hp2, Nat.mul_comm] at b
    exact b
  · have a : Y < 18446744073709551616 ^ n * 2 ^ k := by
      have : 18446744073709551616 ^ n * (T + 1) ≤ 18446744073709551616 ^ n * 2 ^ k := Nat.mul_le_mul_left _ hlt
      rw [Nat.mul_add, Nat.mul_one] at this
      omega
    have b := Nat.mul_lt_mul_of_pos_right a p0
    rw [Nat.mul_assoc, hp, ← Nat.pow_succ] at b
    exact b
/-- What is divided is less than what divides, moved up. -/
theorem first_lt {X Y k n N : Nat} (hX : X < 18446744073709551616 ^ N) (hk1 : 1 ≤ k) (hV : 9223372036854775808 * 18446744073709551616 ^ n ≤ Y * 2 ^ (64 - k)) (hn : n ≤ N) : X * 2 ^ (64 - k) < Y * 2 ^ (64 - k) * 18446744073709551616 ^ (N - n) := by
  have e : 18446744073709551616 ^ N = 18446744073709551616 ^ n * 18446744073709551616 ^ (N - n) := by rw [← Nat.pow_add, show n + (N - n) = N by omega]
  have p : 2 ^ (64 - k) ≤ 2 ^ 63 := Nat.pow_le_pow_right (by omega) (by omega)
  have a : X * 2 ^ (64 - k) < 18446744073709551616 ^ N * 2 ^ (64 - k) := Nat.mul_lt_mul_of_pos_right hX (Nat.pow_pos (by omega))
  have b : 18446744073709551616 ^ N * 2 ^ (64 - k) ≤ 18446744073709551616 ^ N * 2 ^ 63 := Nat.mul_le_mul_left _ p
  have c := Nat.mul_le_mul_right (18446744073709551616 ^ (N - n)) hV
  rw [Nat.mul_assoc, ← e, Nat.mul_comm] at c
  exact Nat.lt_of_lt_of_le a (Nat.le_trans b c)

/-- The window of a round. -/
structure Win (A P U Z : List Nat) (j n V : Nat) : Prop where
  eq : A = P ++ (U ++ Z)
  lp : P.length = j
  lu : U.length = n + 1
  wu : WdL U
  vl : val A = val P + 18446744073709551616 ^ j * val U
  pl : val P < 18446744073709551616 ^ j
  ul : val U < V * 18446744073709551616
  z : val Z = 0
  get : ∀ k, k ≤ n → U.getD k 0 = A.getD (j + k) 0
theorem Win.make {A : List Nat} {M j n V : Nat} (hM : A.length = M) (hA : WdL A) (hj : j + n + 1 ≤ M) (hV : V < 18446744073709551616 ^ n) (hlt : val A < V * 18446744073709551616 ^ (j + 1)) :
    Win A (A.take j) ((A.drop j).take (n + 1)) (A.drop (j + n + 1)) j n V := by
  have e0 : (A.drop j).drop (n + 1) = A.drop (j + n + 1) := by rw [List.drop_drop, Nat.add_assoc]
  have e1 : A = A.take j ++ ((A.drop j).take (n + 1) ++ A.drop (j + n + 1)) := by rw [← e0, List.take_append_drop, List.take_append_drop]
  have l1 : (A.take j).length = j := by rw [List.length_take]; omega
  have l2 : ((A.drop j).take (n + 1)).length = n + 1 := by rw [List.length_take, List.length_drop]; omega
  have v1 : val A = val (A.take j) + 18446744073709551616 ^ j * (val ((A.drop j).take (n + 1)) + 18446744073709551616 ^ (n + 1) * val (A.drop (j + n + 1))) := by
    have := congrArg val e1
    rw [val_append, val_append, l1, l2] at this
    exact this
  have pb : 0 < 18446744073709551616 ^ j := Nat.pow_pos (by omega)
  have hz : val (A.drop (j + n + 1)) = 0 := by
    rcases Nat.eq_zero_or_pos (val (A.drop (j + n + 1))) with h | h
    · exact h
    · exfalso
      have a1 : 18446744073709551616 ^ j * (18446744073709551616 ^ (n + 1) * 1) ≤ val A := by
        rw [v1]
        refine Nat.le_trans (Nat.mul_le_mul_left _ ?_) (Nat.le_add_left ..)
        exact Nat.le_trans (Nat.mul_le_mul_left _ h) (Nat.le_add_left ..)
      have a2 : V * 18446744073709551616 ^ (j + 1) ≤ 18446744073709551616 ^ n * 18446744073709551616 ^ (j + 1) := Nat.mul_le_mul_right _ (Nat.le_of_lt hV)
      rw [Nat.mul_one, ← Nat.pow_add] at a1
      rw [← Nat.pow_add, show n + (j + 1) = j + (n + 1) by omega] at a2
      omega
  rw [hz, Nat.mul_zero, Nat.add_zero] at v1
  refine ⟨e1, l1, l2, fun x hx => hA x (List.mem_of_mem_drop (List.mem_of_mem_take hx)), v1, val_take_lt A j hA, ?_, hz, ?_⟩
  · refine Nat.lt_of_mul_lt_mul_left (a := 18446744073709551616 ^ j) ?_
    refine Nat.lt_of_le_of_lt (Nat.le_trans (Nat.le_add_left _ _) (Nat.le_of_eq v1.symm)) ?_
    rw [Nat.pow_succ, Nat.mul_comm (18446744073709551616 ^ j) 18446744073709551616, ← Nat.mul_assoc, Nat.mul_comm] at hlt
    exact hlt
  · intro k hk
    rw [List.getD_eq_getElem?_getD, List.getD_eq_getElem?_getD, List.getElem?_take_of_lt (by omega), List.getElem?_drop]
theorem top_three {U : List Nat} {m : Nat} (hU : WdL U) (hl : U.length = m + 3) : val U = val (U.take m) + 18446744073709551616 ^ m * ((U.getD (m + 2) 0 * 18446744073709551616 + U.getD (m + 1) 0) * 18446744073709551616 + U.getD m 0) ∧ val (U.take m) < 18446744073709551616 ^ m := by
  refine ⟨?_, val_take_lt U m hU⟩
  have h1 := val_take_next U m
  have h2 := val_take_next U (m + 1)
  have h3 := val_take_next U (m + 2)
  rw [val_take_all U _ (by omega)] at h3
  have p1 : 18446744073709551616 ^ (m + 1) = 18446744073709551616 ^ m * 18446744073709551616 := Nat.pow_succ ..
  have p2 : 18446744073709551616 ^ (m + 2) = 18446744073709551616 ^ m * 18446744073709551616 * 18446744073709551616 := by rw [Nat.pow_succ, Nat.pow_succ]
  rw [h3, h2, h1, p1, p2]
  clear h1 h2 h3 p1 p2
  generalize 18446744073709551616 ^ m = p at *
  grind
theorem top_two {U : List Nat} {m : Nat} (hU : WdL U) (hl : U.length = m + 2) : val U = val (U.take m) + 18446744073709551616 ^ m * (U.getD (m + 1) 0 * 18446744073709551616 + U.getD m 0) ∧ val (U.take m) < 18446744073709551616 ^ m := by
  refine ⟨?_, val_take_lt U m hU⟩
  have h1 := val_take_next U m
  have h2 := val_take_next U (m + 1)
  rw [val_take_all U _ (by omega)] at h2
  rw [h2, h1]
  rw [Nat.pow_succ]
  generalize 18446744073709551616 ^ m = p at *
  grind
theorem top_le {U D : List Nat} {m : Nat} (hU : WdL U) (hl : U.length = m + 3) (hD : WdL D) (hd : D.length = m + 2) (hlt : val U < val D * 18446744073709551616) : U.getD (m + 2) 0 ≤ D.getD (m + 1) 0 := by
  have h1 := val_take_next U (m + 2)
  rw [val_take_all U _ (by omega)] at h1
  have h2 := val_take_next D (m + 1)
  rw [val_take_all D _ (by omega)] at h2
  have h3 := val_take_lt D (m + 1) hD
  generalize U.getD (m + 2) 0 = x at *
  generalize D.getD (m + 1) 0 = y at *
  generalize val (D.take (m + 1)) = a at *
  generalize val (U.take (m + 2)) = b at *
  rw [Nat.pow_succ] at h1
  generalize 18446744073709551616 ^ (m + 1) = p at *
  have e1 : p * 18446744073709551616 * x < p * 18446744073709551616 * (y + 1) := by
    rw [h1, h2] at hlt
    have : (a + p * y) * 18446744073709551616 < p * 18446744073709551616 * (y + 1) := by
      have : (a + 1) * 18446744073709551616 ≤ p * 18446744073709551616 := Nat.mul_le_mul_right _ h3
      have e : p * 18446744073709551616 * (y + 1) = p * y * 18446744073709551616 + p * 18446744073709551616 := by rw [Nat.mul_add, Nat.mul_one, Nat.mul_right_comm]
      rw [e, Nat.add_mul]
      omega
    omega
  exact Nat.le_of_lt_succ (Nat.lt_of_mul_lt_mul_left e1)
theorem lt_succ_mul {t p x : Nat} (h : t < p) : t + p * x < (x + 1) * p := by rw [Nat.add_mul, Nat.one_mul, Nat.mul_comm p]; omega
/-- The guess at a row of digits. -/
theorem guess_row {U D : List Nat} {m q : Nat} (hU : WdL U) (hl : U.length = m + 3) (hD : WdL D) (hd : D.length = m + 2) (hlt : val U < val D * 18446744073709551616) (hb : 1 ≤ D.getD (m + 1) 0) (h : GRes (U.getD (m + 2) 0) (U.getD (m + 1) 0) (U.getD m 0) (D.getD (m + 1) 0) (D.getD m 0) q) :
    q = val U / val D ∨ q = val U / val D + 1 := by
  obtain ⟨u1, u2⟩ := top_three hU hl
  obtain ⟨d1, d2⟩ := top_two hD hd
  refine guess_near (P := 18446744073709551616 ^ m) (V2 := D.getD (m + 1) 0 * 18446744073709551616 + D.getD m 0) (U3 := (U.getD (m + 2) 0 * 18446744073709551616 + U.getD (m + 1) 0) * 18446744073709551616 + U.getD m 0) ?_ ?_ ?_ ?_ hlt (by omega) h.ql h.lo h.hi
  · rw [d1, Nat.mul_comm]; exact Nat.le_add_left ..
  · rw [d1]; exact lt_succ_mul d2
  · rw [u1, Nat.mul_comm]; exact Nat.le_add_left ..
  · rw [u1]; exact lt_succ_mul u2
theorem div_final {X Y s Q A : Nat} (h : X * 2 ^ s = Q * (Y * 2 ^ s) + A) (hA : A < Y * 2 ^ s) : Q = X / Y ∧ A / 2 ^ s = X % Y := by
  have p : 0 < 2 ^ s := Nat.pow_pos (by omega)
  have hY : 0 < Y := by
    rcases Nat.eq_zero_or_pos Y with h0 | h0
    · subst h0; rw [Nat.zero_mul] at hA; omega
    · exact h0
  have e1 : X * 2 ^ s / (Y * 2 ^ s) = Q := by
    rw [h, Nat.mul_comm Q, Nat.mul_add_div (Nat.mul_pos hY p), Nat.div_eq_of_lt hA, Nat.add_zero]
  rw [Nat.mul_div_mul_right _ _ p] at e1
  have e2 : X * 2 ^ s % (Y * 2 ^ s) = A := by
    rw [h, Nat.mul_comm Q, Nat.mul_add_mod, Nat.mod_eq_of_lt hA]
  rw [Nat.mul_mod_mul_right] at e2
  exact ⟨e1.symm, by rw [← e2, Nat.mul_div_cancel _ p]⟩
/-- Behind a round: what is left, and the quotient's digit. -/
theorem Win.next {A P U Z W : List Nat} {j n V a qd q : Nat} (h : Win A P U Z j n V) (hW : val W = val U % V) (hWl : W.length = n + 1) (hV : 0 < V) (hq : q = val U / V) (ha : a = qd * 18446744073709551616 ^ (j + 1) * V + val A) :
    a = (q + 18446744073709551616 * qd) * 18446744073709551616 ^ j * V + val (P ++ (W ++ Z)) ∧ val (P ++ (W ++ Z)) < V * 18446744073709551616 ^ j := by
  have e1 : val (P ++ (W ++ Z)) = val P + 18446744073709551616 ^ j * (val U % V) := by
    rw [val_append, val_append, h.z, h.lp, hW, Nat.mul_zero, Nat.add_zero]
  have hm := Nat.mod_lt (val U) hV
  refine ⟨?_, ?_⟩
  · rw [e1, hq]
    exact quo_step (j := j) rfl (by rw [ha, h.vl, Nat.pow_succ])
  · rw [e1]
    have := h.pl
    have h2 : 18446744073709551616 ^ j * (val U % V + 1) ≤ 18446744073709551616 ^ j * V := Nat.mul_le_mul_left _ hm
    rw [Nat.mul_add, Nat.mul_one, Nat.mul_comm _ V] at h2
    omega
end Go.Proofs.Ytpgagepleffjlaa
/-
  Contracts of the layer limbs: quotient and rest. Helpers; no statement of the program is proved here.
-/
set_option maxRecDepth 100000
set_option linter.unusedSimpArgs false
set_option linter.unusedVariables false
namespace Go.Proofs.Ytpgagepleffjlaa
open Go Go.Tw Go.RowKit
attribute [local irreducible] LoadAt StoreOk Stored rawVC

/-- What a rest by nought is. -/
def modN (x y : Nat) : Nat := if y = 0 then 0 else x % y
/-- What stands behind a round of DivMod: u's digits, q's digits. -/
structure DivI (X V s n M i : Nat) (A Q : List Nat) : Prop where
  la : A.length = M
  wa : WdL A
  lq : Q.length = M - n
  wq : WdL Q
  il : i ≤ M - n
  eq : X * 2 ^ s = val (Q.drop i) * 18446744073709551616 ^ i * V + val A
  lt : val A < V * 18446744073709551616 ^ i
theorem winSlice (g cap j n : Nat) (hj : j < cap) : Value.slice (subA (some ⟨g, 0, none⟩) cap j 1) (j + n + 1 - j) (cap - j) = .slice (some ⟨g, j, none⟩) (n + 1) (cap - j) := by
  have h1 : ¬ cap = j := by omega
  have h2 : j + n + 1 - j = n + 1 := by omega
  rw [h2]
  unfold subA
  rw [if_neg h1]
  simp [Addr.add]
  omega
theorem DivI.next {X V s n M j q : Nat} {A Q W : List Nat} (h : DivI X V s n M (j + 1) A Q) (hw : Win A (A.take j) ((A.drop j).take (n + 1)) (A.drop (j + n + 1)) j n V) (hV : 0 < V) (hq : q = val ((A.drop j).take (n + 1)) / V) (hW : val W = val ((A.drop j).take (n + 1)) % V) (hWl : W.length = n + 1) (hWw : WdL W) (hq64 : q < 18446744073709551616) (hjM : j + n + 1 ≤ M) :
    DivI X V s n M j (A.take j ++ (W ++ A.drop (j + n + 1))) (Q.set j q) := by
  have hla := h.la
  have hlq := h.lq
  have hil := h.il
  obtain ⟨h1, h2⟩ := hw.next hW hWl hV hq h.eq
  refine ⟨?_, ?_, by rw [List.length_set]; exact hlq, wd_set h.wq hq64, by omega, ?_, h2⟩
  · rw [List.length_append, List.length_append, hWl, List.length_take, List.length_drop]; omega
  · intro x hx
    rcases List.mem_append.1 hx with hx | hx
    · exact h.wa x (List.mem_of_mem_take hx)
    · rcases List.mem_append.1 hx with hx | hx
      · exact hWw x hx
      · exact h.wa x (List.mem_of_mem_drop hx)
  · rw [val_drop_set Q j q (by omega)]; exact h1
theorem subI (j : Nat) : ((j + 1 : Nat) : Int) - 1 = (j : Int) := by omega
theorem blkWin {w : World} {g t : Nat} {A P U Z : List Nat} {R : List Value} {j n V : Nat} (h : Blk w g t (wv A ++ R)) (hw : Win A P U Z j n V) : Blk w g t (wv (P ++ U) ++ (wv Z ++ R)) := by
  have e : wv A ++ R = wv (P ++ U) ++ (wv Z ++ R) := by
    have := hw.eq
    subst this
    simp only [wv_append, List.append_assoc]
  rw [← e]; exact h
theorem winBlk {w : World} {g t : Nat} {P U Z : List Nat} {R : List Value} (h : Blk w g t (wv (P ++ U) ++ (wv Z ++ R))) : Blk w g t (wv (P ++ (U ++ Z)) ++ R) := by
  simp only [wv_append, List.append_assoc] at h ⊢
  exact h
theorem getWords {w : World} {a : Option Addr} {n : Nat} {L : List Nat} (h : Words w a n L) {T : TT} {t j sz x : Nat} (hk : (known (tyAt T t) && !(tyAt T t).agg) = true) (hs : sz = 1) (hj : j < n) (hx : L.getD j 0 = x) : LoadAt T w t (addrAt a (j * sz)) (.int .u64 (x : Int)) := by
  have := h.load (T := T) (t := t) hk hs (h.getD hj)
  rw [hx] at this; exact this
theorem Ext.wr {a b c : World} {i : Nat} (h : Ext a b) (k : b.grownBy c (some i)) (hi : a.heap.size ≤ i) : Ext a c := Ext.grownB h k hi

theorem newsOne {w : World} {b t x : Nat} (h : Blk w b t (wv [x])) : ∀ (j : Nat) v, (wv [x])[j]? = some v → w.cell? (addrAt (some ⟨b, 0, none⟩) j) = some v := by
  intro j v hj
  have := h.cell (i := 0 + j) (v := v) (by rw [Nat.zero_add]; exact hj)
  exact this
theorem le_of_ile {a b : Nat} (h : (a : Int) ≤ (b : Int)) : a ≤ b := by omega
theorem app_small {a N : Nat} (h : a ≤ N) (hN : N ≤ 1099511627776) : (a + 1) * 8 ≤ 140737488355328 := by omega
theorem wd_snoc {A : List Nat} {x : Nat} (h : WdL A) (hx : x < 18446744073709551616) : WdL (A ++ [x]) := by
  intro z hz
  rcases List.mem_append.1 hz with hz | hz
  · exact h z hz
  · rw [List.mem_singleton] at hz; rw [hz]; exact hx
theorem own_row {w : World} {base e sz n : Nat} {v : Value} {xs : List Value} (h : w.ownsRow base e sz v n xs) : ∀ b, v.ownBlock = some b → base ≤ b := by
  intro b hb
  rcases h.2 with ⟨he, _⟩ | ⟨g, cap, cur, he, hg, _⟩
  · rw [he] at hb; simp [Value.ownBlock] at hb
  · rw [he] at hb; simp only [Value.ownBlock, Option.some.injEq] at hb; omega
theorem val_snoc0 {A : List Nat} {x : Nat} (h : val A = x) : val (A ++ [0]) = x := by
  rw [val_append]
  have e : val [0] = 0 := rfl
  rw [e, Nat.mul_zero, Nat.add_zero]; exact h
theorem snoc_le {A : List Nat} {N : Nat} (h : A.length ≤ N) : (A ++ [0]).length ≤ N + 1 := by rw [List.length_append]; exact Nat.succ_le_succ h
theorem snoc_lt {A : List Nat} {N : Nat} (h : A.length ≤ N) : N + 1 - (A ++ [0]).length < N + 1 - A.length := by rw [List.length_append, List.length_singleton]; omega
theorem len_done {A : List Nat} {N : Nat} (h : A.length ≤ N + 1) (h2 : ¬ (A.length : Int) ≤ (N : Int)) : A.length = N + 1 := by omega

structure Nrm (X V s m N : Nat) : Prop where
  v2 : V < 18446744073709551616 ^ (m + 2)
  v3 : X * 2 ^ s < V * 18446744073709551616 ^ (N - (m + 1))
theorem lenSub {A N m : Nat} (hA : A = N + 1) (h : m + 2 ≤ N) (hN : N ≤ 1099511627776) : ∃ K : Nat, K = N + 1 - (m + 2) ∧ K = N - (m + 1) ∧ ((K : Int) = (A : Int) - ((m + 2 : Nat) : Int) ∧ (-9223372036854775808 ≤ (A : Int) - ((m + 2 : Nat) : Int) ∧ (A : Int) - ((m + 2 : Nat) : Int) ≤ 9223372036854775807)) ∧ K * 8 ≤ 281474976710656 ∧ K ≤ 9223372036854775807 ∧
    ((K : Int) - 1 = (K : Int) - 1 ∧ (-9223372036854775808 ≤ (K : Int) - 1 ∧ (K : Int) - 1 ≤ 9223372036854775807)) :=
  ⟨N + 1 - (m + 2), rfl, by omega, by omega, by omega, by omega, by omega⟩
theorem DivI.first {X V s m N K : Nat} {A : List Nat} (hK1 : K = N + 1 - (m + 2)) (hK2 : K = N - (m + 1)) (hn : Nrm X V s m N) (hA : A.length = N + 1) (hw : WdL A) (hv : val A = X * 2 ^ s) : DivI X V s (m + 2) (N + 1) K A (List.replicate K 0) := by
  refine ⟨hA, hw, by rw [List.length_replicate, hK1], wd_replicate _, by omega, ?_, ?_⟩
  · rw [List.drop_of_length_le (by simp)]
    have e : val [] = 0 := rfl
    rw [e, Nat.zero_mul, Nat.zero_mul, Nat.zero_add, hv]
  · rw [hv, hK2]; exact hn.v3
theorem DivI.fin {X V s n M : Nat} {A Q : List Nat} (h : DivI X V s n M 0 A Q) : X * 2 ^ s = val Q * V + val A ∧ val A < V := by
  have h1 := h.eq
  have h2 := h.lt
  rw [List.drop_zero, Nat.pow_zero, Nat.mul_one] at h1
  rw [Nat.pow_zero, Nat.mul_one] at h2
  exact ⟨h1, h2⟩
theorem ixA (i j n : Nat) (h : (i : Int) - 1 = (j : Int)) (hb : j + n ≤ 4398046511104) : ((j + n : Nat) : Int) = ((i : Int) - 1) + (n : Int) ∧ (-9223372036854775808 ≤ ((i : Int) - 1) + (n : Int) ∧ ((i : Int) - 1) + (n : Int) ≤ 9223372036854775807) := by omega
theorem ixP (a : Nat) (hb : a ≤ 4398046511104) : ((a + 1 : Nat) : Int) = (a : Int) + 1 ∧ (-9223372036854775808 ≤ (a : Int) + 1 ∧ (a : Int) + 1 ≤ 9223372036854775807) := by omega
theorem ixS (a b k : Nat) (h : b + k = a) (hb : a ≤ 4398046511104) : (b : Int) = (a : Int) - (k : Int) ∧ (-9223372036854775808 ≤ (a : Int) - (k : Int) ∧ (a : Int) - (k : Int) ≤ 9223372036854775807) := by omega
theorem exists_pred {i : Nat} (h : (i : Int) - 1 ≥ 0) : ∃ j, i = j + 1 := ⟨i - 1, by omega⟩
theorem digit_one {q v U W M : Nat} (h : W + q * v = U + M) (hW : W < M) : 1 ≤ q := by
  rcases Nat.eq_zero_or_pos q with h0 | h0
  · subst h0; rw [Nat.zero_mul] at h; omega
  · exact h0
set_option maxHeartbeats 2000000 in
theorem DivMod_ok {w : World} {a a' : Option Addr} {n1 c1 n2 c2 : Nat} {L L' : List Nat} (h : Words w a n1 L) (hc : n1 ≤ c1) (hm : c1 ≤ 9223372036854775807) (hn : n1 ≤ 1099511627776) (h' : Words w a' n2 L') (hc' : n2 ≤ c2) (hm' : c2 ≤ 9223372036854775807) (hn' : n2 ≤ 1099511627776) :
    CallS Try.prog 101 #[.slice a n1 c1, .slice a' n2 c2] w fun v w' => Ext w w' ∧ ∃ q r, v = .tuple #[q, r] ∧ Sl w' q (dig (val L / val L')) ∧ Sl w' r (dig (modN (val L) (val L'))) := by
  have hX1 := h.trim
  have hX2 := h.trim_le
  have hY1 := h'.trim
  have hY2 := h'.trim_le
  refine enter ttOk mixed (args := [.slice a n1 c1, .slice a' n2 c2]) Try.func101 rfl (by kernel_rfl) (by kernel_rfl) rfl ?_
  refine CallS.mono (trimmed_ok h hc hm) ?_
  rintro _ w ⟨rfl, rfl⟩
  refine CallS.mono (trimmed_ok h' hc' hm') ?_
  rintro _ w ⟨rfl, rfl⟩
  generalize hX : val L = X at *
  generalize hY : val L' = Y at *
  generalize hN : (dig X).length = N at *
  generalize hD : (dig Y).length = D at *
  refine And.intro (fun h1 => ?_) (fun h1 => ?_)
  · have hY0 : Y = 0 := dig_nil.1 (List.eq_nil_of_length_eq_zero (by omega))
    have e1 : dig (X / Y) = [] := by rw [hY0, Nat.div_zero]; rfl
    have e2 : dig (modN X Y) = [] := by rw [modN, if_pos hY0]; rfl
    rw [e1, e2]
    exact ⟨Ext.rfl w, _, _, rfl, Sl.nil w, Sl.nil w⟩
  have hY0 : Y ≠ 0 := by intro h0; subst h0; rw [dig_zero] at hD; simp at hD; omega
  have eM : modN X Y = X % Y := if_neg hY0
  rw [eM]
  refine CallS.mono (Cmp_ok hX1 (by omega) hm hY1 (by omega) hm') ?_
  rintro _ w1 ⟨hx1, rfl⟩
  rw [val_dig, val_dig]
  refine And.intro (fun h2 => ?_) (fun h2 => ?_)
  · have hlt : X < Y := by
      unfold cmpN at h2
      split at h2
      · assumption
      · split at h2 <;> omega
    refine CallS.mono (clone_ok (hX1.ext hx1) (by omega)) ?_
    rintro v w2 ⟨hx2, hs2⟩
    rw [Nat.div_eq_of_lt hlt, Nat.mod_eq_of_lt hlt]
    exact ⟨Ext.trans' hx1 hx2, _, _, rfl, Sl.nil _, hs2⟩
  have hge : Y ≤ X := by
    unfold cmpN at h2
    split at h2
    · omega
    · omega
  refine And.intro (fun h3 => ?_) (fun h3 => ?_)
  · have hD1 : D = 1 := by omega
    have hYd : (dig Y).getD 0 0 = Y := by
      have := val_take_next (dig Y) 0
      rw [val_take_all _ 1 (by omega), val_dig] at this
      simp [val] at this
      simpa using this.symm
    have hYw : Y < 18446744073709551616 := by rw [← hYd]; exact getD_lt_wd (dig_wd Y) 0
    refine ⟨0, ⟨rfl, by omega, hY1.base (by omega)⟩, _, getWords (hY1.ext hx1) rfl rfl (by omega) hYd, ?_⟩
    refine CallS.mono (byDigit_ok (hX1.ext hx1) (by omega) (by omega) hYw) ?_
    rintro _ w2 ⟨hx2, q, r, rfl, hq, hr⟩
    rw [val_dig] at hq hr
    exact ⟨Ext.trans' hx1 hx2, _, _, rfl, hq, hr⟩
  have hN40 : N ≤ 1099511627776 := by omega
  obtain ⟨m, rfl⟩ : ∃ m, D = m + 2 := ⟨D - 2, by omega⟩
  have hND : m + 2 ≤ N := by rw [← hN, ← hD]; exact dig_len_mono hge
  have hTw := getD_lt_wd (dig_wd Y) (m + 1)
  refine ⟨((m + 1 : Nat) : Int), by omega, m + 1, ⟨rfl, by omega, hY1.base (by omega)⟩, _, getWords (hY1.ext hx1) rfl rfl (by omega) rfl, ?_⟩
  refine CallS.mono (lead64 _ hTw w1) ?_
  rintro _ w1 ⟨rfl, k, rfl, hB, hk⟩
  obtain ⟨hk1, hV1, hV2⟩ := norm_shift hD hB hk
  have hV3 := first_lt (n := m + 1) (Nat.lt_of_lt_of_le (dig_lt X) (Nat.le_of_eq (by rw [hN]))) hk1 hV1 (by omega)
  have hVl := dig_len_eq (Nat.le_trans (Nat.le_mul_of_pos_left _ (by omega)) hV1) hV2
  generalize hs : 64 - k = s at *
  have hs63 : s ≤ 63 := by omega
  generalize hV : Y * 2 ^ s = V at *
  have hVpos : 0 < V := Nat.lt_of_lt_of_le (Nat.mul_pos (by omega) (Nat.pow_pos (by omega))) hV1
  have hnrm : Nrm X V s m N := ⟨hV2, hV3⟩
  clear hV1 hV2 hV3
  have hYs := Shl_own (s := s) (hY1.ext hx1) (by omega) hm' (by omega) hs63
  rw [val_dig, hV, hVl] at hYs
  refine CallS.mono hYs ?_
  rintro v w2 ⟨hx2, hov⟩
  obtain ⟨gv, capv, Rv, rfl, hgv, hBv, hnv, hcv, _⟩ := owns_blk hov (by omega)
  have hWv2 := Words.blkR hBv (dig_wd V)
  rw [hVl] at hWv2
  have hgv2 := hBv.lt
  have hx12 := Ext.trans' hx1 hx2
  have hXs := Shl_own (s := s) (hX1.ext hx12) (by omega) hm (by omega) hs63
  rw [val_dig] at hXs
  refine CallS.mono hXs ?_
  rintro u w3 ⟨hx3, hou⟩
  have hUl : (dig (X * 2 ^ s)).length ≤ N + 1 := by
    refine dig_len_le _ _ ?_
    rw [Nat.pow_succ]
    have e1 : X < 18446744073709551616 ^ N := Nat.lt_of_lt_of_le (dig_lt X) (Nat.le_of_eq (by rw [hN]))
    have e2 : 2 ^ s ≤ 2 ^ 63 := Nat.pow_le_pow_right (by omega) hs63
    exact Nat.lt_of_lt_of_le (Nat.mul_lt_mul_of_pos_right e1 (Nat.pow_pos (by omega))) (Nat.mul_le_mul_left _ (Nat.le_trans e2 (by omega)))
  have hx13 := Ext.trans' hx12 hx3
  have hWv3 := hWv2.ext hx3
  refine (owns_lt hou (dig_wd _)).elim fun au0 d => d.elim fun cu0 d => ?_
  rw [d.1] at hou
  refine ⟨Option Addr × Nat × List Nat, fun x => [(0, .slice a N c1), (6, .int .i64 (s : Int)), (7, .slice (some ⟨gv, 0, none⟩) (m + 2) capv), (8, .slice x.1 x.2.2.length x.2.1)],
    fun x w' => Ext w2 w' ∧ w'.ownsRow w2.heap.size 88 1 (.slice x.1 x.2.2.length x.2.1) x.2.2.length (wv x.2.2) ∧ WdL x.2.2 ∧ val x.2.2 = X * 2 ^ s ∧ x.2.2.length ≤ N + 1, fun x _ => N + 1 - x.2.2.length,
    ⟨(au0, cu0, dig (X * 2 ^ s)), ⟨rfl, rfl, rfl, congrArg some d.1, trivial⟩, hx3, hou, dig_wd _, val_dig _, hUl⟩, ?_⟩
  rintro ⟨au, cu, A⟩ w4 ⟨hx4, hou4, hAw, hAv, hAl⟩
  dsimp only at *
  refine And.intro (fun h4 => ?_) (fun h4 => ?_)
  · intro b5 w5 hb5
    have hb5 : New w4 w5 b5 88 (wv [0]) := hb5
    have ho5 := owns_ext hou4 hb5.ext
    have hAN : A.length ≤ N := le_of_ile h4
    refine ⟨rfl, w2.heap.size, A.length, wv A, wv [0], ⟨ho5, rfl, newsOne hb5.toBlk, wv_one _, fun _ => ⟨_, rfl, rfl⟩, by omega, app_small hAN hN40, Nat.le_trans hx4.size hb5.ext.size⟩, ?_⟩
    intro v6 w6 ho6 hg6 _
    rw [← wv_append] at ho6
    have hwd6 := wd_snoc hAw (show 0 < 18446744073709551616 by omega)
    have hx6 : Ext w2 w6 := Ext.grown (Ext.trans' hx4 hb5.ext) hg6 (own_row hou4)
    have hl6 : (A ++ [0]).length = A.length + 1 := List.length_append
    refine (owns_lt ho6 hwd6).elim fun a6 d => d.elim fun c6 d => ?_
    rw [d.1, ← hl6] at ho6
    refine ⟨(a6, c6, A ++ [0]), ⟨rfl, rfl, rfl, congrArg some (d.1.trans (by rw [hl6])), trivial⟩, ⟨hx6, ho6, hwd6, val_snoc0 hAv, snoc_le hAN⟩, snoc_lt hAN⟩
  · have hAN := len_done hAl h4
    have hA0 : 0 < A.length := by rw [hAN]; omega
    refine (owns_blk hou4 hA0).elim fun gu d => d.elim fun capu d => d.elim fun Ru d => ?_
    have hBu := d.2.2.1
    have hgu := d.2.1
    have hcapu := d.2.2.2.1
    have hcapm := d.2.2.2.2.1
    have hsl : Value.slice au A.length cu = .slice (some ⟨gu, 0, none⟩) (N + 1) capu := d.1.trans (by rw [hAN])
    rw [hAN] at hcapu
    clear d hou4
    refine (lenSub hAN hND hN40).elim fun K hK => ?_
    refine ⟨(K : Int), hK.2.2.1, K, K, ⟨rfl, rfl, Nat.le_refl _, hK.2.2.2.1, hK.2.2.2.2.1⟩, ?_⟩
    intro gq w5 hq5
    have hBq5 : Blk w5 gq 88 (wv (List.replicate K 0)) := by rw [← rep_zero]; exact hq5.toBlk
    have hgq4 : w4.heap.size ≤ gq := Nat.le_of_eq hq5.isNew.symm
    have hgq2 : w2.heap.size ≤ gq := Nat.le_trans hx4.size hgq4
    have hne2 : gu ≠ gq := fun e => absurd hBu.lt (by rw [e]; exact Nat.not_lt.2 hgq4)
    have hne3 : Tw.blk (some ⟨gv, 0, none⟩) ≠ gq := Nat.ne_of_lt (Nat.lt_of_lt_of_le hgv2 hgq2)
    have hne1 : Tw.blk (some ⟨gv, 0, none⟩) ≠ gu := Nat.ne_of_lt (Nat.lt_of_lt_of_le hgv2 hgu)
    have hx5 := Ext.trans' hx4 hq5.ext
    refine ⟨(K : Int), hK.2.2.1, (K : Int) - 1, hK.2.2.2.2.2, ?_⟩
    have hI0 := DivI.first hK.1 hK.2.1 hnrm hAN hAw hAv
    refine ⟨Nat × List Nat × List Nat, fun x => [(6, .int .i64 (s : Int)), (7, .slice (some ⟨gv, 0, none⟩) (m + 2) capv), (8, .slice (some ⟨gu, 0, none⟩) (N + 1) capu), (9, .int .i64 ((m + 2 : Nat) : Int)), (10, .slice (some ⟨gq, 0, none⟩) K K), (11, .int .i64 ((x.1 : Int) - 1))],
      fun x w' => Ext w2 w' ∧ Blk w' gu 88 (wv x.2.1 ++ Ru) ∧ Blk w' gq 88 (wv x.2.2) ∧ Words w' (some ⟨gv, 0, none⟩) (m + 2) (dig V) ∧ DivI X V s (m + 2) (N + 1) x.1 x.2.1 x.2.2, fun x _ => x.1,
      ⟨(K, A, List.replicate K 0), ⟨rfl, rfl, congrArg some hsl, rfl, rfl, rfl, trivial⟩, hx5, hBu.ext hq5.ext, hBq5, hWv2.ext hx5, hI0⟩, ?_⟩
    clear hI0 hBu hBq5 hAw hAv hAl hAN hA0 hsl h4
    rintro ⟨i, A, Q⟩ w6 ⟨hx6, hBu, hBq, hWv6, hI⟩
    dsimp only at *
    refine And.intro (fun h6 => ?_) (fun h6 => ?_)
    · refine (exists_pred h6).elim fun j hj => ?_
      rw [hj] at hI
      have hij : (i : Int) - 1 = (j : Int) := by omega
      have hil := hI.il
      have hjM : j + (m + 2) + 1 ≤ N + 1 := by omega
      have hw := Win.make (V := V) hI.la hI.wa hjM hnrm.v2 hI.lt
      have hWA := Words.blkR hBu hI.wa
      rw [hI.la] at hWA
      have g0 := hw.get (m + 2) (by omega)
      have g1 := hw.get (m + 1) (by omega)
      have g2 := hw.get m (by omega)
      have htop := top_le (m := m) hw.wu hw.lu (dig_wd V) hVl (by rw [val_dig]; exact hw.ul)
      have hD1 : 1 ≤ (dig V).getD (m + 1) 0 := by
        have hV0 : V ≠ 0 := by omega
        have := dig_top hV0
        rw [hVl, Nat.add_sub_cancel] at this
        omega
      have w0 := getD_lt_wd (dig_wd V) (m + 1)
      have w1' := getD_lt_wd (dig_wd V) m
      have w2' := getD_lt_wd hw.wu (m + 2)
      have w3' := getD_lt_wd hw.wu (m + 1)
      have w4' := getD_lt_wd hw.wu m
      have b2 : j + (m + 2) < N + 1 := by omega
      have b1 : j + (m + 1) < N + 1 := by omega
      have b0 : j + m < N + 1 := by omega
      have i2 := ixA i j (m + 2) hij (by omega)
      have i1 := ixS (j + (m + 2)) (j + (m + 1)) 1 rfl (by omega)
      have i0 := ixS (j + (m + 2)) (j + m) 2 rfl (by omega)
      have k1 := ixS (m + 2) (m + 1) 1 rfl (by omega)
      have k0 := ixS (m + 2) m 2 rfl (by omega)
      have c1 : m + 1 < m + 2 := Nat.lt_succ_self _
      have c0 : m < m + 2 := Nat.lt_succ_of_lt (Nat.lt_succ_self _)
      refine ⟨sq 32, by kernel_rfl, ((j + (m + 2) : Nat) : Int), i2, j + (m + 2), ⟨rfl, b2, ⟨_, rfl, rfl⟩⟩, _, getWords hWA rfl rfl b2 g0.symm, ?_⟩
      refine ⟨((j + (m + 2) : Nat) : Int), i2, ((j + (m + 1) : Nat) : Int), i1, j + (m + 1), ⟨rfl, b1, ⟨_, rfl, rfl⟩⟩, _, getWords hWA rfl rfl b1 g1.symm, ?_⟩
      refine ⟨((j + (m + 2) : Nat) : Int), i2, ((j + m : Nat) : Int), i0, j + m, ⟨rfl, b0, ⟨_, rfl, rfl⟩⟩, _, getWords hWA rfl rfl b0 g2.symm, ?_⟩
      refine ⟨((m + 1 : Nat) : Int), k1, m + 1, ⟨rfl, c1, ⟨_, rfl, rfl⟩⟩, _, getWords hWv6 rfl rfl c1 rfl, ?_⟩
      refine ⟨((m : Nat) : Int), k0, m, ⟨rfl, c0, ⟨_, rfl, rfl⟩⟩, _, getWords hWv6 rfl rfl c0 rfl, ?_⟩
      refine ⟨fun v _ => ∃ q : Nat, v = .int .u64 (q : Int) ∧ GRes (((A.drop j).take (m + 2 + 1)).getD (m + 2) 0) (((A.drop j).take (m + 2 + 1)).getD (m + 1) 0) (((A.drop j).take (m + 2 + 1)).getD m 0) ((dig V).getD (m + 1) 0) ((dig V).getD m 0) q, fun v w w' h _ => h, fun w' _ _ => guess_ok _ _ _ _ _ htop w3' w4' w0 w1' w', ?_⟩
      intro v hsat
      obtain ⟨_, _, ⟨q, rfl, hG⟩, _⟩ := hsat
      have hnear := guess_row (m := m) hw.wu hw.lu (dig_wd V) hVl (by rw [val_dig]; exact hw.ul) hD1 hG
      rw [val_dig] at hnear
      intro w7 hx7 _
      have hjc : j < capu := by omega
      have i3 := ixP (j + (m + 2)) (by omega)
      have l3 : j ≤ j + (m + 2) + 1 := by omega
      have l4 : j + (m + 2) + 1 ≤ capu := by omega
      have m3 : m + 2 ≤ 4398046511104 := by omega
      refine ⟨((j + (m + 2) : Nat) : Int), i2, ((j + (m + 2) + 1 : Nat) : Int), i3, j, j + (m + 2) + 1, ⟨hij, rfl, l3, l4⟩, ?_⟩
      have hT := take_ok (c := capu - j) (cv := capv) (d := q) (blkWin (hBu.ext hx7) hw) hw.lp hw.lu hw.wu (hWv6.ext hx7) (fun _ => hne1) hG.ql m3
      rw [← winSlice gu capu j (m + 2) hjc, val_dig] at hT
      refine CallS.mono hT ?_
      rintro v8 w8 ⟨hg8, W, hWl, hWw, hB8, hcase⟩
      have hx8 := Ext.wr (Ext.trans' hx6 hx7) hg8 hgu
      have hBq8 := Blk.grown (hBq.ext hx7) hg8 (by intro e; exact hne2 (Option.some.inj e).symm)
      have hWv8 := (hWv6.ext hx7).far hg8 (fun _ => hne1)
      rcases hcase with ⟨rfl, hval⟩ | ⟨rfl, hval⟩
      · have hR := digit_right hVpos hval hnear
        have hnx := hI.next hw hVpos hR.1 hR.2 hWl hWw hG.ql hjM
        have hBq3 := hBq8
        have hjQ : j < Q.length := by have := hI.lq; omega
        refine ⟨j, ⟨hij, by omega, ⟨_, rfl, rfl⟩⟩, storeWord rfl rfl hBq3 hjQ, ?_⟩
        intro w9 hs9
        have hS := storedWord hs9 rfl hBq3
        refine ⟨(j : Int) - 1, by omega, (j, A.take j ++ (W ++ A.drop (j + (m + 2) + 1)), Q.set j (q)), ⟨rfl, rfl, rfl, rfl, rfl, rfl, trivial⟩, ⟨Ext.wr hx8 hS.2.1 hgq2, Blk.grown (winBlk hB8) hS.2.1 (by intro e; exact hne2 (Option.some.inj e)), hS.1, Words.far (hWv8) hS.2.1 (fun _ => hne3), hnx⟩, by rw [hj]; exact Nat.lt_succ_self j⟩
      · have hWM := val_lt W hWw
        rw [hWl] at hWM
        have hq1 := digit_one hval hWM
        refine ⟨((q - 1 : Nat) : Int), subOne hq1 hG.ql, ?_⟩
        refine ⟨((j + (m + 2) : Nat) : Int), i2, ((j + (m + 2) + 1 : Nat) : Int), i3, j, j + (m + 2) + 1, ⟨hij, rfl, l3, l4⟩, ?_⟩
        have hT2 := giveBack_ok (c := capu - j) (cv := capv) hB8 hw.lp hWl hWw hWv8 (fun _ => hne1) m3
        rw [← winSlice gu capu j (m + 2) hjc, val_dig] at hT2
        refine CallS.mono hT2 ?_
        rintro v9 w10 ⟨hg9, W2, k9, hWl2, hWw2, hB9, hval2⟩
        have hx9 := Ext.wr hx8 hg9 hgu
        have hBq9 := Blk.grown hBq8 hg9 (by intro e; exact hne2 (Option.some.inj e).symm)
        have hWv9 := hWv8.far hg9 (fun _ => hne1)
        have hWM2 := val_lt W2 hWw2
        rw [hWl2] at hWM2
        have hUM := val_lt _ hw.wu
        rw [hw.lu] at hUM
        have hVM : V ≤ 18446744073709551616 ^ (m + 2 + 1) := Nat.le_trans (Nat.le_of_lt hnrm.v2) (Nat.pow_le_pow_right (Nat.zero_lt_succ _) (Nat.le_succ _))
        have hR := digit_less hVpos hVM hUM hval hWM hval2 hWM2 hnear
        have hnx := hI.next hw hVpos hR.2.1 hR.2.2 hWl2 hWw2 (Nat.lt_of_le_of_lt (Nat.sub_le _ _) hG.ql) hjM
        have hBq3 := hBq9
        have hjQ : j < Q.length := by have := hI.lq; omega
        refine ⟨j, ⟨hij, by omega, ⟨_, rfl, rfl⟩⟩, storeWord rfl rfl hBq3 hjQ, ?_⟩
        intro w9 hs9
        have hS := storedWord hs9 rfl hBq3
        refine ⟨(j : Int) - 1, by omega, (j, A.take j ++ (W2 ++ A.drop (j + (m + 2) + 1)), Q.set j (q - 1)), ⟨rfl, rfl, rfl, rfl, rfl, rfl, trivial⟩, ⟨Ext.wr hx9 hS.2.1 hgq2, Blk.grown (winBlk hB9) hS.2.1 (by intro e; exact hne2 (Option.some.inj e)), hS.1, Words.far (hWv9) hS.2.1 (fun _ => hne3), hnx⟩, by rw [hj]; exact Nat.lt_succ_self j⟩
    · have hi0 : i = 0 := by omega
      rw [hi0] at hI
      have hfin := hI.fin
      have hWQ := Words.blkAll hBq hI.wq
      rw [hI.lq, ← hK.1] at hWQ
      have hWA := Words.blkR hBu hI.wa
      rw [hI.la] at hWA
      refine CallS.mono (trimmed_ok hWQ (Nat.le_refl _) hK.2.2.2.2.1) ?_
      rintro _ w7 ⟨rfl, rfl⟩
      refine CallS.mono (Shr_ok hWA hcapu hcapm (Nat.le_trans (Nat.succ_le_succ hN40) (by omega)) hs63) ?_
      rintro r w8 ⟨hx8, hr⟩
      rw [← hV] at hfin
      have hdf := div_final hfin.1 hfin.2
      rw [hdf.2] at hr
      have ht9 := (hWQ.ext hx8).trim
      have hl9 := hWQ.trim_le
      rw [hdf.1] at ht9 hl9 ⊢
      exact ⟨Ext.trans' hx12 (Ext.trans' hx6 hx8), _, _, rfl, ⟨_, _, _, rfl, ht9, hl9, hK.2.2.2.2.1⟩, hr⟩
end Go.Proofs.Ytpgagepleffjlaa
/-
  Contracts of the layer limbs: the greatest that divides both. Helpers; no statement of the program is proved here.
-/
set_option maxRecDepth 100000
set_option linter.unusedSimpArgs false
set_option linter.unusedVariables false
namespace Go.Proofs.Ytpgagepleffjlaa
open Go Go.Tw Go.RowKit
attribute [local irreducible] LoadAt StoreOk Stored rawVC

/-- A slice of just the digits of x. -/
structure DigAt (w : World) (a : Option Addr) (c x : Nat) : Prop where
  words : Words w a (dig x).length (dig x)
  nc : (dig x).length ≤ c
  cm : c ≤ 9223372036854775807
  n40 : (dig x).length ≤ 1099511627776
theorem DigAt.ext {w w' : World} {a : Option Addr} {c x : Nat} (h : DigAt w a c x) (k : Ext w w') : DigAt w' a c x := ⟨h.words.ext k, h.nc, h.cm, h.n40⟩
theorem Sl.digAt {w : World} {v : Value} {x : Nat} (h : Sl w v (dig x)) (hn : (dig x).length ≤ 1099511627776) : ∃ a c, v = .slice a (dig x).length c ∧ DigAt w a c x := by
  obtain ⟨a, n, c, rfl, hw, h1, h2⟩ := h
  have := hw.len
  subst this
  exact ⟨a, c, rfl, hw, h1, h2, hn⟩
theorem pos_of_len {y : Nat} (h : ((dig y).length : Int) > 0) : 0 < y := by
  rcases Nat.eq_zero_or_pos y with h0 | h0
  · subst h0; simp [dig_zero] at h
  · exact h0
theorem zero_of_len {y : Nat} (h : ¬ ((dig y).length : Int) > 0) : y = 0 := dig_nil.1 (List.eq_nil_of_length_eq_zero (by omega))
theorem Gcd_ok {w : World} {a a' : Option Addr} {n1 c1 n2 c2 : Nat} {L L' : List Nat} (h : Words w a n1 L) (hc : n1 ≤ c1) (hm : c1 ≤ 9223372036854775807) (hn : n1 ≤ 1099511627776) (h' : Words w a' n2 L') (hc' : n2 ≤ c2) (hm' : c2 ≤ 9223372036854775807) (hn' : n2 ≤ 1099511627776) :
    CallS Try.prog 108 #[.slice a n1 c1, .slice a' n2 c2] w fun v w' => Ext w w' ∧ Sl w' v (dig (Nat.gcd (val L) (val L'))) := by
  have hX2 := h.trim_le
  have hY2 := h'.trim_le
  have hX : DigAt w a c1 (val L) := ⟨h.trim, by omega, hm, by omega⟩
  have hY : DigAt w a' c2 (val L') := ⟨h'.trim, by omega, hm', by omega⟩
  clear hX2 hY2
  refine enter ttOk mixed (args := [.slice a n1 c1, .slice a' n2 c2]) Try.func108 rfl (by kernel_rfl) (by kernel_rfl) rfl ?_
  refine CallS.mono (trimmed_ok h hc hm) ?_
  rintro _ w ⟨rfl, rfl⟩
  refine CallS.mono (trimmed_ok h' hc' hm') ?_
  rintro _ w ⟨rfl, rfl⟩
  generalize val L = X at *
  generalize val L' = Y at *
  refine ⟨Option Addr × Nat × Nat × Option Addr × Nat × Nat, fun x => [(0, .slice x.1 (dig x.2.2.1).length x.2.1), (1, .slice x.2.2.2.1 (dig x.2.2.2.2.2).length x.2.2.2.2.1)],
    fun x w' => Ext w w' ∧ DigAt w' x.1 x.2.1 x.2.2.1 ∧ DigAt w' x.2.2.2.1 x.2.2.2.2.1 x.2.2.2.2.2 ∧ Nat.gcd x.2.2.1 x.2.2.2.2.2 = Nat.gcd X Y, fun x _ => x.2.2.2.2.2,
    ⟨(a, c1, X, a', c2, Y), ⟨rfl, rfl, trivial⟩, Ext.rfl w, hX, hY, rfl⟩, ?_⟩
  rintro ⟨a1, c1, x, a2, c2, y⟩ w2 ⟨hx2, h1, h2, hg⟩
  dsimp only at *
  refine And.intro (fun h3 => ?_) (fun h3 => ?_)
  · have hy := pos_of_len h3
    have hlt := Nat.mod_lt x hy
    have hD := DivMod_ok h1.words h1.nc h1.cm h1.n40 h2.words h2.nc h2.cm h2.n40
    rw [val_dig, val_dig] at hD
    have e : modN x y = x % y := if_neg (by omega)
    rw [e] at hD
    refine CallS.mono hD ?_
    rintro _ w3 ⟨hx3, q, r, rfl, hq, hr⟩
    refine (Sl.digAt hr (Nat.le_trans (dig_len_mono (Nat.le_of_lt hlt)) h2.n40)).elim fun a3 d => d.elim fun c3 d => ?_
    exact ⟨(a2, c2, y, a3, c3, x % y), ⟨rfl, congrArg some d.1, trivial⟩, ⟨Ext.trans' hx2 hx3, h2.ext hx3, d.2, by rw [← hg]; show Nat.gcd y (x % y) = _; rw [Nat.gcd_comm x y, Nat.gcd_rec y x, Nat.gcd_comm y]⟩, hlt⟩
  · have hy := zero_of_len h3
    rw [hy, Nat.gcd_zero_right] at hg
    refine CallS.mono (clone_ok h1.words (by have := h1.n40; omega)) ?_
    rintro v w3 ⟨hx3, hs⟩
    exact ⟨Ext.trans' hx2 hx3, by rw [← hg]; exact hs⟩
end Go.Proofs.Ytpgagepleffjlaa
