/-
  Contracts of the layer limbs: shifted back. Helpers; no statement of the program is proved here.
-/
import Derived.Test.YtlfdobjdlgebbaaK4
set_option maxRecDepth 100000
set_option linter.unusedSimpArgs false
set_option linter.unusedVariables false
namespace Go.Proofs.Ytlfdobjdlgebbaa
open Go Go.Tw Go.RowKit
attribute [local irreducible] LoadAt StoreOk Stored rawVC

/-- A digit shifted back: its own bits and those that come down. -/
theorem shr_or {x y s : Nat} (hx : x < 18446744073709551616) (hs1 : 1 ≤ s) (hs : s ≤ 63) :
    (((x / 2 ^ s) + y % 2 ^ s * 2 ^ (64 - s) : Nat) : Int) = bitZ .or .u64 ((x / 2 ^ s : Nat) : Int) ((y * 2 ^ 1 % 18446744073709551616 * 2 ^ (63 - s) % 18446744073709551616 : Nat) : Int) ∧
      (x / 2 ^ s) + y % 2 ^ s * 2 ^ (64 - s) < 18446744073709551616 ∧ ((x / 2 ^ s) + y % 2 ^ s * 2 ^ (64 - s)) * 2 ^ s + x % 2 ^ s = x + 18446744073709551616 * (y % 2 ^ s) := by
  have hp : 2 ^ s * 2 ^ (64 - s) = 18446744073709551616 := by rw [← Nat.pow_add, show s + (64 - s) = 64 by omega]
  have p0 : 0 < 2 ^ (64 - s) := Nat.pow_pos (by omega)
  have p1 : 0 < 2 ^ s := Nat.pow_pos (by omega)
  have e1 : y * 2 ^ 1 % 18446744073709551616 * 2 ^ (63 - s) % 18446744073709551616 = y % 2 ^ s * 2 ^ (64 - s) := by
    have a1 : y * 2 ^ 1 % 18446744073709551616 * 2 ^ (63 - s) % 18446744073709551616 = y * 2 ^ 1 * 2 ^ (63 - s) % 18446744073709551616 := by rw [Nat.mod_mul_mod]
    rw [a1, Nat.mul_assoc, ← Nat.pow_add, show 1 + (63 - s) = 64 - s by omega, ← hp, Nat.mul_mod_mul_right]
  have h1 : x / 2 ^ s < 2 ^ (64 - s) := by rw [Nat.div_lt_iff_lt_mul p1, Nat.mul_comm, hp]; exact hx
  have h2 : (y % 2 ^ s + 1) * 2 ^ (64 - s) ≤ 2 ^ s * 2 ^ (64 - s) := Nat.mul_le_mul_right _ (Nat.mod_lt y p1)
  rw [hp, Nat.add_mul, Nat.one_mul] at h2
  have h3 : y % 2 ^ s * 2 ^ (64 - s) < 18446744073709551616 := by omega
  have h4 : x / 2 ^ s < 18446744073709551616 := Nat.lt_of_le_of_lt (Nat.div_le_self ..) hx
  refine ⟨?_, by omega, ?_⟩
  · rw [e1, orZ _ _ h4 h3, Nat.or_comm, orAdd _ _ _ h1, Nat.add_comm]
  · have hd := Nat.div_add_mod x (2 ^ s)
    rw [Nat.add_mul, Nat.mul_assoc, Nat.mul_comm (2 ^ (64 - s)), hp, Nat.mul_comm (x / 2 ^ s)]
    omega
structure ShrI (L A : List Nat) (s i : Nat) : Prop where
  len : A.length = L.length
  wd : WdL A
  rest : ∀ k, i ≤ k → A.getD k 0 = L.getD k 0
  vl : val (A.take i) * 2 ^ s + L.getD 0 0 % 2 ^ s = val (L.take i) + 18446744073709551616 ^ i * (L.getD i 0 % 2 ^ s)
theorem shr_step {p A L a x x0 z s2 xm ym : Nat} (hv : A * s2 + x0 = L + p * xm) (hz : z * s2 + xm = x + 18446744073709551616 * ym) : (A + p * z) * s2 + x0 = (L + p * x) + p * 18446744073709551616 * ym := by
  have e : p * (z * s2 + xm) = p * (x + 18446744073709551616 * ym) := by rw [hz]
  grind
theorem ShrI.step {L A : List Nat} {s i z : Nat} (h : ShrI L A s i) (hi : i < L.length) (hz : z < 18446744073709551616) (hs : z * 2 ^ s + L.getD i 0 % 2 ^ s = L.getD i 0 + 18446744073709551616 * (L.getD (i + 1) 0 % 2 ^ s)) : ShrI L (A.set i z) s (i + 1) := by
  have hiA : i < A.length := by rw [h.len]; exact hi
  refine ⟨by rw [List.length_set]; exact h.len, wd_set h.wd hz, fun k hk => ?_, ?_⟩
  · rw [lgetD_ne (by omega)]; exact h.rest k (by omega)
  · rw [val_set_next A i z hiA, val_take_next L, Nat.pow_succ]
    exact shr_step (a := 0) h.vl hs
theorem ShrI.last {L A : List Nat} {s N : Nat} (h : ShrI L A s N) (hN : L.length = N) : val A = val L / 2 ^ s := by
  have hv := h.vl
  have p1 : 0 < 2 ^ s := Nat.pow_pos (by omega)
  have hA := h.len
  rw [val_take_all A N (by omega), val_take_all L N (by omega), List.getD_eq_getElem?_getD (i := N), List.getElem?_eq_none (by omega)] at hv
  have e0 : (none : Option Nat).getD 0 % 2 ^ s = 0 := Nat.zero_mod _
  rw [e0, Nat.mul_zero, Nat.add_zero] at hv
  rw [← hv, Nat.mul_comm, Nat.mul_add_div p1, Nat.div_eq_of_lt (Nat.mod_lt _ p1), Nat.add_zero]
theorem set_set_same (A : List Nat) (i x y : Nat) : (A.set i x).set i y = A.set i y := by simp
theorem Shr_ok {w : World} {a : Option Addr} {n c s : Nat} {L : List Nat} (h : Words w a n L) (hc : n ≤ c) (hm : c ≤ 9223372036854775807) (hn : n ≤ 4398046511104) (hs : s ≤ 63) :
    CallS Try.prog 148 #[.slice a n c, .int .i64 (s : Int)] w fun v w' => Ext w w' ∧ Sl w' v (dig (val L / 2 ^ s)) := by
  have ht := h.trim
  have htl := h.trim_le
  refine enter ttOk mixed (args := [.slice a n c, .int .i64 (s : Int)]) Try.func148 rfl (by kernel_rfl) (by kernel_rfl) rfl ?_
  refine CallS.mono (trimmed_ok h hc hm) ?_
  rintro _ w ⟨rfl, rfl⟩
  generalize hX : val L = X at *
  generalize hN : (dig X).length = N at *
  refine And.intro (fun h1 => ?_) (fun h1 => ?_)
  · have hs0 : s = 0 := by omega
    refine CallS.mono (clone_ok ht (by omega)) ?_
    rintro v w1 ⟨hx1, ho⟩
    have e : X / 2 ^ s = X := by rw [hs0]; exact Nat.div_one X
    rw [e]
    exact ⟨hx1, ho⟩
  have hs64 : s < 64 := by omega
  have hs1 : 1 ≤ s := by omega
  refine ⟨0, ⟨tdiv64 hs64, by omega⟩, ?_⟩
  refine And.intro (fun h2 => ?_) (fun h2 => ?_)
  · have hX0 : X = 0 := dig_nil.1 (List.eq_nil_of_length_eq_zero (by omega))
    have e : dig (X / 2 ^ s) = [] := by rw [hX0, Nat.zero_div]; rfl
    rw [e]
    exact ⟨Ext.rfl w, Sl.nil w⟩
  have hN0 : 0 < N := by omega
  have ht' : Words w (subA a c 0 1) (N - 0) (dig X) := by rw [subA_zero]; exact ht
  refine ⟨0, ⟨tdiv64 hs64, by omega⟩, 0, N, ⟨rfl, rfl, Nat.zero_le _, by omega⟩, ?_⟩
  refine CallS.mono (clone_own ht' (by omega)) ?_
  rintro v w1 ⟨hx1, ho⟩
  obtain ⟨g, cap, R, rfl, hge, hB1, hncap, hcm, _⟩ := owns_blk ho hN0
  refine ⟨Nat × List Nat, fun x => [(0, .slice a N c), (1, .int .i64 (s : Int)), (5, .slice (some ⟨g, 0, none⟩) N cap), (24, .slice (some ⟨g, 0, none⟩) N cap), (25, .int .i64 (N : Int)), (26, .int .i64 (x.1 : Int))],
    fun x w' => Ext w w' ∧ Blk w' g 88 (wv x.2 ++ R) ∧ x.1 ≤ N ∧ ShrI (dig X) x.2 s x.1, fun x _ => N - x.1,
    ⟨(0, dig X), ⟨rfl, rfl, rfl, rfl, rfl, rfl, trivial⟩, hx1, hB1, Nat.zero_le _, ⟨rfl, dig_wd X, fun _ _ => rfl, by simp [val]⟩⟩, ?_⟩
  rintro ⟨i, A⟩ w2 ⟨hx2, hB, hi, hI⟩
  dsimp only at *
  have hAl := hI.len
  rw [hN] at hAl
  have hWA := Words.blkR hB hI.wd
  rw [hAl] at hWA
  refine And.intro (fun h4 => ?_) (fun h4 => ?_)
  · have hiN : i < N := lt_of_ilt h4
    have hxw := getD_lt_wd (dig_wd X) i
    have hyw := getD_lt_wd (dig_wd X) (i + 1)
    have hO := shr_or (y := (dig X).getD (i + 1) 0) hxw hs1 hs
    have hst := hI.step (by rw [hN]; exact hiN) hO.2.1 hO.2.2
    have hAi : A.getD i 0 = (dig X).getD i 0 := hI.rest i (Nat.le_refl _)
    generalize hx : (dig X).getD i 0 = x at *
    generalize hy : (dig X).getD (i + 1) 0 = y at *
    generalize hz : x / 2 ^ s + y % 2 ^ s * 2 ^ (64 - s) = z at *
    have hld := hWA.load (T := tt) (t := 88) (sz := 1) rfl rfl (hWA.getD hiN)
    rw [hAi] at hld
    refine ⟨i, ⟨rfl, hiN, ⟨_, rfl, rfl⟩⟩, _, hld, ?_⟩
    refine ⟨(s : Int), ⟨tmod64 hs64, by omega⟩, _, ⟨(shrZn _ s (by omega)).symm, by omega⟩, i, ⟨rfl, hiN, ⟨_, rfl, rfl⟩⟩, storeWordR rfl rfl hB (by omega), ?_⟩
    intro w3 hs3
    have hS := storedWordR hs3 rfl hB (by omega)
    have hx3 := Ext.grownB hx2 hS.2.1 hge
    have hxs : x / 2 ^ s < 18446744073709551616 := Nat.lt_of_le_of_lt (Nat.div_le_self ..) hxw
    have hWA3 := Words.blkR hS.1 (wd_set hI.wd hxs)
    rw [List.length_set, hAl] at hWA3
    refine ⟨0, ⟨tdiv64 hs64, by omega⟩, (i : Int), by omega, ((i + 1 : Nat) : Int), by omega, ?_⟩
    refine And.intro (fun h5 => ?_) (fun h5 => ?_)
    · have hi1 : i + 1 < N := lt_of_ilt h5
      have hld3 := hWA3.load (T := tt) (t := 88) (sz := 1) rfl rfl (hWA3.getD hiN)
      rw [lgetD_same (by omega)] at hld3
      have hld4 := (ht.ext hx3).load (T := tt) (t := 88) (sz := 1) rfl rfl (ht.getD hi1)
      rw [hy] at hld4
      refine ⟨sq 16, by kernel_rfl, i, ⟨rfl, hiN, ⟨_, rfl, rfl⟩⟩, _, hld3, i + 1, ⟨rfl, hi1, ht.base hN0⟩, _, hld4, _, ⟨(shlZn _ 1 (by omega)).symm, by omega⟩, (s : Int), ⟨tmod64 hs64, by omega⟩, ((63 - s : Nat) : Int), by omega, _, ⟨(shlZn _ _ (by omega)).symm, by omega⟩, (z : Int), hO.1, i, ⟨rfl, hiN, ⟨_, rfl, rfl⟩⟩, ?_⟩
      intro w4 hx4 _
      have hB4 := hS.1.ext hx4
      refine ⟨storeWordR rfl rfl hB4 (by rw [List.length_set]; omega), ?_⟩
      intro w5 hs5
      have hS5 := storedWordR hs5 rfl hB4 (by rw [List.length_set]; omega)
      rw [set_set_same] at hS5
      intro w6 hx6 _
      exact ⟨((i + 1 : Nat) : Int), by omega, (i + 1, A.set i z), ⟨rfl, rfl, rfl, rfl, rfl, rfl, trivial⟩, ⟨Ext.trans' (Ext.grownB (Ext.trans' hx3 hx4) hS5.2.1 hge) hx6, hS5.1.ext hx6, hiN, hst⟩, Nat.sub_lt_sub_left hiN (Nat.lt_succ_self i)⟩
    · have hy0 : y = 0 := by
        rw [← hy, List.getD_eq_getElem?_getD, List.getElem?_eq_none (by omega)]; rfl
      have hz0 : z = x / 2 ^ s := by rw [← hz, hy0, Nat.zero_mod, Nat.zero_mul, Nat.add_zero]
      rw [hz0] at hst
      exact ⟨((i + 1 : Nat) : Int), by omega, (i + 1, A.set i (x / 2 ^ s)), ⟨rfl, rfl, rfl, rfl, rfl, rfl, trivial⟩, ⟨hx3, hS.1, hiN, hst⟩, Nat.sub_lt_sub_left hiN (Nat.lt_succ_self i)⟩
  · have e9 : i = N := eq_of_nlt hi h4
    rw [e9] at hI
    clear e9 h4
    refine CallS.mono (trimmed_ok hWA hncap hcm) ?_
    rintro _ w3 ⟨rfl, rfl⟩
    have hval := hI.last hN
    rw [val_dig] at hval
    have ht3 := hWA.trim
    have htl3 := hWA.trim_le
    rw [hval] at ht3 htl3 ⊢
    exact ⟨hx2, _, _, _, rfl, ht3, by omega, hcm⟩
end Go.Proofs.Ytlfdobjdlgebbaa
/-
  Plain numbers: rows of digits divided digit by digit. No program in sight; helpers.
-/
set_option maxRecDepth 100000
set_option linter.unusedSimpArgs false
set_option linter.unusedVariables false
namespace Go.Proofs.Ytlfdobjdlgebbaa
open Go.Tw

theorem dig_len_eq {V n : Nat} (h1 : 18446744073709551616 ^ n ≤ V) (h2 : V < 18446744073709551616 ^ (n + 1)) : (dig V).length = n + 1 := by
  have a := dig_len_le _ _ h2
  have b := dig_lt V
  rcases Nat.lt_or_ge (dig V).length (n + 1) with h | h
  · exfalso
    have : 18446744073709551616 ^ (dig V).length ≤ 18446744073709551616 ^ n := Nat.pow_le_pow_right (by omega) (by omega)
    omega
  · omega
/-- Behind the shift the digit on top is great. -/
theorem norm_shift {Y k n : Nat} (hn : (dig Y).length = n + 1) (hB : Bl ((dig Y).getD n 0) k) (hk : k ≤ 64) : 1 ≤ k ∧ 9223372036854775808 * 18446744073709551616 ^ n ≤ Y * 2 ^ (64 - k) ∧ Y * 2 ^ (64 - k) < 18446744073709551616 ^ (n + 1) := by
  have hY : Y ≠ 0 := by intro h; subst h; simp [dig_zero] at hn
  have ht := dig_top hY
  rw [hn, Nat.add_sub_cancel] at ht
  obtain ⟨k1, hb⟩ := hB.2.2 ht
  have hv := val_take_next (dig Y) n
  rw [val_take_all _ (n + 1) (by omega), val_dig] at hv
  have hl := val_take_lt (dig Y) n (dig_wd Y)
  have hlt := hB.1
  generalize (dig Y).getD n 0 = T at *
  generalize val ((dig Y).take n) = r at *
  have p0 : 0 < 2 ^ (64 - k) := Nat.pow_pos (by omega)
  have hp : 2 ^ k * 2 ^ (64 - k) = 18446744073709551616 := by rw [← Nat.pow_add, show k + (64 - k) = 64 by omega]
  have hp2 : 2 ^ (k - 1) * 2 ^ (64 - k) = 9223372036854775808 := by rw [← Nat.pow_add, show k - 1 + (64 - k) = 63 by omega]
  refine ⟨k1, ?_, ?_⟩
  · have a : 18446744073709551616 ^ n * 2 ^ (k - 1) ≤ Y := by
      rw [hv]; exact Nat.le_trans (Nat.mul_le_mul_left _ hb) (Nat.le_add_left ..)
    have b := Nat.mul_le_mul_right (2 ^ (64 - k)) a
    rw [Nat.mul_assoc, hp2, Nat.mul_comm] at b
    exact b
  · have a : Y < 18446744073709551616 ^ n * 2 ^ k := by
      have : 18446744073709551616 ^ n * (T + 1) ≤ 18446744073709551616 ^ n * 2 ^ k := Nat.mul_le_mul_left _ hlt
      rw [Nat.mul_add, Nat.mul_one] at this
      omega
    have b := Nat.mul_lt_mul_of_pos_right a p0
    rw [Nat.mul_assoc, hp, ← Nat.pow_succ] at b
    exact b
/-- What is divided is less than what divides, moved up. -/
theorem first_lt {X Y k n N : Nat} (hX : X < 18446744073709551616 ^ N) (hk1 : 1 ≤ k) (hV : 9223372036854775808 * 18446744073709551616 ^ n ≤ Y * 2 ^ (64 - k)) (hn : n ≤ N) : X * 2 ^ (64 - k) < Y * 2 ^ (64 - k) * 18446744073709551616 ^ (N - n) := by
  have e : 18446744073709551616 ^ N = 18446744073709551616 ^ n * 18446744073709551616 ^ (N - n) := by rw [← Nat.pow_add, show n + (N - n) = N by omega]
  have p : 2 ^ (64 - k) ≤ 2 ^ 63 := Nat.pow_le_pow_right (by omega) (by omega)
  have a : X * 2 ^ (64 - k) < 18446744073709551616 ^ N * 2 ^ (64 - k) := Nat.mul_lt_mul_of_pos_right hX (Nat.pow_pos (by omega))
  have b : 18446744073709551616 ^ N * 2 ^ (64 - k) ≤ 18446744073709551616 ^ N * 2 ^ 63 := Nat.mul_le_mul_left _ p
  have c := Nat.mul_le_mul_right (18446744073709551616 ^ (N - n)) hV
  rw [Nat.mul_assoc, ← e, Nat.mul_comm] at c
  exact Nat.lt_of_lt_of_le a (Nat.le_trans b c)

/-- The window of a round. -/
structure Win (A P U Z : List Nat) (j n V : Nat) : Prop where
  eq : A = P ++ (U ++ Z)
  lp : P.length = j
  lu : U.length = n + 1
  wu : WdL U
  vl : val A = val P + 18446744073709551616 ^ j * val U
  pl : val P < 18446744073709551616 ^ j
  ul : val U < V * 18446744073709551616
  z : val Z = 0
  get : ∀ k, k ≤ n → U.getD k 0 = A.getD (j + k) 0
theorem Win.make {A : List Nat} {M j n V : Nat} (hM : A.length = M) (hA : WdL A) (hj : j + n + 1 ≤ M) (hV : V < 18446744073709551616 ^ n) (hlt : val A < V * 18446744073709551616 ^ (j + 1)) :
    Win A (A.take j) ((A.drop j).take (n + 1)) (A.drop (j + n + 1)) j n V := by
  have e0 : (A.drop j).drop (n + 1) = A.drop (j + n + 1) := by rw [List.drop_drop, Nat.add_assoc]
  have e1 : A = A.take j ++ ((A.drop j).take (n + 1) ++ A.drop (j + n + 1)) := by rw [← e0, List.take_append_drop, List.take_append_drop]
  have l1 : (A.take j).length = j := by rw [List.length_take]; omega
  have l2 : ((A.drop j).take (n + 1)).length = n + 1 := by rw [List.length_take, List.length_drop]; omega
  have v1 : val A = val (A.take j) + 18446744073709551616 ^ j * (val ((A.drop j).take (n + 1)) + 18446744073709551616 ^ (n + 1) * val (A.drop (j + n + 1))) := by
    have := congrArg val e1
    rw [val_append, val_append, l1, l2] at this
    exact this
  have pb : 0 < 18446744073709551616 ^ j := Nat.pow_pos (by omega)
  have hz : val (A.drop (j + n + 1)) = 0 := by
    rcases Nat.eq_zero_or_pos (val (A.drop (j + n + 1))) with h | h
    · exact h
    · exfalso
      have a1 : 18446744073709551616 ^ j * (18446744073709551616 ^ (n + 1) * 1) ≤ val A := by
        rw [v1]
        refine Nat.le_trans (Nat.mul_le_mul_left _ ?_) (Nat.le_add_left ..)
        exact Nat.le_trans (Nat.mul_le_mul_left _ h) (Nat.le_add_left ..)
      have a2 : V * 18446744073709551616 ^ (j + 1) ≤ 18446744073709551616 ^ n * 18446744073709551616 ^ (j + 1) := Nat.mul_le_mul_right _ (Nat.le_of_lt hV)
      rw [Nat.mul_one, ← Nat.pow_add] at a1
      rw [← Nat.pow_add, show n + (j + 1) = j + (n + 1) by omega] at a2
      omega
  rw [hz, Nat.mul_zero, Nat.add_zero] at v1
  refine ⟨e1, l1, l2, fun x hx => hA x (List.mem_of_mem_drop (List.mem_of_mem_take hx)), v1, val_take_lt A j hA, ?_, hz, ?_⟩
  · refine Nat.lt_of_mul_lt_mul_left (a := 18446744073709551616 ^ j) ?_
    refine Nat.lt_of_le_of_lt (Nat.le_trans (Nat.le_add_left _ _) (Nat.le_of_eq v1.symm)) ?_
    rw [Nat.pow_succ, Nat.mul_comm (18446744073709551616 ^ j) 18446744073709551616, ← Nat.mul_assoc, Nat.mul_comm] at hlt
    exact hlt
  · intro k hk
    rw [List.getD_eq_getElem?_getD, List.getD_eq_getElem?_getD, List.getElem?_take_of_lt (by omega), List.getElem?_drop]
theorem top_three {U : List Nat} {m : Nat} (hU : WdL U) (hl : U.length = m + 3) : val U = val (U.take m) + 18446744073709551616 ^ m * ((U.getD (m + 2) 0 * 18446744073709551616 + U.getD (m + 1) 0) * 18446744073709551616 + U.getD m 0) ∧ val (U.take m) < 18446744073709551616 ^ m := by
  refine ⟨?_, val_take_lt U m hU⟩
  have h1 := val_take_next U m
  have h2 := val_take_next U (m + 1)
  have h3 := val_take_next U (m + 2)
  rw [val_take_all U _ (by omega)] at h3
  have p1 : 18446744073709551616 ^ (m + 1) = 18446744073709551616 ^ m * 18446744073709551616 := Nat.pow_succ ..
  have p2 : 18446744073709551616 ^ (m + 2) = 18446744073709551616 ^ m * 18446744073709551616 * 18446744073709551616 := by rw [Nat.pow_succ, Nat.pow_succ]
  rw [h3, h2, h1, p1, p2]
  clear h1 h2 h3 p1 p2
  generalize 18446744073709551616 ^ m = p at *
  grind
theorem top_two {U : List Nat} {m : Nat} (hU : WdL U) (hl : U.length = m + 2) : val U = val (U.take m) + 18446744073709551616 ^ m * (U.getD (m + 1) 0 * 18446744073709551616 + U.getD m 0) ∧ val (U.take m) < 18446744073709551616 ^ m := by
  refine ⟨?_, val_take_lt U m hU⟩
  have h1 := val_take_next U m
  have h2 := val_take_next U (m + 1)
  rw [val_take_all U _ (by omega)] at h2
  rw [h2, h1]
  rw [Nat.pow_succ]
  generalize 18446744073709551616 ^ m = p at *
  grind
theorem top_le {U D : List Nat} {m : Nat} (hU : WdL U) (hl : U.length = m + 3) (hD : WdL D) (hd : D.length = m + 2) (hlt : val U < val D * 18446744073709551616) : U.getD (m + 2) 0 ≤ D.getD (m + 1) 0 := by
  have h1 := val_take_next U (m + 2)
  rw [val_take_all U _ (by omega)] at h1
  have h2 := val_take_next D (m + 1)
  rw [val_take_all D _ (by omega)] at h2
  have h3 := val_take_lt D (m + 1) hD
  generalize U.getD (m + 2) 0 = x at *
  generalize D.getD (m + 1) 0 = y at *
  generalize val (D.take (m + 1)) = a at *
  generalize val (U.take (m + 2)) = b at *
  rw [Nat.pow_succ] at h1
  generalize 18446744073709551616 ^ (m + 1) = p at *
  have e1 : p * 18446744073709551616 * x < p * 18446744073709551616 * (y + 1) := by
    rw [h1, h2] at hlt
    have : (a + p * y) * 18446744073709551616 < p * 18446744073709551616 * (y + 1) := by
      have : (a + 1) * 18446744073709551616 ≤ p * 18446744073709551616 := Nat.mul_le_mul_right _ h3
      have e : p * 18446744073709551616 * (y + 1) = p * y * 18446744073709551616 + p * 18446744073709551616 := by rw [Nat.mul_add, Nat.mul_one, Nat.mul_right_comm]
      rw [e, Nat.add_mul]
      omega
    omega
  exact Nat.le_of_lt_succ (Nat.lt_of_mul_lt_mul_left e1)
theorem lt_succ_mul {t p x : Nat} (h : t < p) : t + p * x < (x + 1) * p := by rw [Nat.add_mul, Nat.one_mul, Nat.mul_comm p]; omega
/-- The guess at a row of digits. -/
theorem guess_row {U D : List Nat} {m q : Nat} (hU : WdL U) (hl : U.length = m + 3) (hD : WdL D) (hd : D.length = m + 2) (hlt : val U < val D * 18446744073709551616) (hb : 1 ≤ D.getD (m + 1) 0) (h : GRes (U.getD (m + 2) 0) (U.getD (m + 1) 0) (U.getD m 0) (D.getD (m + 1) 0) (D.getD m 0) q) :
    q = val U / val D ∨ q = val U / val D + 1 := by
  obtain ⟨u1, u2⟩ := top_three hU hl
  obtain ⟨d1, d2⟩ := top_two hD hd
  refine guess_near (P := 18446744073709551616 ^ m) (V2 := D.getD (m + 1) 0 * 18446744073709551616 + D.getD m 0) (U3 := (U.getD (m + 2) 0 * 18446744073709551616 + U.getD (m + 1) 0) * 18446744073709551616 + U.getD m 0) ?_ ?_ ?_ ?_ hlt (by omega) h.ql h.lo h.hi
  · rw [d1, Nat.mul_comm]; exact Nat.le_add_left ..
  · rw [d1]; exact lt_succ_mul d2
  · rw [u1, Nat.mul_comm]; exact Nat.le_add_left ..
  · rw [u1]; exact lt_succ_mul u2
theorem div_final {X Y s Q A : Nat} (h : X * 2 ^ s = Q * (Y * 2 ^ s) + A) (hA : A < Y * 2 ^ s) : Q = X / Y ∧ A / 2 ^ s = X % Y := by
  have p : 0 < 2 ^ s := Nat.pow_pos (by omega)
  have hY : 0 < Y := by
    rcases Nat.eq_zero_or_pos Y with h0 | h0
    · subst h0; rw [Nat.zero_mul] at hA; omega
    · exact h0
  have e1 : X * 2 ^ s / (Y * 2 ^ s) = Q := by
    rw [h, Nat.mul_comm Q, Nat.mul_add_div (Nat.mul_pos hY p), Nat.div_eq_of_lt hA, Nat.add_zero]
  rw [Nat.mul_div_mul_right _ _ p] at e1
  have e2 : X * 2 ^ s % (Y * 2 ^ s) = A := by
    rw [h, Nat.mul_comm Q, Nat.mul_add_mod, Nat.mod_eq_of_lt hA]
  rw [Nat.mul_mod_mul_right] at e2
  exact ⟨e1.symm, by rw [← e2, Nat.mul_div_cancel _ p]⟩
/-- Behind a round: what is left, and the quotient's digit. -/
theorem Win.next {A P U Z W : List Nat} {j n V a qd q : Nat} (h : Win A P U Z j n V) (hW : val W = val U % V) (hWl : W.length = n + 1) (hV : 0 < V) (hq : q = val U / V) (ha : a = qd * 18446744073709551616 ^ (j + 1) * V + val A) :
    a = (q + 18446744073709551616 * qd) * 18446744073709551616 ^ j * V + val (P ++ (W ++ Z)) ∧ val (P ++ (W ++ Z)) < V * 18446744073709551616 ^ j := by
  have e1 : val (P ++ (W ++ Z)) = val P + 18446744073709551616 ^ j * (val U % V) := by
    rw [val_append, val_append, h.z, h.lp, hW, Nat.mul_zero, Nat.add_zero]
  have hm := Nat.mod_lt (val U) hV
  refine ⟨?_, ?_⟩
  · rw [e1, hq]
    exact quo_step (j := j) rfl (by rw [ha, h.vl, Nat.pow_succ])
  · rw [e1]
    have := h.pl
    have h2 : 18446744073709551616 ^ j * (val U % V + 1) ≤ 18446744073709551616 ^ j * V := Nat.mul_le_mul_left _ hm
    rw [Nat.mul_add, Nat.mul_one, Nat.mul_comm _ V] at h2
    omega
end Go.Proofs.Ytlfdobjdlgebbaa
/-
  Contracts of the layer limbs: quotient and rest. Helpers; no statement of the program is proved here.
-/
set_option maxRecDepth 100000
set_option linter.unusedSimpArgs false
set_option linter.unusedVariables false
namespace Go.Proofs.Ytlfdobjdlgebbaa
open Go Go.Tw Go.RowKit
attribute [local irreducible] LoadAt StoreOk Stored rawVC

/-- What a rest by nought is. -/
def modN (x y : Nat) : Nat := if y = 0 then 0 else x % y
/-- What stands behind a round of DivMod: u's digits, q's digits. -/
structure DivI (X V s n M i : Nat) (A Q : List Nat) : Prop where
  la : A.length = M
  wa : WdL A
  lq : Q.length = M - n
  wq : WdL Q
  il : i ≤ M - n
  eq : X * 2 ^ s = val (Q.drop i) * 18446744073709551616 ^ i * V + val A
  lt : val A < V * 18446744073709551616 ^ i
theorem winSlice (g cap j n : Nat) (hj : j < cap) : Value.slice (subA (some ⟨g, 0, none⟩) cap j 1) (j + n + 1 - j) (cap - j) = .slice (some ⟨g, j, none⟩) (n + 1) (cap - j) := by
  have h1 : ¬ cap = j := by omega
  have h2 : j + n + 1 - j = n + 1 := by omega
  rw [h2]
  unfold subA
  rw [if_neg h1]
  simp [Addr.add]
  omega
theorem DivI.next {X V s n M j q : Nat} {A Q W : List Nat} (h : DivI X V s n M (j + 1) A Q) (hw : Win A (A.take j) ((A.drop j).take (n + 1)) (A.drop (j + n + 1)) j n V) (hV : 0 < V) (hq : q = val ((A.drop j).take (n + 1)) / V) (hW : val W = val ((A.drop j).take (n + 1)) % V) (hWl : W.length = n + 1) (hWw : WdL W) (hq64 : q < 18446744073709551616) (hjM : j + n + 1 ≤ M) :
    DivI X V s n M j (A.take j ++ (W ++ A.drop (j + n + 1))) (Q.set j q) := by
  have hla := h.la
  have hlq := h.lq
  have hil := h.il
  obtain ⟨h1, h2⟩ := hw.next hW hWl hV hq h.eq
  refine ⟨?_, ?_, by rw [List.length_set]; exact hlq, wd_set h.wq hq64, by omega, ?_, h2⟩
  · rw [List.length_append, List.length_append, hWl, List.length_take, List.length_drop]; omega
  · intro x hx
    rcases List.mem_append.1 hx with hx | hx
    · exact h.wa x (List.mem_of_mem_take hx)
    · rcases List.mem_append.1 hx with hx | hx
      · exact hWw x hx
      · exact h.wa x (List.mem_of_mem_drop hx)
  · rw [val_drop_set Q j q (by omega)]; exact h1
theorem subI (j : Nat) : ((j + 1 : Nat) : Int) - 1 = (j : Int) := by omega
theorem blkWin {w : World} {g t : Nat} {A P U Z : List Nat} {R : List Value} {j n V : Nat} (h : Blk w g t (wv A ++ R)) (hw : Win A P U Z j n V) : Blk w g t (wv (P ++ U) ++ (wv Z ++ R)) := by
  have e : wv A ++ R = wv (P ++ U) ++ (wv Z ++ R) := by
    have := hw.eq
    subst this
    simp only [wv_append, List.append_assoc]
  rw [← e]; exact h
theorem winBlk {w : World} {g t : Nat} {P U Z : List Nat} {R : List Value} (h : Blk w g t (wv (P ++ U) ++ (wv Z ++ R))) : Blk w g t (wv (P ++ (U ++ Z)) ++ R) := by
  simp only [wv_append, List.append_assoc] at h ⊢
  exact h
theorem getWords {w : World} {a : Option Addr} {n : Nat} {L : List Nat} (h : Words w a n L) {T : TT} {t j sz x : Nat} (hk : (known (tyAt T t) && !(tyAt T t).agg) = true) (hs : sz = 1) (hj : j < n) (hx : L.getD j 0 = x) : LoadAt T w t (addrAt a (j * sz)) (.int .u64 (x : Int)) := by
  have := h.load (T := T) (t := t) hk hs (h.getD hj)
  rw [hx] at this; exact this
theorem Ext.wr {a b c : World} {i : Nat} (h : Ext a b) (k : b.grownBy c (some i)) (hi : a.heap.size ≤ i) : Ext a c := Ext.grownB h k hi

theorem newsOne {w : World} {b t x : Nat} (h : Blk w b t (wv [x])) : ∀ (j : Nat) v, (wv [x])[j]? = some v → w.cell? (addrAt (some ⟨b, 0, none⟩) j) = some v := by
  intro j v hj
  have := h.cell (i := 0 + j) (v := v) (by rw [Nat.zero_add]; exact hj)
  exact this
theorem le_of_ile {a b : Nat} (h : (a : Int) ≤ (b : Int)) : a ≤ b := by omega
theorem app_small {a N : Nat} (h : a ≤ N) (hN : N ≤ 1099511627776) : (a + 1) * 8 ≤ 140737488355328 := by omega
theorem wd_snoc {A : List Nat} {x : Nat} (h : WdL A) (hx : x < 18446744073709551616) : WdL (A ++ [x]) := by
  intro z hz
  rcases List.mem_append.1 hz with hz | hz
  · exact h z hz
  · rw [List.mem_singleton] at hz; rw [hz]; exact hx
theorem own_row {w : World} {base e sz n : Nat} {v : Value} {xs : List Value} (h : w.ownsRow base e sz v n xs) : ∀ b, v.ownBlock = some b → base ≤ b := by
  intro b hb
  rcases h.2 with ⟨he, _⟩ | ⟨g, cap, cur, he, hg, _⟩
  · rw [he] at hb; simp [Value.ownBlock] at hb
  · rw [he] at hb; simp only [Value.ownBlock, Option.some.injEq] at hb; omega
theorem val_snoc0 {A : List Nat} {x : Nat} (h : val A = x) : val (A ++ [0]) = x := by
  rw [val_append]
  have e : val [0] = 0 := rfl
  rw [e, Nat.mul_zero, Nat.add_zero]; exact h
theorem snoc_le {A : List Nat} {N : Nat} (h : A.length ≤ N) : (A ++ [0]).length ≤ N + 1 := by rw [List.length_append]; exact Nat.succ_le_succ h
theorem snoc_lt {A : List Nat} {N : Nat} (h : A.length ≤ N) : N + 1 - (A ++ [0]).length < N + 1 - A.length := by rw [List.length_append, List.length_singleton]; omega
theorem len_done {A : List Nat} {N : Nat} (h : A.length ≤ N + 1) (h2 : ¬ (A.length : Int) ≤ (N : Int)) : A.length = N + 1 := by omega

structure Nrm (X V s m N : Nat) : Prop where
  v2 : V < 18446744073709551616 ^ (m + 2)
  v3 : X * 2 ^ s < V * 18446744073709551616 ^ (N - (m + 1))
theorem lenSub {A N m : Nat} (hA : A = N + 1) (h : m + 2 ≤ N) (hN : N ≤ 1099511627776) : ∃ K : Nat, K = N + 1 - (m + 2) ∧ K = N - (m + 1) ∧ ((K : Int) = (A : Int) - ((m + 2 : Nat) : Int) ∧ (-9223372036854775808 ≤ (A : Int) - ((m + 2 : Nat) : Int) ∧ (A : Int) - ((m + 2 : Nat) : Int) ≤ 9223372036854775807)) ∧ K * 8 ≤ 281474976710656 ∧ K ≤ 9223372036854775807 ∧
    ((K : Int) - 1 = (K : Int) - 1 ∧ (-9223372036854775808 ≤ (K : Int) - 1 ∧ (K : Int) - 1 ≤ 9223372036854775807)) :=
  ⟨N + 1 - (m + 2), rfl, by omega, by omega, by omega, by omega, by omega⟩
theorem DivI.first {X V s m N K : Nat} {A : List Nat} (hK1 : K = N + 1 - (m + 2)) (hK2 : K = N - (m + 1)) (hn : Nrm X V s m N) (hA : A.length = N + 1) (hw : WdL A) (hv : val A = X * 2 ^ s) : DivI X V s (m + 2) (N + 1) K A (List.replicate K 0) := by
  refine ⟨hA, hw, by rw [List.length_replicate, hK1], wd_replicate _, by omega, ?_, ?_⟩
  · rw [List.drop_of_length_le (by simp)]
    have e : val [] = 0 := rfl
    rw [e, Nat.zero_mul, Nat.zero_mul, Nat.zero_add, hv]
  · rw [hv, hK2]; exact hn.v3
theorem DivI.fin {X V s n M : Nat} {A Q : List Nat} (h : DivI X V s n M 0 A Q) : X * 2 ^ s = val Q * V + val A ∧ val A < V := by
  have h1 := h.eq
  have h2 := h.lt
  rw [List.drop_zero, Nat.pow_zero, Nat.mul_one] at h1
  rw [Nat.pow_zero, Nat.mul_one] at h2
  exact ⟨h1, h2⟩
theorem ixA (i j n : Nat) (h : (i : Int) - 1 = (j : Int)) (hb : j + n ≤ 4398046511104) : ((j + n : Nat) : Int) = ((i : Int) - 1) + (n : Int) ∧ (-9223372036854775808 ≤ ((i : Int) - 1) + (n : Int) ∧ ((i : Int) - 1) + (n : Int) ≤ 9223372036854775807) := by omega
theorem ixP (a : Nat) (hb : a ≤ 4398046511104) : ((a + 1 : Nat) : Int) = (a : Int) + 1 ∧ (-9223372036854775808 ≤ (a : Int) + 1 ∧ (a : Int) + 1 ≤ 9223372036854775807) := by omega
theorem ixS (a b k : Nat) (h : b + k = a) (hb : a ≤ 4398046511104) : (b : Int) = (a : Int) - (k : Int) ∧ (-9223372036854775808 ≤ (a : Int) - (k : Int) ∧ (a : Int) - (k : Int) ≤ 9223372036854775807) := by omega
theorem exists_pred {i : Nat} (h : (i : Int) - 1 ≥ 0) : ∃ j, i = j + 1 := ⟨i - 1, by omega⟩
theorem digit_one {q v U W M : Nat} (h : W + q * v = U + M) (hW : W < M) : 1 ≤ q := by
  rcases Nat.eq_zero_or_pos q with h0 | h0
  · subst h0; rw [Nat.zero_mul] at h; omega
  · exact h0
set_option maxHeartbeats 2000000 in
theorem DivMod_ok {w : World} {a a' : Option Addr} {n1 c1 n2 c2 : Nat} {L L' : List Nat} (h : Words w a n1 L) (hc : n1 ≤ c1) (hm : c1 ≤ 9223372036854775807) (hn : n1 ≤ 1099511627776) (h' : Words w a' n2 L') (hc' : n2 ≤ c2) (hm' : c2 ≤ 9223372036854775807) (hn' : n2 ≤ 1099511627776) :
    CallS Try.prog 119 #[.slice a n1 c1, .slice a' n2 c2] w fun v w' => Ext w w' ∧ ∃ q r, v = .tuple #[q, r] ∧ Sl w' q (dig (val L / val L')) ∧ Sl w' r (dig (modN (val L) (val L'))) := by
  have hX1 := h.trim
  have hX2 := h.trim_le
  have hY1 := h'.trim
  have hY2 := h'.trim_le
  refine enter ttOk mixed (args := [.slice a n1 c1, .slice a' n2 c2]) Try.func119 rfl (by kernel_rfl) (by kernel_rfl) rfl ?_
  refine CallS.mono (trimmed_ok h hc hm) ?_
  rintro _ w ⟨rfl, rfl⟩
  refine CallS.mono (trimmed_ok h' hc' hm') ?_
  rintro _ w ⟨rfl, rfl⟩
  generalize hX : val L = X at *
  generalize hY : val L' = Y at *
  generalize hN : (dig X).length = N at *
  generalize hD : (dig Y).length = D at *
  refine And.intro (fun h1 => ?_) (fun h1 => ?_)
  · have hY0 : Y = 0 := dig_nil.1 (List.eq_nil_of_length_eq_zero (by omega))
    have e1 : dig (X / Y) = [] := by rw [hY0, Nat.div_zero]; rfl
    have e2 : dig (modN X Y) = [] := by rw [modN, if_pos hY0]; rfl
    rw [e1, e2]
    exact ⟨Ext.rfl w, _, _, rfl, Sl.nil w, Sl.nil w⟩
  have hY0 : Y ≠ 0 := by intro h0; subst h0; rw [dig_zero] at hD; simp at hD; omega
  have eM : modN X Y = X % Y := if_neg hY0
  rw [eM]
  refine CallS.mono (Cmp_ok hX1 (by omega) hm hY1 (by omega) hm') ?_
  rintro _ w1 ⟨hx1, rfl⟩
  rw [val_dig, val_dig]
  refine And.intro (fun h2 => ?_) (fun h2 => ?_)
  · have hlt : X < Y := by
      unfold cmpN at h2
      split at h2
      · assumption
      · split at h2 <;> omega
    refine CallS.mono (clone_ok (hX1.ext hx1) (by omega)) ?_
    rintro v w2 ⟨hx2, hs2⟩
    rw [Nat.div_eq_of_lt hlt, Nat.mod_eq_of_lt hlt]
    exact ⟨Ext.trans' hx1 hx2, _, _, rfl, Sl.nil _, hs2⟩
  have hge : Y ≤ X := by
    unfold cmpN at h2
    split at h2
    · omega
    · omega
  refine And.intro (fun h3 => ?_) (fun h3 => ?_)
  · have hD1 : D = 1 := by omega
    have hYd : (dig Y).getD 0 0 = Y := by
      have := val_take_next (dig Y) 0
      rw [val_take_all _ 1 (by omega), val_dig] at this
      simp [val] at this
      simpa using this.symm
    have hYw : Y < 18446744073709551616 := by rw [← hYd]; exact getD_lt_wd (dig_wd Y) 0
    refine ⟨0, ⟨rfl, by omega, hY1.base (by omega)⟩, _, getWords (hY1.ext hx1) rfl rfl (by omega) hYd, ?_⟩
    refine CallS.mono (byDigit_ok (hX1.ext hx1) (by omega) (by omega) hYw) ?_
    rintro _ w2 ⟨hx2, q, r, rfl, hq, hr⟩
    rw [val_dig] at hq hr
    exact ⟨Ext.trans' hx1 hx2, _, _, rfl, hq, hr⟩
  have hN40 : N ≤ 1099511627776 := by omega
  obtain ⟨m, rfl⟩ : ∃ m, D = m + 2 := ⟨D - 2, by omega⟩
  have hND : m + 2 ≤ N := by rw [← hN, ← hD]; exact dig_len_mono hge
  have hTw := getD_lt_wd (dig_wd Y) (m + 1)
  refine ⟨((m + 1 : Nat) : Int), by omega, m + 1, ⟨rfl, by omega, hY1.base (by omega)⟩, _, getWords (hY1.ext hx1) rfl rfl (by omega) rfl, ?_⟩
  refine CallS.mono (lead64 _ hTw w1) ?_
  rintro _ w1 ⟨rfl, k, rfl, hB, hk⟩
  obtain ⟨hk1, hV1, hV2⟩ := norm_shift hD hB hk
  have hV3 := first_lt (n := m + 1) (Nat.lt_of_lt_of_le (dig_lt X) (Nat.le_of_eq (by rw [hN]))) hk1 hV1 (by omega)
  have hVl := dig_len_eq (Nat.le_trans (Nat.le_mul_of_pos_left _ (by omega)) hV1) hV2
  generalize hs : 64 - k = s at *
  have hs63 : s ≤ 63 := by omega
  generalize hV : Y * 2 ^ s = V at *
  have hVpos : 0 < V := Nat.lt_of_lt_of_le (Nat.mul_pos (by omega) (Nat.pow_pos (by omega))) hV1
  have hnrm : Nrm X V s m N := ⟨hV2, hV3⟩
  clear hV1 hV2 hV3
  have hYs := Shl_own (s := s) (hY1.ext hx1) (by omega) hm' (by omega) hs63
  rw [val_dig, hV, hVl] at hYs
  refine CallS.mono hYs ?_
  rintro v w2 ⟨hx2, hov⟩
  obtain ⟨gv, capv, Rv, rfl, hgv, hBv, hnv, hcv, _⟩ := owns_blk hov (by omega)
  have hWv2 := Words.blkR hBv (dig_wd V)
  rw [hVl] at hWv2
  have hgv2 := hBv.lt
  have hx12 := Ext.trans' hx1 hx2
  have hXs := Shl_own (s := s) (hX1.ext hx12) (by omega) hm (by omega) hs63
  rw [val_dig] at hXs
  refine CallS.mono hXs ?_
  rintro u w3 ⟨hx3, hou⟩
  have hUl : (dig (X * 2 ^ s)).length ≤ N + 1 := by
    refine dig_len_le _ _ ?_
    rw [Nat.pow_succ]
    have e1 : X < 18446744073709551616 ^ N := Nat.lt_of_lt_of_le (dig_lt X) (Nat.le_of_eq (by rw [hN]))
    have e2 : 2 ^ s ≤ 2 ^ 63 := Nat.pow_le_pow_right (by omega) hs63
    exact Nat.lt_of_lt_of_le (Nat.mul_lt_mul_of_pos_right e1 (Nat.pow_pos (by omega))) (Nat.mul_le_mul_left _ (Nat.le_trans e2 (by omega)))
  have hx13 := Ext.trans' hx12 hx3
  have hWv3 := hWv2.ext hx3
  refine (owns_lt hou (dig_wd _)).elim fun au0 d => d.elim fun cu0 d => ?_
  rw [d.1] at hou
  refine ⟨Option Addr × Nat × List Nat, fun x => [(0, .slice a N c1), (6, .int .i64 (s : Int)), (7, .slice (some ⟨gv, 0, none⟩) (m + 2) capv), (8, .slice x.1 x.2.2.length x.2.1)],
    fun x w' => Ext w2 w' ∧ w'.ownsRow w2.heap.size 88 1 (.slice x.1 x.2.2.length x.2.1) x.2.2.length (wv x.2.2) ∧ WdL x.2.2 ∧ val x.2.2 = X * 2 ^ s ∧ x.2.2.length ≤ N + 1, fun x _ => N + 1 - x.2.2.length,
    ⟨(au0, cu0, dig (X * 2 ^ s)), ⟨rfl, rfl, rfl, congrArg some d.1, trivial⟩, hx3, hou, dig_wd _, val_dig _, hUl⟩, ?_⟩
  rintro ⟨au, cu, A⟩ w4 ⟨hx4, hou4, hAw, hAv, hAl⟩
  dsimp only at *
  refine And.intro (fun h4 => ?_) (fun h4 => ?_)
  · intro b5 w5 hb5
    have hb5 : New w4 w5 b5 88 (wv [0]) := hb5
    have ho5 := owns_ext hou4 hb5.ext
    have hAN : A.length ≤ N := le_of_ile h4
    refine ⟨rfl, w2.heap.size, A.length, wv A, wv [0], ⟨ho5, rfl, newsOne hb5.toBlk, wv_one _, fun _ => ⟨_, rfl, rfl⟩, by omega, app_small hAN hN40, Nat.le_trans hx4.size hb5.ext.size⟩, ?_⟩
    intro v6 w6 ho6 hg6 _
    rw [← wv_append] at ho6
    have hwd6 := wd_snoc hAw (show 0 < 18446744073709551616 by omega)
    have hx6 : Ext w2 w6 := Ext.grown (Ext.trans' hx4 hb5.ext) hg6 (own_row hou4)
    have hl6 : (A ++ [0]).length = A.length + 1 := List.length_append
    refine (owns_lt ho6 hwd6).elim fun a6 d => d.elim fun c6 d => ?_
    rw [d.1, ← hl6] at ho6
    refine ⟨(a6, c6, A ++ [0]), ⟨rfl, rfl, rfl, congrArg some (d.1.trans (by rw [hl6])), trivial⟩, ⟨hx6, ho6, hwd6, val_snoc0 hAv, snoc_le hAN⟩, snoc_lt hAN⟩
  · have hAN := len_done hAl h4
    have hA0 : 0 < A.length := by rw [hAN]; omega
    refine (owns_blk hou4 hA0).elim fun gu d => d.elim fun capu d => d.elim fun Ru d => ?_
    have hBu := d.2.2.1
    have hgu := d.2.1
    have hcapu := d.2.2.2.1
    have hcapm := d.2.2.2.2.1
    have hsl : Value.slice au A.length cu = .slice (some ⟨gu, 0, none⟩) (N + 1) capu := d.1.trans (by rw [hAN])
    rw [hAN] at hcapu
    clear d hou4
    refine (lenSub hAN hND hN40).elim fun K hK => ?_
    refine ⟨(K : Int), hK.2.2.1, K, K, ⟨rfl, rfl, Nat.le_refl _, hK.2.2.2.1, hK.2.2.2.2.1⟩, ?_⟩
    intro gq w5 hq5
    have hBq5 : Blk w5 gq 88 (wv (List.replicate K 0)) := by rw [← rep_zero]; exact hq5.toBlk
    have hgq4 : w4.heap.size ≤ gq := Nat.le_of_eq hq5.isNew.symm
    have hgq2 : w2.heap.size ≤ gq := Nat.le_trans hx4.size hgq4
    have hne2 : gu ≠ gq := fun e => absurd hBu.lt (by rw [e]; exact Nat.not_lt.2 hgq4)
    have hne3 : Tw.blk (some ⟨gv, 0, none⟩) ≠ gq := Nat.ne_of_lt (Nat.lt_of_lt_of_le hgv2 hgq2)
    have hne1 : Tw.blk (some ⟨gv, 0, none⟩) ≠ gu := Nat.ne_of_lt (Nat.lt_of_lt_of_le hgv2 hgu)
    have hx5 := Ext.trans' hx4 hq5.ext
    refine ⟨(K : Int), hK.2.2.1, (K : Int) - 1, hK.2.2.2.2.2, ?_⟩
    have hI0 := DivI.first hK.1 hK.2.1 hnrm hAN hAw hAv
    refine ⟨Nat × List Nat × List Nat, fun x => [(6, .int .i64 (s : Int)), (7, .slice (some ⟨gv, 0, none⟩) (m + 2) capv), (8, .slice (some ⟨gu, 0, none⟩) (N + 1) capu), (9, .int .i64 ((m + 2 : Nat) : Int)), (10, .slice (some ⟨gq, 0, none⟩) K K), (11, .int .i64 ((x.1 : Int) - 1))],
      fun x w' => Ext w2 w' ∧ Blk w' gu 88 (wv x.2.1 ++ Ru) ∧ Blk w' gq 88 (wv x.2.2) ∧ Words w' (some ⟨gv, 0, none⟩) (m + 2) (dig V) ∧ DivI X V s (m + 2) (N + 1) x.1 x.2.1 x.2.2, fun x _ => x.1,
      ⟨(K, A, List.replicate K 0), ⟨rfl, rfl, congrArg some hsl, rfl, rfl, rfl, trivial⟩, hx5, hBu.ext hq5.ext, hBq5, hWv2.ext hx5, hI0⟩, ?_⟩
    clear hI0 hBu hBq5 hAw hAv hAl hAN hA0 hsl h4
    rintro ⟨i, A, Q⟩ w6 ⟨hx6, hBu, hBq, hWv6, hI⟩
    dsimp only at *
    refine And.intro (fun h6 => ?_) (fun h6 => ?_)
    · refine (exists_pred h6).elim fun j hj => ?_
      rw [hj] at hI
      have hij : (i : Int) - 1 = (j : Int) := by omega
      have hil := hI.il
      have hjM : j + (m + 2) + 1 ≤ N + 1 := by omega
      have hw := Win.make (V := V) hI.la hI.wa hjM hnrm.v2 hI.lt
      have hWA := Words.blkR hBu hI.wa
      rw [hI.la] at hWA
      have g0 := hw.get (m + 2) (by omega)
      have g1 := hw.get (m + 1) (by omega)
      have g2 := hw.get m (by omega)
      have htop := top_le (m := m) hw.wu hw.lu (dig_wd V) hVl (by rw [val_dig]; exact hw.ul)
      have hD1 : 1 ≤ (dig V).getD (m + 1) 0 := by
        have hV0 : V ≠ 0 := by omega
        have := dig_top hV0
        rw [hVl, Nat.add_sub_cancel] at this
        omega
      have w0 := getD_lt_wd (dig_wd V) (m + 1)
      have w1' := getD_lt_wd (dig_wd V) m
      have w2' := getD_lt_wd hw.wu (m + 2)
      have w3' := getD_lt_wd hw.wu (m + 1)
      have w4' := getD_lt_wd hw.wu m
      have b2 : j + (m + 2) < N + 1 := by omega
      have b1 : j + (m + 1) < N + 1 := by omega
      have b0 : j + m < N + 1 := by omega
      have i2 := ixA i j (m + 2) hij (by omega)
      have i1 := ixS (j + (m + 2)) (j + (m + 1)) 1 rfl (by omega)
      have i0 := ixS (j + (m + 2)) (j + m) 2 rfl (by omega)
      have k1 := ixS (m + 2) (m + 1) 1 rfl (by omega)
      have k0 := ixS (m + 2) m 2 rfl (by omega)
      have c1 : m + 1 < m + 2 := Nat.lt_succ_self _
      have c0 : m < m + 2 := Nat.lt_succ_of_lt (Nat.lt_succ_self _)
      refine ⟨sq 32, by kernel_rfl, ((j + (m + 2) : Nat) : Int), i2, j + (m + 2), ⟨rfl, b2, ⟨_, rfl, rfl⟩⟩, _, getWords hWA rfl rfl b2 g0.symm, ?_⟩
      refine ⟨((j + (m + 2) : Nat) : Int), i2, ((j + (m + 1) : Nat) : Int), i1, j + (m + 1), ⟨rfl, b1, ⟨_, rfl, rfl⟩⟩, _, getWords hWA rfl rfl b1 g1.symm, ?_⟩
      refine ⟨((j + (m + 2) : Nat) : Int), i2, ((j + m : Nat) : Int), i0, j + m, ⟨rfl, b0, ⟨_, rfl, rfl⟩⟩, _, getWords hWA rfl rfl b0 g2.symm, ?_⟩
      refine ⟨((m + 1 : Nat) : Int), k1, m + 1, ⟨rfl, c1, ⟨_, rfl, rfl⟩⟩, _, getWords hWv6 rfl rfl c1 rfl, ?_⟩
      refine ⟨((m : Nat) : Int), k0, m, ⟨rfl, c0, ⟨_, rfl, rfl⟩⟩, _, getWords hWv6 rfl rfl c0 rfl, ?_⟩
      refine ⟨fun v _ => ∃ q : Nat, v = .int .u64 (q : Int) ∧ GRes (((A.drop j).take (m + 2 + 1)).getD (m + 2) 0) (((A.drop j).take (m + 2 + 1)).getD (m + 1) 0) (((A.drop j).take (m + 2 + 1)).getD m 0) ((dig V).getD (m + 1) 0) ((dig V).getD m 0) q, fun v w w' h _ => h, fun w' _ _ => guess_ok _ _ _ _ _ htop w3' w4' w0 w1' w', ?_⟩
      intro v hsat
      obtain ⟨_, _, ⟨q, rfl, hG⟩, _⟩ := hsat
      have hnear := guess_row (m := m) hw.wu hw.lu (dig_wd V) hVl (by rw [val_dig]; exact hw.ul) hD1 hG
      rw [val_dig] at hnear
      intro w7 hx7 _
      have hjc : j < capu := by omega
      have i3 := ixP (j + (m + 2)) (by omega)
      have l3 : j ≤ j + (m + 2) + 1 := by omega
      have l4 : j + (m + 2) + 1 ≤ capu := by omega
      have m3 : m + 2 ≤ 4398046511104 := by omega
      refine ⟨((j + (m + 2) : Nat) : Int), i2, ((j + (m + 2) + 1 : Nat) : Int), i3, j, j + (m + 2) + 1, ⟨hij, rfl, l3, l4⟩, ?_⟩
      have hT := take_ok (c := capu - j) (cv := capv) (d := q) (blkWin (hBu.ext hx7) hw) hw.lp hw.lu hw.wu (hWv6.ext hx7) (fun _ => hne1) hG.ql m3
      rw [← winSlice gu capu j (m + 2) hjc, val_dig] at hT
      refine CallS.mono hT ?_
      rintro v8 w8 ⟨hg8, W, hWl, hWw, hB8, hcase⟩
      have hx8 := Ext.wr (Ext.trans' hx6 hx7) hg8 hgu
      have hBq8 := Blk.grown (hBq.ext hx7) hg8 (by intro e; exact hne2 (Option.some.inj e).symm)
      have hWv8 := (hWv6.ext hx7).far hg8 (fun _ => hne1)
      rcases hcase with ⟨rfl, hval⟩ | ⟨rfl, hval⟩
      · have hR := digit_right hVpos hval hnear
        have hnx := hI.next hw hVpos hR.1 hR.2 hWl hWw hG.ql hjM
        have hBq3 := hBq8
        have hjQ : j < Q.length := by have := hI.lq; omega
        refine ⟨j, ⟨hij, by omega, ⟨_, rfl, rfl⟩⟩, storeWord rfl rfl hBq3 hjQ, ?_⟩
        intro w9 hs9
        have hS := storedWord hs9 rfl hBq3
        refine ⟨(j : Int) - 1, by omega, (j, A.take j ++ (W ++ A.drop (j + (m + 2) + 1)), Q.set j (q)), ⟨rfl, rfl, rfl, rfl, rfl, rfl, trivial⟩, ⟨Ext.wr hx8 hS.2.1 hgq2, Blk.grown (winBlk hB8) hS.2.1 (by intro e; exact hne2 (Option.some.inj e)), hS.1, Words.far (hWv8) hS.2.1 (fun _ => hne3), hnx⟩, by rw [hj]; exact Nat.lt_succ_self j⟩
      · have hWM := val_lt W hWw
        rw [hWl] at hWM
        have hq1 := digit_one hval hWM
        refine ⟨((q - 1 : Nat) : Int), subOne hq1 hG.ql, ?_⟩
        refine ⟨((j + (m + 2) : Nat) : Int), i2, ((j + (m + 2) + 1 : Nat) : Int), i3, j, j + (m + 2) + 1, ⟨hij, rfl, l3, l4⟩, ?_⟩
        have hT2 := giveBack_ok (c := capu - j) (cv := capv) hB8 hw.lp hWl hWw hWv8 (fun _ => hne1) m3
        rw [← winSlice gu capu j (m + 2) hjc, val_dig] at hT2
        refine CallS.mono hT2 ?_
        rintro v9 w10 ⟨hg9, W2, k9, hWl2, hWw2, hB9, hval2⟩
        have hx9 := Ext.wr hx8 hg9 hgu
        have hBq9 := Blk.grown hBq8 hg9 (by intro e; exact hne2 (Option.some.inj e).symm)
        have hWv9 := hWv8.far hg9 (fun _ => hne1)
        have hWM2 := val_lt W2 hWw2
        rw [hWl2] at hWM2
        have hUM := val_lt _ hw.wu
        rw [hw.lu] at hUM
        have hVM : V ≤ 18446744073709551616 ^ (m + 2 + 1) := Nat.le_trans (Nat.le_of_lt hnrm.v2) (Nat.pow_le_pow_right (Nat.zero_lt_succ _) (Nat.le_succ _))
        have hR := digit_less hVpos hVM hUM hval hWM hval2 hWM2 hnear
        have hnx := hI.next hw hVpos hR.2.1 hR.2.2 hWl2 hWw2 (Nat.lt_of_le_of_lt (Nat.sub_le _ _) hG.ql) hjM
        have hBq3 := hBq9
        have hjQ : j < Q.length := by have := hI.lq; omega
        refine ⟨j, ⟨hij, by omega, ⟨_, rfl, rfl⟩⟩, storeWord rfl rfl hBq3 hjQ, ?_⟩
        intro w9 hs9
        have hS := storedWord hs9 rfl hBq3
        refine ⟨(j : Int) - 1, by omega, (j, A.take j ++ (W2 ++ A.drop (j + (m + 2) + 1)), Q.set j (q - 1)), ⟨rfl, rfl, rfl, rfl, rfl, rfl, trivial⟩, ⟨Ext.wr hx9 hS.2.1 hgq2, Blk.grown (winBlk hB9) hS.2.1 (by intro e; exact hne2 (Option.some.inj e)), hS.1, Words.far (hWv9) hS.2.1 (fun _ => hne3), hnx⟩, by rw [hj]; exact Nat.lt_succ_self j⟩
    · have hi0 : i = 0 := by omega
      rw [hi0] at hI
      have hfin := hI.fin
      have hWQ := Words.blkAll hBq hI.wq
      rw [hI.lq, ← hK.1] at hWQ
      have hWA := Words.blkR hBu hI.wa
      rw [hI.la] at hWA
      refine CallS.mono (trimmed_ok hWQ (Nat.le_refl _) hK.2.2.2.2.1) ?_
      rintro _ w7 ⟨rfl, rfl⟩
      refine CallS.mono (Shr_ok hWA hcapu hcapm (Nat.le_trans (Nat.succ_le_succ hN40) (by omega)) hs63) ?_
      rintro r w8 ⟨hx8, hr⟩
      rw [← hV] at hfin
      have hdf := div_final hfin.1 hfin.2
      rw [hdf.2] at hr
      have ht9 := (hWQ.ext hx8).trim
      have hl9 := hWQ.trim_le
      rw [hdf.1] at ht9 hl9 ⊢
      exact ⟨Ext.trans' hx12 (Ext.trans' hx6 hx8), _, _, rfl, ⟨_, _, _, rfl, ht9, hl9, hK.2.2.2.2.1⟩, hr⟩
end Go.Proofs.Ytlfdobjdlgebbaa
/-
  Contracts of the layer limbs: the greatest that divides both. Helpers; no statement of the program is proved here.
-/
set_option maxRecDepth 100000
set_option linter.unusedSimpArgs false
set_option linter.unusedVariables false
namespace Go.Proofs.Ytlfdobjdlgebbaa
open Go Go.Tw Go.RowKit
attribute [local irreducible] LoadAt StoreOk Stored rawVC

/-- A slice of just the digits of x. -/
structure DigAt (w : World) (a : Option Addr) (c x : Nat) : Prop where
  words : Words w a (dig x).length (dig x)
  nc : (dig x).length ≤ c
  cm : c ≤ 9223372036854775807
  n40 : (dig x).length ≤ 1099511627776
theorem DigAt.ext {w w' : World} {a : Option Addr} {c x : Nat} (h : DigAt w a c x) (k : Ext w w') : DigAt w' a c x := ⟨h.words.ext k, h.nc, h.cm, h.n40⟩
theorem Sl.digAt {w : World} {v : Value} {x : Nat} (h : Sl w v (dig x)) (hn : (dig x).length ≤ 1099511627776) : ∃ a c, v = .slice a (dig x).length c ∧ DigAt w a c x := by
  obtain ⟨a, n, c, rfl, hw, h1, h2⟩ := h
  have := hw.len
  subst this
  exact ⟨a, c, rfl, hw, h1, h2, hn⟩
theorem pos_of_len {y : Nat} (h : ((dig y).length : Int) > 0) : 0 < y := by
  rcases Nat.eq_zero_or_pos y with h0 | h0
  · subst h0; simp [dig_zero] at h
  · exact h0
theorem zero_of_len {y : Nat} (h : ¬ ((dig y).length : Int) > 0) : y = 0 := dig_nil.1 (List.eq_nil_of_length_eq_zero (by omega))
theorem Gcd_ok {w : World} {a a' : Option Addr} {n1 c1 n2 c2 : Nat} {L L' : List Nat} (h : Words w a n1 L) (hc : n1 ≤ c1) (hm : c1 ≤ 9223372036854775807) (hn : n1 ≤ 1099511627776) (h' : Words w a' n2 L') (hc' : n2 ≤ c2) (hm' : c2 ≤ 9223372036854775807) (hn' : n2 ≤ 1099511627776) :
    CallS Try.prog 132 #[.slice a n1 c1, .slice a' n2 c2] w fun v w' => Ext w w' ∧ Sl w' v (dig (Nat.gcd (val L) (val L'))) := by
  have hX2 := h.trim_le
  have hY2 := h'.trim_le
  have hX : DigAt w a c1 (val L) := ⟨h.trim, by omega, hm, by omega⟩
  have hY : DigAt w a' c2 (val L') := ⟨h'.trim, by omega, hm', by omega⟩
  clear hX2 hY2
  refine enter ttOk mixed (args := [.slice a n1 c1, .slice a' n2 c2]) Try.func132 rfl (by kernel_rfl) (by kernel_rfl) rfl ?_
  refine CallS.mono (trimmed_ok h hc hm) ?_
  rintro _ w ⟨rfl, rfl⟩
  refine CallS.mono (trimmed_ok h' hc' hm') ?_
  rintro _ w ⟨rfl, rfl⟩
  generalize val L = X at *
  generalize val L' = Y at *
  refine ⟨Option Addr × Nat × Nat × Option Addr × Nat × Nat, fun x => [(0, .slice x.1 (dig x.2.2.1).length x.2.1), (1, .slice x.2.2.2.1 (dig x.2.2.2.2.2).length x.2.2.2.2.1)],
    fun x w' => Ext w w' ∧ DigAt w' x.1 x.2.1 x.2.2.1 ∧ DigAt w' x.2.2.2.1 x.2.2.2.2.1 x.2.2.2.2.2 ∧ Nat.gcd x.2.2.1 x.2.2.2.2.2 = Nat.gcd X Y, fun x _ => x.2.2.2.2.2,
    ⟨(a, c1, X, a', c2, Y), ⟨rfl, rfl, trivial⟩, Ext.rfl w, hX, hY, rfl⟩, ?_⟩
  rintro ⟨a1, c1, x, a2, c2, y⟩ w2 ⟨hx2, h1, h2, hg⟩
  dsimp only at *
  refine And.intro (fun h3 => ?_) (fun h3 => ?_)
  · have hy := pos_of_len h3
    have hlt := Nat.mod_lt x hy
    have hD := DivMod_ok h1.words h1.nc h1.cm h1.n40 h2.words h2.nc h2.cm h2.n40
    rw [val_dig, val_dig] at hD
    have e : modN x y = x % y := if_neg (by omega)
    rw [e] at hD
    refine CallS.mono hD ?_
    rintro _ w3 ⟨hx3, q, r, rfl, hq, hr⟩
    refine (Sl.digAt hr (Nat.le_trans (dig_len_mono (Nat.le_of_lt hlt)) h2.n40)).elim fun a3 d => d.elim fun c3 d => ?_
    exact ⟨(a2, c2, y, a3, c3, x % y), ⟨rfl, congrArg some d.1, trivial⟩, ⟨Ext.trans' hx2 hx3, h2.ext hx3, d.2, by rw [← hg]; show Nat.gcd y (x % y) = _; rw [Nat.gcd_comm x y, Nat.gcd_rec y x, Nat.gcd_comm y]⟩, hlt⟩
  · have hy := zero_of_len h3
    rw [hy, Nat.gcd_zero_right] at hg
    refine CallS.mono (clone_ok h1.words (by have := h1.n40; omega)) ?_
    rintro v w3 ⟨hx3, hs⟩
    exact ⟨Ext.trans' hx2 hx3, by rw [← hg]; exact hs⟩
end Go.Proofs.Ytlfdobjdlgebbaa
/-
  Plain numbers: fractions in their one form, how great their parts are, signs. No program in sight; helpers.
-/
set_option maxRecDepth 100000
set_option linter.unusedSimpArgs false
set_option linter.unusedVariables false
namespace Go.Tw

/-- A sign and a size. -/
def sgnZ (b : Bool) (n : Nat) : Int := bif b then -(n : Int) else (n : Int)
theorem sgnZ_abs (b : Bool) (n : Nat) : (sgnZ b n).natAbs = n := by cases b <;> simp [sgnZ]
theorem sgnZ_self (z : Int) : sgnZ (decide (z < 0)) z.natAbs = z := by
  by_cases h : z < 0 <;> simp [sgnZ, h] <;> omega
theorem sgnZ_neg (b : Bool) (n : Nat) : sgnZ (!b) n = - sgnZ b n := by cases b <;> simp [sgnZ]
theorem sgnZ_lt (b : Bool) (n : Nat) : decide (sgnZ b n < 0) = (b && decide (0 < n)) := by
  cases b
  · simp [sgnZ]; exact decide_eq_false (by omega)
  · simp [sgnZ]
theorem sgnZ_false (n : Nat) : sgnZ false n = n := rfl
theorem sgnZ_mul (a b : Bool) (m n : Nat) : sgnZ a m * sgnZ b n = sgnZ (a != b) (m * n) := by
  cases a <;> cases b <;> simp [sgnZ, Int.neg_mul, Int.mul_neg]
theorem sgnZ_add (a : Bool) (m n : Nat) : sgnZ a m + sgnZ a n = sgnZ a (m + n) := by
  cases a <;> simp [sgnZ] <;> omega
/-- Below 0, 0, above. -/
def sgI (z : Int) : Int := if z < 0 then -1 else if 0 < z then 1 else 0
def sgQ (q : Rat) : Int := if q < 0 then -1 else if 0 < q then 1 else 0
def cmpZ (x y : Int) : Int := if x < y then -1 else if y < x then 1 else 0

/-- At most k digits. -/
def Fit (k : Nat) (z : Int) : Prop := (dig z.natAbs).length ≤ k
theorem Fit_iff {k : Nat} {z : Int} : Fit k z ↔ z.natAbs < 18446744073709551616 ^ k :=
  ⟨fun h => Nat.lt_of_lt_of_le (dig_lt _) (Nat.pow_le_pow_right (by omega) h), fun h => dig_len_le _ _ h⟩
theorem pow_ge1 (k : Nat) : 1 ≤ 18446744073709551616 ^ k := Nat.pow_pos (by omega)
theorem Fit.mono {j k : Nat} {z : Int} (h : Fit j z) (hk : j ≤ k) : Fit k z := Nat.le_trans h hk
theorem Fit.len {k : Nat} {z : Int} (h : Fit k z) : (dig z.natAbs).length ≤ k := h
theorem Fit.mul {j k : Nat} {x y : Int} (h : Fit j x) (h' : Fit k y) : Fit (j + k) (x * y) := by
  rw [Fit_iff] at *
  rw [Int.natAbs_mul, Nat.pow_add]
  exact Nat.mul_lt_mul'' h h'
theorem Fit.add {j k : Nat} {x y : Int} (h : Fit j x) (h' : Fit k y) : Fit (max j k + 1) (x + y) := by
  have h1 := h.mono (Nat.le_max_left j k)
  have h2 := h'.mono (Nat.le_max_right j k)
  rw [Fit_iff] at *
  rw [Nat.pow_succ]
  have := Int.natAbs_add_le x y
  omega
theorem Fit.neg {k : Nat} {x : Int} (h : Fit k x) : Fit k (-x) := by unfold Fit at *; rwa [Int.natAbs_neg]
theorem Fit.zero (k : Nat) : Fit k 0 := Nat.zero_le k
theorem Fit.one : Fit 1 1 := by rw [Fit_iff]; decide
theorem Fit.le {k : Nat} {x y : Int} (h : Fit k y) (hl : x.natAbs ≤ y.natAbs) : Fit k x := Nat.le_trans (dig_len_mono hl) h
theorem Fit.div {k : Nat} {x y : Int} (h : Fit k x) : Fit k (x / y) := Fit.le h (Int.natAbs_ediv_le_natAbs x y)

/-- A fraction both of whose parts have at most k digits. -/
structure FitQ (k : Nat) (q : Rat) : Prop where
  num : Fit k q.num
  den : Fit k (q.den : Int)
theorem FitQ.mono {j k : Nat} {q : Rat} (h : FitQ j q) (hk : j ≤ k) : FitQ k q := ⟨h.num.mono hk, h.den.mono hk⟩

theorem make_num (n d : Int) (hd : d ≠ 0) : (Rat.divInt n d).num = n / ((Int.gcd n d : Int) * d.sign) := by
  rw [Rat.num_divInt, Int.gcd_comm d n]
  rcases Int.lt_or_lt_of_ne hd with h | h
  · rw [Int.sign_eq_neg_one_of_neg h, Int.mul_neg, Int.mul_one, Int.ediv_neg, Int.neg_mul, Int.one_mul, Int.neg_ediv_of_dvd (Int.gcd_dvd_left ..)]
  · rw [Int.sign_eq_one_of_pos h, Int.mul_one, Int.one_mul]
theorem make_den (n d : Int) (hd : d ≠ 0) : ((Rat.divInt n d).den : Int) = d / ((Int.gcd n d : Int) * d.sign) := by
  rw [Rat.den_divInt, if_neg hd, Int.gcd_comm d n]
  rcases Int.lt_or_lt_of_ne hd with h | h
  · rw [Int.sign_eq_neg_one_of_neg h, Int.mul_neg, Int.mul_one, Int.ediv_neg]
    obtain ⟨m, hm⟩ : ∃ m : Nat, d = -(m : Int) := ⟨d.natAbs, by omega⟩
    subst hm
    rw [Int.natAbs_neg, Int.natAbs_natCast, Int.natCast_ediv]
    rw [← Int.neg_ediv_of_dvd (Int.gcd_dvd_right ..), Int.neg_neg]
  · rw [Int.sign_eq_one_of_pos h, Int.mul_one]
    obtain ⟨m, hm⟩ : ∃ m : Nat, d = (m : Int) := ⟨d.natAbs, by omega⟩
    subst hm
    rw [Int.natAbs_natCast, Int.natCast_ediv]
theorem divInt_le_num (n d : Int) (hd : d ≠ 0) : (Rat.divInt n d).num.natAbs ≤ n.natAbs := by
  rw [make_num n d hd]; exact Int.natAbs_ediv_le_natAbs _ _
theorem divInt_le_den (n d : Int) (hd : d ≠ 0) : (Rat.divInt n d).den ≤ d.natAbs := by
  have := make_den n d hd
  have h := Int.natAbs_ediv_le_natAbs d ((Int.gcd n d : Int) * d.sign)
  rw [← this] at h; simpa using h
theorem FitQ.make {k : Nat} {n d : Int} (hn : Fit k n) (hd : Fit k d) (h1 : 1 ≤ k) : FitQ k (Rat.divInt n d) := by
  by_cases h : d = 0
  · subst h
    rw [Rat.divInt_zero]
    exact ⟨Fit.zero k, Fit.one.mono h1⟩
  · exact ⟨hn.le (divInt_le_num n d h), hd.le (by simpa using divInt_le_den n d h)⟩

theorem FitQ.mul {j k : Nat} {p q : Rat} (h : FitQ j p) (h' : FitQ k q) (h1 : 1 ≤ j + k) : FitQ (j + k) (p * q) := by
  have e : p * q = Rat.divInt (p.num * q.num) ((p.den : Int) * q.den) := by
    rw [← Rat.divInt_mul_divInt, Rat.num_divInt_den, Rat.num_divInt_den]
  rw [e]
  exact FitQ.make (Fit.mul h.num h'.num) (Fit.mul h.den h'.den) h1
theorem FitQ.add {j k : Nat} {p q : Rat} (h : FitQ j p) (h' : FitQ k q) : FitQ (j + k + 1) (p + q) := by
  have e : p + q = Rat.divInt (p.num * q.den + q.num * p.den) ((p.den : Int) * q.den) := by
    rw [← Int.natCast_mul]; exact Rat.add_def' p q
  rw [e]
  refine FitQ.make ?_ ((Fit.mul h.den h'.den).mono (by omega)) (by omega)
  exact (Fit.add (Fit.mul h.num h'.den) (Fit.mul h'.num h.den)).mono (by omega)
theorem FitQ.neg {k : Nat} {p : Rat} (h : FitQ k p) : FitQ k (-p) := ⟨by rw [Rat.neg_num]; exact h.num.neg, by rw [Rat.neg_den]; exact h.den⟩
theorem FitQ.sub {j k : Nat} {p q : Rat} (h : FitQ j p) (h' : FitQ k q) : FitQ (j + k + 1) (p - q) := by
  rw [Rat.sub_eq_add_neg]; exact FitQ.add h h'.neg
theorem sgI_mul (a b : Int) : sgI a * sgI b = sgI (a * b) := by
  unfold sgI
  rcases Int.lt_trichotomy a 0 with h | h | h <;> rcases Int.lt_trichotomy b 0 with h' | h' | h'
  · have := Int.mul_pos_of_neg_of_neg h h'
    rw [if_pos h, if_pos h', if_neg (by omega), if_pos this]; rfl
  · subst h'; simp
  · have := Int.mul_neg_of_neg_of_pos h h'
    rw [if_pos h, if_neg (by omega), if_pos h', if_pos this]; rfl
  · subst h; simp
  · subst h; simp
  · subst h; simp
  · have := Int.mul_neg_of_pos_of_neg h h'
    rw [if_neg (by omega), if_pos h, if_pos h', if_pos this]; rfl
  · subst h'; simp
  · have := Int.mul_pos h h'
    rw [if_neg (by omega), if_pos h, if_neg (by omega), if_pos h', if_neg (by omega), if_pos this]; rfl
theorem q_eq (q : Rat) : Rat.divInt q.num q.den = q := Rat.num_divInt_den q
theorem sgQ_num (q : Rat) : sgQ q = sgI q.num := by
  unfold sgQ sgI
  have h1 : q < 0 ↔ q.num < 0 := by
    rw [Rat.lt_iff]; simp
  have h2 : 0 < q ↔ 0 < q.num := by
    rw [Rat.lt_iff]; simp
  simp only [h1, h2]
theorem sgI_divInt (n d : Int) : sgQ (Rat.divInt n d) = sgI (n * d) := by
  rw [sgQ_num]
  by_cases hd : d = 0
  · subst hd; simp [sgI]
  · rw [Rat.num_divInt]
    have hg : 0 < ((Int.gcd d n : Nat) : Int) := by
      have := Int.gcd_pos_of_ne_zero_left n hd; omega
    obtain ⟨m, hm⟩ : ((Int.gcd d n : Nat) : Int) ∣ n := Int.gcd_dvd_right ..
    have h1 : d.sign * n / ((Int.gcd d n : Nat) : Int) = d.sign * m := by
      generalize ((Int.gcd d n : Nat) : Int) = g at *
      subst hm
      rw [Int.mul_left_comm, Int.mul_ediv_cancel_left _ (by omega)]
    have h2 : sgI n = sgI m := by
      have : sgI ((Int.gcd d n : Nat) : Int) = 1 := by unfold sgI; rw [if_neg (by omega), if_pos hg]
      have h3 := sgI_mul ((Int.gcd d n : Nat) : Int) m
      rw [this, Int.one_mul, ← hm] at h3
      exact h3.symm
    have h4 : sgI d.sign = sgI d := by
      unfold sgI
      rcases Int.lt_trichotomy d 0 with h | h | h
      · rw [Int.sign_eq_neg_one_of_neg h, if_pos h]; rfl
      · exact absurd h hd
      · rw [Int.sign_eq_one_of_pos h, if_neg (by omega), if_pos (by omega), if_neg (by omega), if_pos h]
    rw [h1, ← sgI_mul, h4, ← sgI_mul, h2, Int.mul_comm]
theorem sub_lt (a b : Rat) : a - b < 0 ↔ a < b := by grind
theorem sub_gt (a b : Rat) : 0 < a - b ↔ b < a := by grind
end Go.Tw
/-
  Whole numbers and fractions as the program's values have them; blocks that a call keeps to itself. Helpers; no statement of the program is proved here.
-/
set_option maxRecDepth 100000
set_option linter.unusedSimpArgs false
set_option linter.unusedVariables false
namespace Go.Tw
open Go Go.RowKit

/-! ### blocks that are kept apart -/
/-- Blocks that no value that is handed about may lie in. -/
abbrev Hd := Nat → Prop
def HB (H : Hd) (w : World) : Prop := ∀ b, H b → b < w.heap.size
/-- With what has been made between two worlds. -/
def upH (H : Hd) (w w' : World) : Hd := fun b => H b ∨ (w.heap.size ≤ b ∧ b < w'.heap.size)
theorem HB.up {H : Hd} {w w' : World} (h : HB H w) (k : Ext w w') : HB (upH H w w') w' := by
  intro b hb
  rcases hb with hb | hb
  · have := h b hb; have := k.size; omega
  · exact hb.2
theorem HB.ext {H : Hd} {w w' : World} (h : HB H w) (k : Ext w w') : HB H w' := fun b hb => Nat.lt_of_lt_of_le (h b hb) k.size
def Av (H : Hd) (a : Option Addr) (n : Nat) : Prop := 0 < n → ¬ H (Tw.blk a)
theorem Words.lt_size {w : World} {a : Option Addr} {n : Nat} {L : List Nat} (h : Words w a n L) (hn : 0 < n) : Tw.blk a < w.heap.size := by
  have hl := h.len
  have h0 : L[0]? = some (L[0]'(by omega)) := List.getElem?_eq_getElem (by omega)
  exact World.block_lt_of_cell? w _ (h.get 0 _ h0)
theorem Av.up {H : Hd} {w w' : World} {a : Option Addr} {n : Nat} {L : List Nat} (h : Av H a n) (hw : Words w a n L) : Av (upH H w w') a n := by
  intro hn hb
  rcases hb with hb | hb
  · exact h hn hb
  · have := hw.lt_size hn; omega
theorem Av.less {H : Hd} {w w' : World} {a : Option Addr} {n : Nat} (h : Av (upH H w w') a n) : Av H a n := fun hn hb => h hn (.inl hb)
theorem Words.farH {H : Hd} {w w' : World} {a : Option Addr} {n b : Nat} {L : List Nat} (h : Words w a n L) (k : w.grownBy w' (some b)) (hv : Av H a n) (hb : H b) : Words w' a n L := by
  refine ⟨h.len, h.base, fun j x hj => ?_, h.lt⟩
  have hc := h.get j x hj
  have hlt := World.block_lt_of_cell? w _ hc
  have hn : 0 < n := by
    have := h.len
    rcases Nat.eq_zero_or_pos n with h0 | h0
    · rw [h0] at this; rw [List.eq_nil_of_length_eq_zero this] at hj; simp at hj
    · exact h0
  rw [World.cell?_of_block (k.block _ hlt (by intro e; exact hv hn (by rw [show Tw.blk a = b from Option.some.inj e]; exact hb)))]
  exact hc

theorem New.lt {w w' : World} {b t : Nat} {cs : List Value} (h : New w w' b t cs) : b < w'.heap.size := by rw [h.isNew, h.size]; exact Nat.lt_succ_self _
theorem New.inUp {H : Hd} {w wa wb w3 : World} {b t : Nat} {cs : List Value} (h : New wa wb b t cs) (h1 : Ext w wa) (h2 : Ext wb w3) : upH H w w3 b := .inr ⟨h.ge h1, Nat.lt_of_lt_of_le h.lt h2.size⟩
theorem owns_av {H : Hd} {w : World} {base e n : Nat} {v : Value} {L : List Nat} (h : w.ownsRow base e 1 v n (wv L)) (hL : WdL L) (hH : ∀ b, H b → b < base) : ∃ a c, v = .slice a n c ∧ Words w a n L ∧ n ≤ c ∧ c ≤ 9223372036854775807 ∧ Av H a n := by
  obtain ⟨a, m, c, rfl, h1, h2, h3⟩ := owns_sl h hL
  have hl := h.1
  rw [wv_length, Nat.mul_one, h1.len] at hl
  subst hl
  refine ⟨a, c, rfl, h1, h2, h3, fun h0 hb => ?_⟩
  rcases h.2 with ⟨he, hz⟩ | ⟨g, cap, cur, he, hg, _⟩
  · omega
  · simp only [Value.slice.injEq] at he
    have := hH _ hb
    rw [he.1] at this
    exact absurd this (Nat.not_lt.2 hg)

/-- The parts of a whole number: a sign, a slice. -/
structure IntR where
  neg : Bool
  a : Option Addr
  n : Nat
  c : Nat
def IntR.v (r : IntR) : Value := .agg #[.bool r.neg, .slice r.a r.n r.c]
def IntR.zero : IntR := ⟨false, none, 0, 0⟩
structure RatR where
  num : IntR
  den : IntR
def RatR.v (r : RatR) : Value := .agg #[.bool r.num.neg, .slice r.num.a r.num.n r.num.c, .bool r.den.neg, .slice r.den.a r.den.n r.den.c]
def RatR.zero : RatR := ⟨IntR.zero, IntR.zero⟩
theorem IntR.inj {x y : IntR} (h : x.v = y.v) : x = y := by
  obtain ⟨a, b, c, d⟩ := x
  obtain ⟨a', b', c', d'⟩ := y
  simp [IntR.v] at h
  obtain ⟨rfl, rfl, rfl, rfl⟩ := h
  rfl
theorem RatR.inj {x y : RatR} (h : x.v = y.v) : x = y := by
  obtain ⟨⟨a, b, c, d⟩, ⟨e, f, g, i⟩⟩ := x
  obtain ⟨⟨a', b', c', d'⟩, ⟨e', f', g', i'⟩⟩ := y
  simp [RatR.v] at h
  obtain ⟨rfl, ⟨rfl, rfl, rfl⟩, rfl, rfl, rfl, rfl⟩ := h
  rfl
theorem IntR.of {Q : IntR → Prop} {x : IntR} (h : ∃ r : IntR, x.v = r.v ∧ Q r) : Q x := by
  obtain ⟨r, he, h⟩ := h
  rw [IntR.inj he]; exact h
theorem RatR.of {Q : RatR → Prop} {x : RatR} (h : ∃ r : RatR, x.v = r.v ∧ Q r) : Q x := by
  obtain ⟨r, he, h⟩ := h
  rw [RatR.inj he]; exact h

/-- It says z, in whatever form. -/
structure IsI (H : Hd) (w : World) (r : IntR) (z : Int) : Prop where
  words : ∃ L, Words w r.a r.n L ∧ z = sgnZ r.neg (val L)
  nc : r.n ≤ r.c
  cm : r.c ≤ 9223372036854775807
  n40 : r.n ≤ 1099511627776
  av : Av H r.a r.n
/-- It is z's one form. -/
structure CanI (H : Hd) (w : World) (r : IntR) (z : Int) : Prop where
  neg : r.neg = decide (z < 0)
  words : Words w r.a r.n (dig z.natAbs)
  nc : r.n ≤ r.c
  cm : r.c ≤ 9223372036854775807
  av : Av H r.a r.n
section
variable {H : Hd} {w w' : World} {r : IntR} {z : Int}
theorem CanI.is (h : CanI H w r z) (hf : Fit 1099511627776 z) : IsI H w r z := by
  refine ⟨⟨_, h.words, ?_⟩, h.nc, h.cm, ?_, h.av⟩
  · rw [val_dig, h.neg, sgnZ_self]
  · rw [← h.words.len]; exact hf.len
theorem CanI.n0 (h : CanI H w r z) : r.n = 0 ↔ z = 0 := by
  rw [← h.words.len]
  constructor
  · intro h0
    have := dig_nil.1 (List.eq_nil_of_length_eq_zero h0)
    omega
  · intro h0; subst h0; rfl
theorem IsI.fitN (h : IsI H w r z) : Fit r.n z := by
  obtain ⟨⟨L, h1, rfl⟩, h2, h3, h4, _⟩ := h
  unfold Fit
  rw [sgnZ_abs]
  exact h1.trim_le
theorem IsI.fit (h : IsI H w r z) : Fit 1099511627776 z := h.fitN.mono h.n40
theorem IsI.ext (h : IsI H w r z) (k : Ext w w') : IsI H w' r z := by
  obtain ⟨⟨L, h1, h2⟩, h3, h4, h5, h6⟩ := h
  exact ⟨⟨L, h1.ext k, h2⟩, h3, h4, h5, h6⟩
theorem CanI.ext (h : CanI H w r z) (k : Ext w w') : CanI H w' r z := ⟨h.neg, h.words.ext k, h.nc, h.cm, h.av⟩
theorem IsI.up (h : IsI H w r z) (k : Ext w w') : IsI (upH H w w') w' r z := by
  obtain ⟨⟨L, h1, h2⟩, h3, h4, h5, h6⟩ := h
  exact ⟨⟨L, h1.ext k, h2⟩, h3, h4, h5, h6.up h1⟩
theorem CanI.up (h : CanI H w r z) (k : Ext w w') : CanI (upH H w w') w' r z := ⟨h.neg, h.words.ext k, h.nc, h.cm, h.av.up h.words⟩
theorem CanI.less {u u' : World} (h : CanI (upH H u u') w r z) : CanI H w r z := ⟨h.neg, h.words, h.nc, h.cm, h.av.less⟩
theorem IsI.less {u u' : World} (h : IsI (upH H u u') w r z) : IsI H w r z := ⟨h.words, h.nc, h.cm, h.n40, h.av.less⟩
theorem CanI.far {b : Nat} (h : CanI H w r z) (k : w.grownBy w' (some b)) (hb : H b) : CanI H w' r z := ⟨h.neg, h.words.farH k h.av hb, h.nc, h.cm, h.av⟩
theorem IsI.far {b : Nat} (h : IsI H w r z) (k : w.grownBy w' (some b)) (hb : H b) : IsI H w' r z := by
  obtain ⟨⟨L, h1, h2⟩, h3, h4, h5, h6⟩ := h
  exact ⟨⟨L, h1.farH k h6 hb, h2⟩, h3, h4, h5, h6⟩
theorem CanI.stable : Stable (fun w => CanI H w r z) := fun _ _ h k => h.ext k
theorem IsI.stable : Stable (fun w => IsI H w r z) := fun _ _ h k => h.ext k
end
theorem CanI.zero (H : Hd) (w : World) : CanI H w IntR.zero 0 := ⟨rfl, Words.nil w, Nat.le_refl _, by show 0 ≤ _; omega, fun h => absurd h (Nat.lt_irrefl 0)⟩
theorem IsI.zero (H : Hd) (w : World) : IsI H w IntR.zero 0 := (CanI.zero H w).is (Fit.zero _)

/-- What a fraction is divided by, none told being 1. -/
def denZ (r : IntR) (d : Int) : Int := if r.n = 0 then 1 else d
structure IsQ (H : Hd) (w : World) (r : RatR) (q : Rat) : Prop where
  parts : ∃ n d, IsI H w r.num n ∧ IsI H w r.den d ∧ q = Rat.divInt n (denZ r.den d)
def denC (q : Rat) : Int := if q.den = 1 then 0 else q.den
structure CanQ (H : Hd) (w : World) (r : RatR) (q : Rat) : Prop where
  num : CanI H w r.num q.num
  den : CanI H w r.den (denC q)
section
variable {H : Hd} {w w' : World} {r : RatR} {q : Rat}
theorem denC_eq {r : IntR} (h : CanI H w r (denC q)) : denZ r (denC q) = q.den := by
  have h0 := h.n0
  have hd := q.den_nz
  unfold denZ denC at *
  by_cases h1 : q.den = 1
  · rw [if_pos h1] at *
    rw [if_pos (h0.2 rfl), h1]; rfl
  · rw [if_neg h1] at *
    rw [if_neg]
    intro h2
    have := h0.1 h2
    omega
theorem CanQ.is (h : CanQ H w r q) (hf : FitQ 1099511627776 q) : IsQ H w r q := by
  refine ⟨_, _, h.num.is hf.num, h.den.is ?_, ?_⟩
  · unfold denC; split
    · exact Fit.zero _
    · exact hf.den
  · rw [denC_eq h.den, q_eq]
theorem IsQ.ext (h : IsQ H w r q) (k : Ext w w') : IsQ H w' r q := by
  obtain ⟨n, d, h1, h2, h3⟩ := h
  exact ⟨n, d, h1.ext k, h2.ext k, h3⟩
theorem IsQ.up (h : IsQ H w r q) (k : Ext w w') : IsQ (upH H w w') w' r q := by
  obtain ⟨n, d, h1, h2, h3⟩ := h
  exact ⟨n, d, h1.up k, h2.up k, h3⟩
theorem IsQ.far {b : Nat} (h : IsQ H w r q) (k : w.grownBy w' (some b)) (hb : H b) : IsQ H w' r q := by
  obtain ⟨n, d, h1, h2, h3⟩ := h
  exact ⟨n, d, h1.far k hb, h2.far k hb, h3⟩
theorem IsQ.less {u u' : World} (h : IsQ (upH H u u') w r q) : IsQ H w r q := by
  obtain ⟨n, d, h1, h2, h3⟩ := h
  exact ⟨n, d, h1.less, h2.less, h3⟩
theorem CanQ.ext (h : CanQ H w r q) (k : Ext w w') : CanQ H w' r q := ⟨h.num.ext k, h.den.ext k⟩
theorem CanQ.up (h : CanQ H w r q) (k : Ext w w') : CanQ (upH H w w') w' r q := ⟨h.num.up k, h.den.up k⟩
theorem CanQ.less {u u' : World} (h : CanQ (upH H u u') w r q) : CanQ H w r q := ⟨h.num.less, h.den.less⟩
theorem CanQ.far {b : Nat} (h : CanQ H w r q) (k : w.grownBy w' (some b)) (hb : H b) : CanQ H w' r q := ⟨h.num.far k hb, h.den.far k hb⟩
theorem CanQ.stable : Stable (fun w => CanQ H w r q) := fun _ _ h k => h.ext k
theorem IsQ.stable : Stable (fun w => IsQ H w r q) := fun _ _ h k => h.ext k
end
theorem CanQ.zero (H : Hd) (w : World) : CanQ H w RatR.zero 0 := ⟨CanI.zero H w, by show CanI H w IntR.zero (denC 0); exact CanI.zero H w⟩
theorem FitQ.zero {k : Nat} (h : 1 ≤ k) : FitQ k 0 := ⟨Fit.zero k, Fit.one.mono h⟩
theorem IsQ.zero (H : Hd) (w : World) : IsQ H w RatR.zero 0 := (CanQ.zero H w).is (FitQ.zero (by omega))

/-- It says q, by parts of at most k digits. -/
structure InQ (k : Nat) (H : Hd) (w : World) (r : RatR) (q : Rat) : Prop where
  is : IsQ H w r q
  num : r.num.n ≤ k
  den : r.den.n ≤ k
section
variable {H : Hd} {w w' : World} {r : RatR} {q : Rat} {k : Nat}
theorem InQ.ext (h : InQ k H w r q) (e : Ext w w') : InQ k H w' r q := ⟨h.is.ext e, h.num, h.den⟩
theorem InQ.up (h : InQ k H w r q) (e : Ext w w') : InQ k (upH H w w') w' r q := ⟨h.is.up e, h.num, h.den⟩
theorem InQ.less {u u' : World} (h : InQ k (upH H u u') w r q) : InQ k H w r q := ⟨h.is.less, h.num, h.den⟩
theorem InQ.far {b : Nat} (h : InQ k H w r q) (e : w.grownBy w' (some b)) (hb : H b) : InQ k H w' r q := ⟨h.is.far e hb, h.num, h.den⟩
theorem InQ.mono {j : Nat} (h : InQ j H w r q) (hk : j ≤ k) : InQ k H w r q := ⟨h.is, Nat.le_trans h.num hk, Nat.le_trans h.den hk⟩
theorem InQ.stable : Stable (fun w => InQ k H w r q) := fun _ _ h e => h.ext e
theorem Fit.denZ {r : IntR} {d : Int} (h : Fit r.n d) : Fit (r.n + 1) (denZ r d) := by
  unfold Go.Tw.denZ; split
  · exact Fit.one.mono (by omega)
  · exact h.mono (by omega)
theorem InQ.fit (h : InQ k H w r q) : FitQ (k + 1) q := by
  obtain ⟨⟨n, d, hn, hd, rfl⟩, h1, h2⟩ := h
  exact FitQ.make (hn.fitN.mono (by omega)) ((Fit.denZ hd.fitN).mono (by omega)) (by omega)
theorem CanQ.inq (h : CanQ H w r q) (hf : FitQ k q) (hk : k ≤ 1099511627776) : InQ k H w r q := by
  refine ⟨h.is (hf.mono hk), ?_, ?_⟩
  · rw [← h.num.words.len]; exact hf.num
  · rw [← h.den.words.len]
    have : Fit k (denC q) := by unfold denC; split; exact Fit.zero _; exact hf.den
    exact this
end
theorem InQ.zero (H : Hd) (w : World) (k : Nat) : InQ k H w RatR.zero 0 := ⟨IsQ.zero H w, Nat.zero_le _, Nat.zero_le _⟩

/-! ### slices of words, by their parts -/
structure SlR where
  a : Option Addr
  n : Nat
  c : Nat
def SlR.v (r : SlR) : Value := .slice r.a r.n r.c
theorem SlR.inj {x y : SlR} (h : x.v = y.v) : x = y := by
  obtain ⟨a, b, c⟩ := x
  obtain ⟨a', b', c'⟩ := y
  simp [SlR.v] at h
  obtain ⟨rfl, rfl, rfl⟩ := h
  rfl
structure IsSl (w : World) (r : SlR) (L : List Nat) : Prop where
  words : Words w r.a r.n L
  nc : r.n ≤ r.c
  cm : r.c ≤ 9223372036854775807
theorem IsSl.ext {w w' : World} {r : SlR} {L : List Nat} (h : IsSl w r L) (k : Ext w w') : IsSl w' r L := ⟨h.words.ext k, h.nc, h.cm⟩
theorem slC {P : Program} {f : FuncId} {args : Array Value} {w : World} {L : List Nat} (h : CallS P f args w fun v w' => Ext w w' ∧ Sl w' v L) : CallS P f args w fun v w' => Ext w w' ∧ ∃ r : SlR, v = r.v ∧ IsSl w' r L :=
  CallS.mono h fun v w' ⟨hx, a, n, c, he, h1, h2, h3⟩ => ⟨hx, ⟨a, n, c⟩, he, h1, h2, h3⟩
theorem len_mul {L M : List Nat} (hL : WdL L) (hM : WdL M) : (dig (val L * val M)).length ≤ L.length + M.length :=
  dig_len_le _ _ (by rw [Nat.pow_add]; exact Nat.mul_lt_mul'' (val_lt L hL) (val_lt M hM))
theorem len_add {L M : List Nat} {k : Nat} (hL : WdL L) (hM : WdL M) (h1 : L.length ≤ k) (h2 : M.length ≤ k) : (dig (val L + val M)).length ≤ k + 1 := by
  refine dig_len_le _ _ ?_
  have a := Nat.lt_of_lt_of_le (val_lt L hL) (Nat.pow_le_pow_right (by omega) h1)
  have b := Nat.lt_of_lt_of_le (val_lt M hM) (Nat.pow_le_pow_right (by omega) h2)
  rw [Nat.pow_succ]; omega
theorem len_sub {L M : List Nat} (hL : WdL L) : (dig (val L - val M)).length ≤ L.length :=
  Nat.le_trans (dig_len_mono (Nat.sub_le ..)) (dig_len_le _ _ (val_lt L hL))
theorem IsSl.fits {w : World} {r : SlR} {m : Nat} (h : IsSl w r (dig m)) {k : Nat} (hk : (dig m).length ≤ k) : r.n ≤ k := by rw [← h.words.len]; exact hk

/-! ### calls in statements whose order is drawn -/
section
variable {P : Program} {f : FuncId} {args : Array Value} {base : World} {F : World → Prop} {ih : DK} {org : DOrg} {dst : Option Nat} {e : Env}
theorem dcallV (V : Value) (hc : ∀ w, Ext base w → F w → CallS P f args w fun v w' => Ext w w' ∧ v = V) (hk : ih org base (fun w => V = V ∧ F w) (putO dst V e)) :
    ∃ Post : Value → World → Prop, (∀ v, Stable (Post v)) ∧ (∀ w, Ext base w → F w → CallS P f args w fun v w' => Ext w w' ∧ Post v w') ∧ ∀ v, Sat base (fun w => Post v w ∧ F w) → ih org base (fun w => Post v w ∧ F w) (putO dst v e) := by
  refine ⟨fun v _ => v = V, fun _ _ _ h _ => h, hc, fun v hs => ?_⟩
  obtain ⟨w, hw, hv, hF⟩ := hs
  subst hv
  exact hk
theorem dcallR {α : Type} {mk : α → Value} {Q : α → World → Prop} (inj : ∀ {x y}, mk x = mk y → x = y) (hst : ∀ a, Stable (Q a)) (hc : ∀ w, Ext base w → F w → CallS P f args w fun v w' => Ext w w' ∧ ∃ r, v = mk r ∧ Q r w') (hk : ∀ r, ih org base (fun w => Q r w ∧ F w) (putO dst (mk r) e)) :
    ∃ Post : Value → World → Prop, (∀ v, Stable (Post v)) ∧ (∀ w, Ext base w → F w → CallS P f args w fun v w' => Ext w w' ∧ Post v w') ∧ ∀ v, Sat base (fun w => Post v w ∧ F w) → ih org base (fun w => Post v w ∧ F w) (putO dst v e) := by
  refine ⟨fun v w => ∃ r, v = mk r ∧ Q r w, fun v w w' ⟨r, h1, h2⟩ k => ⟨r, h1, hst r _ _ h2 k⟩, hc, fun v hs => ?_⟩
  obtain ⟨w, hw, ⟨r, rfl, hv⟩, hF⟩ := hs
  have e1 : (fun w => (∃ r', mk r = mk r' ∧ Q r' w) ∧ F w) = (fun w => Q r w ∧ F w) := by
    funext w
    apply propext
    constructor
    · rintro ⟨⟨r', h1, h2⟩, h3⟩
      rw [← inj h1] at h2
      exact ⟨h2, h3⟩
    · rintro ⟨h2, h3⟩; exact ⟨⟨r, rfl, h2⟩, h3⟩
  rw [e1]
  exact hk r
end

/-! ### loads and stores of blocks whose cells are listed -/
section
variable {T : TT} {w w' : World} {b t ty off : Nat} {cs sub : List Value} {v : Value}
theorem Blk.agg (hb : Blk w b t cs) (hk : (known (tyAt T ty) && (tyAt T ty).agg && Nat.beq sub.length (tyAt T ty).size) = true) (hs : (cs.drop off).take sub.length = sub) : LoadAt T w ty ⟨b, off, none⟩ (.agg sub.toArray) := by
  refine loadAgg hk fun j u hj => ?_
  rw [Addr.add_lit]
  refine hb.cell ?_
  rw [← hs, List.getElem?_take] at hj
  split at hj
  · rw [List.getElem?_drop] at hj; exact hj
  · cases hj
theorem Blk.one (hb : Blk w b t cs) (hk : (known (tyAt T ty) && !(tyAt T ty).agg) = true) (hv : cs[off]? = some v) : LoadAt T w ty ⟨b, off, none⟩ v := loadScalar hk (hb.cell hv)
end

/-! ### a result of one cell after another, stored and handed back -/
section
variable {T : TT} {w0 w : World} {b t ty : Nat} {cs : List Value} {H : Hd}
theorem retI {r : IntR} {z : Int} (hb : Blk w b t cs) (hx : Ext w0 w) (hge : w0.heap.size ≤ b) (hk : (known (tyAt T ty) && (tyAt T ty).agg && Nat.beq 2 (tyAt T ty).size && Nat.beq cs.length 2) = true) {u u' : World} (hH : upH H u u' b) (hr : CanI (upH H u u') w r z) :
    StoreOk T w ty ⟨b, 0, none⟩ r.v ∧ ∀ w', Stored w w' ⟨b, 0, none⟩ r.v.cells.toList → ∃ v, LoadAt T w' ty ⟨b, 0, none⟩ v ∧ (Ext w0 w' ∧ ∃ r' : IntR, v = r'.v ∧ CanI H w' r' z) := by
  simp only [Bool.and_eq_true] at hk
  have h2 := Nat.eq_of_beq_eq_true hk.1.2
  have h3 := Nat.eq_of_beq_eq_true hk.2
  refine ⟨storeOk rfl (by rw [hk.1.1.1, ← h2]; rfl) hb (by omega), fun w' hs => ?_⟩
  have hg := (Stored.grown hs).1
  have hB := Stored.blk hs hb
  obtain ⟨c1, c2, rfl⟩ : ∃ c1 c2, cs = [c1, c2] := by
    match cs, h3 with
    | [c1, c2], _ => exact ⟨c1, c2, rfl⟩
  have hB : Blk w' b t [.bool r.neg, .slice r.a r.n r.c] := hB
  exact ⟨r.v, hB.agg (sub := [.bool r.neg, .slice r.a r.n r.c]) (by rw [hk.1.1.1, hk.1.1.2, ← h2]; rfl) rfl, Ext.grownB hx hg hge, r, rfl, (hr.far hg hH).less⟩
theorem retD {α : Type} {mk : α → Value} {Q : α → World → Prop} {p : Addr} {vs : List Value} {v0 : Value} (hst : ∀ a, Stable (Q a)) (h : StoreOk T w ty p v0 ∧ ∀ w', Stored w w' p vs → ∃ v, LoadAt T w' ty p v ∧ (Ext w0 w' ∧ ∃ r, v = mk r ∧ Q r w')) :
    StoreOk T w ty p v0 ∧ ∀ w', Stored w w' p vs → ∀ w'', Ext w' w'' → True → ∃ v, LoadAt T w'' ty p v ∧ (Ext w0 w'' ∧ ∃ r, v = mk r ∧ Q r w'') := by
  refine ⟨h.1, fun w' hs w'' hx _ => ?_⟩
  obtain ⟨v, hl, hx0, r, he, hQ⟩ := h.2 w' hs
  exact ⟨v, hl.ext hx, Ext.trans' hx0 hx, r, he, hst r _ _ hQ hx⟩
theorem retQ' {r : RatR} {q : Rat} (hb : Blk w b t cs) (hx : Ext w0 w) (hge : w0.heap.size ≤ b) (hk : (known (tyAt T ty) && (tyAt T ty).agg && Nat.beq 4 (tyAt T ty).size && Nat.beq cs.length 4) = true) {u u' : World} (hH : upH H u u' b) (hr : CanQ (upH H u u') w r q) :
    StoreOk T w ty ⟨b, 0, none⟩ r.v ∧ ∀ w', Stored w w' ⟨b, 0, none⟩ r.v.cells.toList → ∃ v, LoadAt T w' ty ⟨b, 0, none⟩ v ∧ (Ext w0 w' ∧ ∃ r' : RatR, v = r'.v ∧ CanQ H w' r' q) := by
  simp only [Bool.and_eq_true] at hk
  have h2 := Nat.eq_of_beq_eq_true hk.1.2
  have h3 := Nat.eq_of_beq_eq_true hk.2
  refine ⟨storeOk rfl (by rw [hk.1.1.1, ← h2]; rfl) hb (by omega), fun w' hs => ?_⟩
  have hg := (Stored.grown hs).1
  have hB := Stored.blk hs hb
  obtain ⟨c1, c2, c3, c4, rfl⟩ : ∃ c1 c2 c3 c4, cs = [c1, c2, c3, c4] := by
    match cs, h3 with
    | [c1, c2, c3, c4], _ => exact ⟨c1, c2, c3, c4, rfl⟩
  have hB : Blk w' b t [.bool r.num.neg, .slice r.num.a r.num.n r.num.c, .bool r.den.neg, .slice r.den.a r.den.n r.den.c] := hB
  exact ⟨r.v, hB.agg (sub := [.bool r.num.neg, .slice r.num.a r.num.n r.num.c, .bool r.den.neg, .slice r.den.a r.den.n r.den.c]) (by rw [hk.1.1.1, hk.1.1.2, ← h2]; rfl) rfl, Ext.grownB hx hg hge, r, rfl, (hr.far hg hH).less⟩
end
end Go.Tw
/-
  Contracts of the layer whole. Helpers; no statement of the program is proved here.
-/
set_option maxRecDepth 100000
set_option linter.unusedSimpArgs false
set_option linter.unusedVariables false
namespace Go.Proofs.Ytlfdobjdlgebbaa
open Go Go.Tw Go.RowKit
attribute [local irreducible] LoadAt StoreOk Stored rawVC

theorem Trim_av {H : Hd} {w : World} {a : Option Addr} {n c : Nat} {L : List Nat} (hH : HB H w) (h : Words w a n L) (hc : n ≤ c) (hm : c ≤ 9223372036854775807) (hn : n ≤ 4398046511104) :
    CallS Try.prog 118 #[.slice a n c] w fun v w' => Ext w w' ∧ ∃ a' c', v = .slice a' (dig (val L)).length c' ∧ Words w' a' (dig (val L)).length (dig (val L)) ∧ (dig (val L)).length ≤ c' ∧ c' ≤ 9223372036854775807 ∧ Av H a' (dig (val L)).length :=
  CallS.mono (Trim_own h hc hm hn) fun _ _ ⟨hx, ho⟩ => ⟨hx, owns_av ho (dig_wd _) hH⟩
theorem madeR {H : Hd} {w : World} {a : Option Addr} {c m : Nat} {s b : Bool} (hs : b = (s && decide (0 < m))) (h : Words w a (dig m).length (dig m)) (hc : (dig m).length ≤ c) (hm : c ≤ 9223372036854775807) (hv : Av H a (dig m).length) : CanI H w ⟨b, a, (dig m).length, c⟩ (sgnZ s m) := by
  refine ⟨?_, ?_, hc, hm, hv⟩
  · rw [sgnZ_lt]; exact hs
  · rw [sgnZ_abs]; exact h
theorem len_pos {m : Nat} : 0 < (dig m).length ↔ 0 < m := by
  constructor
  · intro h
    rcases Nat.eq_zero_or_pos m with h0 | h0
    · subst h0; simp [dig_zero] at h
    · exact h0
  · intro h
    rcases Nat.eq_zero_or_pos (dig m).length with h0 | h0
    · have := dig_nil.1 (List.eq_nil_of_length_eq_zero h0); omega
    · exact h0
theorem made_ok {H : Hd} {w : World} {s : Bool} {a : Option Addr} {n c : Nat} {L : List Nat} (hH : HB H w) (h : Words w a n L) (hc : n ≤ c) (hm : c ≤ 9223372036854775807) (hn : n ≤ 4398046511104) :
    CallS Try.prog 109 #[.bool s, .slice a n c] w fun v w' => Ext w w' ∧ ∃ r : IntR, v = r.v ∧ CanI H w' r (sgnZ s (val L)) := by
  cases s
  · refine enter ttOk mixed (args := [.bool false, .slice a n c]) Try.func109 rfl (by kernel_rfl) (by kernel_rfl) rfl ?_
    intro b w1 hb
    refine CallS.mono (Trim_av (hH.up hb.ext) (h.ext hb.ext) hc hm hn) ?_
    rintro _ w2 ⟨hx2, a2, c2, rfl, hw2, h1, h2, hav⟩
    exact retI (r := ⟨false, a2, _, c2⟩) (hb.toBlk.ext hx2) (Ext.trans' hb.ext hx2) (hb.ge (Ext.rfl w)) rfl (hb.inUp (Ext.rfl w) (Ext.rfl w1)) (madeR (s := false) rfl hw2 h1 h2 hav)
  · refine enter ttOk mixed (args := [.bool true, .slice a n c]) Try.func109 rfl (by kernel_rfl) (by kernel_rfl) rfl ?_
    intro b w1 hb
    refine CallS.mono (Trim_av (hH.up hb.ext) (h.ext hb.ext) hc hm hn) ?_
    rintro _ w2 ⟨hx2, a2, c2, rfl, hw2, h1, h2, hav⟩
    refine And.intro (fun h3 => ?_) (fun h3 => ?_)
    · exact retI (r := ⟨true, a2, _, c2⟩) (hb.toBlk.ext hx2) (Ext.trans' hb.ext hx2) (hb.ge (Ext.rfl w)) rfl (hb.inUp (Ext.rfl w) (Ext.rfl w1)) (madeR (s := true) (by rw [Bool.true_and, decide_eq_true (len_pos.1 (by omega))]) hw2 h1 h2 hav)
    · exact retI (r := ⟨false, a2, _, c2⟩) (hb.toBlk.ext hx2) (Ext.trans' hb.ext hx2) (hb.ge (Ext.rfl w)) rfl (hb.inUp (Ext.rfl w) (Ext.rfl w1)) (madeR (s := true) (by rw [Bool.true_and, decide_eq_false (fun h0 => h3 (by have := len_pos.2 h0; omega))]) hw2 h1 h2 hav)
theorem wdOne {x : Nat} (h : x < 18446744073709551616) : WdL [x] := wd_one h
theorem val_one (x : Nat) : val [x] = x := by simp [val]
theorem WOf_ok {H : Hd} {w : World} (hH : HB H w) (z : Int) (h1 : -9223372036854775808 ≤ z) (h2 : z ≤ 9223372036854775807) :
    CallS Try.prog 77 #[.int .i64 z] w fun v w' => Ext w w' ∧ ∃ r : IntR, v = r.v ∧ CanI H w' r z := by
  refine enter ttOk mixed (args := [.int .i64 z]) Try.func77 rfl (by kernel_rfl) (by kernel_rfl) rfl ?_
  intro b w1 hb
  refine And.intro (fun h3 => ?_) (fun h3 => ?_)
  · have e1 : (((z.natAbs : Nat) : Int)) = (0 - (z % 18446744073709551616)) % 18446744073709551616 := by omega
    refine ⟨_, rfl, ((z.natAbs : Nat) : Int), e1, ?_⟩
    intro b2 w2 hb2
    have hb2 : New w1 w2 b2 88 (wv [z.natAbs]) := hb2
    have hx2 := hb2.extFrom hb.ext
    have hW := Words.blkAll hb2.toBlk (wdOne (by omega))
    refine CallS.mono (made_ok (hH.up hx2) hW (Nat.le_refl _) (by show 1 ≤ _; omega) (by show 1 ≤ _; omega)) ?_
    rintro _ w3 ⟨hx3, r, rfl, hr⟩
    have e2 : sgnZ true (val [z.natAbs]) = z := by rw [val_one]; show -((z.natAbs : Nat) : Int) = z; omega
    rw [e2] at hr
    exact retI (hb.toBlk.ext (Ext.trans' hb2.ext hx3)) (Ext.trans' hx2 hx3) (hb.ge (Ext.rfl w)) rfl (hb.inUp (Ext.rfl w) hb2.ext) hr
  · have e1 : (((z.natAbs : Nat) : Int)) = z % 18446744073709551616 := by omega
    refine ⟨((z.natAbs : Nat) : Int), e1, ?_⟩
    intro b2 w2 hb2
    have hb2 : New w1 w2 b2 88 (wv [z.natAbs]) := hb2
    have hx2 := hb2.extFrom hb.ext
    have hW := Words.blkAll hb2.toBlk (wdOne (by omega))
    refine CallS.mono (made_ok (hH.up hx2) hW (Nat.le_refl _) (by show 1 ≤ _; omega) (by show 1 ≤ _; omega)) ?_
    rintro _ w3 ⟨hx3, r, rfl, hr⟩
    have e2 : sgnZ false (val [z.natAbs]) = z := by rw [val_one]; show ((z.natAbs : Nat) : Int) = z; omega
    rw [e2] at hr
    exact retI (hb.toBlk.ext (Ext.trans' hb2.ext hx3)) (Ext.trans' hx2 hx3) (hb.ge (Ext.rfl w)) rfl (hb.inUp (Ext.rfl w) hb2.ext) hr
theorem WNeg_ok {H : Hd} {w : World} {x : IntR} {z : Int} (hH : HB H w) (hx : IsI H w x z) :
    CallS Try.prog 94 #[x.v] w fun v w' => Ext w w' ∧ ∃ r : IntR, v = r.v ∧ CanI H w' r (-z) := by
  obtain ⟨⟨L, hL, rfl⟩, hnc, hcm, hn, hav⟩ := hx
  refine enter ttOk mixed (args := [x.v]) Try.func94 rfl (by kernel_rfl) (by kernel_rfl) rfl ?_
  intro b1 w1 hb1 b2 w2 hb2
  have hx2 := hb2.extFrom hb1.ext
  have hB : Blk w2 b1 31 [.bool x.neg, .slice x.a x.n x.c] := hb1.toBlk.ext hb2.ext
  refine ⟨_, hB.one (off := 0) rfl rfl, _, hB.one (off := 1) rfl rfl, ?_⟩
  refine CallS.mono (made_ok (hH.up hx2) (hL.ext hx2) hnc hcm (by omega)) ?_
  rintro _ w3 ⟨hx3, r, rfl, hr⟩
  rw [sgnZ_neg] at hr
  exact retI (hb2.toBlk.ext hx3) (Ext.trans' hx2 hx3) (hb2.ge hb1.ext) rfl (hb2.inUp hb1.ext (Ext.rfl _)) hr
end Go.Proofs.Ytlfdobjdlgebbaa
/-
  Contracts of the layer whole, second part. Helpers; no statement of the program is proved here.
-/
set_option maxRecDepth 100000
set_option linter.unusedSimpArgs false
set_option linter.unusedVariables false
namespace Go.Proofs.Ytlfdobjdlgebbaa
open Go Go.Tw Go.RowKit
attribute [local irreducible] LoadAt StoreOk Stored rawVC

theorem sgI_sgn (s : Bool) (m : Nat) (h : m ≠ 0) : sgI (sgnZ s m) = bif s then -1 else 1 := by
  cases s
  · show sgI (m : Int) = 1
    unfold sgI; rw [if_neg (by omega), if_pos (by omega)]
  · show sgI (-(m : Int)) = -1
    unfold sgI; rw [if_pos (by omega)]
theorem WSign_ok {H : Hd} {w : World} {x : IntR} {z : Int} (hx : IsI H w x z) :
    CallS Try.prog 68 #[x.v] w fun v w' => Ext w w' ∧ v = .int .i64 (sgI z) := by
  obtain ⟨⟨L, hL, rfl⟩, hnc, hcm, hn, hav⟩ := hx
  obtain ⟨s, a, n, c⟩ := x
  refine enter ttOk mixed (args := [IntR.v ⟨s, a, n, c⟩]) Try.func68 rfl (by kernel_rfl) (by kernel_rfl) rfl ?_
  intro b1 w1 hb1
  have hB : Blk w1 b1 31 [.bool s, .slice a n c] := hb1.toBlk
  refine ⟨_, hB.one (off := 1) rfl rfl, ?_⟩
  refine CallS.mono (Bits_ok (hL.ext hb1.ext) hnc hcm hn) ?_
  rintro _ w2 ⟨rfl, k, rfl, hk⟩
  refine And.intro (fun h1 => ?_) (fun h1 => ?_)
  · have h0 := hk.1 (by omega)
    refine ⟨hb1.ext, ?_⟩
    show _ = Value.int .i64 (sgI (sgnZ s (val L)))
    rw [h0]; cases s <;> rfl
  · have h0 : val L ≠ 0 := fun h => h1 (by have := hk.2 h; omega)
    have e := sgI_sgn s (val L) h0
    show ∃ v, _ ∧ _
    refine ⟨.bool s, hB.one (off := 0) rfl rfl, ?_⟩
    show match (some (Value.bool s) : Option Value) with | some (.bool true) => _ | some (.bool false) => _ | _ => False
    cases s
    · exact ⟨hb1.ext, by show Value.int .i64 1 = _; rw [e]; rfl⟩
    · exact ⟨hb1.ext, by show Value.int .i64 (-1) = _; rw [e]; rfl⟩
theorem WSide_ok {H : Hd} {w : World} {x : IntR} {z : Int} (hx : IsI H w x z) :
    CallS Try.prog 134 #[x.v] w fun v w' => Ext w w' ∧ v = .int .i64 (sgI z) := by
  refine enter ttOk mixed (args := [x.v]) Try.func134 rfl (by kernel_rfl) (by kernel_rfl) rfl ?_
  intro b1 w1 hb1
  have hB : Blk w1 b1 31 [.bool x.neg, .slice x.a x.n x.c] := hb1.toBlk
  refine ⟨x.v, hB.agg (sub := [.bool x.neg, .slice x.a x.n x.c]) rfl rfl, ?_⟩
  refine CallS.mono (WSign_ok (hx.ext hb1.ext)) ?_
  rintro _ w2 ⟨hx2, rfl⟩
  exact ⟨Ext.trans' hb1.ext hx2, rfl⟩
theorem cmpZ_lt {p q : Int} (h : sgI p < sgI q) : cmpZ p q = -1 := by
  unfold sgI at h; unfold cmpZ
  have : p < q := by split at h <;> split at h <;> (try split at h) <;> (try split at h) <;> omega
  rw [if_pos this]
theorem cmpZ_gt {p q : Int} (h : sgI p ≠ sgI q) (h2 : ¬ sgI p < sgI q) : cmpZ p q = 1 := by
  unfold sgI at h h2; unfold cmpZ
  have : q < p := by
    by_cases p0 : p < 0 <;> by_cases q0 : q < 0 <;> by_cases p1 : 0 < p <;> by_cases q1 : 0 < q <;> simp [p0, q0, p1, q1] at h h2 <;> omega
  rw [if_neg (by omega), if_pos this]
theorem sgI_neg {p : Int} (h : sgI p < 0) : p < 0 := by unfold sgI at h; split at h; assumption; split at h <;> omega
theorem sgI_nneg {p : Int} (h : ¬ sgI p < 0) : 0 ≤ p := by unfold sgI at h; split at h <;> omega
theorem cmpZ_neg {p q : Int} (hp : p < 0) (hq : q < 0) : cmpN q.natAbs p.natAbs = cmpZ p q := by
  unfold cmpZ cmpN
  by_cases h1 : p < q
  · rw [if_pos h1, if_pos (by omega)]
  · rw [if_neg h1, if_neg (by omega)]
    by_cases h2 : q < p
    · rw [if_pos h2, if_pos (by omega)]
    · rw [if_neg h2, if_neg (by omega)]
theorem cmpZ_nneg {p q : Int} (hp : 0 ≤ p) (hq : 0 ≤ q) : cmpN p.natAbs q.natAbs = cmpZ p q := by
  unfold cmpZ cmpN
  by_cases h1 : p < q
  · rw [if_pos h1, if_pos (by omega)]
  · rw [if_neg h1, if_neg (by omega)]
    by_cases h2 : q < p
    · rw [if_pos h2, if_pos (by omega)]
    · rw [if_neg h2, if_neg (by omega)]
theorem IsI.abs {H : Hd} {w : World} {x : IntR} {z : Int} (h : IsI H w x z) : ∃ L, Words w x.a x.n L ∧ val L = z.natAbs := by
  obtain ⟨L, hL, rfl⟩ := h.words
  exact ⟨L, hL, (sgnZ_abs ..).symm⟩
theorem WCmp_ok {H : Hd} {w : World} {x y : IntR} {p q : Int} (hx : IsI H w x p) (hy : IsI H w y q) :
    CallS Try.prog 108 #[x.v, y.v] w fun v w' => Ext w w' ∧ v = .int .i64 (cmpZ p q) := by
  refine enter ttOk mixed (args := [x.v, y.v]) Try.func108 rfl (by kernel_rfl) (by kernel_rfl) rfl ?_
  intro b1 w1 hb1 b2 w2 hb2
  have hx2 := hb2.extFrom hb1.ext
  have hX : Blk w2 b1 31 [.bool x.neg, .slice x.a x.n x.c] := hb1.toBlk.ext hb2.ext
  have hY : Blk w2 b2 31 [.bool y.neg, .slice y.a y.n y.c] := hb2.toBlk
  have lX : LoadAt tt w2 31 ⟨b1, 0, none⟩ x.v := hX.agg (sub := [.bool x.neg, .slice x.a x.n x.c]) rfl rfl
  have lY : LoadAt tt w2 31 ⟨b2, 0, none⟩ y.v := hY.agg (sub := [.bool y.neg, .slice y.a y.n y.c]) rfl rfl
  have hx' := hx.ext hx2
  have hy' := hy.ext hx2
  obtain ⟨L, hL, eL⟩ := IsI.abs hx'
  obtain ⟨M, hM, eM⟩ := IsI.abs hy'
  refine ⟨sq 8, by kernel_rfl, x.v, lX, ?_⟩
  refine dcallV (.int .i64 (sgI p)) (fun w' hw _ => WSide_ok (hx'.ext hw)) ?_
  refine ⟨y.v, lY, ?_⟩
  refine dcallV (.int .i64 (sgI q)) (fun w' hw _ => WSide_ok (hy'.ext hw)) ?_
  refine And.intro (fun h1 => ?_) (fun h1 => ?_)
  · intro w3 hx3 _
    refine ⟨sq 7, by kernel_rfl, x.v, lX.ext hx3, ?_⟩
    refine dcallV (.int .i64 (sgI p)) (fun w' hw _ => WSide_ok ((hx'.ext hx3).ext hw)) ?_
    refine ⟨y.v, lY.ext hx3, ?_⟩
    refine dcallV (.int .i64 (sgI q)) (fun w' hw _ => WSide_ok ((hy'.ext hx3).ext hw)) ?_
    refine And.intro (fun h2 => ?_) (fun h2 => ?_)
    · intro w4 hx4 _
      exact ⟨Ext.trans' hx2 (Ext.trans' hx3 hx4), by rw [cmpZ_lt h2]; rfl⟩
    · intro w4 hx4 _
      exact ⟨Ext.trans' hx2 (Ext.trans' hx3 hx4), by rw [cmpZ_gt h1 h2]; rfl⟩
  · intro w3 hx3 _
    have h1 : sgI p = sgI q := Classical.not_not.1 h1
    refine ⟨x.v, lX.ext hx3, ?_⟩
    refine CallS.mono (WSide_ok (hx'.ext hx3)) ?_
    rintro _ w4 ⟨hx4, rfl⟩
    have hx34 := Ext.trans' hx3 hx4
    refine And.intro (fun h2 => ?_) (fun h2 => ?_)
    · have h2' : sgI q < 0 := by rw [← h1]; exact h2
      refine ⟨_, (hY.ext hx34).one (off := 1) rfl rfl, _, (hX.ext hx34).one (off := 1) rfl rfl, ?_⟩
      refine CallS.mono (Cmp_ok (hM.ext hx34) hy.nc hy.cm (hL.ext hx34) hx.nc hx.cm) ?_
      rintro _ w5 ⟨hx5, rfl⟩
      refine ⟨Ext.trans' hx2 (Ext.trans' hx34 hx5), ?_⟩
      rw [eL, eM, cmpZ_neg (sgI_neg h2) (sgI_neg h2')]; rfl
    · have h2' : ¬ sgI q < 0 := by rw [← h1]; exact h2
      refine ⟨_, (hX.ext hx34).one (off := 1) rfl rfl, _, (hY.ext hx34).one (off := 1) rfl rfl, ?_⟩
      refine CallS.mono (Cmp_ok (hL.ext hx34) hx.nc hx.cm (hM.ext hx34) hy.nc hy.cm) ?_
      rintro _ w5 ⟨hx5, rfl⟩
      refine ⟨Ext.trans' hx2 (Ext.trans' hx34 hx5), ?_⟩
      rw [eL, eM, cmpZ_nneg (sgI_nneg h2) (sgI_nneg h2')]; rfl
end Go.Proofs.Ytlfdobjdlgebbaa
/-
  Contracts of the layer whole, third part. Helpers; no statement of the program is proved here.
-/
set_option maxRecDepth 100000
set_option linter.unusedSimpArgs false
set_option linter.unusedVariables false
namespace Go.Proofs.Ytlfdobjdlgebbaa
open Go Go.Tw Go.RowKit
attribute [local irreducible] LoadAt StoreOk Stored rawVC

theorem beq_of_eq {a b : Bool} (h : a = b) : (a != b) = false := by subst h; cases a <;> rfl
theorem bne_of_ne {a b : Bool} (h : a ≠ b) : true = (a != b) := by cases a <;> cases b <;> simp_all
theorem not_of_ne {a b : Bool} (h : ¬ a = b) : b = !a := by cases a <;> cases b <;> simp_all
theorem WMul_ok {H : Hd} {w : World} {x y : IntR} {p q : Int} (hH : HB H w) (hx : IsI H w x p) (hy : IsI H w y q) :
    CallS Try.prog 84 #[x.v, y.v] w fun v w' => Ext w w' ∧ ∃ r : IntR, v = r.v ∧ CanI H w' r (p * q) := by
  refine enter ttOk mixed (args := [x.v, y.v]) Try.func84 rfl (by kernel_rfl) (by kernel_rfl) rfl ?_
  intro b1 w1 hb1 b2 w2 hb2 b3 w3 hb3
  have hx3 := hb3.extFrom (hb2.extFrom hb1.ext)
  have hX : Blk w3 b1 31 [.bool x.neg, .slice x.a x.n x.c] := hb1.toBlk.ext (hb3.extFrom hb2.ext)
  have hY : Blk w3 b2 31 [.bool y.neg, .slice y.a y.n y.c] := hb2.toBlk.ext hb3.ext
  have hZ := hb3.toBlk
  have hge := hb3.ge (hb2.extFrom hb1.ext)
  have hup : upH H w w3 b3 := hb3.inUp (hb2.extFrom hb1.ext) (Ext.rfl _)
  have hH3 := hH.up hx3
  obtain ⟨L, hL, eL⟩ := IsI.abs (hx.ext hx3)
  obtain ⟨M, hM, eM⟩ := IsI.abs (hy.ext hx3)
  have hLl := hL.len
  have hMl := hM.len
  have hn1 := hx.n40
  have hn2 := hy.n40
  have hln := len_mul hL.lt hM.lt
  have key : ∀ b, b = (x.neg != y.neg) → sgnZ b (val L * val M) = p * q := by
    intro b hb
    obtain ⟨L', hL', e1⟩ := (hx.ext hx3).words
    obtain ⟨M', hM', e2⟩ := (hy.ext hx3).words
    have a1 : val L = val L' := by rw [eL, e1, sgnZ_abs]
    have a2 : val M = val M' := by rw [eM, e2, sgnZ_abs]
    rw [hb, e1, e2, sgnZ_mul, a1, a2]
  refine ⟨sq 12, by kernel_rfl, _, hX.one (off := 0) rfl rfl, _, hY.one (off := 0) rfl rfl, ?_⟩
  refine And.intro (fun hne => ?_) (fun hne => ?_)
  · refine ⟨_, hX.one (off := 1) rfl rfl, _, hY.one (off := 1) rfl rfl, ?_⟩
    refine dcallR (mk := SlR.v) (Q := fun r w => IsSl w r (dig (val L * val M))) SlR.inj (fun _ _ _ h k => h.ext k) (fun w' hw _ => slC (Mul_ok (hL.ext hw) (hM.ext hw) hx.nc hx.cm hy.nc hy.cm hn1 hn2)) ?_
    intro u
    refine dcallR (mk := IntR.v) (Q := fun r w => CanI (upH H _ _) w r (p * q)) IntR.inj (fun _ => CanI.stable) (fun w' hw hF => CallS.mono (made_ok (s := true) (hH3.ext hw) hF.1.words hF.1.nc hF.1.cm (hF.1.fits (by omega))) fun v w'' ⟨h1, r, h2, h3⟩ => ⟨h1, r, h2, by rw [val_dig, key true (bne_of_ne hne)] at h3; exact h3⟩) ?_
    intro r
    intro w4 hx4 hF4
    exact retD (fun _ => CanI.stable) (retI (hZ.ext hx4) (Ext.trans' hx3 hx4) hge rfl hup hF4.1)
  · refine ⟨_, hX.one (off := 1) rfl rfl, _, hY.one (off := 1) rfl rfl, ?_⟩
    refine dcallR (mk := SlR.v) (Q := fun r w => IsSl w r (dig (val L * val M))) SlR.inj (fun _ _ _ h k => h.ext k) (fun w' hw _ => slC (Mul_ok (hL.ext hw) (hM.ext hw) hx.nc hx.cm hy.nc hy.cm hn1 hn2)) ?_
    intro u
    refine dcallR (mk := IntR.v) (Q := fun r w => CanI (upH H _ _) w r (p * q)) IntR.inj (fun _ => CanI.stable) (fun w' hw hF => CallS.mono (made_ok (s := false) (hH3.ext hw) hF.1.words hF.1.nc hF.1.cm (hF.1.fits (by omega))) fun v w'' ⟨h1, r, h2, h3⟩ => ⟨h1, r, h2, by rw [val_dig, key false (beq_of_eq (Classical.not_not.1 hne)).symm] at h3; exact h3⟩) ?_
    intro r
    intro w4 hx4 hF4
    exact retD (fun _ => CanI.stable) (retI (hZ.ext hx4) (Ext.trans' hx3 hx4) hge rfl hup hF4.1)
theorem WGcd_ok {H : Hd} {w : World} {x y : IntR} {p q : Int} (hH : HB H w) (hx : IsI H w x p) (hy : IsI H w y q) :
    CallS Try.prog 106 #[x.v, y.v] w fun v w' => Ext w w' ∧ ∃ r : IntR, v = r.v ∧ CanI H w' r (Int.gcd p q : Int) := by
  refine enter ttOk mixed (args := [x.v, y.v]) Try.func106 rfl (by kernel_rfl) (by kernel_rfl) rfl ?_
  intro b1 w1 hb1 b2 w2 hb2 b3 w3 hb3
  have hx3 := hb3.extFrom (hb2.extFrom hb1.ext)
  have hX : Blk w3 b1 31 [.bool x.neg, .slice x.a x.n x.c] := hb1.toBlk.ext (hb3.extFrom hb2.ext)
  have hY : Blk w3 b2 31 [.bool y.neg, .slice y.a y.n y.c] := hb2.toBlk.ext hb3.ext
  have hZ := hb3.toBlk
  have hge := hb3.ge (hb2.extFrom hb1.ext)
  have hup : upH H w w3 b3 := hb3.inUp (hb2.extFrom hb1.ext) (Ext.rfl _)
  have hH3 := hH.up hx3
  obtain ⟨L, hL, eL⟩ := IsI.abs (hx.ext hx3)
  obtain ⟨M, hM, eM⟩ := IsI.abs (hy.ext hx3)
  have hLl := hL.len
  have hMl := hM.len
  have hn1 := hx.n40
  have hn2 := hy.n40
  refine ⟨_, hX.one (off := 1) rfl rfl, _, hY.one (off := 1) rfl rfl, ?_⟩
  refine CallS.mono (slC (Gcd_ok hL hx.nc hx.cm hn1 hM hy.nc hy.cm hn2)) ?_
  rintro _ w4 ⟨hx4, u, rfl, hu⟩
  have hl : (dig (Nat.gcd (val L) (val M))).length ≤ 4398046511104 := by
    rcases Nat.eq_zero_or_pos (val M) with h0 | h0
    · rw [h0, Nat.gcd_zero_right]; have := hL.trim_le; omega
    · have := dig_len_mono (Nat.gcd_le_right (val L) h0); have := hM.trim_le; omega
  refine CallS.mono (made_ok (hH3.ext hx4) hu.words hu.nc hu.cm (hu.fits hl)) ?_
  rintro _ w5 ⟨hx5, r, rfl, hr⟩
  rw [val_dig, eL, eM, sgnZ_false] at hr
  have hx45 := Ext.trans' hx4 hx5
  exact retI (hZ.ext hx45) (Ext.trans' hx3 hx45) hge rfl hup hr
end Go.Proofs.Ytlfdobjdlgebbaa
