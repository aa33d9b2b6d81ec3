/-
  Two digits divided by one (Knuth), in plain numbers. Helpers; no statement of the program is proved here.
-/
import Derived.Test.YtpgagepleffjlaaK3
set_option maxRecDepth 100000
set_option linter.unusedSimpArgs false
set_option linter.unusedVariables false
namespace Go.Proofs.Ytpgagepleffjlaa

def HInv (v1 v0 u u1 q r : Nat) : Prop := q * v1 + r = u ∧ (u * 4294967296 + u1) / (v1 * 4294967296 + v0) ≤ q

theorem half_lt {v1 v0 u u1 : Nat} (hu : u < v1 * 4294967296 + v0) (h1 : u1 < 4294967296) : (u * 4294967296 + u1) / (v1 * 4294967296 + v0) < 4294967296 := by
  have : 0 < v1 * 4294967296 + v0 := by omega
  rw [Nat.div_lt_iff_lt_mul this]
  omega
theorem half_first {v1 v0 u u1 : Nat} (hv : 2147483648 ≤ v1) (hv1 : v1 < 4294967296) (hv0 : v0 < 4294967296) (hu : u < v1 * 4294967296 + v0) (h1 : u1 < 4294967296) :
    HInv v1 v0 u u1 (u / v1) (u % v1) ∧ u / v1 ≤ 4294967297 ∧ u % v1 < v1 := by
  have p0 : 0 < v1 := by omega
  refine ⟨⟨by rw [Nat.mul_comm]; exact Nat.div_add_mod u v1, ?_⟩, ?_, Nat.mod_lt _ p0⟩
  · rw [Nat.le_div_iff_mul_le p0]
    have hm := Nat.div_mul_le_self (u * 4294967296 + u1) (v1 * 4294967296 + v0)
    generalize (u * 4294967296 + u1) / (v1 * 4294967296 + v0) = t at *
    rw [Nat.mul_add, ← Nat.mul_assoc] at hm
    generalize t * v1 = a at *
    generalize t * v0 = b at *
    omega
  · refine Nat.le_of_lt_succ ?_
    rw [Nat.div_lt_iff_lt_mul p0]
    omega
theorem half_down {v1 v0 u u1 q r : Nat} (hu : u < v1 * 4294967296 + v0) (h1 : u1 < 4294967296) (h : HInv v1 v0 u u1 q r) (hc : 4294967296 ≤ q ∨ 4294967296 * r + u1 < q * v0) :
    1 ≤ q ∧ HInv v1 v0 u u1 (q - 1) (r + v1) := by
  obtain ⟨h2, h3⟩ := h
  have p0 : 0 < v1 * 4294967296 + v0 := by omega
  have hlt : (u * 4294967296 + u1) / (v1 * 4294967296 + v0) < q := by
    rcases hc with hc | hc
    · exact Nat.lt_of_lt_of_le (half_lt hu h1) hc
    · rw [Nat.div_lt_iff_lt_mul p0, Nat.mul_add, ← Nat.mul_assoc]
      generalize q * v1 = a at *
      generalize q * v0 = b at *
      omega
  have hq1 : 0 < q := Nat.lt_of_le_of_lt (Nat.zero_le _) hlt
  obtain ⟨q, rfl⟩ : ∃ q', q = q' + 1 := ⟨q - 1, (Nat.succ_pred_eq_of_pos hq1).symm⟩
  refine ⟨hq1, ?_, Nat.le_of_lt_succ hlt⟩
  rw [Nat.succ_mul] at h2
  show q * v1 + _ = _
  clear hlt h3
  omega
theorem half_stop {v1 v0 u u1 q r : Nat} (hv0 : v0 < 4294967296) (p0 : 0 < v1) (h : HInv v1 v0 u u1 q r) (hc : (q * v0 ≤ 4294967296 * r + u1) ∨ (q ≤ 4294967296 ∧ 4294967296 ≤ r)) :
    q = (u * 4294967296 + u1) / (v1 * 4294967296 + v0) := by
  obtain ⟨h2, h3⟩ := h
  refine Nat.le_antisymm ?_ h3
  rw [Nat.le_div_iff_mul_le (by omega), Nat.mul_add, ← Nat.mul_assoc]
  have hb : q * v0 ≤ 4294967296 * r + u1 := by
    rcases hc with hc | hc
    · exact hc
    · have := Nat.mul_le_mul hc.1 (Nat.le_of_lt_succ (Nat.lt_succ_of_lt hv0))
      have := Nat.mul_le_mul_left 4294967296 hc.2
      omega
  generalize q * v1 = a at *
  generalize q * v0 = b at *
  omega

theorem join_aux0 {U p q a b r1 r0 l : Nat} (h1 : U + p = a + r1) (h0 : r1 * 4294967296 + q = b + r0) (e : 4294967296 * p + q = l) : U * 4294967296 + l = a * 4294967296 + b + r0 := by
  rw [← e, ← Nat.add_assoc, Nat.mul_comm 4294967296 p, ← Nat.add_mul, h1, Nat.add_mul, Nat.add_assoc, h0, ← Nat.add_assoc]
theorem join_aux {u l a b r1 r0 : Nat} (h1 : u * 4294967296 + l / 4294967296 = a + r1) (h0 : r1 * 4294967296 + l % 4294967296 = b + r0) : u * (4294967296 * 4294967296) + l = a * 4294967296 + b + r0 := by
  rw [← Nat.mul_assoc u 4294967296 4294967296]
  exact join_aux0 h1 h0 (Nat.div_add_mod l 4294967296)
/-- Both digits, behind the shift: u and l are what is divided, v = y * 2^s. -/
theorem div_join {y s hi lo v q1 q0 r1 r0 u l : Nat} (hs : s ≤ 63) (hv : v = y * 2 ^ s) (hu : u = hi * 2 ^ s + lo / 2 ^ (64 - s)) (hl : l = lo * 2 ^ s % 18446744073709551616) (hlo : lo < 18446744073709551616) (hy : 0 < y)
    (h1 : u * 4294967296 + l / 4294967296 = q1 * v + r1) (h0 : r1 * 4294967296 + l % 4294967296 = q0 * v + r0) (hr : r0 < v) :
    hi * 18446744073709551616 + lo = (q1 * 4294967296 + q0) * y + r0 / 2 ^ s ∧ r0 / 2 ^ s < y := by
  have hp : 2 ^ s * 2 ^ (64 - s) = 18446744073709551616 := by rw [← Nat.pow_add, show s + (64 - s) = 64 by omega]
  have pp : 0 < 2 ^ s := Nat.pow_pos (by omega)
  have pq : 0 < 2 ^ (64 - s) := Nat.pow_pos (by omega)
  have e1 : lo / 2 ^ (64 - s) = lo * 2 ^ s / 18446744073709551616 := by
    rw [← hp, Nat.mul_comm lo, Nat.mul_div_mul_left _ _ pp]
  have e2 : (hi * 18446744073709551616 + lo) * 2 ^ s = u * 18446744073709551616 + l := by
    rw [hu, hl, e1, Nat.add_mul]
    have e6 := Nat.div_add_mod (lo * 2 ^ s) 18446744073709551616
    clear hp pq e1 hu hl h1 h0 hv
    have e3 : hi * 18446744073709551616 * 2 ^ s = hi * 2 ^ s * 18446744073709551616 := by rw [Nat.mul_assoc, Nat.mul_comm 18446744073709551616, ← Nat.mul_assoc]
    rw [e3]
    generalize lo * 2 ^ s = a at *
    generalize hi * 2 ^ s = b at *
    clear e3
    rw [Nat.add_mul]
    omega
  have e4 : (hi * 18446744073709551616 + lo) * 2 ^ s = (q1 * 4294967296 + q0) * y * 2 ^ s + r0 := by
    rw [e2, Nat.mul_assoc _ y, ← hv, Nat.add_mul, Nat.mul_right_comm q1]
    exact join_aux h1 h0
  have e5 : r0 = 2 ^ s * (r0 / 2 ^ s) := by
    have : r0 % 2 ^ s = 0 := by
      have h := congrArg (· % 2 ^ s) e4
      simp only [Nat.mul_mod_left] at h
      rw [Nat.mul_comm _ (2 ^ s), Nat.mul_add_mod] at h
      exact h.symm
    have h2 := Nat.div_add_mod r0 (2 ^ s)
    omega
  constructor
  · refine Nat.eq_of_mul_eq_mul_right pp ?_
    rw [e4, Nat.add_mul ((q1 * 4294967296 + q0) * y), Nat.mul_comm (r0 / 2 ^ s), ← e5]
  · rw [Nat.div_lt_iff_lt_mul pp, ← hv]; exact hr
end Go.Proofs.Ytpgagepleffjlaa
/-
  Plain numbers: the digits of a quotient, one by one (a guess by the digits on top, put right once). No program in sight; helpers.
-/
set_option maxRecDepth 100000
set_option linter.unusedSimpArgs false
set_option linter.unusedVariables false
namespace Go.Proofs.Ytpgagepleffjlaa
open Go.Tw

/-- What a round of guess knows. -/
structure GInv (u2 u1 u0 b1 b0 q r : Nat) : Prop where
  eq : u2 * 18446744073709551616 + u1 = q * b1 + r
  ql : q < 18446744073709551616
  rl : r < 18446744073709551616
  hi : q + 1 = 18446744073709551616 ∨ (u2 * 18446744073709551616 + u1) * 18446744073709551616 + u0 < (q + 1) * (b1 * 18446744073709551616 + b0)
/-- What guess hands back. -/
structure GRes (u2 u1 u0 b1 b0 q : Nat) : Prop where
  ql : q < 18446744073709551616
  lo : q * (b1 * 18446744073709551616 + b0) ≤ (u2 * 18446744073709551616 + u1) * 18446744073709551616 + u0
  hi : q + 1 = 18446744073709551616 ∨ (u2 * 18446744073709551616 + u1) * 18446744073709551616 + u0 < (q + 1) * (b1 * 18446744073709551616 + b0)

theorem GInv.first {u2 u1 u0 b1 b0 q r : Nat} (h : u2 * 18446744073709551616 + u1 = q * b1 + r) (hr : r < b1) (hq : q < 18446744073709551616) (hu : u0 < 18446744073709551616) (hb : b1 < 18446744073709551616) : GInv u2 u1 u0 b1 b0 q r := by
  refine ⟨h, hq, Nat.lt_trans hr hb, Or.inr ?_⟩
  have : u2 * 18446744073709551616 + u1 + 1 ≤ (q + 1) * b1 := by rw [h, Nat.add_mul]; omega
  have h2 : (q + 1) * (b1 * 18446744073709551616 + b0) = (q + 1) * b1 * 18446744073709551616 + (q + 1) * b0 := by rw [Nat.mul_add, Nat.mul_assoc]
  rw [h2]
  generalize (q + 1) * b1 = y at *
  omega
theorem GInv.firstTop {u1 u0 b1 b0 r : Nat} (h : u1 + b1 = r) (hr : r < 18446744073709551616) : GInv b1 u1 u0 b1 b0 18446744073709551615 r := by
  refine ⟨by omega, by omega, hr, Or.inl rfl⟩
theorem GRes.over {u1 u0 b1 b0 : Nat} (h : 18446744073709551616 ≤ u1 + b1) (hb : b0 < 18446744073709551616) : GRes b1 u1 u0 b1 b0 18446744073709551615 := by
  refine ⟨by omega, by omega, Or.inl rfl⟩
theorem GInv.done {u2 u1 u0 b1 b0 q r : Nat} (h : GInv u2 u1 u0 b1 b0 q r) (hl : q * b0 ≤ r * 18446744073709551616 + u0) : GRes u2 u1 u0 b1 b0 q := by
  refine ⟨h.ql, ?_, h.hi⟩
  have := h.eq
  rw [Nat.mul_add, ← Nat.mul_assoc, this, Nat.add_mul]
  omega
theorem down_aux (y r u0 z : Nat) (hl : r * 18446744073709551616 + u0 < z) : y * 18446744073709551616 + r * 18446744073709551616 + u0 < y * 18446744073709551616 + z := by rw [Nat.add_assoc]; exact Nat.add_lt_add_left hl _
theorem GInv.down {u2 u1 u0 b1 b0 q r : Nat} (h : GInv u2 u1 u0 b1 b0 q r) (hl : r * 18446744073709551616 + u0 < q * b0) (hb : b0 < 18446744073709551616) :
    1 ≤ q ∧ (r + b1 < 18446744073709551616 → GInv u2 u1 u0 b1 b0 (q - 1) (r + b1)) ∧ (18446744073709551616 ≤ r + b1 → GRes u2 u1 u0 b1 b0 (q - 1)) := by
  obtain ⟨k, rfl⟩ : ∃ k, q = k + 1 := by
    cases q with
    | zero => rw [Nat.zero_mul] at hl; omega
    | succ k => exact ⟨k, rfl⟩
  have he := h.eq
  have hq := h.ql
  rw [Nat.add_sub_cancel]
  have e1 : (u2 * 18446744073709551616 + u1) * 18446744073709551616 + u0 < (k + 1) * (b1 * 18446744073709551616 + b0) := by
    rw [Nat.mul_add, ← Nat.mul_assoc, he, Nat.add_mul]
    exact down_aux _ _ _ _ hl
  rw [Nat.add_mul, Nat.one_mul] at he
  refine ⟨by omega, fun hr => ⟨by omega, by omega, hr, Or.inr e1⟩, fun hr => ⟨by omega, ?_, Or.inr e1⟩⟩
  rw [Nat.mul_add, ← Nat.mul_assoc, he]
  have e2 : k * b0 ≤ k * 18446744073709551616 := Nat.mul_le_mul_left _ (by omega)
  generalize k * b0 = z at *
  generalize k * b1 = y at *
  omega

/-- The guess is the digit, or one more. -/
theorem guess_near {P V2 v U3 U q : Nat} (h1 : V2 * P ≤ v) (h2 : v < (V2 + 1) * P) (h3 : U3 * P ≤ U) (h4 : U < (U3 + 1) * P) (h5 : U < v * 18446744073709551616) (hV : 18446744073709551616 ≤ V2)
    (hq : q < 18446744073709551616) (hlo : q * V2 ≤ U3) (hhi : q + 1 = 18446744073709551616 ∨ U3 < (q + 1) * V2) : q = U / v ∨ q = U / v + 1 := by
  have hP : 0 < P := by
    rcases Nat.eq_zero_or_pos P with h | h
    · subst h; omega
    · exact h
  have hv : 0 < v := Nat.lt_of_lt_of_le (Nat.mul_pos (by omega) hP) h1
  have up : U / v ≤ q := by
    rcases hhi with hhi | hhi
    · have : U / v < q + 1 := by rw [hhi, Nat.div_lt_iff_lt_mul hv, Nat.mul_comm]; exact h5
      exact Nat.le_of_lt_succ this
    · have : U / v < q + 1 := by
        rw [Nat.div_lt_iff_lt_mul hv]
        have a1 : (q + 1) * (V2 * P) ≤ (q + 1) * v := Nat.mul_le_mul_left _ h1
        have a2 : (U3 + 1) * P ≤ (q + 1) * V2 * P := Nat.mul_le_mul_right _ hhi
        rw [Nat.mul_assoc] at a2
        exact Nat.lt_of_lt_of_le h4 (Nat.le_trans a2 a1)
      exact Nat.le_of_lt_succ this
  have dn : q ≤ U / v + 1 := by
    cases q with
    | zero => exact Nat.zero_le _
    | succ k =>
      have : k ≤ U / v := by
        rw [Nat.le_div_iff_mul_le hv]
        have a1 : k * v ≤ k * ((V2 + 1) * P) := Nat.mul_le_mul_left _ (Nat.le_of_lt h2)
        have a2 : (k + 1) * V2 * P ≤ U3 * P := Nat.mul_le_mul_right _ hlo
        have a3 : k * P ≤ V2 * P := Nat.mul_le_mul_right _ (by omega)
        grind
      exact Nat.succ_le_succ this
  generalize U / v = t at *
  omega
/-- take's round. -/
theorem take_step {p A U V d x y y' c b c' b' lo : Nat} (h : A + d * V = U + p * (b + c)) (h1 : x * d + c = lo + 18446744073709551616 * c') (h2 : y + 18446744073709551616 * b' = y' + lo + b) :
    A + p * y' + d * (V + p * x) = U + p * y + p * 18446744073709551616 * (b' + c') := by
  have e1 : p * (y' + x * d + c + b) = p * (y + 18446744073709551616 * (b' + c')) := by congr 1; omega
  grind
theorem take_last {p A U V d y y' c b b' : Nat} (h : A + d * V = U + p * (b + c)) (h2 : y + 18446744073709551616 * b' = y' + c + b) :
    A + p * y' + d * V = U + p * y + p * 18446744073709551616 * b' := by
  have e1 : p * (y' + c + b) = p * (y + 18446744073709551616 * b') := by congr 1; omega
  grind
theorem give_last {p A U V y c : Nat} (h : A + p * c = U + V) : A + p * ((y + c) % 18446744073709551616) + p * 18446744073709551616 * ((y + c) / 18446744073709551616) = U + p * y + V := by
  have e1 : p * (y + c) = p * ((y + c) % 18446744073709551616 + 18446744073709551616 * ((y + c) / 18446744073709551616)) := by congr 1; omega
  grind
/-- Behind take: the digit was right. -/
theorem digit_right {U v q A : Nat} (hv : 0 < v) (h : A + q * v = U) (hq : q = U / v ∨ q = U / v + 1) : q = U / v ∧ A = U % v := by
  have hd := Nat.div_add_mod U v
  have hm := Nat.mod_lt U hv
  rcases hq with hq | hq
  · subst hq; refine ⟨rfl, ?_⟩
    rw [Nat.mul_comm] at h; omega
  · exfalso
    rw [hq, Nat.add_mul, Nat.one_mul, Nat.mul_comm] at h; omega
/-- Behind take and giveBack: it was one too great. -/
theorem digit_less {U v q A A2 M c : Nat} (hv : 0 < v) (hvM : v ≤ M) (hU : U < M) (h : A + q * v = U + M) (hA : A < M) (h2 : A2 + M * c = A + v) (hA2 : A2 < M) (hq : q = U / v ∨ q = U / v + 1) : 1 ≤ q ∧ q - 1 = U / v ∧ A2 = U % v := by
  have hd := Nat.div_add_mod U v
  have hm := Nat.mod_lt U hv
  generalize U / v = d at *
  generalize U % v = m at *
  rcases hq with hq | hq
  · exfalso
    rw [hq, Nat.mul_comm] at h
    generalize v * d = z at *
    omega
  · refine ⟨by omega, by omega, ?_⟩
    rw [hq, Nat.add_mul, Nat.one_mul, Nat.mul_comm] at h
    generalize v * d = z at *
    clear hq
    have : c = 1 := by
      rcases Nat.lt_or_ge c 1 with h' | h'
      · obtain rfl : c = 0 := by omega
        omega
      · rcases Nat.lt_or_ge c 2 with h'' | h''
        · omega
        · have := Nat.mul_le_mul_left M h''
          omega
    subst this
    omega
/-- One digit of the quotient. -/
theorem quo_step {a v Q R T j P : Nat} (hP : P = 18446744073709551616 ^ j) (h : a = Q * (P * 18446744073709551616) * v + (T + P * R)) :
    a = (R / v + 18446744073709551616 * Q) * P * v + (T + P * (R % v)) := by
  have hd := Nat.div_add_mod R v
  have e : P * (v * (R / v) + R % v) = P * R := by rw [hd]
  generalize R / v = d at *
  generalize R % v = m at *
  grind
end Go.Proofs.Ytpgagepleffjlaa
/-
  Plain numbers: fractions in their one form, how great their parts are, signs. No program in sight; helpers.
-/
set_option maxRecDepth 100000
set_option linter.unusedSimpArgs false
set_option linter.unusedVariables false
namespace Go.Tw

/-- A sign and a size. -/
def sgnZ (b : Bool) (n : Nat) : Int := bif b then -(n : Int) else (n : Int)
theorem sgnZ_abs (b : Bool) (n : Nat) : (sgnZ b n).natAbs = n := by cases b <;> simp [sgnZ]
theorem sgnZ_self (z : Int) : sgnZ (decide (z < 0)) z.natAbs = z := by
  by_cases h : z < 0 <;> simp [sgnZ, h] <;> omega
theorem sgnZ_neg (b : Bool) (n : Nat) : sgnZ (!b) n = - sgnZ b n := by cases b <;> simp [sgnZ]
theorem sgnZ_lt (b : Bool) (n : Nat) : decide (sgnZ b n < 0) = (b && decide (0 < n)) := by
  cases b
  · simp [sgnZ]; exact decide_eq_false (by omega)
  · simp [sgnZ]
theorem sgnZ_false (n : Nat) : sgnZ false n = n := rfl
theorem sgnZ_mul (a b : Bool) (m n : Nat) : sgnZ a m * sgnZ b n = sgnZ (a != b) (m * n) := by
  cases a <;> cases b <;> simp [sgnZ, Int.neg_mul, Int.mul_neg]
theorem sgnZ_add (a : Bool) (m n : Nat) : sgnZ a m + sgnZ a n = sgnZ a (m + n) := by
  cases a <;> simp [sgnZ] <;> omega
/-- Below 0, 0, above. -/
def sgI (z : Int) : Int := if z < 0 then -1 else if 0 < z then 1 else 0
def sgQ (q : Rat) : Int := if q < 0 then -1 else if 0 < q then 1 else 0
def cmpZ (x y : Int) : Int := if x < y then -1 else if y < x then 1 else 0

/-- At most k digits. -/
def Fit (k : Nat) (z : Int) : Prop := (dig z.natAbs).length ≤ k
theorem Fit_iff {k : Nat} {z : Int} : Fit k z ↔ z.natAbs < 18446744073709551616 ^ k :=
  ⟨fun h => Nat.lt_of_lt_of_le (dig_lt _) (Nat.pow_le_pow_right (by omega) h), fun h => dig_len_le _ _ h⟩
theorem pow_ge1 (k : Nat) : 1 ≤ 18446744073709551616 ^ k := Nat.pow_pos (by omega)
theorem Fit.mono {j k : Nat} {z : Int} (h : Fit j z) (hk : j ≤ k) : Fit k z := Nat.le_trans h hk
theorem Fit.len {k : Nat} {z : Int} (h : Fit k z) : (dig z.natAbs).length ≤ k := h
theorem Fit.mul {j k : Nat} {x y : Int} (h : Fit j x) (h' : Fit k y) : Fit (j + k) (x * y) := by
  rw [Fit_iff] at *
  rw [Int.natAbs_mul, Nat.pow_add]
  exact Nat.mul_lt_mul'' h h'
theorem Fit.add {j k : Nat} {x y : Int} (h : Fit j x) (h' : Fit k y) : Fit (max j k + 1) (x + y) := by
  have h1 := h.mono (Nat.le_max_left j k)
  have h2 := h'.mono (Nat.le_max_right j k)
  rw [Fit_iff] at *
  rw [Nat.pow_succ]
  have := Int.natAbs_add_le x y
  omega
theorem Fit.neg {k : Nat} {x : Int} (h : Fit k x) : Fit k (-x) := by unfold Fit at *; rwa [Int.natAbs_neg]
theorem Fit.zero (k : Nat) : Fit k 0 := Nat.zero_le k
theorem Fit.one : Fit 1 1 := by rw [Fit_iff]; decide
theorem Fit.le {k : Nat} {x y : Int} (h : Fit k y) (hl : x.natAbs ≤ y.natAbs) : Fit k x := Nat.le_trans (dig_len_mono hl) h
theorem Fit.div {k : Nat} {x y : Int} (h : Fit k x) : Fit k (x / y) := Fit.le h (Int.natAbs_ediv_le_natAbs x y)

/-- A fraction both of whose parts have at most k digits. -/
structure FitQ (k : Nat) (q : Rat) : Prop where
  num : Fit k q.num
  den : Fit k (q.den : Int)
theorem FitQ.mono {j k : Nat} {q : Rat} (h : FitQ j q) (hk : j ≤ k) : FitQ k q := ⟨h.num.mono hk, h.den.mono hk⟩

theorem make_num (n d : Int) (hd : d ≠ 0) : (Rat.divInt n d).num = n / ((Int.gcd n d : Int) * d.sign) := by
  rw [Rat.num_divInt, Int.gcd_comm d n]
  rcases Int.lt_or_lt_of_ne hd with h | h
  · rw [Int.sign_eq_neg_one_of_neg h, Int.mul_neg, Int.mul_one, Int.ediv_neg, Int.neg_mul, Int.one_mul, Int.neg_ediv_of_dvd (Int.gcd_dvd_left ..)]
  · rw [Int.sign_eq_one_of_pos h, Int.mul_one, Int.one_mul]
theorem make_den (n d : Int) (hd : d ≠ 0) : ((Rat.divInt n d).den : Int) = d / ((Int.gcd n d : Int) * d.sign) := by
  rw [Rat.den_divInt, if_neg hd, Int.gcd_comm d n]
  rcases Int.lt_or_lt_of_ne hd with h | h
  · rw [Int.sign_eq_neg_one_of_neg h, Int.mul_neg, Int.mul_one, Int.ediv_neg]
    obtain ⟨m, hm⟩ : ∃ m : Nat, d = -(m : Int) := ⟨d.natAbs, by omega⟩
    subst hm
    rw [Int.natAbs_neg, Int.natAbs_natCast, Int.natCast_ediv]
    rw [← Int.neg_ediv_of_dvd (Int.gcd_dvd_right ..), Int.neg_neg]
  · rw [Int.sign_eq_one_of_pos h, Int.mul_one]
    obtain ⟨m, hm⟩ : ∃ m : Nat, d = (m : Int) := ⟨d.natAbs, by omega⟩
    subst hm
    rw [Int.natAbs_natCast, Int.natCast_ediv]
theorem divInt_le_num (n d : Int) (hd : d ≠ 0) : (Rat.divInt n d).num.natAbs ≤ n.natAbs := by
  rw [make_num n d hd]; exact Int.natAbs_ediv_le_natAbs _ _
theorem divInt_le_den (n d : Int) (hd : d ≠ 0) : (Rat.divInt n d).den ≤ d.natAbs := by
  have := make_den n d hd
  have h := Int.natAbs_ediv_le_natAbs d ((Int.gcd n d : Int) * d.sign)
  rw [← this] at h; simpa using h
theorem FitQ.make {k : Nat} {n d : Int} (hn : Fit k n) (hd : Fit k d) (h1 : 1 ≤ k) : FitQ k (Rat.divInt n d) := by
  by_cases h : d = 0
  · subst h
    rw [Rat.divInt_zero]
    exact ⟨Fit.zero k, Fit.one.mono h1⟩
  · exact ⟨hn.le (divInt_le_num n d h), hd.le (by simpa using divInt_le_den n d h)⟩

theorem FitQ.mul {j k : Nat} {p q : Rat} (h : FitQ j p) (h' : FitQ k q) (h1 : 1 ≤ j + k) : FitQ (j + k) (p * q) := by
  have e : p * q = Rat.divInt (p.num * q.num) ((p.den : Int) * q.den) := by
    rw [← Rat.divInt_mul_divInt, Rat.num_divInt_den, Rat.num_divInt_den]
  rw [e]
  exact FitQ.make (Fit.mul h.num h'.num) (Fit.mul h.den h'.den) h1
theorem FitQ.add {j k : Nat} {p q : Rat} (h : FitQ j p) (h' : FitQ k q) : FitQ (j + k + 1) (p + q) := by
  have e : p + q = Rat.divInt (p.num * q.den + q.num * p.den) ((p.den : Int) * q.den) := by
    rw [← Int.natCast_mul]; exact Rat.add_def' p q
  rw [e]
  refine FitQ.make ?_ ((Fit.mul h.den h'.den).mono (by omega)) (by omega)
  exact (Fit.add (Fit.mul h.num h'.den) (Fit.mul h'.num h.den)).mono (by omega)
theorem FitQ.neg {k : Nat} {p : Rat} (h : FitQ k p) : FitQ k (-p) := ⟨by rw [Rat.neg_num]; exact h.num.neg, by rw [Rat.neg_den]; exact h.den⟩
theorem FitQ.sub {j k : Nat} {p q : Rat} (h : FitQ j p) (h' : FitQ k q) : FitQ (j + k + 1) (p - q) := by
  rw [Rat.sub_eq_add_neg]; exact FitQ.add h h'.neg
theorem sgI_mul (a b : Int) : sgI a * sgI b = sgI (a * b) := by
  unfold sgI
  rcases Int.lt_trichotomy a 0 with h | h | h <;> rcases Int.lt_trichotomy b 0 with h' | h' | h'
  · have := Int.mul_pos_of_neg_of_neg h h'
    rw [if_pos h, if_pos h', if_neg (by omega), if_pos this]; rfl
  · subst h'; simp
  · have := Int.mul_neg_of_neg_of_pos h h'
    rw [if_pos h, if_neg (by omega), if_pos h', if_pos this]; rfl
  · subst h; simp
  · subst h; simp
  · subst h; simp
  · have := Int.mul_neg_of_pos_of_neg h h'
    rw [if_neg (by omega), if_pos h, if_pos h', if_pos this]; rfl
  · subst h'; simp
  · have := Int.mul_pos h h'
    rw [if_neg (by omega), if_pos h, if_neg (by omega), if_pos h', if_neg (by omega), if_pos this]; rfl
theorem q_eq (q : Rat) : Rat.divInt q.num q.den = q := Rat.num_divInt_den q
theorem sgQ_num (q : Rat) : sgQ q = sgI q.num := by
  unfold sgQ sgI
  have h1 : q < 0 ↔ q.num < 0 := by
    rw [Rat.lt_iff]; simp
  have h2 : 0 < q ↔ 0 < q.num := by
    rw [Rat.lt_iff]; simp
  simp only [h1, h2]
theorem sgI_divInt (n d : Int) : sgQ (Rat.divInt n d) = sgI (n * d) := by
  rw [sgQ_num]
  by_cases hd : d = 0
  · subst hd; simp [sgI]
  · rw [Rat.num_divInt]
    have hg : 0 < ((Int.gcd d n : Nat) : Int) := by
      have := Int.gcd_pos_of_ne_zero_left n hd; omega
    obtain ⟨m, hm⟩ : ((Int.gcd d n : Nat) : Int) ∣ n := Int.gcd_dvd_right ..
    have h1 : d.sign * n / ((Int.gcd d n : Nat) : Int) = d.sign * m := by
      generalize ((Int.gcd d n : Nat) : Int) = g at *
      subst hm
      rw [Int.mul_left_comm, Int.mul_ediv_cancel_left _ (by omega)]
    have h2 : sgI n = sgI m := by
      have : sgI ((Int.gcd d n : Nat) : Int) = 1 := by unfold sgI; rw [if_neg (by omega), if_pos hg]
      have h3 := sgI_mul ((Int.gcd d n : Nat) : Int) m
      rw [this, Int.one_mul, ← hm] at h3
      exact h3.symm
    have h4 : sgI d.sign = sgI d := by
      unfold sgI
      rcases Int.lt_trichotomy d 0 with h | h | h
      · rw [Int.sign_eq_neg_one_of_neg h, if_pos h]; rfl
      · exact absurd h hd
      · rw [Int.sign_eq_one_of_pos h, if_neg (by omega), if_pos (by omega), if_neg (by omega), if_pos h]
    rw [h1, ← sgI_mul, h4, ← sgI_mul, h2, Int.mul_comm]
theorem sub_lt (a b : Rat) : a - b < 0 ↔ a < b := by grind
theorem sub_gt (a b : Rat) : 0 < a - b ↔ b < a := by grind
end Go.Tw
/-
  Plain vectors: lists of places and fractions, what stands at a place, the one form, products. No program in sight; helpers.
-/
set_option maxRecDepth 100000
set_option linter.unusedSimpArgs false
set_option linter.unusedVariables false
namespace Go.Tw

abbrev VL := List (Int × Rat)
/-- What stands at a place. -/
def getL (x : VL) (at' : Int) : Rat :=
  match x with
  | [] => 0
  | t :: x => (if t.1 = at' then t.2 else 0) + getL x at'
/-- The one form: by rising places, nothing of 0. -/
def Cn (x : VL) : Prop := x.Pairwise (fun s t => s.1 < t.1) ∧ ∀ t ∈ x, t.2 ≠ 0

theorem getL_append (x y : VL) (p : Int) : getL (x ++ y) p = getL x p + getL y p := by
  induction x with
  | nil => simp [getL, Rat.zero_add]
  | cons t x ih => simp only [List.cons_append, getL, ih, Rat.add_assoc]
theorem getL_none {x : VL} {p : Int} (h : ∀ t ∈ x, t.1 ≠ p) : getL x p = 0 := by
  induction x with
  | nil => rfl
  | cons t x ih =>
    simp only [getL]
    rw [if_neg (h t (by simp)), ih (fun s hs => h s (by simp [hs])), Rat.zero_add]
theorem Cn.nil : Cn [] := ⟨List.Pairwise.nil, fun t h => by simp at h⟩
theorem Cn.tail {t : Int × Rat} {x : VL} (h : Cn (t :: x)) : Cn x := ⟨(List.pairwise_cons.1 h.1).2, fun s hs => h.2 s (by simp [hs])⟩
theorem Cn.head {t : Int × Rat} {x : VL} (h : Cn (t :: x)) : getL (t :: x) t.1 = t.2 := by
  simp only [getL, if_true]
  rw [getL_none, Rat.add_zero]
  intro s hs
  have := (List.pairwise_cons.1 h.1).1 s hs
  omega
theorem Cn.before {t : Int × Rat} {x : VL} (h : Cn (t :: x)) {p : Int} (hp : p < t.1) : getL (t :: x) p = 0 := by
  apply getL_none
  intro s hs
  rcases List.mem_cons.1 hs with rfl | hs
  · omega
  · have := (List.pairwise_cons.1 h.1).1 s hs
    omega
theorem addL_cancel {a b c : Rat} (h : a + b = a + c) : b = c := by grind
/-- The one form is the only one. -/
theorem Cn.ext : ∀ {x y : VL}, Cn x → Cn y → (∀ p, getL x p = getL y p) → x = y
  | [], [], _, _, _ => rfl
  | [], t :: y, _, hy, h => by
    have := h t.1
    rw [hy.head] at this
    exact absurd this.symm (hy.2 t (by simp))
  | t :: x, [], hx, _, h => by
    have := h t.1
    rw [hx.head] at this
    exact absurd this (hx.2 t (by simp))
  | s :: x, t :: y, hx, hy, h => by
    have h1 : s.1 = t.1 := by
      rcases Int.lt_trichotomy s.1 t.1 with h' | h' | h'
      · have := h s.1
        rw [hx.head, hy.before h'] at this
        exact absurd this (hx.2 s (by simp))
      · exact h'
      · have := h t.1
        rw [hy.head, hx.before h'] at this
        exact absurd this.symm (hy.2 t (by simp))
    have h2 : s.2 = t.2 := by
      have := h s.1
      rw [hx.head, h1, hy.head] at this
      exact this
    have h3 : s = t := Prod.ext h1 h2
    subst h3
    have : x = y := Cn.ext hx.tail hy.tail (fun p => by
      have := h p
      simp only [getL] at this
      exact addL_cancel this)
    rw [this]
theorem Cn.snoc {x : VL} {t : Int × Rat} (h : Cn x) (hl : ∀ s ∈ x, s.1 < t.1) (ht : t.2 ≠ 0) : Cn (x ++ [t]) := by
  refine ⟨?_, ?_⟩
  · rw [List.pairwise_append]
    exact ⟨h.1, by simp, fun s hs u hu => by rw [List.mem_singleton] at hu; subst hu; exact hl s hs⟩
  · intro s hs
    rcases List.mem_append.1 hs with hs | hs
    · exact h.2 s hs
    · rw [List.mem_singleton] at hs; subst hs; exact ht

/-- The products' sum. -/
def dotL (x y : VL) : Rat :=
  match x with
  | [] => 0
  | t :: x => t.2 * getL y t.1 + dotL x y
/-- A sum over places. -/
def sumP (S : List Int) (f : Int → Rat) : Rat :=
  match S with
  | [] => 0
  | p :: S => f p + sumP S f
theorem sumP_add (S : List Int) (f g : Int → Rat) : sumP S (fun p => f p + g p) = sumP S f + sumP S g := by
  induction S with
  | nil => simp [sumP, Rat.add_zero]
  | cons p S ih => simp only [sumP, ih]; grind
theorem sumP_mul (S : List Int) (a : Rat) (f : Int → Rat) : sumP S (fun p => a * f p) = a * sumP S f := by
  induction S with
  | nil => simp [sumP, Rat.mul_zero]
  | cons p S ih => simp only [sumP, ih]; grind
theorem sumP_zero {S : List Int} {f : Int → Rat} (h : ∀ p ∈ S, f p = 0) : sumP S f = 0 := by
  induction S with
  | nil => rfl
  | cons p S ih => simp only [sumP]; rw [h p (by simp), ih (fun q hq => h q (by simp [hq])), Rat.add_zero]
theorem sumP_one {S : List Int} (hS : S.Nodup) {p : Int} (hp : p ∈ S) (a : Rat) (f : Int → Rat) : sumP S (fun q => (if p = q then a else 0) * f q) = a * f p := by
  induction S with
  | nil => simp at hp
  | cons q S ih =>
    simp only [sumP]
    by_cases hq : p = q
    · subst hq
      have hn := (List.nodup_cons.1 hS).1
      rw [if_pos rfl, sumP_zero (f := fun q => (if p = q then a else 0) * f q), Rat.add_zero]
      intro r hr
      have : p ≠ r := fun e => hn (e ▸ hr)
      simp only [if_neg this, Rat.zero_mul]
    · rw [if_neg hq, Rat.zero_mul, Rat.zero_add]
      exact ih (List.nodup_cons.1 hS).2 ((List.mem_cons.1 hp).resolve_left hq)
theorem dotL_sum {S : List Int} (hS : S.Nodup) : ∀ {x : VL} (y : VL), (∀ t ∈ x, t.1 ∈ S) → dotL x y = sumP S (fun p => getL x p * getL y p)
  | [], y, _ => by simp only [dotL, getL, Rat.zero_mul]; exact (sumP_zero fun _ _ => rfl).symm
  | t :: x, y, h => by
    simp only [dotL, getL]
    rw [dotL_sum hS y (fun s hs => h s (by simp [hs]))]
    have : (fun p => ((if t.1 = p then t.2 else 0) + getL x p) * getL y p) = fun p => (if t.1 = p then t.2 else 0) * getL y p + getL x p * getL y p := by funext p; rw [Rat.add_mul]
    rw [this, sumP_add, sumP_one hS (h t (by simp))]
def placesL (x y : VL) : List Int := (x.map (·.1) ++ y.map (·.1)).eraseDups
theorem eraseDups_nodup : ∀ (l : List Int), l.eraseDups.Nodup := by
  intro l
  induction h : l.length using Nat.strongRecOn generalizing l with
  | _ n ih =>
    cases l with
    | nil => simp
    | cons a l =>
      rw [List.eraseDups_cons, List.nodup_cons]
      have hl : (List.filter (fun b => !b == a) l).length < n := by
        have := List.length_filter_le (fun b => !b == a) l
        simp at h; omega
      refine ⟨?_, ih _ hl _ rfl⟩
      intro hm
      rw [List.mem_eraseDups] at hm
      simp at hm
theorem mem_places {x y : VL} {t : Int × Rat} (h : t ∈ x ∨ t ∈ y) : t.1 ∈ placesL x y := by
  unfold placesL
  rw [List.mem_eraseDups, List.mem_append]
  rcases h with h | h
  · exact .inl (List.mem_map.2 ⟨t, h, rfl⟩)
  · exact .inr (List.mem_map.2 ⟨t, h, rfl⟩)
theorem dotL_comm (x y : VL) : dotL x y = dotL y x := by
  rw [dotL_sum (eraseDups_nodup _) y (fun t ht => mem_places (x := x) (y := y) (.inl ht)), dotL_sum (S := placesL x y) (eraseDups_nodup _) x (fun t ht => mem_places (x := x) (y := y) (.inr ht))]
  congr 1
  funext p
  exact Rat.mul_comm ..
theorem dotL_congr {x x' y y' : VL} (h : ∀ p, getL x p = getL x' p) (h' : ∀ p, getL y p = getL y' p) : dotL x y = dotL x' y' := by
  have e1 : ∀ (z : VL) , dotL z y = dotL z y' := by
    intro z
    induction z with
    | nil => rfl
    | cons t z ih => simp only [dotL, ih, h']
  rw [e1, dotL_comm x, dotL_comm x']
  induction y' with
  | nil => rfl
  | cons t z ih => simp only [dotL, h]; congr 1; exact dotL_congr_aux z h
where
  dotL_congr_aux (z : VL) {x x' : VL} (h : ∀ p, getL x p = getL x' p) : dotL z x = dotL z x' := by
    induction z with
    | nil => rfl
    | cons t z ih => simp only [dotL, ih, h]
theorem dotL_lin {x y z u : VL} {a : Rat} (h : ∀ p, getL u p = getL y p + a * getL x p) : dotL u z = dotL y z + a * dotL x z := by
  rw [dotL_comm u, dotL_comm y, dotL_comm x]
  induction z with
  | nil => simp only [dotL]; grind
  | cons t z ih => simp only [dotL, h, ih]; grind
end Go.Tw
/-
  Plain vectors: sums by places of a list in order; lists merged. No program in sight; helpers.
-/
set_option maxRecDepth 100000
set_option linter.unusedSimpArgs false
set_option linter.unusedVariables false
namespace Go.Tw

def pl (ys : VL) (j : Nat) : Int := (ys.getD j (0, 0)).1
def xl (ys : VL) (j : Nat) : Rat := (ys.getD j (0, 0)).2
theorem vget {ys : VL} {j : Nat} (h : j < ys.length) : ys[j]? = some (pl ys j, xl ys j) := by
  unfold pl xl
  rw [List.getD_eq_getElem?_getD, List.getElem?_eq_getElem h]; rfl
/-- By places that do not fall. -/
def Asc (ys : VL) : Prop := ∀ p q, p < q → q < ys.length → pl ys p ≤ pl ys q
theorem getL_take_succ {ys : VL} {j : Nat} (h : j < ys.length) (p : Int) : getL (ys.take (j + 1)) p = getL (ys.take j) p + (if pl ys j = p then xl ys j else 0) := by
  rw [List.take_succ_eq_append_getElem h, getL_append]
  have e : ys[j] = (pl ys j, xl ys j) := by
    have := vget h
    rw [List.getElem?_eq_getElem h] at this
    exact Option.some.inj this
  rw [e]
  simp only [getL, Rat.add_zero]
theorem getL_perm {x y : VL} (h : x.Perm y) (p : Int) : getL x p = getL y p := by
  induction h with
  | nil => rfl
  | cons a _ ih => simp only [getL, ih]
  | swap a b l => simp only [getL]; rw [← Rat.add_assoc, ← Rat.add_assoc, Rat.add_comm (if b.1 = p then b.2 else 0)]
  | trans _ _ h1 h2 => exact h1.trans h2

/-- What Norm knows at the head of its loop. -/
structure NormI (ys zs : VL) (i : Nat) : Prop where
  il : i ≤ ys.length
  cn : Cn zs
  get : ∀ p, getL zs p = getL (ys.take i) p
  low : ∀ s ∈ zs, ∀ j, i ≤ j → j < ys.length → s.1 < pl ys j
  sub : ∀ s ∈ zs, ∃ t ∈ ys, t.1 = s.1
  len : zs.length ≤ i
theorem NormI.first (ys : VL) : NormI ys [] 0 := ⟨Nat.zero_le _, Cn.nil, fun p => rfl, fun s h => by simp at h, fun s h => by simp at h, Nat.le_refl _⟩
structure SumI (ys zs : VL) (i0 i : Nat) (q : Rat) : Prop where
  il : i ≤ ys.length
  ge : i0 ≤ i
  lt0 : i0 < ys.length
  cn : Cn zs
  low : ∀ s ∈ zs, ∀ j, i0 ≤ j → j < ys.length → s.1 < pl ys j
  sub : ∀ s ∈ zs, ∃ t ∈ ys, t.1 = s.1
  same : ∀ j, i0 ≤ j → j < i → pl ys j = pl ys i0
  get : ∀ p, getL (ys.take i) p = getL zs p + (if pl ys i0 = p then q else 0)
  len : zs.length ≤ i0
theorem NormI.sum {ys zs : VL} {i : Nat} (h : NormI ys zs i) (hi : i < ys.length) : SumI ys zs i i 0 :=
  ⟨h.il, Nat.le_refl _, hi, h.cn, h.low, h.sub, fun j h1 h2 => by omega, fun p => by rw [← h.get]; split <;> rw [Rat.add_zero], h.len⟩
theorem SumI.step {ys zs : VL} {i0 i : Nat} {q : Rat} (h : SumI ys zs i0 i q) (hi : i < ys.length) (he : pl ys i = pl ys i0) : SumI ys zs i0 (i + 1) (q + xl ys i) := by
  refine ⟨hi, by have := h.ge; omega, h.lt0, h.cn, h.low, h.sub, fun j h1 h2 => ?_, fun p => ?_, h.len⟩
  · by_cases hj : j = i
    · subst hj; exact he
    · exact h.same j h1 (by omega)
  · rw [getL_take_succ hi, h.get, he]
    split
    · rw [Rat.add_assoc]
    · rw [Rat.add_zero, Rat.add_zero]
theorem SumI.out {ys zs : VL} {i0 i : Nat} {q : Rat} (h : SumI ys zs i0 i q) (ha : Asc ys) (hx : i = ys.length ∨ (i < ys.length ∧ pl ys i ≠ pl ys i0)) : i0 < i ∧ ∀ j, i ≤ j → j < ys.length → pl ys i0 < pl ys j := by
  have h0 := h.ge
  have hlt := h.lt0
  refine ⟨?_, fun j h1 h2 => ?_⟩
  · rcases hx with hx | ⟨hx1, hx2⟩
    · omega
    · rcases Nat.lt_or_ge i0 i with h' | h'
      · exact h'
      · exfalso; apply hx2
        have : i = i0 := by omega
        rw [this]
  · rcases hx with hx | ⟨hx1, hx2⟩
    · omega
    · have a1 : pl ys i0 ≤ pl ys i := by
        rcases Nat.lt_or_ge i0 i with h' | h'
        · exact ha i0 i h' hx1
        · have : i = i0 := by omega
          rw [this]; exact Int.le_refl _
      have a2 : pl ys i ≤ pl ys j := by
        rcases Nat.lt_or_ge i j with h' | h'
        · exact ha i j h' h2
        · have : i = j := by omega
          rw [this]; exact Int.le_refl _
      omega
theorem SumI.keep {ys zs : VL} {i0 i : Nat} {q : Rat} (h : SumI ys zs i0 i q) (hq : q = 0) (hi : i0 < i) : NormI ys zs i := by
  refine ⟨h.il, h.cn, fun p => ?_, fun s hs j h1 h2 => h.low s hs j (by omega) h2, h.sub, by have := h.len; omega⟩
  rw [h.get, hq]; split <;> rw [Rat.add_zero]
theorem SumI.push {ys zs : VL} {i0 i : Nat} {q : Rat} (h : SumI ys zs i0 i q) (hq : q ≠ 0) (ho : i0 < i ∧ ∀ j, i ≤ j → j < ys.length → pl ys i0 < pl ys j) : NormI ys (zs ++ [(pl ys i0, q)]) i := by
  refine ⟨h.il, h.cn.snoc (fun s hs => h.low s hs i0 (Nat.le_refl _) h.lt0) hq, fun p => ?_, fun s hs j h1 h2 => ?_, fun s hs => ?_, by have := h.len; have := ho.1; rw [List.length_append, List.length_singleton]; omega⟩
  · rw [getL_append, h.get]
    simp only [getL, Rat.add_zero]
  · rcases List.mem_append.1 hs with hs | hs
    · exact h.low s hs j (by omega) h2
    · rw [List.mem_singleton] at hs; subst hs; exact ho.2 j h1 h2
  · rcases List.mem_append.1 hs with hs | hs
    · exact h.sub s hs
    · rw [List.mem_singleton] at hs; subst hs
      exact ⟨_, List.mem_of_getElem? (vget h.lt0), rfl⟩
theorem NormI.done {ys zs : VL} {i : Nat} (h : NormI ys zs i) (hi : ys.length ≤ i) : Cn zs ∧ (∀ p, getL zs p = getL ys p) ∧ ∀ s ∈ zs, ∃ t ∈ ys, t.1 = s.1 :=
  ⟨h.cn, fun p => by rw [h.get, List.take_of_length_le hi], h.sub⟩

/-! ### two lists merged -/
/-- By rising places. -/
def Ris (x : VL) : Prop := x.Pairwise (fun s t => s.1 < t.1)
theorem Ris.tail {t : Int × Rat} {x : VL} (h : Ris (t :: x)) : Ris x := (List.pairwise_cons.1 h).2
theorem Ris.head {t : Int × Rat} {x : VL} (h : Ris (t :: x)) : ∀ s ∈ x, t.1 < s.1 := (List.pairwise_cons.1 h).1
/-- What Axpy knows: what is left of both, what is there, and the whole. -/
structure MrgI (a : Rat) (x y xs ys zs : VL) : Prop where
  rx : Ris x
  ry : Ris y
  cn : Cn zs
  lx : ∀ s ∈ zs, ∀ t ∈ x, s.1 < t.1
  ly : ∀ s ∈ zs, ∀ t ∈ y, s.1 < t.1
  get : ∀ p, getL zs p + (getL y p + a * getL x p) = getL ys p + a * getL xs p
  len : zs.length + (y.length + x.length) ≤ ys.length + xs.length
theorem MrgI.first {a : Rat} {xs ys : VL} (hx : Ris xs) (hy : Ris ys) : MrgI a xs ys xs ys [] :=
  ⟨hx, hy, Cn.nil, fun s h => by simp at h, fun s h => by simp at h, fun p => by simp only [getL]; rw [Rat.zero_add], by simp⟩
/-- A term told, if it is not 0. -/
def putL (zs : VL) (at' : Int) (v : Rat) : VL := if v = 0 then zs else zs ++ [(at', v)]
theorem getL_put (zs : VL) (at' : Int) (v : Rat) (p : Int) : getL (putL zs at' v) p = getL zs p + (if at' = p then v else 0) := by
  unfold putL
  split
  · rename_i h; rw [h]; split <;> rw [Rat.add_zero]
  · rw [getL_append]; simp only [getL, Rat.add_zero]
theorem put_len (zs : VL) (at' : Int) (v : Rat) : (putL zs at' v).length ≤ zs.length + 1 := by
  unfold putL; split
  · omega
  · simp
theorem put_cn {zs : VL} {at' : Int} {v : Rat} (h : Cn zs) (hl : ∀ s ∈ zs, s.1 < at') : Cn (putL zs at' v) := by
  unfold putL; split
  · exact h
  · rename_i hv; exact h.snoc hl hv
theorem put_mem {zs : VL} {at' : Int} {v : Rat} {s : Int × Rat} (h : s ∈ putL zs at' v) : s ∈ zs ∨ s.1 = at' := by
  unfold putL at h; split at h
  · exact .inl h
  · rcases List.mem_append.1 h with h | h
    · exact .inl h
    · rw [List.mem_singleton] at h; subst h; exact .inr rfl
theorem MrgI.takeY {a : Rat} {x y xs ys zs : VL} {t : Int × Rat} (h : MrgI a x (t :: y) xs ys zs) (hx : ∀ s ∈ x, t.1 < s.1) : MrgI a x y xs ys (putL zs t.1 t.2) := by
  refine ⟨h.rx, h.ry.tail, put_cn h.cn fun s hs => h.ly s hs t (by simp), fun s hs u hu => ?_, fun s hs u hu => ?_, fun p => ?_, ?_⟩
  · rcases put_mem hs with hs | hs
    · exact h.lx s hs u hu
    · rw [hs]; exact hx u hu
  · rcases put_mem hs with hs | hs
    · exact h.ly s hs u (by simp [hu])
    · rw [hs]; exact h.ry.head u hu
  · rw [← h.get p, getL_put]
    simp only [getL]
    grind
  · have := put_len zs t.1 t.2
    have := h.len
    simp at this ⊢
    omega
theorem MrgI.takeX {a : Rat} {x y xs ys zs : VL} {t : Int × Rat} (h : MrgI a (t :: x) y xs ys zs) (hy : ∀ s ∈ y, t.1 < s.1) : MrgI a x y xs ys (putL zs t.1 (a * t.2)) := by
  refine ⟨h.rx.tail, h.ry, put_cn h.cn fun s hs => h.lx s hs t (by simp), fun s hs u hu => ?_, fun s hs u hu => ?_, fun p => ?_, ?_⟩
  · rcases put_mem hs with hs | hs
    · exact h.lx s hs u (by simp [hu])
    · rw [hs]; exact h.rx.head u hu
  · rcases put_mem hs with hs | hs
    · exact h.ly s hs u hu
    · rw [hs]; exact hy u hu
  · rw [← h.get p, getL_put]
    simp only [getL]
    split <;> grind
  · have := put_len zs t.1 (a * t.2)
    have := h.len
    simp at this ⊢
    omega
theorem MrgI.both {a : Rat} {x y xs ys zs : VL} {s t : Int × Rat} (h : MrgI a (s :: x) (t :: y) xs ys zs) (he : s.1 = t.1) : MrgI a x y xs ys (putL zs s.1 (t.2 + a * s.2)) := by
  refine ⟨h.rx.tail, h.ry.tail, put_cn h.cn fun u hu => h.lx u hu s (by simp), fun v hv u hu => ?_, fun v hv u hu => ?_, fun p => ?_, ?_⟩
  · rcases put_mem hv with hv | hv
    · exact h.lx v hv u (by simp [hu])
    · rw [hv]; exact h.rx.head u hu
  · rcases put_mem hv with hv | hv
    · exact h.ly v hv u (by simp [hu])
    · rw [hv, he]; exact h.ry.head u hu
  · rw [← h.get p, getL_put]
    simp only [getL]
    rw [he]
    split <;> grind
  · have := put_len zs s.1 (t.2 + a * s.2)
    have := h.len
    simp at this ⊢
    omega
theorem MrgI.done {a : Rat} {xs ys zs : VL} (h : MrgI a [] [] xs ys zs) : Cn zs ∧ (∀ p, getL zs p = getL ys p + a * getL xs p) ∧ zs.length ≤ ys.length + xs.length := by
  refine ⟨h.cn, fun p => ?_, by have := h.len; simpa using this⟩
  rw [← h.get p]
  simp only [getL]
  grind
/-- What Dot knows. -/
structure DotI (x y xs ys : VL) (s : Rat) : Prop where
  rx : Ris x
  ry : Ris y
  sum : s + dotL x y = dotL xs ys
theorem DotI.dropX {x y xs ys : VL} {s : Rat} {t : Int × Rat} (h : DotI (t :: x) y xs ys s) (hy : ∀ u ∈ y, t.1 < u.1) : DotI x y xs ys s := by
  refine ⟨h.rx.tail, h.ry, ?_⟩
  rw [← h.sum]
  simp only [dotL]
  rw [getL_none (fun u hu => by have := hy u hu; omega), Rat.mul_zero, Rat.zero_add]
theorem dotL_dropY {x y : VL} {t : Int × Rat} (hx : ∀ u ∈ x, t.1 < u.1) : dotL x (t :: y) = dotL x y := by
  induction x with
  | nil => rfl
  | cons s x ih =>
    simp only [dotL, getL]
    rw [ih (fun u hu => hx u (by simp [hu])), if_neg (by have := hx s (by simp); omega), Rat.zero_add]
theorem DotI.dropY {x y xs ys : VL} {s : Rat} {t : Int × Rat} (h : DotI x (t :: y) xs ys s) (hx : ∀ u ∈ x, t.1 < u.1) : DotI x y xs ys s := by
  refine ⟨h.rx, h.ry.tail, ?_⟩
  rw [← h.sum, dotL_dropY hx]
theorem DotI.both {x y xs ys : VL} {q : Rat} {s t : Int × Rat} (h : DotI (s :: x) (t :: y) xs ys q) (he : s.1 = t.1) : DotI x y xs ys (q + s.2 * t.2) := by
  refine ⟨h.rx.tail, h.ry.tail, ?_⟩
  rw [← h.sum]
  have h1 : dotL x (t :: y) = dotL x y := dotL_dropY (fun u hu => by have := h.rx.head u hu; omega)
  simp only [dotL, getL]
  rw [h1, if_pos he.symm, getL_none (x := y) (fun u hu => by have := h.ry.head u hu; omega), Rat.add_zero]
  grind
theorem DotI.done {x y xs ys : VL} {s : Rat} (h : DotI x y xs ys s) (he : x = [] ∨ y = []) : s = dotL xs ys := by
  rw [← h.sum]
  rcases he with rfl | rfl
  · simp only [dotL, Rat.add_zero]
  · rw [dotL_comm]; simp only [dotL, Rat.add_zero]
end Go.Tw
/-
  Plain vectors: the one form of a list. No program in sight; helpers.
-/
set_option maxRecDepth 100000
set_option linter.unusedSimpArgs false
set_option linter.unusedVariables false
namespace Go.Tw

def insL (t : Int × Rat) (zs : VL) : VL :=
  match zs with
  | [] => if t.2 = 0 then [] else [t]
  | s :: zs => if t.1 < s.1 then (if t.2 = 0 then s :: zs else t :: s :: zs) else if t.1 = s.1 then (if t.2 + s.2 = 0 then zs else (s.1, t.2 + s.2) :: zs) else s :: insL t zs
def nrm (xs : VL) : VL :=
  match xs with
  | [] => []
  | t :: xs => insL t (nrm xs)
theorem insL_mem {t : Int × Rat} {zs : VL} {u : Int × Rat} (h : u ∈ insL t zs) : u.1 = t.1 ∨ ∃ s ∈ zs, s.1 = u.1 := by
  induction zs with
  | nil =>
    simp only [insL] at h
    split at h
    · simp at h
    · rw [List.mem_singleton] at h; subst h; exact .inl rfl
  | cons s zs ih =>
    simp only [insL] at h
    split at h
    · split at h
      · exact .inr ⟨u, h, rfl⟩
      · rcases List.mem_cons.1 h with rfl | h
        · exact .inl rfl
        · exact .inr ⟨u, h, rfl⟩
    · split at h
      · split at h
        · exact .inr ⟨u, by simp [h], rfl⟩
        · rcases List.mem_cons.1 h with rfl | h
          · exact .inr ⟨s, by simp, rfl⟩
          · exact .inr ⟨u, by simp [h], rfl⟩
      · rcases List.mem_cons.1 h with rfl | h
        · exact .inr ⟨u, by simp, rfl⟩
        · rcases ih h with h | ⟨v, hv, he⟩
          · exact .inl h
          · exact .inr ⟨v, by simp [hv], he⟩
theorem insL_cn {t : Int × Rat} {zs : VL} (h : Cn zs) : Cn (insL t zs) := by
  induction zs with
  | nil =>
    simp only [insL]
    split
    · exact Cn.nil
    · rename_i ht
      exact ⟨by simp, fun s hs => by rw [List.mem_singleton] at hs; subst hs; exact ht⟩
  | cons s zs ih =>
    have hh := List.pairwise_cons.1 h.1
    simp only [insL]
    split
    · rename_i hlt
      split
      · exact h
      · rename_i ht
        refine ⟨List.pairwise_cons.2 ⟨fun u hu => ?_, h.1⟩, fun u hu => ?_⟩
        · rcases List.mem_cons.1 hu with rfl | hu
          · exact hlt
          · exact Int.lt_trans hlt (hh.1 u hu)
        · rcases List.mem_cons.1 hu with rfl | hu
          · exact ht
          · exact h.2 u hu
    · split
      · split
        · exact h.tail
        · rename_i hne
          refine ⟨List.pairwise_cons.2 ⟨hh.1, hh.2⟩, fun u hu => ?_⟩
          rcases List.mem_cons.1 hu with rfl | hu
          · exact hne
          · exact h.2 u (by simp [hu])
      · rename_i h1 h2
        have ih := ih h.tail
        refine ⟨List.pairwise_cons.2 ⟨fun u hu => ?_, ih.1⟩, fun u hu => ?_⟩
        · rcases insL_mem hu with hu | ⟨v, hv, he⟩
          · omega
          · rw [← he]; exact hh.1 v hv
        · rcases List.mem_cons.1 hu with rfl | hu
          · exact h.2 _ (by simp)
          · exact ih.2 u hu
theorem insL_get (t : Int × Rat) (zs : VL) (p : Int) : getL (insL t zs) p = (if t.1 = p then t.2 else 0) + getL zs p := by
  induction zs with
  | nil =>
    simp only [insL]
    split
    · rename_i h; simp only [getL, h]; split <;> rw [Rat.add_zero]
    · simp only [getL]
  | cons s zs ih =>
    simp only [insL]
    split
    · split
      · rename_i h; simp only [getL, h]; (repeat' split) <;> grind
      · simp only [getL]
    · split
      · rename_i h
        split
        · rename_i h0
          simp only [getL, h]
          split
          · rw [← Rat.add_assoc, h0, Rat.zero_add]
          · rw [Rat.zero_add, Rat.zero_add]
        · simp only [getL, h]
          split
          · rw [Rat.add_assoc]
          · rw [Rat.zero_add, Rat.zero_add]
      · simp only [getL, ih]; grind
theorem nrm_cn (xs : VL) : Cn (nrm xs) := by
  induction xs with
  | nil => exact Cn.nil
  | cons t xs ih => exact insL_cn ih
theorem nrm_get (xs : VL) (p : Int) : getL (nrm xs) p = getL xs p := by
  induction xs with
  | nil => rfl
  | cons t xs ih => simp only [nrm, insL_get, ih, getL]
theorem nrm_eq {xs zs : VL} (h : Cn zs) (hg : ∀ p, getL zs p = getL xs p) : zs = nrm xs := Cn.ext h (nrm_cn xs) fun p => by rw [hg, nrm_get]
theorem nrm_congr {xs ys : VL} (h : ∀ p, getL xs p = getL ys p) : nrm xs = nrm ys := nrm_eq (nrm_cn xs) fun p => by rw [nrm_get, h]
theorem nrm_self {zs : VL} (h : Cn zs) : nrm zs = zs := (nrm_eq h fun _ => rfl).symm
theorem nrm_sub {xs : VL} : ∀ {s : Int × Rat}, s ∈ nrm xs → ∃ t ∈ xs, t.1 = s.1 := by
  induction xs with
  | nil => intro s h; simp [nrm] at h
  | cons t xs ih =>
    intro s h
    rcases insL_mem h with h | ⟨v, hv, he⟩
    · exact ⟨t, by simp, h.symm⟩
    · obtain ⟨u, hu, hue⟩ := ih hv
      exact ⟨u, by simp [hu], hue.trans he⟩
/-- Of a list without a place: as many at most. -/
theorem insL_off (t : Int × Rat) (zs : VL) (p : Int) : ((insL t zs).filter (fun s => !decide (s.1 = p))).length ≤ ([t].filter (fun s => !decide (s.1 = p))).length + (zs.filter (fun s => !decide (s.1 = p))).length := by
  induction zs with
  | nil =>
    simp only [insL]
    split
    · simp
    · simp
  | cons s zs ih =>
    simp only [insL]
    by_cases hs : s.1 = p <;> by_cases ht : t.1 = p <;> simp only [List.filter_cons, List.filter_nil, hs, ht, decide_true, decide_false, Bool.not_true, Bool.not_false, if_true, if_false, Bool.false_eq_true] at ih ⊢ <;>
      (repeat' split) <;> simp only [List.filter_cons, hs, ht, decide_true, decide_false, Bool.not_true, Bool.not_false, if_true, if_false, Bool.false_eq_true, List.length_cons, List.length_nil] at ih ⊢ <;> (try omega)
theorem nrm_off (xs : VL) (p : Int) : ((nrm xs).filter (fun s => !decide (s.1 = p))).length ≤ (xs.filter (fun s => !decide (s.1 = p))).length := by
  induction xs with
  | nil => simp [nrm]
  | cons t xs ih =>
    have := insL_off t (nrm xs) p
    simp only [nrm]
    have e : ((t :: xs).filter (fun s => !decide (s.1 = p))).length = ([t].filter (fun s => !decide (s.1 = p))).length + (xs.filter (fun s => !decide (s.1 = p))).length := by
      simp only [List.filter_cons, List.filter_nil]
      split <;> simp <;> omega
    omega
theorem insL_len (t : Int × Rat) (zs : VL) : (insL t zs).length ≤ zs.length + 1 := by
  induction zs with
  | nil => simp only [insL]; split <;> simp
  | cons s zs ih => simp only [insL]; (repeat' split) <;> simp <;> omega
theorem nrm_len (xs : VL) : (nrm xs).length ≤ xs.length := by
  induction xs with
  | nil => exact Nat.le_refl _
  | cons t xs ih => have := insL_len t (nrm xs); simp only [nrm, List.length_cons]; omega
def smul (a : Rat) (x : VL) : VL := x.map fun t => (t.1, a * t.2)
theorem getL_smul (a : Rat) (x : VL) (p : Int) : getL (smul a x) p = a * getL x p := by
  induction x with
  | nil => simp only [smul, List.map_nil, getL, Rat.mul_zero]
  | cons t x ih =>
    have ih : getL (List.map (fun t => (t.1, a * t.2)) x) p = a * getL x p := ih
    simp only [smul, List.map_cons, getL, ih, Rat.mul_add]
    split
    · rfl
    · rw [Rat.mul_zero]
/-- One, and a multiple of another one. -/
def axp (y : VL) (a : Rat) (x : VL) : VL := nrm (y ++ smul a x)
theorem axp_get (y : VL) (a : Rat) (x : VL) (p : Int) : getL (axp y a x) p = getL y p + a * getL x p := by
  unfold axp; rw [nrm_get, getL_append, getL_smul]
theorem axp_eq {y x zs : VL} {a : Rat} (h : Cn zs) (hg : ∀ p, getL zs p = getL y p + a * getL x p) : zs = axp y a x := Cn.ext h (nrm_cn _) fun p => by rw [hg, ← axp_get, axp]
theorem Cn.ris {x : VL} (h : Cn x) : Ris x := h.1
end Go.Tw
