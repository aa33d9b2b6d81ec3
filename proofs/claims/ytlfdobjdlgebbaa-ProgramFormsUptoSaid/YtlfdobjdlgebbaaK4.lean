/-
  Contracts of the layer limbs, fifth part: words multiplied, their lengths in bits. Helpers; no statement of the program is proved here.
-/
import Derived.Test.YtlfdobjdlgebbaaK3
set_option maxRecDepth 100000
set_option linter.unusedSimpArgs false
set_option linter.unusedVariables false
namespace Go.Proofs.Ytlfdobjdlgebbaa
open Go Go.Tw Go.RowKit
attribute [local irreducible] LoadAt StoreOk Stored rawVC

theorem mul64_math (x y : Nat) (hx : x < 18446744073709551616) (hy : y < 18446744073709551616) :
    let x0 := x % 4294967296; let x1 := x / 4294967296; let y0 := y % 4294967296; let y1 := y / 4294967296
    let t := x1 * y0 + x0 * y0 / 4294967296
    x0 * y0 < 18446744073709551616 ∧ x1 * y0 < 18446744073709551616 ∧ x1 * y0 + x0 * y0 / 4294967296 < 18446744073709551616 ∧ x0 * y1 < 18446744073709551616 ∧ t % 4294967296 + x0 * y1 < 18446744073709551616 ∧ x1 * y1 < 18446744073709551616 ∧
    x1 * y1 + t / 4294967296 < 18446744073709551616 ∧ x1 * y1 + t / 4294967296 + (t % 4294967296 + x0 * y1) / 4294967296 = x * y / 18446744073709551616 ∧ x * y / 18446744073709551616 < 18446744073709551616 := by
  intro x0 x1 y0 y1 t
  have hx0 : x0 < 4294967296 := Nat.mod_lt _ (by omega)
  have hy0 : y0 < 4294967296 := Nat.mod_lt _ (by omega)
  have hx1 : x1 < 4294967296 := by omega
  have hy1 : y1 < 4294967296 := by omega
  have ex : x = x1 * 4294967296 + x0 := by omega
  have ey : y = y1 * 4294967296 + y0 := by omega
  have b : ∀ p q : Nat, p < 4294967296 → q < 4294967296 → p * q ≤ 18446744065119617025 := by
    intro p q hp hq
    have := Nat.mul_le_mul (show p ≤ 4294967295 by omega) (show q ≤ 4294967295 by omega)
    omega
  have b00 := b x0 y0 hx0 hy0
  have b10 := b x1 y0 hx1 hy0
  have b01 := b x0 y1 hx0 hy1
  have b11 := b x1 y1 hx1 hy1
  have e : x * y = (x1 * y1) * 18446744073709551616 + (x1 * y0 + x0 * y1) * 4294967296 + x0 * y0 := by
    rw [ex, ey]
    rw [Nat.add_mul, Nat.mul_add, Nat.mul_add]
    have h1 : x1 * 4294967296 * (y1 * 4294967296) = x1 * y1 * 18446744073709551616 := by rw [Nat.mul_mul_mul_comm]
    have h2 : x1 * 4294967296 * y0 = x1 * y0 * 4294967296 := by rw [Nat.mul_right_comm]
    have h3 : x0 * (y1 * 4294967296) = x0 * y1 * 4294967296 := by rw [Nat.mul_assoc]
    rw [h1, h2, h3, Nat.add_mul]; omega
  rw [e]
  show _ ∧ _ ∧ _ ∧ _ ∧ (x1 * y0 + x0 * y0 / 4294967296) % 4294967296 + x0 * y1 < _ ∧ _ ∧ x1 * y1 + (x1 * y0 + x0 * y0 / 4294967296) / 4294967296 < _ ∧ x1 * y1 + (x1 * y0 + x0 * y0 / 4294967296) / 4294967296 + ((x1 * y0 + x0 * y0 / 4294967296) % 4294967296 + x0 * y1) / 4294967296 = _ ∧ _
  generalize x0 * y0 = p at *
  generalize x1 * y0 = q at *
  generalize x0 * y1 = r at *
  generalize x1 * y1 = s at *
  omega

theorem mul64 (x y : Nat) (hx : x < 18446744073709551616) (hy : y < 18446744073709551616) (w : World) :
    CallS Try.prog 140 #[.int .u64 (x : Int), .int .u64 (y : Int)] w fun v w' => w' = w ∧ v = .tuple #[.int .u64 ((x * y / 18446744073709551616 : Nat) : Int), .int .u64 ((x * y % 18446744073709551616 : Nat) : Int)] := by
  obtain ⟨h1, h2, h3, h4, h5, h6, h7, h8, h9⟩ := mul64_math x y hx hy
  have sx := shrZn x 32 (by omega)
  have sy := shrZn y 32 (by omega)
  have ax := andMask x hx
  have ay := andMask y hy
  refine enter ttOk mixed (args := [.int .u64 (x : Int), .int .u64 (y : Int)]) Try.func140 rfl (by kernel_rfl) (by kernel_rfl) rfl ?_
  refine ⟨_, ax.symm, _, ⟨sx.symm, by omega⟩, _, ay.symm, _, ⟨sy.symm, by omega⟩, ?_⟩
  refine ⟨_, mulZ _ _ h1, _, mulZ _ _ h2, _, ⟨(shrZn _ 32 (by omega)).symm, by omega⟩, _, addZ _ _ h3, ?_⟩
  refine ⟨_, (andMask _ h3).symm, _, ⟨(shrZn _ 32 (by omega)).symm, by omega⟩, _, mulZ _ _ h4, _, addZ _ _ h5, ?_⟩
  refine ⟨_, mulZ _ _ h6, _, addZ _ _ h7, _, ⟨(shrZn _ 32 (by omega)).symm, by omega⟩, _, addZ _ _ (by rw [show ((2 : Nat) ^ 32) = 4294967296 from rfl, h8]; exact h9), ?_⟩
  refine ⟨_, mulZm x y, rfl, ?_⟩
  rw [show ((2 : Nat) ^ 32) = 4294967296 from rfl, h8]; rfl

def lenTab : List UInt8 := [0, 1, 2, 2, 3, 3, 3, 3, 4, 4, 4, 4, 4, 4, 4, 4, 5, 5, 5, 5, 5, 5, 5, 5, 5, 5, 5, 5, 5, 5, 5, 5, 6, 6, 6, 6, 6, 6, 6, 6, 6, 6, 6, 6, 6, 6, 6, 6, 6, 6, 6, 6, 6, 6, 6, 6, 6, 6, 6, 6, 6, 6, 6, 6] ++ [7, 7, 7, 7, 7, 7, 7, 7, 7, 7, 7, 7, 7, 7, 7, 7, 7, 7, 7, 7, 7, 7, 7, 7, 7, 7, 7, 7, 7, 7, 7, 7, 7, 7, 7, 7, 7, 7, 7, 7, 7, 7, 7, 7, 7, 7, 7, 7, 7, 7, 7, 7, 7, 7, 7, 7, 7, 7, 7, 7, 7, 7, 7, 7] ++ [8, 8, 8, 8, 8, 8, 8, 8, 8, 8, 8, 8, 8, 8, 8, 8, 8, 8, 8, 8, 8, 8, 8, 8, 8, 8, 8, 8, 8, 8, 8, 8, 8, 8, 8, 8, 8, 8, 8, 8, 8, 8, 8, 8, 8, 8, 8, 8, 8, 8, 8, 8, 8, 8, 8, 8, 8, 8, 8, 8, 8, 8, 8, 8] ++ [8, 8, 8, 8, 8, 8, 8, 8, 8, 8, 8, 8, 8, 8, 8, 8, 8, 8, 8, 8, 8, 8, 8, 8, 8, 8, 8, 8, 8, 8, 8, 8, 8, 8, 8, 8, 8, 8, 8, 8, 8, 8, 8, 8, 8, 8, 8, 8, 8, 8, 8, 8, 8, 8, 8, 8, 8, 8, 8, 8, 8, 8, 8, 8]
theorem lenTab_all : (List.range 256).all (fun i => match lenTab[i]? with | some b => blB i b.toNat | none => false) = true := by kernel_rfl
theorem lenTab_at (i : Nat) (h : i < 256) : ∃ b, (⟨lenTab.toArray⟩ : ByteArray)[i]? = some b ∧ Bl i b.toNat := by
  have h1 := List.all_eq_true.1 lenTab_all i (by simpa using h)
  split at h1
  · rename_i b hb
    refine ⟨b, ?_, blB_spec h1⟩
    have hl : lenTab.length = 256 := by kernel_rfl
    have hs : i < (⟨lenTab.toArray⟩ : ByteArray).size := by show i < lenTab.toArray.size; simp [hl, h]
    rw [getElem?_pos _ i hs]
    have : (⟨lenTab.toArray⟩ : ByteArray)[i] = lenTab[i] := rfl
    rw [this, ← hb]
    simp [hl, h]
  · cases h1

theorem Bl.uniq {x j k : Nat} (h : Bl x j) (h' : Bl x k) : j = k := by
  obtain ⟨h1, h2, h3⟩ := h
  obtain ⟨k1, k2, k3⟩ := h'
  by_cases h0 : x = 0
  · rw [h2 h0, k2 h0]
  · obtain ⟨h4, h5⟩ := h3 h0
    obtain ⟨k4, k5⟩ := k3 h0
    have a1 : 2 ^ (j - 1) < 2 ^ k := Nat.lt_of_le_of_lt h5 k1
    have a2 : 2 ^ (k - 1) < 2 ^ j := Nat.lt_of_le_of_lt k5 h1
    have b1 := (Nat.pow_lt_pow_iff_right (by omega : 1 < 2)).1 a1
    have b2 := (Nat.pow_lt_pow_iff_right (by omega : 1 < 2)).1 a2
    omega

theorem len64 (x : Nat) (hx : x < 18446744073709551616) (w : World) :
    CallS Try.prog 130 #[.int .u64 (x : Int)] w fun v w' => w' = w ∧ ∃ k : Nat, v = .int .i64 (k : Int) ∧ Bl x k ∧ k ≤ 64 := by
  -- the last look into the table, behind n bits
  have fin : ∀ (y n : Nat), y < 256 → n ≤ 56 → ∃ b : UInt8, (⟨lenTab.toArray⟩ : ByteArray)[((((y : Int) % 256)).toNat)]? = some b ∧ Bl y b.toNat ∧ b.toNat ≤ 8 := by
    intro y n hy hn
    obtain ⟨b, hb, hB⟩ := lenTab_at y hy
    refine ⟨b, by rw [show (((y : Int) % 256)).toNat = y by omega]; exact hb, hB, ?_⟩
    rcases Nat.eq_zero_or_pos y with h0 | h0
    · rw [hB.2.1 h0]; omega
    · have := (hB.2.2 (by omega)).2
      have h3 : 2 ^ (b.toNat - 1) < 2 ^ 8 := Nat.lt_of_le_of_lt this hy
      have := (Nat.pow_lt_pow_iff_right (by omega : 1 < 2)).1 h3
      omega
  refine enter ttOk mixed (args := [.int .u64 (x : Int)]) Try.func130 rfl (by kernel_rfl) (by kernel_rfl) rfl ?_
  refine And.intro (fun h0 => ?_) (fun h0 => ?_)
  · refine ⟨_, ⟨(shrZn (x) 32 (by omega)).symm, by omega⟩, ?_⟩
    refine And.intro (fun h1 => ?_) (fun h1 => ?_)
    · refine ⟨_, ⟨(shrZn (x / 2 ^ 32) 16 (by omega)).symm, by omega⟩, 48, by omega, ?_⟩
      refine And.intro (fun h2 => ?_) (fun h2 => ?_)
      · refine ⟨_, ⟨(shrZn (x / 2 ^ 32 / 2 ^ 16) 8 (by omega)).symm, by omega⟩, 56, by omega, ?_⟩
        obtain ⟨b, hb, hB, hb8⟩ := fin (x / 2 ^ 32 / 2 ^ 16 / 2 ^ 8) 56 (by omega) (by omega)
        refine ⟨_, rfl, raw_index ttOk rfl rfl rfl rfl (by omega) hb ⟨((b.toNat : Nat) : Int), by omega, ((56 + b.toNat : Nat) : Int), by omega, rfl, 56 + b.toNat, rfl, ?_, by omega⟩⟩
        have h9 : Bl x (32 + (16 + (8 + b.toNat))) := (Bl.shift (Bl.shift (Bl.shift hB (by omega)) (by omega)) (by omega))
        rw [show 56 + b.toNat = (32 + (16 + (8 + b.toNat))) by omega]; exact h9
      · obtain ⟨b, hb, hB, hb8⟩ := fin (x / 2 ^ 32 / 2 ^ 16) 48 (by omega) (by omega)
        refine ⟨_, rfl, raw_index ttOk rfl rfl rfl rfl (by omega) hb ⟨((b.toNat : Nat) : Int), by omega, ((48 + b.toNat : Nat) : Int), by omega, rfl, 48 + b.toNat, rfl, ?_, by omega⟩⟩
        have h9 : Bl x (32 + (16 + b.toNat)) := (Bl.shift (Bl.shift hB (by omega)) (by omega))
        rw [show 48 + b.toNat = (32 + (16 + b.toNat)) by omega]; exact h9
    · refine And.intro (fun h2 => ?_) (fun h2 => ?_)
      · refine ⟨_, ⟨(shrZn (x / 2 ^ 32) 8 (by omega)).symm, by omega⟩, 40, by omega, ?_⟩
        obtain ⟨b, hb, hB, hb8⟩ := fin (x / 2 ^ 32 / 2 ^ 8) 40 (by omega) (by omega)
        refine ⟨_, rfl, raw_index ttOk rfl rfl rfl rfl (by omega) hb ⟨((b.toNat : Nat) : Int), by omega, ((40 + b.toNat : Nat) : Int), by omega, rfl, 40 + b.toNat, rfl, ?_, by omega⟩⟩
        have h9 : Bl x (32 + (8 + b.toNat)) := (Bl.shift (Bl.shift hB (by omega)) (by omega))
        rw [show 40 + b.toNat = (32 + (8 + b.toNat)) by omega]; exact h9
      · obtain ⟨b, hb, hB, hb8⟩ := fin (x / 2 ^ 32) 32 (by omega) (by omega)
        refine ⟨_, rfl, raw_index ttOk rfl rfl rfl rfl (by omega) hb ⟨((b.toNat : Nat) : Int), by omega, ((32 + b.toNat : Nat) : Int), by omega, rfl, 32 + b.toNat, rfl, ?_, by omega⟩⟩
        have h9 : Bl x (32 + b.toNat) := (Bl.shift hB (by omega))
        rw [show 32 + b.toNat = (32 + b.toNat) by omega]; exact h9
  · refine And.intro (fun h1 => ?_) (fun h1 => ?_)
    · refine ⟨_, ⟨(shrZn (x) 16 (by omega)).symm, by omega⟩, 16, by omega, ?_⟩
      refine And.intro (fun h2 => ?_) (fun h2 => ?_)
      · refine ⟨_, ⟨(shrZn (x / 2 ^ 16) 8 (by omega)).symm, by omega⟩, 24, by omega, ?_⟩
        obtain ⟨b, hb, hB, hb8⟩ := fin (x / 2 ^ 16 / 2 ^ 8) 24 (by omega) (by omega)
        refine ⟨_, rfl, raw_index ttOk rfl rfl rfl rfl (by omega) hb ⟨((b.toNat : Nat) : Int), by omega, ((24 + b.toNat : Nat) : Int), by omega, rfl, 24 + b.toNat, rfl, ?_, by omega⟩⟩
        have h9 : Bl x (16 + (8 + b.toNat)) := (Bl.shift (Bl.shift hB (by omega)) (by omega))
        rw [show 24 + b.toNat = (16 + (8 + b.toNat)) by omega]; exact h9
      · obtain ⟨b, hb, hB, hb8⟩ := fin (x / 2 ^ 16) 16 (by omega) (by omega)
        refine ⟨_, rfl, raw_index ttOk rfl rfl rfl rfl (by omega) hb ⟨((b.toNat : Nat) : Int), by omega, ((16 + b.toNat : Nat) : Int), by omega, rfl, 16 + b.toNat, rfl, ?_, by omega⟩⟩
        have h9 : Bl x (16 + b.toNat) := (Bl.shift hB (by omega))
        rw [show 16 + b.toNat = (16 + b.toNat) by omega]; exact h9
    · refine And.intro (fun h2 => ?_) (fun h2 => ?_)
      · refine ⟨_, ⟨(shrZn (x) 8 (by omega)).symm, by omega⟩, 8, by omega, ?_⟩
        obtain ⟨b, hb, hB, hb8⟩ := fin (x / 2 ^ 8) 8 (by omega) (by omega)
        refine ⟨_, rfl, raw_index ttOk rfl rfl rfl rfl (by omega) hb ⟨((b.toNat : Nat) : Int), by omega, ((8 + b.toNat : Nat) : Int), by omega, rfl, 8 + b.toNat, rfl, ?_, by omega⟩⟩
        have h9 : Bl x (8 + b.toNat) := (Bl.shift hB (by omega))
        rw [show 8 + b.toNat = (8 + b.toNat) by omega]; exact h9
      · obtain ⟨b, hb, hB, hb8⟩ := fin (x) 0 (by omega) (by omega)
        refine ⟨_, rfl, raw_index ttOk rfl rfl rfl rfl (by omega) hb ⟨((b.toNat : Nat) : Int), by omega, ((0 + b.toNat : Nat) : Int), by omega, rfl, 0 + b.toNat, rfl, ?_, by omega⟩⟩
        have h9 : Bl x b.toNat := hB
        rw [show 0 + b.toNat = b.toNat by omega]; exact h9
end Go.Proofs.Ytlfdobjdlgebbaa
/-
  Contracts of the layer limbs: products. Helpers; no statement of the program is proved here.
-/
set_option maxRecDepth 100000
set_option linter.unusedSimpArgs false
set_option linter.unusedVariables false
namespace Go.Proofs.Ytlfdobjdlgebbaa
open Go Go.Tw Go.RowKit
attribute [local irreducible] LoadAt StoreOk Stored rawVC

theorem val_set : ∀ (A : List Nat) (i x : Nat), i < A.length → val (A.set i x) + 18446744073709551616 ^ i * A.getD i 0 = val A + 18446744073709551616 ^ i * x
  | [], i, x, h => by simp at h
  | a :: A, 0, x, h => by
    show x + 18446744073709551616 * val A + 18446744073709551616 ^ 0 * a = a + 18446744073709551616 * val A + 18446744073709551616 ^ 0 * x
    rw [Nat.pow_zero]; omega
  | a :: A, i + 1, x, h => by
    have ih := val_set A i x (by simpa using h)
    show a + 18446744073709551616 * val (A.set i x) + 18446744073709551616 ^ (i + 1) * A.getD i 0 = a + 18446744073709551616 * val A + 18446744073709551616 ^ (i + 1) * x
    rw [Nat.pow_succ, Nat.mul_comm (18446744073709551616 ^ i), Nat.mul_assoc, Nat.mul_assoc]
    generalize 18446744073709551616 ^ i * A.getD i 0 = p at *
    generalize 18446744073709551616 ^ i * x = q at *
    omega
theorem val_set_take (A : List Nat) (i m x : Nat) (h : i < m) (hm : m ≤ A.length) : val ((A.set i x).take m) + 18446744073709551616 ^ i * A.getD i 0 = val (A.take m) + 18446744073709551616 ^ i * x := by
  have := val_set (A.take m) i x (by rw [List.length_take]; omega)
  rw [← List.take_set] at *
  have e : (A.take m).getD i 0 = A.getD i 0 := by
    rw [List.getD_eq_getElem?_getD, List.getD_eq_getElem?_getD, List.getElem?_take_of_lt h]
  rw [e] at this
  exact this

/-! ### the machine's sums and products, with what they hand back named -/
theorem mul64e (x y : Nat) (hx : x < 18446744073709551616) (hy : y < 18446744073709551616) (w : World) :
    CallS Try.prog 140 #[.int .u64 (x : Int), .int .u64 (y : Int)] w fun v w' => w' = w ∧ ∃ hi lo : Nat, v = .tuple #[.int .u64 (hi : Int), .int .u64 (lo : Int)] ∧ hi ≤ 18446744073709551614 ∧ lo < 18446744073709551616 ∧ x * y = lo + 18446744073709551616 * hi := by
  refine CallS.mono (mul64 x y hx hy w) ?_
  rintro v w' ⟨h, hv⟩
  refine ⟨h, _, _, hv, ?_⟩
  have h1 : x * y ≤ 18446744073709551615 * 18446744073709551615 := Nat.mul_le_mul (by omega) (by omega)
  generalize x * y = p at *
  omega
theorem add64e (x y c : Nat) (hx : x < 18446744073709551616) (hy : y < 18446744073709551616) (hc : c ≤ 1) (w : World) :
    CallS Try.prog 138 #[.int .u64 (x : Int), .int .u64 (y : Int), .int .u64 (c : Int)] w fun v w' => w' = w ∧ ∃ s k : Nat, v = .tuple #[.int .u64 (s : Int), .int .u64 (k : Int)] ∧ s < 18446744073709551616 ∧ k ≤ 1 ∧ x + y + c = s + 18446744073709551616 * k := by
  refine CallS.mono (add64 x y c hc w) ?_
  rintro v w' ⟨h, hv⟩
  exact ⟨h, _, _, hv, by omega⟩
theorem add64z (x y : Nat) (hx : x < 18446744073709551616) (hy : y < 18446744073709551616) (w : World) :
    CallS Try.prog 138 #[.int .u64 (x : Int), .int .u64 (y : Int), .int .u64 0] w fun v w' => w' = w ∧ ∃ s k : Nat, v = .tuple #[.int .u64 (s : Int), .int .u64 (k : Int)] ∧ s < 18446744073709551616 ∧ k ≤ 1 ∧ x + y = s + 18446744073709551616 * k := by
  refine CallS.mono (add64 x y 0 (Nat.zero_le 1) w) ?_
  rintro v w' ⟨h, hv⟩
  exact ⟨h, _, _, hv, by omega⟩
theorem sub64e (x y b : Nat) (hx : x < 18446744073709551616) (hy : y < 18446744073709551616) (hb : b ≤ 1) (w : World) :
    CallS Try.prog 139 #[.int .u64 (x : Int), .int .u64 (y : Int), .int .u64 (b : Int)] w fun v w' => w' = w ∧ ∃ s k : Nat, v = .tuple #[.int .u64 (s : Int), .int .u64 (k : Int)] ∧ s < 18446744073709551616 ∧ k ≤ 1 ∧ x + 18446744073709551616 * k = s + y + b := by
  refine CallS.mono (sub64 x y b hb w) ?_
  rintro v w' ⟨h, hv⟩
  refine ⟨h, _, _, hv, ?_⟩
  split <;> omega

/-- One step of a product's row. -/
theorem mul_step {x y o cy hi lo lo2 c1 z c2 : Nat} (hcy : cy < 18446744073709551616) (ho : o < 18446744073709551616) (hhi : hi ≤ 18446744073709551614) (e1 : x * y = lo + 18446744073709551616 * hi) (e2 : lo + cy = lo2 + 18446744073709551616 * c1) (e3 : o + lo2 = z + 18446744073709551616 * c2) (hx : x < 18446744073709551616) (hy : y < 18446744073709551616) (hc1 : c1 ≤ 1) :
    hi + c1 < 18446744073709551616 ∧ hi + c1 + c2 < 18446744073709551616 ∧ x * y + cy + o = z + 18446744073709551616 * (hi + c1 + c2) := by
  have h1 : x * y ≤ 18446744073709551615 * 18446744073709551615 := Nat.mul_le_mul (by omega) (by omega)
  generalize x * y = p at *
  omega

theorem mul_row {p g1 g2 o xy cy z cz t1 t2 : Nat} (e : g1 + p * o = g2 + p * z) (hv : g2 + p * cy = t2 + t1) (s3 : xy + cy + o = z + 18446744073709551616 * cz) : g1 + p * 18446744073709551616 * cz = t2 + (t1 + p * xy) := by
  have e3 : p * (xy + cy + o) = p * (z + 18446744073709551616 * cz) := by rw [s3]
  rw [Nat.mul_add, Nat.mul_add, Nat.mul_add, ← Nat.mul_assoc] at e3
  generalize p * 18446744073709551616 * cz = g4 at *
  generalize p * o = g3 at *
  generalize p * cy = g5 at *
  generalize p * z = g6 at *
  generalize p * xy = g7 at *
  clear s3
  omega

def MulRow (X Y i M : Nat) (A : List Nat) (k cy : Nat) : Prop := val (A.take (i + M)) + 18446744073709551616 ^ (i + k) * cy = val ((dig X).take i) * Y + 18446744073709551616 ^ i * ((dig X).getD i 0 * val ((dig Y).take k))
def MulAll (X Y i M : Nat) (A : List Nat) : Prop := val (A.take (i + M)) = val ((dig X).take i) * Y
theorem eq_of_nlt {k M : Nat} (h : k ≤ M) (h2 : ¬ ((k : Int) < (M : Int))) : k = M := by omega
theorem lt_of_ilt {k M : Nat} (h2 : (k : Int) < (M : Int)) : k < M := by omega
theorem MulRow.first {X Y i M : Nat} {A : List Nat} (hv : MulAll X Y i M A) : MulRow X Y i M A 0 0 := by
  unfold MulRow; unfold MulAll at hv; rw [hv]; simp [val]
theorem MulRow.step {X Y i M k cy z cz : Nat} {A : List Nat} (hv : MulRow X Y i M A k cy) (hk : k < M) (hA : i + M ≤ A.length) (s3 : (dig X).getD i 0 * (dig Y).getD k 0 + cy + A.getD (i + k) 0 = z + 18446744073709551616 * cz) :
    MulRow X Y i M (A.set (i + k) z) (k + 1) cz := by
  unfold MulRow at *
  have e := val_set_take A (i + k) (i + M) z (Nat.add_lt_add_left hk i) hA
  have e0 : i + (k + 1) = (i + k) + 1 := rfl
  rw [val_take_next (dig Y), e0, Nat.pow_succ]
  have e2 : 18446744073709551616 ^ i * ((dig X).getD i 0 * (val ((dig Y).take k) + 18446744073709551616 ^ k * (dig Y).getD k 0)) = 18446744073709551616 ^ i * ((dig X).getD i 0 * val ((dig Y).take k)) + 18446744073709551616 ^ (i + k) * ((dig X).getD i 0 * (dig Y).getD k 0) := by
    rw [Nat.pow_add]; simp only [Nat.mul_add, Nat.mul_assoc, Nat.mul_left_comm, Nat.mul_comm]
  rw [e2]
  exact mul_row e hv s3
theorem MulRow.last {X Y i M cy : Nat} {A : List Nat} (hv : MulRow X Y i M A M cy) (hM : (dig Y).length = M) (hA : i + M < A.length) : MulAll X Y (i + 1) M (A.set (i + M) cy) := by
  unfold MulRow at hv; unfold MulAll
  rw [show i + 1 + M = i + M + 1 from Nat.succ_add i M, val_set_next A (i + M) _ hA, hv, val_take_next, val_take_all (dig Y) M (Nat.le_of_eq hM), val_dig, Nat.add_mul, Nat.mul_assoc]

theorem addI (i k : Nat) {N : Nat} (h : i + k < N) (hN : N ≤ 4398046511104) : ((i + k : Nat) : Int) = (i : Int) + (k : Int) ∧ -9223372036854775808 ≤ ((i + k : Nat) : Int) ∧ ((i + k : Nat) : Int) ≤ 9223372036854775807 := by omega
theorem addI1 (k : Nat) {M : Nat} (h : k < M) (hN : M ≤ 4398046511104) : ((k + 1 : Nat) : Int) = (k : Int) + 1 ∧ -9223372036854775808 ≤ ((k + 1 : Nat) : Int) ∧ ((k + 1 : Nat) : Int) ≤ 9223372036854775807 := by omega
theorem Mul_ok {w : World} {a a' : Option Addr} {n c n' c' : Nat} {L L' : List Nat} (h : Words w a n L) (h' : Words w a' n' L') (hc : n ≤ c) (hm : c ≤ 9223372036854775807) (hc' : n' ≤ c') (hm' : c' ≤ 9223372036854775807) (hn : n ≤ 1099511627776) (hn' : n' ≤ 1099511627776) :
    CallS Try.prog 115 #[.slice a n c, .slice a' n' c'] w fun v w' => Ext w w' ∧ Sl w' v (dig (val L * val L')) := by
  have ht := h.trim
  have htl := h.trim_le
  have ht' := h'.trim
  have htl' := h'.trim_le
  refine enter ttOk mixed (args := [.slice a n c, .slice a' n' c']) Try.func115 rfl (by kernel_rfl) (by kernel_rfl) rfl ?_
  refine CallS.mono (trimmed_ok h hc hm) ?_
  rintro _ w ⟨rfl, rfl⟩
  refine CallS.mono (trimmed_ok h' hc' hm') ?_
  rintro _ w ⟨rfl, rfl⟩
  generalize hX : val L = X at *
  generalize hY : val L' = Y at *
  generalize hN : (dig X).length = N at *
  generalize hM : (dig Y).length = M at *
  refine ⟨((N + M : Nat) : Int), by omega, N + M, N + M, ⟨rfl, rfl, Nat.le_refl _, by show (N + M) * 8 ≤ _; omega, by omega⟩, ?_⟩
  intro b w1 hb
  have hb1 : Blk w1 b 88 (wv (List.replicate (N + M) 0)) := by rw [← rep_zero]; exact hb.toBlk
  have hge := hb.ge (Ext.rfl _)
  have hNM : N + M ≤ 4398046511104 := by omega
  have hM4 : M ≤ 4398046511104 := by omega
  refine ⟨Nat × List Nat, fun x => [(0, .slice a N c), (1, .slice a' M c'), (5, .slice (some ⟨b, 0, none⟩) (N + M) (N + M)), (24, .slice a N c), (25, .int .i64 (N : Int)), (26, .int .i64 (x.1 : Int))],
    fun x w' => Ext w w' ∧ Blk w' b 88 (wv x.2) ∧ x.2.length = N + M ∧ WdL x.2 ∧ x.1 ≤ N ∧ MulAll X Y x.1 M x.2, fun x _ => N - x.1,
    ⟨(0, List.replicate (N + M) 0), ⟨rfl, rfl, rfl, rfl, rfl, rfl, trivial⟩, hb.ext, hb1, by simp, wd_replicate _, Nat.zero_le _, by show MulAll _ _ _ _ _; unfold MulAll; rw [List.take_replicate, val_replicate]; simp [val]⟩, ?_⟩
  rintro ⟨i, A⟩ w2 ⟨hx2, hB, hA, hWd, hi, hv⟩
  dsimp only at *
  refine And.intro (fun h1 => ?_) (fun h1 => ?_)
  · have hiN : i < N := lt_of_ilt h1
    refine ⟨i, ⟨rfl, hiN, ht.base (by omega)⟩, _, (ht.ext hx2).load rfl rfl (ht.getD hiN), ?_⟩
    have hxw := getD_lt_wd ht.lt i
    refine ⟨Nat × List Nat × Nat, fun x => [(0, .slice a N c), (1, .slice a' M c'), (5, .slice (some ⟨b, 0, none⟩) (N + M) (N + M)), (24, .slice a N c), (25, .int .i64 (N : Int)), (26, .int .i64 (i : Int)), (6, .int .i64 (i : Int)), (7, .int .u64 (((dig X).getD i 0 : Nat) : Int)), (8, .int .u64 (x.2.2 : Int)), (31, .slice a' M c'), (32, .int .i64 (M : Int)), (33, .int .i64 (x.1 : Int))],
      fun x w' => Ext w w' ∧ Blk w' b 88 (wv x.2.1) ∧ x.2.1.length = N + M ∧ WdL x.2.1 ∧ x.1 ≤ M ∧ x.2.2 < 18446744073709551616 ∧ MulRow X Y i M x.2.1 x.1 x.2.2, fun x _ => M - x.1,
      ⟨(0, A, 0), ⟨rfl, rfl, rfl, rfl, rfl, rfl, rfl, rfl, rfl, rfl, rfl, rfl, trivial⟩, hx2, hB, hA, hWd, Nat.zero_le _, by show 0 < 18446744073709551616; omega, MulRow.first hv⟩, ?_⟩
    rintro ⟨k, A, cy⟩ w3 ⟨hx3, hB, hA, hWd, hk, hcy, hv⟩
    dsimp only at *
    refine And.intro (fun h2 => ?_) (fun h2 => ?_)
    · have hkM : k < M := lt_of_ilt h2
      refine ⟨k, ⟨rfl, hkM, ht'.base (by omega)⟩, _, (ht'.ext hx3).load rfl rfl (ht'.getD hkM), ?_⟩
      have hyw := getD_lt_wd ht'.lt k
      have how := getD_lt_wd hWd (i + k)
      have hWA := Words.blkAll hB hWd
      rw [hA] at hWA
      have hin := Nat.add_lt_add_left hkM i
      have hin2 : i + k < N + M := Nat.lt_of_lt_of_le hin (Nat.add_le_add_right hi M)
      refine CallS.mono (mul64e _ _ hxw hyw _) ?_
      rintro _ _ ⟨rfl, hi1, lo1, rfl, g1, g2, g3⟩
      refine CallS.mono (add64z _ _ g2 hcy _) ?_
      rintro _ _ ⟨rfl, lo2, c1, rfl, g4, g5, g6⟩
      refine ⟨_, addZ _ _ (Nat.lt_of_le_of_lt (Nat.add_le_add g1 g5) (Nat.lt_succ_self _)), ((i + k : Nat) : Int), addI i k hin2 hNM, ((i + k : Nat) : Int), addI i k hin2 hNM, i + k, ⟨rfl, hin2, ⟨_, rfl, rfl⟩⟩, _, hWA.load rfl rfl (hWA.getD hin2), ?_⟩
      refine CallS.mono (add64z _ _ how g4 _) ?_
      rintro _ _ ⟨rfl, z, c2, rfl, g7, g8, g9⟩
      obtain ⟨s1, s2, s3⟩ := mul_step hcy how g1 g3 g6 g9 hxw hyw g5
      refine ⟨i + k, ⟨rfl, hin2, ⟨_, rfl, rfl⟩⟩, storeWord rfl rfl hB (hA ▸ hin2), ?_⟩
      intro w4 hs
      obtain ⟨hB4, hg4, _⟩ := storedWord hs rfl hB
      refine ⟨_, addZ _ _ s2, ((k + 1 : Nat) : Int), addI1 k hkM hM4, (k + 1, _, _), ⟨rfl, rfl, rfl, rfl, rfl, rfl, rfl, rfl, rfl, rfl, rfl, rfl, trivial⟩,
        ⟨Ext.grownB hx3 hg4 hge, hB4, (List.length_set ..).trans hA, wd_set hWd g7, hkM, s2, hv.step hkM (hA ▸ Nat.add_le_add_right hi M) s3⟩, Nat.sub_lt_sub_left hkM (Nat.lt_succ_self k)⟩
    · obtain rfl : k = M := eq_of_nlt hk h2
      refine ⟨((i + k : Nat) : Int), by omega, i + k, ⟨rfl, by omega, ⟨_, rfl, rfl⟩⟩, storeWord rfl rfl hB (by omega), ?_⟩
      intro w4 hs
      obtain ⟨hB4, hg4, _⟩ := storedWord hs rfl hB
      refine ⟨((i + 1 : Nat) : Int), by omega, (i + 1, _), ⟨rfl, rfl, rfl, rfl, rfl, rfl, trivial⟩, ⟨Ext.grownB hx3 hg4 hge, hB4, by simpa using hA, wd_set hWd hcy, by show i + 1 ≤ N; omega, ?_⟩, ?_⟩
      · exact hv.last hM (by omega)
      · show N - (i + 1) < N - i; omega
  · have e9 : i = N := eq_of_nlt hi h1
    rw [e9] at hv
    clear e9 h1
    have hWA := Words.blkAll hB hWd
    rw [hA] at hWA
    refine CallS.mono (trimmed_ok hWA (Nat.le_refl _) (by omega)) ?_
    rintro _ w4 ⟨rfl, rfl⟩
    have hval : val A = X * Y := by
      unfold MulAll at hv
      rw [val_take_all A _ (by omega), val_take_all (dig X) _ (by omega), val_dig] at hv
      exact hv
    have ht3 := hWA.trim
    have htl3 := hWA.trim_le
    rw [hval] at ht3 htl3 ⊢
    exact ⟨hx2, _, _, _, rfl, ht3, htl3, by omega⟩
end Go.Proofs.Ytlfdobjdlgebbaa
/-
  Two digits divided by one (Knuth), in plain numbers. Helpers; no statement of the program is proved here.
-/
set_option maxRecDepth 100000
set_option linter.unusedSimpArgs false
set_option linter.unusedVariables false
namespace Go.Proofs.Ytlfdobjdlgebbaa

def HInv (v1 v0 u u1 q r : Nat) : Prop := q * v1 + r = u ∧ (u * 4294967296 + u1) / (v1 * 4294967296 + v0) ≤ q

theorem half_lt {v1 v0 u u1 : Nat} (hu : u < v1 * 4294967296 + v0) (h1 : u1 < 4294967296) : (u * 4294967296 + u1) / (v1 * 4294967296 + v0) < 4294967296 := by
  have : 0 < v1 * 4294967296 + v0 := by omega
  rw [Nat.div_lt_iff_lt_mul this]
  omega
theorem half_first {v1 v0 u u1 : Nat} (hv : 2147483648 ≤ v1) (hv1 : v1 < 4294967296) (hv0 : v0 < 4294967296) (hu : u < v1 * 4294967296 + v0) (h1 : u1 < 4294967296) :
    HInv v1 v0 u u1 (u / v1) (u % v1) ∧ u / v1 ≤ 4294967297 ∧ u % v1 < v1 := by
  have p0 : 0 < v1 := by omega
  refine ⟨⟨by rw [Nat.mul_comm]; exact Nat.div_add_mod u v1, ?_⟩, ?_, Nat.mod_lt _ p0⟩
  · rw [Nat.le_div_iff_mul_le p0]
    have hm := Nat.div_mul_le_self (u * 4294967296 + u1) (v1 * 4294967296 + v0)
    generalize (u * 4294967296 + u1) / (v1 * 4294967296 + v0) = t at *
    rw [Nat.mul_add, ← Nat.mul_assoc] at hm
    generalize t * v1 = a at *
    generalize t * v0 = b at *
    omega
  · refine Nat.le_of_lt_succ ?_
    rw [Nat.div_lt_iff_lt_mul p0]
    omega
theorem half_down {v1 v0 u u1 q r : Nat} (hu : u < v1 * 4294967296 + v0) (h1 : u1 < 4294967296) (h : HInv v1 v0 u u1 q r) (hc : 4294967296 ≤ q ∨ 4294967296 * r + u1 < q * v0) :
    1 ≤ q ∧ HInv v1 v0 u u1 (q - 1) (r + v1) := by
  obtain ⟨h2, h3⟩ := h
  have p0 : 0 < v1 * 4294967296 + v0 := by omega
  have hlt : (u * 4294967296 + u1) / (v1 * 4294967296 + v0) < q := by
    rcases hc with hc | hc
    · exact Nat.lt_of_lt_of_le (half_lt hu h1) hc
    · rw [Nat.div_lt_iff_lt_mul p0, Nat.mul_add, ← Nat.mul_assoc]
      generalize q * v1 = a at *
      generalize q * v0 = b at *
      omega
  have hq1 : 0 < q := Nat.lt_of_le_of_lt (Nat.zero_le _) hlt
  obtain ⟨q, rfl⟩ : ∃ q', q = q' + 1 := ⟨q - 1, (Nat.succ_pred_eq_of_pos hq1).symm⟩
  refine ⟨hq1, ?_, Nat.le_of_lt_succ hlt⟩
  rw [Nat.succ_mul] at h2
  show q * v1 + _ = _
  clear hlt h3
  omega
theorem half_stop {v1 v0 u u1 q r : Nat} (hv0 : v0 < 4294967296) (p0 : 0 < v1) (h : HInv v1 v0 u u1 q r) (hc : (q * v0 ≤ 4294967296 * r + u1) ∨ (q ≤ 4294967296 ∧ 4294967296 ≤ r)) :
    q = (u * 4294967296 + u1) / (v1 * 4294967296 + v0) := by
  obtain ⟨h2, h3⟩ := h
  refine Nat.le_antisymm ?_ h3
  rw [Nat.le_div_iff_mul_le (by omega), Nat.mul_add, ← Nat.mul_assoc]
  have hb : q * v0 ≤ 4294967296 * r + u1 := by
    rcases hc with hc | hc
    · exact hc
    · have := Nat.mul_le_mul hc.1 (Nat.le_of_lt_succ (Nat.lt_succ_of_lt hv0))
      have := Nat.mul_le_mul_left 4294967296 hc.2
      omega
  generalize q * v1 = a at *
  generalize q * v0 = b at *
  omega

theorem join_aux0 {U p q a b r1 r0 l : Nat} (h1 : U + p = a + r1) (h0 : r1 * 4294967296 + q = b + r0) (e : 4294967296 * p + q = l) : U * 4294967296 + l = a * 4294967296 + b + r0 := by
  rw [← e, ← Nat.add_assoc, Nat.mul_comm 4294967296 p, ← Nat.add_mul, h1, Nat.add_mul, Nat.add_assoc, h0, ← Nat.add_assoc]
theorem join_aux {u l a b r1 r0 : Nat} (h1 : u * 4294967296 + l / 4294967296 = a + r1) (h0 : r1 * 4294967296 + l % 4294967296 = b + r0) : u * (4294967296 * 4294967296) + l = a * 4294967296 + b + r0 := by
  rw [← Nat.mul_assoc u 4294967296 4294967296]
  exact join_aux0 h1 h0 (Nat.div_add_mod l 4294967296)
/-- Both digits, behind the shift: u and l are what is divided, v = y * 2^s. -/
theorem div_join {y s hi lo v q1 q0 r1 r0 u l : Nat} (hs : s ≤ 63) (hv : v = y * 2 ^ s) (hu : u = hi * 2 ^ s + lo / 2 ^ (64 - s)) (hl : l = lo * 2 ^ s % 18446744073709551616) (hlo : lo < 18446744073709551616) (hy : 0 < y)
    (h1 : u * 4294967296 + l / 4294967296 = q1 * v + r1) (h0 : r1 * 4294967296 + l % 4294967296 = q0 * v + r0) (hr : r0 < v) :
    hi * 18446744073709551616 + lo = (q1 * 4294967296 + q0) * y + r0 / 2 ^ s ∧ r0 / 2 ^ s < y := by
  have hp : 2 ^ s * 2 ^ (64 - s) = 18446744073709551616 := by rw [← Nat.pow_add, show s + (64 - s) = 64 by omega]
  have pp : 0 < 2 ^ s := Nat.pow_pos (by omega)
  have pq : 0 < 2 ^ (64 - s) := Nat.pow_pos (by omega)
  have e1 : lo / 2 ^ (64 - s) = lo * 2 ^ s / 18446744073709551616 := by
    rw [← hp, Nat.mul_comm lo, Nat.mul_div_mul_left _ _ pp]
  have e2 : (hi * 18446744073709551616 + lo) * 2 ^ s = u * 18446744073709551616 + l := by
    rw [hu, hl, e1, Nat.add_mul]
    have e6 := Nat.div_add_mod (lo * 2 ^ s) 18446744073709551616
    clear hp pq e1 hu hl h1 h0 hv
    have e3 : hi * 18446744073709551616 * 2 ^ s = hi * 2 ^ s * 18446744073709551616 := by rw [Nat.mul_assoc, Nat.mul_comm 18446744073709551616, ← Nat.mul_assoc]
    rw [e3]
    generalize lo * 2 ^ s = a at *
    generalize hi * 2 ^ s = b at *
    clear e3
    rw [Nat.add_mul]
    omega
  have e4 : (hi * 18446744073709551616 + lo) * 2 ^ s = (q1 * 4294967296 + q0) * y * 2 ^ s + r0 := by
    rw [e2, Nat.mul_assoc _ y, ← hv, Nat.add_mul, Nat.mul_right_comm q1]
    exact join_aux h1 h0
  have e5 : r0 = 2 ^ s * (r0 / 2 ^ s) := by
    have : r0 % 2 ^ s = 0 := by
      have h := congrArg (· % 2 ^ s) e4
      simp only [Nat.mul_mod_left] at h
      rw [Nat.mul_comm _ (2 ^ s), Nat.mul_add_mod] at h
      exact h.symm
    have h2 := Nat.div_add_mod r0 (2 ^ s)
    omega
  constructor
  · refine Nat.eq_of_mul_eq_mul_right pp ?_
    rw [e4, Nat.add_mul ((q1 * 4294967296 + q0) * y), Nat.mul_comm (r0 / 2 ^ s), ← e5]
  · rw [Nat.div_lt_iff_lt_mul pp, ← hv]; exact hr
end Go.Proofs.Ytlfdobjdlgebbaa
/-
  Contracts of the layer limbs: one digit of a quotient. Helpers; no statement of the program is proved here.
-/
set_option maxRecDepth 100000
set_option linter.unusedSimpArgs false
set_option linter.unusedVariables false
namespace Go.Proofs.Ytlfdobjdlgebbaa
open Go Go.Tw Go.RowKit
attribute [local irreducible] LoadAt StoreOk Stored rawVC

theorem lead64 (x : Nat) (hx : x < 18446744073709551616) (w : World) :
    CallS Try.prog 143 #[.int .u64 (x : Int)] w fun v w' => w' = w ∧ ∃ k : Nat, v = .int .i64 ((64 - k : Nat) : Int) ∧ Bl x k ∧ k ≤ 64 := by
  refine enter ttOk mixed (args := [.int .u64 (x : Int)]) Try.func143 rfl (by kernel_rfl) (by kernel_rfl) rfl ?_
  refine CallS.mono (len64 x hx w) ?_
  rintro _ w' ⟨rfl, k, rfl, h1, h2⟩
  exact ⟨((64 - k : Nat) : Int), by omega, rfl, k, rfl, h1, h2⟩

theorem Bits_ok {w : World} {a : Option Addr} {n c : Nat} {L : List Nat} (h : Words w a n L) (hc : n ≤ c) (hm : c ≤ 9223372036854775807) (hn : n ≤ 1099511627776) :
    CallS Try.prog 102 #[.slice a n c] w fun v w' => w' = w ∧ ∃ k : Nat, v = .int .i64 (k : Int) ∧ (k = 0 ↔ val L = 0) := by
  have ht := h.trim
  have htl := h.trim_le
  refine enter ttOk mixed (args := [.slice a n c]) Try.func102 rfl (by kernel_rfl) (by kernel_rfl) rfl ?_
  refine CallS.mono (trimmed_ok h hc hm) ?_
  rintro _ w ⟨rfl, rfl⟩
  have hd := @dig_nil (val L)
  have htop := @dig_top (val L)
  generalize hX : val L = X at *
  refine And.intro (fun h1 => ?_) (fun h1 => ?_)
  · exact ⟨rfl, 0, rfl, by simp; exact hd.1 (List.eq_nil_of_length_eq_zero (by omega))⟩
  · have hX0 : X ≠ 0 := fun h0 => h1 (by rw [h0]; rfl)
    generalize hN : (dig X).length = N at *
    have hN0 : N ≠ 0 := fun h0 => h1 (by rw [h0]; rfl)
    refine ⟨((N - 1 : Nat) : Int), by omega, ((64 * (N - 1) : Nat) : Int), by omega, ((N - 1 : Nat) : Int), by omega, N - 1, ⟨rfl, by omega, ht.base (by omega)⟩, _, ht.load rfl rfl (ht.getD (by omega)), ?_⟩
    refine CallS.mono (len64 _ (getD_lt_wd ht.lt _) w) ?_
    rintro _ w' ⟨rfl, k, rfl, hB, hk⟩
    refine ⟨((64 * (N - 1) + k : Nat) : Int), by omega, rfl, 64 * (N - 1) + k, rfl, ?_⟩
    have := (hB.2.2 (htop hX0)).1
    constructor
    · intro h; omega
    · intro h; exact absurd h hX0
end Go.Proofs.Ytlfdobjdlgebbaa
/-
  Contracts of the layer limbs: two digits divided by one. Helpers; no statement of the program is proved here.
-/
set_option maxRecDepth 100000
set_option linter.unusedSimpArgs false
set_option linter.unusedVariables false
namespace Go.Proofs.Ytlfdobjdlgebbaa
open Go Go.Tw Go.RowKit
attribute [local irreducible] LoadAt StoreOk Stored rawVC

theorem quoZ (x y : Nat) (hx : x < 18446744073709551616) : ((x / y : Nat) : Int) = IntKind.u64.wrap ((x : Int).tdiv (y : Int)) := by
  rw [← Int.ofNat_tdiv, wrap_u64 _ (Nat.lt_of_le_of_lt (Nat.div_le_self ..) hx)]
theorem remZ (x y : Nat) : ((x % y : Nat) : Int) = (x : Int).tmod (y : Int) := by rw [← Int.ofNat_tmod]

/-- What a round of Div64's correction knows. -/
structure HI (v1 v0 u u1 q r : Nat) : Prop where
  inv : HInv v1 v0 u u1 q r
  q1 : q ≤ 4294967297
  r1 : r < 4294967296
structure HV (v v1 v0 u u1 : Nat) : Prop where
  a : 2147483648 ≤ v1
  b : v1 < 4294967296
  c : v0 < 4294967296
  eq : v1 * 4294967296 + v0 = v
  u : u < v
  u1 : u1 < 4294967296
  v64 : v < 18446744073709551616
theorem HV.first {v v1 v0 u u1 : Nat} (h : HV v v1 v0 u u1) : HI v1 v0 u u1 (u / v1) (u % v1) := by
  obtain ⟨h1, h2, h3⟩ := half_first h.a h.b h.c (by rw [h.eq]; exact h.u) h.u1
  exact ⟨h1, h2, Nat.lt_trans h3 h.b⟩
theorem HI.down {v v1 v0 u u1 q r : Nat} (h : HI v1 v0 u u1 q r) (hv : HV v v1 v0 u u1) (hc : 4294967296 ≤ q ∨ 4294967296 * r + u1 < q * v0) :
    1 ≤ q ∧ HInv v1 v0 u u1 (q - 1) (r + v1) ∧ q - 1 ≤ 4294967296 ∧ r + v1 < 18446744073709551616 := by
  obtain ⟨h1, h2⟩ := half_down (by rw [hv.eq]; exact hv.u) hv.u1 h.inv hc
  have := h.q1; have := h.r1; have := hv.b
  exact ⟨h1, h2, by omega, by omega⟩
theorem HV.stop {v v1 v0 u u1 q r : Nat} (hv : HV v v1 v0 u u1) (h : HInv v1 v0 u u1 q r) (hc : (q * v0 ≤ 4294967296 * r + u1) ∨ (q ≤ 4294967296 ∧ 4294967296 ≤ r)) : q = (u * 4294967296 + u1) / v := by
  have := half_stop hv.c (Nat.lt_of_lt_of_le (by omega) hv.a) h hc
  rw [hv.eq] at this; exact this
theorem subZ (x y : Nat) (h : y ≤ x) (hx : x < 18446744073709551616) : ((x - y : Nat) : Int) = ((x : Int) - (y : Int)) % 18446744073709551616 := by omega
theorem modSub (u v : Nat) : u - u / v * v = u % v := by
  have := Nat.div_add_mod u v; rw [Nat.mul_comm] at this; omega
theorem sub1Z (q : Nat) (h : 1 ≤ q) (hq : q ≤ 4294967297) : ((q - 1 : Nat) : Int) = ((q : Int) - 1) % 18446744073709551616 := by omega
theorem mul32 {a b : Nat} (ha : a < 4294967296) (hb : b < 4294967296) : a * b < 18446744073709551616 := by
  have : a * b ≤ 4294967295 * 4294967295 := Nat.mul_le_mul (by omega) (by omega)
  omega
theorem mulc (r : Nat) (h : r < 4294967296) : ((4294967296 * r : Nat) : Int) = (4294967296 : Int) * (r : Int) % 18446744073709551616 := by omega
theorem sumc {r u : Nat} (h : r < 4294967296) (hu : u < 4294967296) : 4294967296 * r + u < 18446744073709551616 := by omega
theorem le_of_ige {q : Nat} (h : (q : Int) ≥ 4294967296) : 4294967296 ≤ q := by omega
theorem lt_of_nige {q : Nat} (h : ¬ (q : Int) ≥ 4294967296) : q < 4294967296 := by omega
theorem gt_of_igt {a b : Nat} (h : (a : Int) > (b : Int)) : b < a := by omega
theorem le_of_nigt {a b : Nat} (h : ¬ (a : Int) > (b : Int)) : a ≤ b := by omega
theorem shlD (x s : Nat) (hs : s ≤ 64) (h : x * 2 ^ s < 18446744073709551616) : ((x * 2 ^ s : Nat) : Int) = shlZ .u64 (x : Int) (s : Int) := by
  rw [shlZn x s hs, Nat.mod_eq_of_lt h]
theorem orD (x y s : Nat) (h : x * 2 ^ s < 18446744073709551616) (hy : y < 2 ^ s) (hs : s ≤ 64) : ((x * 2 ^ s + y : Nat) : Int) = bitZ .or .u64 ((x * 2 ^ s : Nat) : Int) (y : Int) := by
  have : 2 ^ s ≤ 2 ^ 64 := Nat.pow_le_pow_right (by omega) hs
  rw [orZ _ _ h (Nat.lt_of_lt_of_le hy this), orAdd _ _ _ hy]

/-- Div64's numbers behind the shift, all named. -/
structure DN (hi lo y s t v v1 v0 uh ul u l l1 l0 : Nat) : Prop where
  hs : s ≤ 63
  ht : (t : Int) = ((64 : Int) - (s : Int)) % 18446744073709551616
  ev : (v : Int) = shlZ .u64 (y : Int) (s : Int)
  ev1 : (v1 : Int) = shrZ .u64 (v : Int) 32
  ev0 : (v0 : Int) = bitZ .and .u64 (v : Int) 4294967295
  euh : (uh : Int) = shlZ .u64 (hi : Int) (s : Int)
  eul : (ul : Int) = shrZ .u64 (lo : Int) (t : Int)
  eu : (u : Int) = bitZ .or .u64 (uh : Int) (ul : Int)
  el : (l : Int) = shlZ .u64 (lo : Int) (s : Int)
  el1 : (l1 : Int) = shrZ .u64 (l : Int) 32
  el0 : (l0 : Int) = bitZ .and .u64 (l : Int) 4294967295
  hv : HV v v1 v0 u l1
  k0 : l0 < 4294967296
  pv : v = y * 2 ^ s
  pu : u = hi * 2 ^ s + lo / 2 ^ (64 - s)
  pl : l = lo * 2 ^ s % 18446744073709551616
  pl1 : l / 4294967296 = l1
  pl0 : l % 4294967296 = l0
theorem DN.make {hi lo y k : Nat} (h : hi < y) (hlo : lo < 18446744073709551616) (hB : Bl y k) (hk : k ≤ 64) :
    ∃ v v1 v0 uh ul u l l1 l0, DN hi lo y (64 - k) k v v1 v0 uh ul u l l1 l0 := by
  have hy0 : y ≠ 0 := by omega
  obtain ⟨k1, hb⟩ := hB.2.2 hy0
  have hp : 2 ^ k * 2 ^ (64 - k) = 18446744073709551616 := by rw [← Nat.pow_add, show k + (64 - k) = 64 by omega]
  have hp2 : 2 ^ (k - 1) * 2 ^ (64 - k) = 9223372036854775808 := by rw [← Nat.pow_add, show k - 1 + (64 - k) = 63 by omega]
  have p0 : 0 < 2 ^ (64 - k) := Nat.pow_pos (by omega)
  have v64 : y * 2 ^ (64 - k) < 18446744073709551616 := by rw [← hp]; exact Nat.mul_lt_mul_of_pos_right hB.1 p0
  have v63 : 9223372036854775808 ≤ y * 2 ^ (64 - k) := by rw [← hp2]; exact Nat.mul_le_mul_right _ hb
  have hlk : lo / 2 ^ k < 2 ^ (64 - k) := by
    rw [Nat.div_lt_iff_lt_mul (Nat.pow_pos (by omega)), Nat.mul_comm, hp]; exact hlo
  have h1 : (hi + 1) * 2 ^ (64 - k) ≤ y * 2 ^ (64 - k) := Nat.mul_le_mul_right _ h
  rw [Nat.add_mul, Nat.one_mul] at h1
  have hs64 : hi * 2 ^ (64 - k) < 18446744073709551616 := Nat.lt_of_le_of_lt (Nat.le_of_add_right_le h1) v64
  have hu : hi * 2 ^ (64 - k) + lo / 2 ^ k < y * 2 ^ (64 - k) := Nat.lt_of_lt_of_le (Nat.add_lt_add_left hlk _) h1
  have hl : lo * 2 ^ (64 - k) % 18446744073709551616 < 18446744073709551616 := Nat.mod_lt _ (by omega)
  refine ⟨y * 2 ^ (64 - k), y * 2 ^ (64 - k) / 2 ^ 32, y * 2 ^ (64 - k) % 4294967296, hi * 2 ^ (64 - k), lo / 2 ^ k, hi * 2 ^ (64 - k) + lo / 2 ^ k, lo * 2 ^ (64 - k) % 18446744073709551616, lo * 2 ^ (64 - k) % 18446744073709551616 / 2 ^ 32, lo * 2 ^ (64 - k) % 18446744073709551616 % 4294967296,
    by omega, by omega, shlD y _ (by omega) v64, (shrZn _ 32 (by omega)).symm, (andMask _ v64).symm, shlD hi _ (by omega) hs64, (shrZn lo k (by omega)).symm, orD _ _ _ hs64 hlk (by omega), (shlZn lo _ (by omega)).symm, (shrZn _ 32 (by omega)).symm, (andMask _ hl).symm, ?_, Nat.mod_lt _ (by omega), rfl, ?_, rfl, ?_, rfl⟩
  · rw [show (2 : Nat) ^ 32 = 4294967296 from rfl]
    refine ⟨?_, ?_, Nat.mod_lt _ (by omega), ?_, hu, ?_, v64⟩
    · rw [Nat.le_div_iff_mul_le (by omega)]; exact v63
    · rw [Nat.div_lt_iff_lt_mul (by omega)]; exact v64
    · rw [Nat.mul_comm]; exact Nat.div_add_mod _ _
    · rw [Nat.div_lt_iff_lt_mul (by omega)]; exact hl
  · rw [show 64 - (64 - k) = k by omega]
  · rfl
/-- The rest behind half of the quotient. -/
theorem restZ {u l1 q v R : Nat} (h : u * 4294967296 + l1 = q * v + R) (hR : R < 18446744073709551616) :
    (R : Int) = (((((u : Int) * 4294967296) % 18446744073709551616 + (l1 : Int)) % 18446744073709551616) - (((q : Int) * (v : Int)) % 18446744073709551616)) % 18446744073709551616 := by
  rw [← Int.natCast_mul]
  generalize q * v = p at *
  omega
theorem q_join (q1 q0 : Nat) (h1 : q1 < 4294967296) (h0 : q0 < 4294967296) : ((q1 * 4294967296 + q0 : Nat) : Int) = (((q1 : Int) * 4294967296) % 18446744073709551616 + (q0 : Int)) % 18446744073709551616 := by omega
theorem qlt {u u1 v : Nat} (hu : u < v) (h1 : u1 < 4294967296) : (u * 4294967296 + u1) / v < 4294967296 := by
  rw [Nat.div_lt_iff_lt_mul (by omega)]
  have : (u + 1) * 4294967296 ≤ v * 4294967296 := Nat.mul_le_mul_right _ hu
  rw [Nat.mul_comm 4294967296 v]
  omega
def dJo (s v v1 v0 u l1 l0 Q1 R1 Q0 : Nat) (w : World) (id : Nat) : Option Join :=
  match id with
  | 0 => some ⟨Unit, fun _ => [(2, .int .u64 (v : Int)), (8, .int .u64 (s : Int)), (9, .int .u64 (v1 : Int)), (10, .int .u64 (v0 : Int)), (11, .int .u64 (u : Int)), (13, .int .u64 (l1 : Int)), (14, .int .u64 (l0 : Int)), (15, .int .u64 (Q1 : Int))], fun _ w' => w' = w⟩
  | 2 => some ⟨Unit, fun _ => [(2, .int .u64 (v : Int)), (8, .int .u64 (s : Int)), (14, .int .u64 (l0 : Int)), (15, .int .u64 (Q1 : Int)), (17, .int .u64 (R1 : Int)), (18, .int .u64 (Q0 : Int))], fun _ w' => w' = w⟩
  | _ => none
theorem slotU {q Q : Nat} (h : q = Q) : (some (Value.int .u64 (q : Int)) : Option Value) = some (.int .u64 (Q : Int)) := by rw [h]
theorem div64 (hi lo y : Nat) (h : hi < y) (hlo : lo < 18446744073709551616) (hy : y < 18446744073709551616) (w : World) :
    CallS Try.prog 152 #[.int .u64 (hi : Int), .int .u64 (lo : Int), .int .u64 (y : Int)] w fun v w' => Ext w w' ∧ ∃ q r : Nat, v = .tuple #[.int .u64 (q : Int), .int .u64 (r : Int)] ∧ q < 18446744073709551616 ∧ hi * 18446744073709551616 + lo = q * y + r ∧ r < y := by
  obtain ⟨k, hB, hk⟩ : ∃ k, Bl y k ∧ k ≤ 64 := by
    obtain ⟨v, w', _, k, _, h1, h2⟩ := (len64 y hy w).some
    exact ⟨k, h1, h2⟩
  obtain ⟨v, v1, v0, uh, ul, u, l, l1, l0, hd⟩ := DN.make h hlo hB hk
  obtain ⟨Q1, hQ1⟩ : ∃ Q, Q = (u * 4294967296 + l1) / v := ⟨_, rfl⟩
  obtain ⟨R1, hR1⟩ : ∃ Q, Q = (u * 4294967296 + l1) % v := ⟨_, rfl⟩
  obtain ⟨Q0, hQ0⟩ : ∃ Q, Q = (R1 * 4294967296 + l0) / v := ⟨_, rfl⟩
  obtain ⟨R0, hR0⟩ : ∃ Q, Q = (R1 * 4294967296 + l0) % v := ⟨_, rfl⟩
  obtain ⟨s, hs⟩ : ∃ s, s = 64 - k := ⟨_, rfl⟩
  rw [← hs] at hd
  have hv := hd.hv
  have hv0 : 0 < v := by have := hv.u; omega
  have hRv : R1 < v := by rw [hR1]; exact Nat.mod_lt _ hv0
  have hR0v : R0 < v := by rw [hR0]; exact Nat.mod_lt _ hv0
  have e1 : u * 4294967296 + l1 = Q1 * v + R1 := by rw [hQ1, hR1, Nat.mul_comm _ v]; exact (Nat.div_add_mod _ _).symm
  have e0 : R1 * 4294967296 + l0 = Q0 * v + R0 := by rw [hQ0, hR0, Nat.mul_comm _ v]; exact (Nat.div_add_mod _ _).symm
  have hq1 : Q1 < 4294967296 := by rw [hQ1]; exact qlt hv.u hv.u1
  have hq0 : Q0 < 4294967296 := by rw [hQ0]; exact qlt hRv hd.k0
  have hV2 : HV v v1 v0 R1 l0 := ⟨hv.a, hv.b, hv.c, hv.eq, hRv, hd.k0, hv.v64⟩
  have hjoin := div_join hd.hs hd.pv hd.pu hd.pl hlo (by omega) (q1 := Q1) (r1 := R1) (q0 := Q0) (r0 := R0) (by rw [hd.pl1]; exact e1) (by rw [hd.pl0]; exact e0) hR0v
  clear hR1 hR0
  refine enterJ (dJo s v v1 v0 u l1 l0 Q1 R1 Q0 w) ttOk mixed (args := [.int .u64 (hi : Int), .int .u64 (lo : Int), .int .u64 (y : Int)]) Try.func152 rfl (by kernel_rfl) (by kernel_rfl) rfl ?_
  refine And.intro (fun h1 => ?_) (fun h1 => ?_)
  · exact absurd h1 (by omega)
  refine And.intro (fun h1 => ?_) (fun h1 => ?_)
  · exact absurd h1 (by omega)
  refine And.intro (fun h1 => ?_) (fun h1 => ?_)
  · have h0 : hi = 0 := by omega
    refine ⟨sq 8, by kernel_rfl, ((lo / y : Nat) : Int), ⟨quoZ lo y hlo, fun h => by omega⟩, ((lo % y : Nat) : Int), ⟨remZ lo y, fun h => by omega⟩, ?_⟩
    intro w2 hx2 _
    refine ⟨hx2, _, _, rfl, Nat.lt_of_le_of_lt (Nat.div_le_self ..) hlo, ?_, Nat.mod_lt _ (by omega)⟩
    subst h0
    rw [Nat.zero_mul, Nat.zero_add, Nat.mul_comm]; exact (Nat.div_add_mod lo y).symm
  · refine CallS.mono (lead64 y hy w) ?_
    rintro _ w ⟨rfl, k', rfl, hB', hk'⟩
    have hkk := Bl.uniq hB' hB
    have hu64 := Nat.lt_trans hv.u hv.v64
    have hle : u / v1 * v1 ≤ u := Nat.div_mul_le_self _ _
    refine ⟨(s : Int), by omega, (v : Int), ⟨hd.ev, by omega⟩, (v1 : Int), ⟨hd.ev1, by omega⟩, (v0 : Int), hd.ev0, ?_⟩
    refine ⟨(uh : Int), ⟨hd.euh, by omega⟩, (k : Int), hd.ht, (ul : Int), ⟨hd.eul, by omega⟩, (u : Int), hd.eu, ?_⟩
    refine ⟨(l : Int), ⟨hd.el, by omega⟩, (l1 : Int), ⟨hd.el1, by omega⟩, (l0 : Int), hd.el0, ?_⟩
    refine ⟨((u / v1 : Nat) : Int), ⟨quoZ _ _ hu64, fun h => by have := hv.a; omega⟩, _, mulZ _ _ (Nat.lt_of_le_of_lt hle hu64), ((u % v1 : Nat) : Int), by rw [← modSub]; exact subZ _ _ hle hu64, ?_⟩
    refine And.intro ?_ ?_
    · refine ⟨Nat × Nat, fun x => [(2, .int .u64 (v : Int)), (8, .int .u64 (s : Int)), (9, .int .u64 (v1 : Int)), (10, .int .u64 (v0 : Int)), (11, .int .u64 (u : Int)), (13, .int .u64 (l1 : Int)), (14, .int .u64 (l0 : Int)), (15, .int .u64 (x.1 : Int)), (16, .int .u64 (x.2 : Int))],
        fun x w' => w' = w ∧ HI v1 v0 u l1 x.1 x.2, fun x _ => x.1, ⟨(u / v1, u % v1), ⟨rfl, rfl, rfl, rfl, rfl, rfl, rfl, rfl, rfl, trivial⟩, rfl, hv.first⟩, ?_⟩
      rintro ⟨q, r⟩ _ ⟨rfl, hI⟩
      dsimp only at *
      refine And.intro (fun h3 => ?_) (fun h3 => ?_)
      · have d := hI.down hv (Or.inl (le_of_ige h3))
        refine ⟨((q - 1 : Nat) : Int), sub1Z q d.1 hI.q1, _, addZ _ _ d.2.2.2, ?_⟩
        refine And.intro (fun h5 => ?_) (fun h5 => ?_)
        · exact ⟨(), ⟨rfl, rfl, rfl, rfl, rfl, rfl, rfl, slotU ((hv.stop d.2.1 (Or.inr ⟨d.2.2.1, le_of_ige h5⟩)).trans hQ1.symm), trivial⟩, rfl⟩
        · exact ⟨(q - 1, _), ⟨rfl, rfl, rfl, rfl, rfl, rfl, rfl, rfl, rfl, trivial⟩, ⟨rfl, ⟨d.2.1, Nat.le_succ_of_le d.2.2.1, lt_of_nige h5⟩⟩, Nat.sub_lt d.1 Nat.zero_lt_one⟩
      · refine ⟨_, mulZ _ _ (mul32 (lt_of_nige h3) hv.c), _, mulc _ hI.r1, _, addZ _ _ (sumc hI.r1 hv.u1), ?_⟩
        refine And.intro (fun h4 => ?_) (fun h4 => ?_)
        · have d := hI.down hv (Or.inr (gt_of_igt h4))
          refine ⟨((q - 1 : Nat) : Int), sub1Z q d.1 hI.q1, _, addZ _ _ d.2.2.2, ?_⟩
          refine And.intro (fun h5 => ?_) (fun h5 => ?_)
          · exact ⟨(), ⟨rfl, rfl, rfl, rfl, rfl, rfl, rfl, slotU ((hv.stop d.2.1 (Or.inr ⟨d.2.2.1, le_of_ige h5⟩)).trans hQ1.symm), trivial⟩, rfl⟩
          · exact ⟨(q - 1, _), ⟨rfl, rfl, rfl, rfl, rfl, rfl, rfl, rfl, rfl, trivial⟩, ⟨rfl, ⟨d.2.1, Nat.le_succ_of_le d.2.2.1, lt_of_nige h5⟩⟩, Nat.sub_lt d.1 Nat.zero_lt_one⟩
        · exact ⟨(), ⟨rfl, rfl, rfl, rfl, rfl, rfl, rfl, slotU ((hv.stop hI.inv (Or.inl (le_of_nigt h4))).trans hQ1.symm), trivial⟩, rfl⟩
    · intro x w' hw
      obtain rfl : w' = w := hw
      have hR64 := Nat.lt_trans hRv hv.v64
      have hle2 : R1 / v1 * v1 ≤ R1 := Nat.div_mul_le_self _ _
      refine ⟨_, rfl, _, rfl, _, rfl, (R1 : Int), restZ e1 hR64, ?_⟩
      refine ⟨((R1 / v1 : Nat) : Int), ⟨quoZ _ _ hR64, fun h => by have := hv.a; omega⟩, _, mulZ _ _ (Nat.lt_of_le_of_lt hle2 hR64), ((R1 % v1 : Nat) : Int), by rw [← modSub]; exact subZ _ _ hle2 hR64, ?_⟩
      refine And.intro ?_ ?_
      · refine ⟨Nat × Nat, fun x => [(2, .int .u64 (v : Int)), (8, .int .u64 (s : Int)), (9, .int .u64 (v1 : Int)), (10, .int .u64 (v0 : Int)), (14, .int .u64 (l0 : Int)), (15, .int .u64 (Q1 : Int)), (17, .int .u64 (R1 : Int)), (18, .int .u64 (x.1 : Int)), (16, .int .u64 (x.2 : Int))],
          fun x w1 => w1 = w' ∧ HI v1 v0 R1 l0 x.1 x.2, fun x _ => x.1, ⟨(R1 / v1, R1 % v1), ⟨rfl, rfl, rfl, rfl, rfl, rfl, rfl, rfl, rfl, trivial⟩, rfl, hV2.first⟩, ?_⟩
        rintro ⟨q, r⟩ _ ⟨rfl, hI⟩
        dsimp only at *
        refine And.intro (fun h3 => ?_) (fun h3 => ?_)
        · have d := hI.down hV2 (Or.inl (le_of_ige h3))
          refine ⟨((q - 1 : Nat) : Int), sub1Z q d.1 hI.q1, _, addZ _ _ d.2.2.2, ?_⟩
          refine And.intro (fun h5 => ?_) (fun h5 => ?_)
          · exact ⟨(), ⟨rfl, rfl, rfl, rfl, rfl, slotU ((hV2.stop d.2.1 (Or.inr ⟨d.2.2.1, le_of_ige h5⟩)).trans hQ0.symm), trivial⟩, rfl⟩
          · exact ⟨(q - 1, _), ⟨rfl, rfl, rfl, rfl, rfl, rfl, rfl, rfl, rfl, trivial⟩, ⟨rfl, ⟨d.2.1, Nat.le_succ_of_le d.2.2.1, lt_of_nige h5⟩⟩, Nat.sub_lt d.1 Nat.zero_lt_one⟩
        · refine ⟨_, mulZ _ _ (mul32 (lt_of_nige h3) hv.c), _, mulc _ hI.r1, _, addZ _ _ (sumc hI.r1 hV2.u1), ?_⟩
          refine And.intro (fun h4 => ?_) (fun h4 => ?_)
          · have d := hI.down hV2 (Or.inr (gt_of_igt h4))
            refine ⟨((q - 1 : Nat) : Int), sub1Z q d.1 hI.q1, _, addZ _ _ d.2.2.2, ?_⟩
            refine And.intro (fun h5 => ?_) (fun h5 => ?_)
            · exact ⟨(), ⟨rfl, rfl, rfl, rfl, rfl, slotU ((hV2.stop d.2.1 (Or.inr ⟨d.2.2.1, le_of_ige h5⟩)).trans hQ0.symm), trivial⟩, rfl⟩
            · exact ⟨(q - 1, _), ⟨rfl, rfl, rfl, rfl, rfl, rfl, rfl, rfl, rfl, trivial⟩, ⟨rfl, ⟨d.2.1, Nat.le_succ_of_le d.2.2.1, lt_of_nige h5⟩⟩, Nat.sub_lt d.1 Nat.zero_lt_one⟩
          · exact ⟨(), ⟨rfl, rfl, rfl, rfl, rfl, slotU ((hV2.stop hI.inv (Or.inl (le_of_nigt h4))).trans hQ0.symm), trivial⟩, rfl⟩
      · intro x w'' hw
        obtain rfl : w'' = w' := hw
        refine ⟨_, rfl, ((Q1 * 4294967296 + Q0 : Nat) : Int), q_join _ _ hq1 hq0, _, rfl, _, rfl, _, rfl, (R0 : Int), restZ e0 (Nat.lt_trans hR0v hv.v64), ((R0 / 2 ^ s : Nat) : Int), ⟨(shrZn _ _ (by have := hd.hs; omega)).symm, by omega⟩, ?_⟩
        exact ⟨Ext.rfl _, _, _, rfl, by omega, hjoin.1, hjoin.2⟩
end Go.Proofs.Ytlfdobjdlgebbaa
/-
  Plain numbers: the digits of a quotient, one by one (a guess by the digits on top, put right once). No program in sight; helpers.
-/
set_option maxRecDepth 100000
set_option linter.unusedSimpArgs false
set_option linter.unusedVariables false
namespace Go.Proofs.Ytlfdobjdlgebbaa
open Go.Tw

/-- What a round of guess knows. -/
structure GInv (u2 u1 u0 b1 b0 q r : Nat) : Prop where
  eq : u2 * 18446744073709551616 + u1 = q * b1 + r
  ql : q < 18446744073709551616
  rl : r < 18446744073709551616
  hi : q + 1 = 18446744073709551616 ∨ (u2 * 18446744073709551616 + u1) * 18446744073709551616 + u0 < (q + 1) * (b1 * 18446744073709551616 + b0)
/-- What guess hands back. -/
structure GRes (u2 u1 u0 b1 b0 q : Nat) : Prop where
  ql : q < 18446744073709551616
  lo : q * (b1 * 18446744073709551616 + b0) ≤ (u2 * 18446744073709551616 + u1) * 18446744073709551616 + u0
  hi : q + 1 = 18446744073709551616 ∨ (u2 * 18446744073709551616 + u1) * 18446744073709551616 + u0 < (q + 1) * (b1 * 18446744073709551616 + b0)

theorem GInv.first {u2 u1 u0 b1 b0 q r : Nat} (h : u2 * 18446744073709551616 + u1 = q * b1 + r) (hr : r < b1) (hq : q < 18446744073709551616) (hu : u0 < 18446744073709551616) (hb : b1 < 18446744073709551616) : GInv u2 u1 u0 b1 b0 q r := by
  refine ⟨h, hq, Nat.lt_trans hr hb, Or.inr ?_⟩
  have : u2 * 18446744073709551616 + u1 + 1 ≤ (q + 1) * b1 := by rw [h, Nat.add_mul]; omega
  have h2 : (q + 1) * (b1 * 18446744073709551616 + b0) = (q + 1) * b1 * 18446744073709551616 + (q + 1) * b0 := by rw [Nat.mul_add, Nat.mul_assoc]
  rw [h2]
  generalize (q + 1) * b1 = y at *
  omega
theorem GInv.firstTop {u1 u0 b1 b0 r : Nat} (h : u1 + b1 = r) (hr : r < 18446744073709551616) : GInv b1 u1 u0 b1 b0 18446744073709551615 r := by
  refine ⟨by omega, by omega, hr, Or.inl rfl⟩
theorem GRes.over {u1 u0 b1 b0 : Nat} (h : 18446744073709551616 ≤ u1 + b1) (hb : b0 < 18446744073709551616) : GRes b1 u1 u0 b1 b0 18446744073709551615 := by
  refine ⟨by omega, by omega, Or.inl rfl⟩
theorem GInv.done {u2 u1 u0 b1 b0 q r : Nat} (h : GInv u2 u1 u0 b1 b0 q r) (hl : q * b0 ≤ r * 18446744073709551616 + u0) : GRes u2 u1 u0 b1 b0 q := by
  refine ⟨h.ql, ?_, h.hi⟩
  have := h.eq
  rw [Nat.mul_add, ← Nat.mul_assoc, this, Nat.add_mul]
  omega
theorem down_aux (y r u0 z : Nat) (hl : r * 18446744073709551616 + u0 < z) : y * 18446744073709551616 + r * 18446744073709551616 + u0 < y * 18446744073709551616 + z := by rw [Nat.add_assoc]; exact Nat.add_lt_add_left hl _
theorem GInv.down {u2 u1 u0 b1 b0 q r : Nat} (h : GInv u2 u1 u0 b1 b0 q r) (hl : r * 18446744073709551616 + u0 < q * b0) (hb : b0 < 18446744073709551616) :
    1 ≤ q ∧ (r + b1 < 18446744073709551616 → GInv u2 u1 u0 b1 b0 (q - 1) (r + b1)) ∧ (18446744073709551616 ≤ r + b1 → GRes u2 u1 u0 b1 b0 (q - 1)) := by
  obtain ⟨k, rfl⟩ : ∃ k, q = k + 1 := by
    cases q with
    | zero => rw [Nat.zero_mul] at hl; omega
    | succ k => exact ⟨k, rfl⟩
  have he := h.eq
  have hq := h.ql
  rw [Nat.add_sub_cancel]
  have e1 : (u2 * 18446744073709551616 + u1) * 18446744073709551616 + u0 < (k + 1) * (b1 * 18446744073709551616 + b0) := by
    rw [Nat.mul_add, ← Nat.mul_assoc, he, Nat.add_mul]
    exact down_aux _ _ _ _ hl
  rw [Nat.add_mul, Nat.one_mul] at he
  refine ⟨by omega, fun hr => ⟨by omega, by omega, hr, Or.inr e1⟩, fun hr => ⟨by omega, ?_, Or.inr e1⟩⟩
  rw [Nat.mul_add, ← Nat.mul_assoc, he]
  have e2 : k * b0 ≤ k * 18446744073709551616 := Nat.mul_le_mul_left _ (by omega)
  generalize k * b0 = z at *
  generalize k * b1 = y at *
  omega

/-- The guess is the digit, or one more. -/
theorem guess_near {P V2 v U3 U q : Nat} (h1 : V2 * P ≤ v) (h2 : v < (V2 + 1) * P) (h3 : U3 * P ≤ U) (h4 : U < (U3 + 1) * P) (h5 : U < v * 18446744073709551616) (hV : 18446744073709551616 ≤ V2)
    (hq : q < 18446744073709551616) (hlo : q * V2 ≤ U3) (hhi : q + 1 = 18446744073709551616 ∨ U3 < (q + 1) * V2) : q = U / v ∨ q = U / v + 1 := by
  have hP : 0 < P := by
    rcases Nat.eq_zero_or_pos P with h | h
    · subst h; omega
    · exact h
  have hv : 0 < v := Nat.lt_of_lt_of_le (Nat.mul_pos (by omega) hP) h1
  have up : U / v ≤ q := by
    rcases hhi with hhi | hhi
    · have : U / v < q + 1 := by rw [hhi, Nat.div_lt_iff_lt_mul hv, Nat.mul_comm]; exact h5
      exact Nat.le_of_lt_succ this
    · have : U / v < q + 1 := by
        rw [Nat.div_lt_iff_lt_mul hv]
        have a1 : (q + 1) * (V2 * P) ≤ (q + 1) * v := Nat.mul_le_mul_left _ h1
        have a2 : (U3 + 1) * P ≤ (q + 1) * V2 * P := Nat.mul_le_mul_right _ hhi
        rw [Nat.mul_assoc] at a2
        exact Nat.lt_of_lt_of_le h4 (Nat.le_trans a2 a1)
      exact Nat.le_of_lt_succ this
  have dn : q ≤ U / v + 1 := by
    cases q with
    | zero => exact Nat.zero_le _
    | succ k =>
      have : k ≤ U / v := by
        rw [Nat.le_div_iff_mul_le hv]
        have a1 : k * v ≤ k * ((V2 + 1) * P) := Nat.mul_le_mul_left _ (Nat.le_of_lt h2)
        have a2 : (k + 1) * V2 * P ≤ U3 * P := Nat.mul_le_mul_right _ hlo
        have a3 : k * P ≤ V2 * P := Nat.mul_le_mul_right _ (by omega)
        grind
      exact Nat.succ_le_succ this
  generalize U / v = t at *
  omega
/-- take's round. -/
theorem take_step {p A U V d x y y' c b c' b' lo : Nat} (h : A + d * V = U + p * (b + c)) (h1 : x * d + c = lo + 18446744073709551616 * c') (h2 : y + 18446744073709551616 * b' = y' + lo + b) :
    A + p * y' + d * (V + p * x) = U + p * y + p * 18446744073709551616 * (b' + c') := by
  have e1 : p * (y' + x * d + c + b) = p * (y + 18446744073709551616 * (b' + c')) := by congr 1; omega
  grind
theorem take_last {p A U V d y y' c b b' : Nat} (h : A + d * V = U + p * (b + c)) (h2 : y + 18446744073709551616 * b' = y' + c + b) :
    A + p * y' + d * V = U + p * y + p * 18446744073709551616 * b' := by
  have e1 : p * (y' + c + b) = p * (y + 18446744073709551616 * b') := by congr 1; omega
  grind
theorem give_last {p A U V y c : Nat} (h : A + p * c = U + V) : A + p * ((y + c) % 18446744073709551616) + p * 18446744073709551616 * ((y + c) / 18446744073709551616) = U + p * y + V := by
  have e1 : p * (y + c) = p * ((y + c) % 18446744073709551616 + 18446744073709551616 * ((y + c) / 18446744073709551616)) := by congr 1; omega
  grind
/-- Behind take: the digit was right. -/
theorem digit_right {U v q A : Nat} (hv : 0 < v) (h : A + q * v = U) (hq : q = U / v ∨ q = U / v + 1) : q = U / v ∧ A = U % v := by
  have hd := Nat.div_add_mod U v
  have hm := Nat.mod_lt U hv
  rcases hq with hq | hq
  · subst hq; refine ⟨rfl, ?_⟩
    rw [Nat.mul_comm] at h; omega
  · exfalso
    rw [hq, Nat.add_mul, Nat.one_mul, Nat.mul_comm] at h; omega
/-- Behind take and giveBack: it was one too great. -/
theorem digit_less {U v q A A2 M c : Nat} (hv : 0 < v) (hvM : v ≤ M) (hU : U < M) (h : A + q * v = U + M) (hA : A < M) (h2 : A2 + M * c = A + v) (hA2 : A2 < M) (hq : q = U / v ∨ q = U / v + 1) : 1 ≤ q ∧ q - 1 = U / v ∧ A2 = U % v := by
  have hd := Nat.div_add_mod U v
  have hm := Nat.mod_lt U hv
  generalize U / v = d at *
  generalize U % v = m at *
  rcases hq with hq | hq
  · exfalso
    rw [hq, Nat.mul_comm] at h
    generalize v * d = z at *
    omega
  · refine ⟨by omega, by omega, ?_⟩
    rw [hq, Nat.add_mul, Nat.one_mul, Nat.mul_comm] at h
    generalize v * d = z at *
    clear hq
    have : c = 1 := by
      rcases Nat.lt_or_ge c 1 with h' | h'
      · obtain rfl : c = 0 := by omega
        omega
      · rcases Nat.lt_or_ge c 2 with h'' | h''
        · omega
        · have := Nat.mul_le_mul_left M h''
          omega
    subst this
    omega
/-- One digit of the quotient. -/
theorem quo_step {a v Q R T j P : Nat} (hP : P = 18446744073709551616 ^ j) (h : a = Q * (P * 18446744073709551616) * v + (T + P * R)) :
    a = (R / v + 18446744073709551616 * Q) * P * v + (T + P * (R % v)) := by
  have hd := Nat.div_add_mod R v
  have e : P * (v * (R / v) + R % v) = P * R := by rw [hd]
  generalize R / v = d at *
  generalize R % v = m at *
  grind
end Go.Proofs.Ytlfdobjdlgebbaa
/-
  Contracts of the layer limbs: divided by one digit; the guess of a digit. Helpers; no statement of the program is proved here.
-/
set_option maxRecDepth 100000
set_option linter.unusedSimpArgs false
set_option linter.unusedVariables false
namespace Go.Proofs.Ytlfdobjdlgebbaa
open Go Go.Tw Go.RowKit
attribute [local irreducible] LoadAt StoreOk Stored rawVC

theorem val_drop (L : List Nat) (k : Nat) (h : k < L.length) : val (L.drop k) = L.getD k 0 + 18446744073709551616 * val (L.drop (k + 1)) := by
  rw [List.drop_eq_getElem_cons h, List.getD_eq_getElem?_getD, List.getElem?_eq_getElem h]; rfl
theorem drop_set (A : List Nat) (k x : Nat) : (A.set k x).drop (k + 1) = A.drop (k + 1) := by
  apply List.ext_getElem?
  intro j
  rw [List.getElem?_drop, List.getElem?_drop, List.getElem?_set_ne (by omega)]
theorem val_drop_set (A : List Nat) (k x : Nat) (h : k < A.length) : val ((A.set k x).drop k) = x + 18446744073709551616 * val (A.drop (k + 1)) := by
  rw [val_drop _ k (by simpa using h), drop_set, lgetD_same h]
theorem byDigit_step {B l a q d r r' x : Nat} (h : l = a * d + r) (h1 : r * B + x = q * d + r') : x + B * l = (q + B * a) * d + r' := by
  subst h
  rw [Nat.mul_add, Nat.add_mul, Nat.mul_comm B r, Nat.mul_assoc B a d]
  omega
theorem nextI (k : Nat) : ((k : Int) + 1) - 1 = (k : Int) := by omega
theorem wd_one {r : Nat} (h : r < 18446744073709551616) : WdL [r] := by intro x hx; rw [List.mem_singleton] at hx; rw [hx]; exact h
theorem byDigit_ok {w : World} {a : Option Addr} {n c d : Nat} {L : List Nat} (h : Words w a n L) (hn : n ≤ 1099511627776) (hd0 : 0 < d) (hd : d < 18446744073709551616) :
    CallS Try.prog 142 #[.slice a n c, .int .u64 (d : Int)] w fun v w' => Ext w w' ∧ ∃ q r, v = .tuple #[q, r] ∧ Sl w' q (dig (val L / d)) ∧ Sl w' r (dig (val L % d)) := by
  have hl := h.len
  refine enter ttOk mixed (args := [.slice a n c, .int .u64 (d : Int)]) Try.func142 rfl (by kernel_rfl) (by kernel_rfl) rfl ?_
  refine ⟨n, n, ⟨rfl, rfl, Nat.le_refl _, by show n * 8 ≤ _; omega, by omega⟩, ?_⟩
  intro b w1 hb
  have hb1 : Blk w1 b 88 (wv (List.replicate n 0)) := by rw [← rep_zero]; exact hb.toBlk
  have hge := hb.ge (Ext.rfl w)
  refine ⟨(n : Int) - 1, by omega, ?_⟩
  refine ⟨Nat × List Nat × Nat, fun x => [(0, .slice a n c), (1, .int .u64 (d : Int)), (6, .slice (some ⟨b, 0, none⟩) n n), (7, .int .u64 (x.2.2 : Int)), (8, .int .i64 ((x.1 : Int) - 1))],
    fun x w' => Ext w w' ∧ Blk w' b 88 (wv x.2.1) ∧ x.2.1.length = n ∧ WdL x.2.1 ∧ x.1 ≤ n ∧ x.2.2 < d ∧ val (L.drop x.1) = val (x.2.1.drop x.1) * d + x.2.2, fun x _ => x.1,
    ⟨(n, List.replicate n 0, 0), ⟨rfl, rfl, rfl, rfl, rfl, trivial⟩, hb.ext, hb1, by simp, wd_replicate _, Nat.le_refl _, hd0, by simp [← hl, val]⟩, ?_⟩
  rintro ⟨j, A, r⟩ w2 ⟨hx2, hB, hA, hWd, hj, hr, hv⟩
  dsimp only at *
  refine And.intro (fun h1 => ?_) (fun h1 => ?_)
  · obtain ⟨k, rfl⟩ : ∃ k, j = k + 1 := ⟨j - 1, by omega⟩
    have hk : k < n := hj
    have hi : ((k + 1 : Nat) : Int) - 1 = (k : Int) := by omega
    refine ⟨k, ⟨hi, hk, h.base (by omega)⟩, _, (h.ext hx2).load rfl rfl (h.getD hk), ?_⟩
    refine CallS.mono (div64 r (L.getD k 0) d hr (getD_lt_wd h.lt k) hd w2) ?_
    rintro _ w3 ⟨hx3, q, r', rfl, hq, he, hr'⟩
    have hB3 := hB.ext hx3
    refine ⟨k, ⟨hi, hk, ⟨_, rfl, rfl⟩⟩, storeWord rfl rfl hB3 (by omega), ?_⟩
    intro w4 hs
    have hS := storedWord hs rfl hB3
    refine ⟨(k : Int) - 1, by omega, (k, A.set k q, r'), ⟨rfl, rfl, rfl, rfl, rfl, trivial⟩, ⟨Ext.grownB (Ext.trans' hx2 hx3) hS.2.1 hge, hS.1, by simpa using hA, wd_set hWd hq, Nat.le_of_lt hk, hr', ?_⟩, Nat.lt_succ_self k⟩
    show val (L.drop k) = val ((A.set k q).drop k) * d + r'
    rw [val_drop L k (by omega), val_drop_set A k q (by omega)]
    exact byDigit_step hv he
  · have h0 : j = 0 := by omega
    rw [h0, List.drop_zero, List.drop_zero] at hv
    have hq : val L / d = val A := by
      rw [hv, Nat.mul_comm, Nat.mul_add_div hd0, Nat.div_eq_of_lt hr, Nat.add_zero]
    have hrm : val L % d = r := by
      rw [hv, Nat.mul_comm, Nat.mul_add_mod, Nat.mod_eq_of_lt hr]
    have hWA := Words.blkAll hB hWd
    rw [hA] at hWA
    refine CallS.mono (trimmed_ok hWA (Nat.le_refl _) (by omega)) ?_
    rintro _ w2 ⟨rfl, rfl⟩
    intro b2 w3 hb2
    have hb2 : New w2 w3 b2 88 (wv [r]) := hb2
    have hW2 := Words.blkAll hb2.toBlk (wd_one (Nat.lt_trans hr hd))
    refine CallS.mono (trimmed_ok hW2 (Nat.le_refl _) (by show 1 ≤ _; omega)) ?_
    rintro _ _ ⟨rfl, rfl⟩
    refine ⟨hb2.extFrom hx2, _, _, rfl, ?_, ?_⟩
    · rw [hq]
      exact ⟨_, _, _, rfl, (hWA.ext hb2.ext).trim, hWA.trim_le, by omega⟩
    · rw [hrm]
      have e : val [r] = r := by simp [val]
      have ht := hW2.trim
      have hl2 := hW2.trim_le
      rw [e] at ht hl2 ⊢
      exact ⟨_, _, _, rfl, ht, hl2, by show 1 ≤ _; omega⟩

theorem g_lt {u0 b0 q r hi lo : Nat} (e : q * b0 = lo + 18446744073709551616 * hi) (hl : lo < 18446744073709551616) (h : (hi : Int) < (r : Int)) : q * b0 ≤ r * 18446744073709551616 + u0 := by omega
theorem g_eq {u0 b0 q r hi lo : Nat} (e : q * b0 = lo + 18446744073709551616 * hi) (h : (hi : Int) = (r : Int)) (h2 : (lo : Int) ≤ (u0 : Int)) : q * b0 ≤ r * 18446744073709551616 + u0 := by omega
theorem g_gt {u0 b0 q r hi lo : Nat} (e : q * b0 = lo + 18446744073709551616 * hi) (h : (hi : Int) = (r : Int)) (h2 : ¬ (lo : Int) ≤ (u0 : Int)) : r * 18446744073709551616 + u0 < q * b0 := by omega
theorem g_ne {u0 b0 q r hi lo : Nat} (e : q * b0 = lo + 18446744073709551616 * hi) (hu : u0 < 18446744073709551616) (h : ¬ (hi : Int) = (r : Int)) (h2 : ¬ (hi : Int) < (r : Int)) : r * 18446744073709551616 + u0 < q * b0 := by omega
theorem subOne {q : Nat} (h : 1 ≤ q) (hq : q < 18446744073709551616) : ((q - 1 : Nat) : Int) = ((q : Int) - 1) % 18446744073709551616 := by omega
theorem addWrap (r b : Nat) : (((r + b) % 18446744073709551616 : Nat) : Int) = ((r : Int) + (b : Int)) % 18446744073709551616 := by omega
theorem wrapped {r b : Nat} (hr : r < 18446744073709551616) (hb : b < 18446744073709551616) (h : (((r + b) % 18446744073709551616 : Nat) : Int) < (r : Int)) : 18446744073709551616 ≤ r + b := by omega
theorem notWrapped {r b : Nat} (hr : r < 18446744073709551616) (hb : b < 18446744073709551616) (h : ¬ (((r + b) % 18446744073709551616 : Nat) : Int) < (r : Int)) : r + b < 18446744073709551616 ∧ (r + b) % 18446744073709551616 = r + b := by omega
theorem carry0 {u b s k : Nat} (h : u + b = s + 18446744073709551616 * k) (hk : ¬ (k : Int) > 0) : u + b = s := by omega
theorem carry1 {u b s k : Nat} (h : u + b = s + 18446744073709551616 * k) (hk : (k : Int) > 0) : 18446744073709551616 ≤ u + b := by omega
theorem guess_ok (u2 u1 u0 b1 b0 : Nat) (h2 : u2 ≤ b1) (hu1 : u1 < 18446744073709551616) (hu0 : u0 < 18446744073709551616) (hb1 : b1 < 18446744073709551616) (hb0 : b0 < 18446744073709551616) (w0 : World) :
    CallS Try.prog 145 #[.int .u64 (u2 : Int), .int .u64 (u1 : Int), .int .u64 (u0 : Int), .int .u64 (b1 : Int), .int .u64 (b0 : Int)] w0 fun v w' => Ext w0 w' ∧ ∃ q : Nat, v = .int .u64 (q : Int) ∧ GRes u2 u1 u0 b1 b0 q := by
  refine enter ttOk mixed (args := [.int .u64 (u2 : Int), .int .u64 (u1 : Int), .int .u64 (u0 : Int), .int .u64 (b1 : Int), .int .u64 (b0 : Int)]) Try.func145 rfl (by kernel_rfl) (by kernel_rfl) rfl ?_
  refine ⟨_, addWrap u1 b1, ?_⟩
  refine And.intro (fun h1 => ?_) (fun h1 => ?_)
  · refine CallS.mono (div64 u2 u1 b1 (by omega) hu1 hb1 w0) ?_
    rintro _ w1 ⟨hx1, q, r, rfl, hq, he, hr⟩
    refine ⟨Nat × Nat, fun x => [(2, .int .u64 (u0 : Int)), (3, .int .u64 (b1 : Int)), (4, .int .u64 (b0 : Int)), (11, .int .u64 (x.1 : Int)), (12, .int .u64 (x.2 : Int))], fun x w' => Ext w0 w' ∧ GInv u2 u1 u0 b1 b0 x.1 x.2, fun x _ => x.1,
      ⟨(q, r), ⟨rfl, rfl, rfl, rfl, rfl, trivial⟩, hx1, GInv.first he hr hq hu0 hb1⟩, ?_⟩
    rintro ⟨q, r⟩ w1 ⟨hx1, hI⟩
    dsimp only at *
    refine CallS.mono (mul64e q b0 hI.ql hb0 w1) ?_
    rintro _ w1 ⟨rfl, hi, lo, rfl, hh, hlo, he⟩
    refine And.intro (fun h3 => ?_) (fun h3 => ?_)
    · exact ⟨hx1, q, rfl, hI.done (g_lt he hlo h3)⟩
    · refine And.intro (fun h4 => ?_) (fun h4 => ?_)
      · refine And.intro (fun h5 => ?_) (fun h5 => ?_)
        · exact ⟨hx1, q, rfl, hI.done (g_eq he h4 h5)⟩
        · have d := hI.down (g_gt he h4 h5) hb0
          refine ⟨((q - 1 : Nat) : Int), subOne d.1 hI.ql, _, addWrap r b1, ?_⟩
          refine And.intro (fun h7 => ?_) (fun h7 => ?_)
          · exact ⟨hx1, _, rfl, d.2.2 (wrapped hI.rl hb1 h7)⟩
          · have hn := notWrapped hI.rl hb1 h7
            exact ⟨(q - 1, (r + b1) % 18446744073709551616), ⟨rfl, rfl, rfl, rfl, rfl, trivial⟩, ⟨hx1, by rw [hn.2]; exact d.2.1 hn.1⟩, Nat.sub_lt d.1 Nat.zero_lt_one⟩
      · have d := hI.down (g_ne he hu0 h4 h3) hb0
        refine ⟨((q - 1 : Nat) : Int), subOne d.1 hI.ql, _, addWrap r b1, ?_⟩
        refine And.intro (fun h7 => ?_) (fun h7 => ?_)
        · exact ⟨hx1, _, rfl, d.2.2 (wrapped hI.rl hb1 h7)⟩
        · have hn := notWrapped hI.rl hb1 h7
          exact ⟨(q - 1, (r + b1) % 18446744073709551616), ⟨rfl, rfl, rfl, rfl, rfl, trivial⟩, ⟨hx1, by rw [hn.2]; exact d.2.1 hn.1⟩, Nat.sub_lt d.1 Nat.zero_lt_one⟩
  · have h2 : u2 = b1 := by omega
    refine CallS.mono (add64z u1 b1 hu1 hb1 w0) ?_
    rintro _ w1 ⟨rfl, s, k, rfl, hs, hk, he⟩
    refine And.intro (fun h6 => ?_) (fun h6 => ?_)
    · exact ⟨Ext.rfl _, 18446744073709551615, rfl, by rw [h2]; exact GRes.over (carry1 he h6) hb0⟩
    · refine ⟨Nat × Nat, fun x => [(2, .int .u64 (u0 : Int)), (3, .int .u64 (b1 : Int)), (4, .int .u64 (b0 : Int)), (11, .int .u64 (x.1 : Int)), (12, .int .u64 (x.2 : Int))], fun x w' => Ext w1 w' ∧ GInv u2 u1 u0 b1 b0 x.1 x.2, fun x _ => x.1,
        ⟨(18446744073709551615, s), ⟨rfl, rfl, rfl, rfl, rfl, trivial⟩, Ext.rfl _, (by rw [h2]; exact GInv.firstTop (carry0 he h6) hs)⟩, ?_⟩
      rintro ⟨q, r⟩ w1 ⟨hx1, hI⟩
      dsimp only at *
      refine CallS.mono (mul64e q b0 hI.ql hb0 w1) ?_
      rintro _ w1 ⟨rfl, hi, lo, rfl, hh, hlo, he⟩
      refine And.intro (fun h3 => ?_) (fun h3 => ?_)
      · exact ⟨hx1, q, rfl, hI.done (g_lt he hlo h3)⟩
      · refine And.intro (fun h4 => ?_) (fun h4 => ?_)
        · refine And.intro (fun h5 => ?_) (fun h5 => ?_)
          · exact ⟨hx1, q, rfl, hI.done (g_eq he h4 h5)⟩
          · have d := hI.down (g_gt he h4 h5) hb0
            refine ⟨((q - 1 : Nat) : Int), subOne d.1 hI.ql, _, addWrap r b1, ?_⟩
            refine And.intro (fun h7 => ?_) (fun h7 => ?_)
            · exact ⟨hx1, _, rfl, d.2.2 (wrapped hI.rl hb1 h7)⟩
            · have hn := notWrapped hI.rl hb1 h7
              exact ⟨(q - 1, (r + b1) % 18446744073709551616), ⟨rfl, rfl, rfl, rfl, rfl, trivial⟩, ⟨hx1, by rw [hn.2]; exact d.2.1 hn.1⟩, Nat.sub_lt d.1 Nat.zero_lt_one⟩
        · have d := hI.down (g_ne he hu0 h4 h3) hb0
          refine ⟨((q - 1 : Nat) : Int), subOne d.1 hI.ql, _, addWrap r b1, ?_⟩
          refine And.intro (fun h7 => ?_) (fun h7 => ?_)
          · exact ⟨hx1, _, rfl, d.2.2 (wrapped hI.rl hb1 h7)⟩
          · have hn := notWrapped hI.rl hb1 h7
            exact ⟨(q - 1, (r + b1) % 18446744073709551616), ⟨rfl, rfl, rfl, rfl, rfl, trivial⟩, ⟨hx1, by rw [hn.2]; exact d.2.1 hn.1⟩, Nat.sub_lt d.1 Nat.zero_lt_one⟩
end Go.Proofs.Ytlfdobjdlgebbaa
/-
  Contracts of the layer limbs: a multiple taken away in place, and given back. Helpers; no statement of the program is proved here.
-/
set_option maxRecDepth 100000
set_option linter.unusedSimpArgs false
set_option linter.unusedVariables false
namespace Go.Tw
open Go Go.RowKit
/-! ### a window of a block -/
theorem Wr.refl (w : World) (b : Nat) : w.grownBy w (some b) := ⟨rfl, rfl, rfl, Nat.le_refl _, fun _ _ _ => rfl⟩
theorem Wr.trans {a b c : World} {i : Nat} (h : a.grownBy b (some i)) (k : b.grownBy c (some i)) : a.grownBy c (some i) :=
  ⟨k.os.trans h.os, k.tape.trans h.tape, k.output.trans h.output, Nat.le_trans h.size k.size, fun j hj hn => (k.block j (Nat.lt_of_lt_of_le hj h.size) hn).trans (h.block j hj hn)⟩
theorem Wr.ext {a b c : World} {i : Nat} (h : a.grownBy b (some i)) (k : Ext b c) : a.grownBy c (some i) :=
  ⟨k.os.trans h.os, k.tape.trans h.tape, k.output.trans h.output, Nat.le_trans h.size k.size, fun j hj hn => (k.block j (Nat.lt_of_lt_of_le hj h.size)).trans (h.block j hj hn)⟩
theorem Words.far {w w' : World} {a : Option Addr} {n b : Nat} {L : List Nat} (h : Words w a n L) (k : w.grownBy w' (some b)) (hne : 0 < n → Tw.blk a ≠ b) : Words w' a n L := by
  refine ⟨h.len, h.base, fun j x hj => ?_, h.lt⟩
  have hc := h.get j x hj
  have hlt := World.block_lt_of_cell? w _ hc
  have hn : 0 < n := by
    have := h.len
    rcases Nat.eq_zero_or_pos n with h0 | h0
    · rw [h0] at this; rw [List.eq_nil_of_length_eq_zero this] at hj; simp at hj
    · exact h0
  rw [World.cell?_of_block (k.block _ hlt (by intro e; exact hne hn (Option.some.inj e)))]
  exact hc
theorem addr_win (b j i sz : Nat) (hs : sz = 1) : addrAt (some ⟨b, j, none⟩) (i * sz) = ⟨b, j + i, none⟩ := by
  subst hs; simp [addrAt, blk, ofs]
theorem winRow (P A : List Nat) (R : List Value) : wv (P ++ A) ++ R = wv P ++ (wv A ++ R) := by rw [wv_append, List.append_assoc]
theorem storeWin {T : TT} {w : World} {b j i t t' sz : Nat} {P A : List Nat} {R : List Value} {x : Int} (hk : (known (tyAt T t) && Nat.beq 1 (tyAt T t).size) = true) (hs : sz = 1) (hb : Blk w b t' (wv (P ++ A) ++ R)) (hj : P.length = j) (hi : i < A.length) :
    StoreOk T w t (addrAt (some ⟨b, j, none⟩) (i * sz)) (.int .u64 x) := by
  simp only [Bool.and_eq_true] at hk
  have h1 := (beq_iff _ _).1 hk.2
  refine storeOk (addr_win b j i sz hs) ?_ hb (by rw [List.length_append, wv_length, List.length_append]; omega)
  rw [hk.1, ← h1]; rfl
theorem storedWin {w w' : World} {b j i t sz x : Nat} {P A : List Nat} {R : List Value} (h : Stored w w' (addrAt (some ⟨b, j, none⟩) (i * sz)) (Value.int .u64 (x : Int)).cells.toList) (hs : sz = 1) (hb : Blk w b t (wv (P ++ A) ++ R)) (hj : P.length = j) (hi : i < A.length) :
    Blk w' b t (wv (P ++ A.set i x) ++ R) ∧ w.grownBy w' (some b) := by
  rw [addr_win b j i sz hs] at h
  have h1 := Stored.blk h hb
  have h2 := Stored.grown h
  refine ⟨?_, h2.1⟩
  have e : splice (wv (P ++ A) ++ R) (j + i) (Value.int .u64 (x : Int)).cells.toList = wv ((P ++ A).set (j + i) x) ++ R := wvR_set (P ++ A) R (j + i) x (by rw [List.length_append]; omega)
  rw [e] at h1
  rw [List.set_append_right _ _ (by omega), hj, Nat.add_sub_cancel_left] at h1
  exact h1
theorem Words.win {w : World} {b j t : Nat} {P A : List Nat} {R : List Value} (h : Blk w b t (wv (P ++ A) ++ R)) (hj : P.length = j) (hA : WdL A) : Words w (some ⟨b, j, none⟩) A.length A := by
  refine ⟨rfl, fun _ => ⟨_, rfl, rfl⟩, fun i x hi => ?_, hA⟩
  have hlt : i < A.length := by
    rcases Nat.lt_or_ge i A.length with h' | h'
    · exact h'
    · rw [List.getElem?_eq_none h'] at hi; cases hi
  refine h.cell (i := j + i) (v := .int .u64 (x : Int)) ?_
  rw [winRow, List.getElem?_append_right (by rw [wv_length]; omega), wv_length, hj, Nat.add_sub_cancel_left, List.getElem?_append_left (by rw [wv_length]; exact hlt)]
  simp [wv, hi]

end Go.Tw
namespace Go.Proofs.Ytlfdobjdlgebbaa
open Go Go.Tw Go.RowKit
attribute [local irreducible] LoadAt StoreOk Stored rawVC
/-! ### take -/
structure TakeI (U V A : List Nat) (d n i cy bw : Nat) : Prop where
  len : A.length = n + 1
  wd : WdL A
  il : i ≤ n
  cl : cy < 18446744073709551616
  bl : bw ≤ 1
  rest : ∀ k, i ≤ k → A.getD k 0 = U.getD k 0
  vl : val (A.take i) + d * val (V.take i) = val (U.take i) + 18446744073709551616 ^ i * (bw + cy)
theorem TakeI.step {U V A : List Nat} {d n i cy bw hi lo lo2 c s k : Nat} (h : TakeI U V A d n i cy bw) (hd : d < 18446744073709551616) (hV : WdL V) (hin : i < n) (m : V.getD i 0 * d = lo + 18446744073709551616 * hi) (a : lo + cy = lo2 + 18446744073709551616 * c) (hh : hi ≤ 18446744073709551614) (hc : c ≤ 1)
    (s1 : U.getD i 0 + 18446744073709551616 * k = s + lo2 + bw) (hs : s < 18446744073709551616) (hk : k ≤ 1) : TakeI U V (A.set i s) d n (i + 1) (hi + c) k := by
  refine ⟨by simpa using h.len, wd_set h.wd hs, hin, by omega, hk, fun q hq => ?_, ?_⟩
  · rw [lgetD_ne (by omega)]; exact h.rest q (by omega)
  · rw [val_set_next A i s (by rw [h.len]; omega), val_take_next V, val_take_next U, Nat.pow_succ]
    exact take_step h.vl (by omega) s1
theorem TakeI.carry {U V A : List Nat} {d n i cy bw hi lo lo2 c : Nat} (h : TakeI U V A d n i cy bw) (hd : d < 18446744073709551616) (hV : WdL V) (m : V.getD i 0 * d = lo + 18446744073709551616 * hi) (a : lo + cy = lo2 + 18446744073709551616 * c) (hh : hi ≤ 18446744073709551614) (hc : c ≤ 1) : hi + c < 18446744073709551616 := by omega
/-! ### giveBack -/
structure GiveI (U V A : List Nat) (n i cy : Nat) : Prop where
  len : A.length = n + 1
  wd : WdL A
  il : i ≤ n
  cl : cy ≤ 1
  rest : ∀ k, i ≤ k → A.getD k 0 = U.getD k 0
  vl : val (A.take i) + 18446744073709551616 ^ i * cy = val (U.take i) + val (V.take i)
theorem TakeI.last {U V A : List Nat} {d n cy bw s k : Nat} (h : TakeI U V A d n n cy bw) (hU : U.length = n + 1) (hV : V.length = n) (hb : A.getD n 0 + 18446744073709551616 * k = s + cy + bw) : val (A.set n s) + d * val V = val U + 18446744073709551616 ^ (n + 1) * k := by
  have hnA : n < A.length := by rw [h.len]; omega
  have e := take_last h.vl (y := U.getD n 0) (y' := s) (b' := k) (by rw [← h.rest n (Nat.le_refl _)]; exact hb)
  have e2 := val_set_next A n s hnA
  have hl := h.len
  rw [val_take_all _ (n + 1) (by rw [List.length_set]; omega)] at e2
  have e3 := val_take_next U n
  rw [val_take_all U (n + 1) (by omega)] at e3
  rw [val_take_all V n (by omega)] at e
  rw [e2, e3, Nat.pow_succ]
  exact e
theorem GiveI.last {U V A : List Nat} {n cy : Nat} (h : GiveI U V A n n cy) (hU : U.length = n + 1) (hV : V.length = n) : val (A.set n ((A.getD n 0 + cy) % 18446744073709551616)) + 18446744073709551616 ^ (n + 1) * ((A.getD n 0 + cy) / 18446744073709551616) = val U + val V := by
  have hnA : n < A.length := by rw [h.len]; omega
  have hl := h.len
  have e := give_last (y := A.getD n 0) h.vl
  have e2 := val_set_next A n ((A.getD n 0 + cy) % 18446744073709551616) hnA
  rw [val_take_all _ (n + 1) (by rw [List.length_set]; omega)] at e2
  have e3 := val_take_next U n
  rw [val_take_all U (n + 1) (by omega), ← h.rest n (Nat.le_refl _)] at e3
  rw [val_take_all V n (by omega)] at e
  rw [e2, e3, Nat.pow_succ]
  exact e
theorem GiveI.step {U V A : List Nat} {n i cy s k : Nat} (h : GiveI U V A n i cy) (hin : i < n) (ha : U.getD i 0 + V.getD i 0 + cy = s + 18446744073709551616 * k) (hs : s < 18446744073709551616) (hk : k ≤ 1) : GiveI U V (A.set i s) n (i + 1) k := by
  refine ⟨by simpa using h.len, wd_set h.wd hs, hin, hk, fun q hq => ?_, ?_⟩
  · rw [lgetD_ne (by omega)]; exact h.rest q (by omega)
  · rw [val_set_next A i s (by rw [h.len]; omega), val_take_next V, val_take_next U, Nat.pow_succ]
    have e1 : 18446744073709551616 ^ i * (U.getD i 0 + V.getD i 0 + cy) = 18446744073709551616 ^ i * (s + 18446744073709551616 * k) := by rw [ha]
    have e2 := h.vl
    generalize 18446744073709551616 ^ i = p at *
    grind
theorem take_ok {w : World} {b j n c cv d t : Nat} {av : Option Addr} {P U V : List Nat} {R : List Value} (hB : Blk w b t (wv (P ++ U) ++ R)) (hP : P.length = j) (hU : U.length = n + 1) (hUw : WdL U) (hV : Words w av n V) (hne : 0 < n → blk av ≠ b) (hd : d < 18446744073709551616) (hn : n ≤ 4398046511104) :
    CallS Try.prog 146 #[.slice (some ⟨b, j, none⟩) (n + 1) c, .slice av n cv, .int .u64 (d : Int)] w fun v w' => w.grownBy w' (some b) ∧ ∃ A : List Nat, A.length = n + 1 ∧ WdL A ∧ Blk w' b t (wv (P ++ A) ++ R) ∧
      ((v = .bool false ∧ val A + d * val V = val U) ∨ (v = .bool true ∧ val A + d * val V = val U + 18446744073709551616 ^ (n + 1))) := by
  have hVl := hV.len
  refine enter ttOk mixed (args := [.slice (some ⟨b, j, none⟩) (n + 1) c, .slice av n cv, .int .u64 (d : Int)]) Try.func146 rfl (by kernel_rfl) (by kernel_rfl) rfl ?_
  refine ⟨Nat × List Nat × Nat × Nat, fun x => [(0, .slice (some ⟨b, j, none⟩) (n + 1) c), (1, .slice av n cv), (2, .int .u64 (d : Int)), (7, .int .u64 (x.2.2.1 : Int)), (8, .int .u64 (x.2.2.2 : Int)), (14, .slice av n cv), (15, .int .i64 (n : Int)), (16, .int .i64 (x.1 : Int))],
    fun x w' => w.grownBy w' (some b) ∧ Blk w' b t (wv (P ++ x.2.1) ++ R) ∧ TakeI U V x.2.1 d n x.1 x.2.2.1 x.2.2.2, fun x _ => n - x.1,
    ⟨(0, U, 0, 0), ⟨rfl, rfl, rfl, rfl, rfl, rfl, rfl, rfl, trivial⟩, Wr.refl _ _, hB, ⟨hU, hUw, Nat.zero_le _, by show 0 < 18446744073709551616; omega, Nat.zero_le _, fun _ _ => rfl, by simp [val]⟩⟩, ?_⟩
  rintro ⟨i, A, cy, bw⟩ w2 ⟨hg2, hB2, hI⟩
  dsimp only at *
  have hV2 := hV.far hg2 hne
  have hWA := Words.win hB2 hP hI.wd
  rw [hI.len] at hWA
  refine And.intro (fun h1 => ?_) (fun h1 => ?_)
  · have hin : i < n := lt_of_ilt h1
    refine ⟨i, ⟨rfl, hin, hV.base (by omega)⟩, _, hV2.load rfl rfl (hV2.getD hin), ?_⟩
    refine CallS.mono (mul64e (V.getD i 0) d (getD_lt_wd hV.lt i) hd w2) ?_
    rintro _ w2 ⟨rfl, hi, lo, rfl, hh, hlo, hm⟩
    refine CallS.mono (add64z lo cy hlo hI.cl w2) ?_
    rintro _ w2 ⟨rfl, lo2, k2, rfl, hlo2, hk2, ha⟩
    have hcar := hI.carry hd hV.lt hm ha hh hk2
    refine ⟨((hi + k2 : Nat) : Int), addZ _ _ hcar, i, ⟨rfl, Nat.lt_succ_of_lt hin, ⟨_, rfl, rfl⟩⟩, _, hWA.load rfl rfl (hWA.getD (Nat.lt_succ_of_lt hin)), ?_⟩
    refine CallS.mono (sub64e (A.getD i 0) lo2 bw (getD_lt_wd hI.wd i) hlo2 hI.bl w2) ?_
    rintro _ w2 ⟨rfl, s, k3, rfl, hs, hk3, hb3⟩
    have hiA : i < A.length := by rw [hI.len]; omega
    refine ⟨i, ⟨rfl, Nat.lt_succ_of_lt hin, ⟨_, rfl, rfl⟩⟩, storeWin rfl rfl hB2 hP hiA, ?_⟩
    intro w3 hst
    have hS := storedWin hst rfl hB2 hP hiA
    rw [hI.rest i (Nat.le_refl _)] at hb3
    refine ⟨((i + 1 : Nat) : Int), addI1 i hin hn, (i + 1, A.set i s, hi + k2, k3), ⟨rfl, rfl, rfl, rfl, rfl, rfl, rfl, rfl, trivial⟩, ⟨Wr.trans hg2 hS.2, hS.1, hI.step hd hV.lt hin hm ha hh hk2 hb3 hs hk3⟩, Nat.sub_lt_sub_left hin (Nat.lt_succ_self i)⟩
  · have e9 : i = n := eq_of_nlt hI.il h1
    rw [e9] at hI
    clear e9 h1
    refine ⟨n, ⟨rfl, Nat.lt_succ_self n, ⟨_, rfl, rfl⟩⟩, _, hWA.load rfl rfl (hWA.getD (Nat.lt_succ_self n)), ?_⟩
    refine CallS.mono (sub64e (A.getD n 0) cy bw (getD_lt_wd hI.wd n) hI.cl hI.bl w2) ?_
    rintro _ w2 ⟨rfl, s, k3, rfl, hs, hk3, hb3⟩
    have hnA : n < A.length := by rw [hI.len]; omega
    refine ⟨n, ⟨rfl, Nat.lt_succ_self n, ⟨_, rfl, rfl⟩⟩, storeWin rfl rfl hB2 hP hnA, ?_⟩
    intro w3 hst
    have hS := storedWin hst rfl hB2 hP hnA
    have hval := hI.last hU hVl hb3
    have fin : ∀ (v : Value), ((v = .bool false ∧ k3 = 0) ∨ (v = .bool true ∧ k3 = 1)) → w.grownBy w3 (some b) ∧ ∃ A : List Nat, A.length = n + 1 ∧ WdL A ∧ Blk w3 b t (wv (P ++ A) ++ R) ∧
        ((v = .bool false ∧ val A + d * val V = val U) ∨ (v = .bool true ∧ val A + d * val V = val U + 18446744073709551616 ^ (n + 1))) := by
      intro v hv
      refine ⟨Wr.trans hg2 hS.2, A.set n s, by simp [hI.len], wd_set hI.wd hs, hS.1, ?_⟩
      rcases hv with ⟨h1, h2⟩ | ⟨h1, h2⟩
      · exact .inl ⟨h1, hval.trans (by rw [h2, Nat.mul_zero, Nat.add_zero])⟩
      · exact .inr ⟨h1, hval.trans (by rw [h2, Nat.mul_one])⟩
    refine And.intro (fun h4 => ?_) (fun h4 => ?_)
    · exact fin (.bool true) (.inr ⟨rfl, by omega⟩)
    · exact fin (.bool false) (.inl ⟨rfl, by omega⟩)

theorem giveBack_ok {w : World} {b j n c cv t : Nat} {av : Option Addr} {P U V : List Nat} {R : List Value} (hB : Blk w b t (wv (P ++ U) ++ R)) (hP : P.length = j) (hU : U.length = n + 1) (hUw : WdL U) (hV : Words w av n V) (hne : 0 < n → blk av ≠ b) (hn : n ≤ 4398046511104) :
    CallS Try.prog 147 #[.slice (some ⟨b, j, none⟩) (n + 1) c, .slice av n cv] w fun v w' => w.grownBy w' (some b) ∧ ∃ (A : List Nat) (k : Nat), A.length = n + 1 ∧ WdL A ∧ Blk w' b t (wv (P ++ A) ++ R) ∧
      val A + 18446744073709551616 ^ (n + 1) * k = val U + val V := by
  have hVl := hV.len
  refine enter ttOk mixed (args := [.slice (some ⟨b, j, none⟩) (n + 1) c, .slice av n cv]) Try.func147 rfl (by kernel_rfl) (by kernel_rfl) rfl ?_
  refine ⟨Nat × List Nat × Nat, fun x => [(0, .slice (some ⟨b, j, none⟩) (n + 1) c), (1, .slice av n cv), (4, .int .u64 (x.2.2 : Int)), (7, .slice av n cv), (8, .int .i64 (n : Int)), (9, .int .i64 (x.1 : Int))],
    fun x w' => w.grownBy w' (some b) ∧ Blk w' b t (wv (P ++ x.2.1) ++ R) ∧ GiveI U V x.2.1 n x.1 x.2.2, fun x _ => n - x.1,
    ⟨(0, U, 0), ⟨rfl, rfl, rfl, rfl, rfl, rfl, trivial⟩, Wr.refl _ _, hB, ⟨hU, hUw, Nat.zero_le _, Nat.zero_le _, fun _ _ => rfl, by simp [val]⟩⟩, ?_⟩
  rintro ⟨i, A, cy⟩ w2 ⟨hg2, hB2, hI⟩
  dsimp only at *
  have hV2 := hV.far hg2 hne
  have hWA := Words.win hB2 hP hI.wd
  rw [hI.len] at hWA
  refine And.intro (fun h1 => ?_) (fun h1 => ?_)
  · have hin : i < n := lt_of_ilt h1
    refine ⟨i, ⟨rfl, hin, hV.base (by omega)⟩, _, hV2.load rfl rfl (hV2.getD hin), i, ⟨rfl, Nat.lt_succ_of_lt hin, ⟨_, rfl, rfl⟩⟩, _, hWA.load rfl rfl (hWA.getD (Nat.lt_succ_of_lt hin)), ?_⟩
    refine CallS.mono (add64e (A.getD i 0) (V.getD i 0) cy (getD_lt_wd hI.wd i) (getD_lt_wd hV.lt i) hI.cl w2) ?_
    rintro _ w2 ⟨rfl, s, k, rfl, hs, hk, ha⟩
    have hiA : i < A.length := by rw [hI.len]; omega
    refine ⟨i, ⟨rfl, Nat.lt_succ_of_lt hin, ⟨_, rfl, rfl⟩⟩, storeWin rfl rfl hB2 hP hiA, ?_⟩
    intro w3 hst
    have hS := storedWin hst rfl hB2 hP hiA
    rw [hI.rest i (Nat.le_refl _)] at ha
    refine ⟨((i + 1 : Nat) : Int), addI1 i hin hn, (i + 1, A.set i s, k), ⟨rfl, rfl, rfl, rfl, rfl, rfl, trivial⟩, ⟨Wr.trans hg2 hS.2, hS.1, hI.step hin ha hs hk⟩, Nat.sub_lt_sub_left hin (Nat.lt_succ_self i)⟩
  · have e9 : i = n := eq_of_nlt hI.il h1
    rw [e9] at hI
    clear e9 h1
    refine ⟨n, ⟨rfl, Nat.lt_succ_self n, ⟨_, rfl, rfl⟩⟩, _, hWA.load rfl rfl (hWA.getD (Nat.lt_succ_self n)), _, addWrap (A.getD n 0) cy, ?_⟩
    have hnA : n < A.length := by rw [hI.len]; omega
    refine ⟨n, ⟨rfl, Nat.lt_succ_self n, ⟨_, rfl, rfl⟩⟩, storeWin rfl rfl hB2 hP hnA, ?_⟩
    intro w3 hst
    have hS := storedWin hst rfl hB2 hP hnA
    refine ⟨Wr.trans hg2 hS.2, _, (A.getD n 0 + cy) / 18446744073709551616, by simp [hI.len], wd_set hI.wd (Nat.mod_lt _ (by omega)), hS.1, hI.last hU hVl⟩
end Go.Proofs.Ytlfdobjdlgebbaa
/-
  Contracts of the layer limbs: shifted by less than a digit. Helpers; no statement of the program is proved here.
-/
set_option maxRecDepth 100000
set_option linter.unusedSimpArgs false
set_option linter.unusedVariables false
namespace Go.Tw
open Go Go.RowKit
theorem owns_shrink {w : World} {base e n c k : Nat} {a : Option Addr} {L : List Nat} (h : w.ownsRow base e 1 (.slice a n c) n (wv L)) (hk : k ≤ n) : w.ownsRow base e 1 (.slice a k c) k (wv (L.take k)) := by
  obtain ⟨hl, h⟩ := h
  rw [wv_length, Nat.mul_one] at hl
  have e1 : (wv (L.take k)).length = k * 1 := by rw [wv_length, List.length_take]; omega
  rcases h with ⟨he, hn⟩ | ⟨g, cap, cur, he, hg, hb, hnc, hcm, hcs, htk⟩
  · simp only [Value.slice.injEq] at he
    obtain ⟨rfl, _, rfl⟩ := he
    have : k = 0 := by omega
    subst this
    exact ⟨e1, .inl ⟨rfl, rfl⟩⟩
  · simp only [Value.slice.injEq] at he
    obtain ⟨rfl, _, rfl⟩ := he
    refine ⟨e1, .inr ⟨g, c, cur, rfl, hg, hb, by omega, hcm, hcs, ?_⟩⟩
    have := congrArg (List.take k) htk
    rw [List.take_take, Nat.mul_one, Nat.min_eq_left hk] at this
    rw [Nat.mul_one, this, wv, wv, List.map_take]
theorem owns_lt {w : World} {base e n : Nat} {v : Value} {L : List Nat} (h : w.ownsRow base e 1 v n (wv L)) (hL : WdL L) : ∃ a c, v = .slice a n c ∧ Words w a n L ∧ n ≤ c ∧ c ≤ 9223372036854775807 := by
  obtain ⟨a, m, c, rfl, h1, h2, h3⟩ := owns_sl h hL
  have := h.1
  rw [wv_length, Nat.mul_one, h1.len] at this
  subst this
  exact ⟨a, c, rfl, h1, h2, h3⟩
theorem owns_lower {w : World} {base base' e sz n : Nat} {v : Value} {xs : List Value} (h : w.ownsRow base e sz v n xs) (hb : base' ≤ base) : w.ownsRow base' e sz v n xs := by
  obtain ⟨hl, h⟩ := h
  refine ⟨hl, ?_⟩
  rcases h with h | ⟨g, cap, cur, he, hg, h⟩
  · exact .inl h
  · exact .inr ⟨g, cap, cur, he, Nat.le_trans hb hg, h⟩
theorem owns_ext {w w' : World} {base e sz n : Nat} {v : Value} {xs : List Value} (h : w.ownsRow base e sz v n xs) (k : Ext w w') : w'.ownsRow base e sz v n xs := by
  obtain ⟨hl, h⟩ := h
  refine ⟨hl, ?_⟩
  rcases h with h | ⟨g, cap, cur, he, hg, hb, h⟩
  · exact .inl h
  · refine .inr ⟨g, cap, cur, he, hg, ?_, h⟩
    have hlt : g < w.heap.size := by
      rcases Nat.lt_or_ge g w.heap.size with h' | h'
      · exact h'
      · rw [Array.getElem?_eq_none h'] at hb; cases hb
    rw [k.block g hlt]; exact hb
end Go.Tw
namespace Go.Proofs.Ytlfdobjdlgebbaa
open Go Go.Tw Go.RowKit
attribute [local irreducible] LoadAt StoreOk Stored rawVC

theorem tmod64 {s : Nat} (h : s < 64) : (s : Int) = (s : Int).tmod 64 := by
  have := remZ s 64
  rw [Nat.mod_eq_of_lt h] at this; exact this
theorem tdiv64 {s : Nat} (h : s < 64) : (0 : Int) = IntKind.i64.wrap ((s : Int).tdiv 64) := by
  have h1 : ((s / 64 : Nat) : Int) = (s : Int).tdiv 64 := Int.ofNat_tdiv s 64
  rw [Nat.div_eq_of_lt h] at h1
  rw [← h1]; rfl
/-- A digit behind the shift: what stays and what goes over. -/
structure ShD (x s cy y h : Nat) : Prop where
  ey : (y : Int) = bitZ .or .u64 ((x * 2 ^ s % 18446744073709551616 : Nat) : Int) (cy : Int)
  eh : h = x / 2 ^ 1 / 2 ^ (63 - s)
  yl : y < 18446744073709551616
  hl : h < 2 ^ s
  sum : y + 18446744073709551616 * h = x * 2 ^ s + cy
theorem ShD.make {x s cy : Nat} (hx : x < 18446744073709551616) (hs : s ≤ 63) (hc : cy < 2 ^ s) : ShD x s cy (x % 2 ^ (64 - s) * 2 ^ s + cy) (x / 2 ^ 1 / 2 ^ (63 - s)) := by
  have hp : 2 ^ (64 - s) * 2 ^ s = 18446744073709551616 := by rw [← Nat.pow_add, show 64 - s + s = 64 by omega]
  have p0 : 0 < 2 ^ (64 - s) := Nat.pow_pos (by omega)
  have p1 : 0 < 2 ^ s := Nat.pow_pos (by omega)
  have e1 : x * 2 ^ s % 18446744073709551616 = x % 2 ^ (64 - s) * 2 ^ s := by rw [← hp, Nat.mul_mod_mul_right]
  have hm := Nat.mod_lt x p0
  have h2 : (x % 2 ^ (64 - s) + 1) * 2 ^ s ≤ 2 ^ (64 - s) * 2 ^ s := Nat.mul_le_mul_right _ hm
  rw [hp, Nat.add_mul, Nat.one_mul] at h2
  have h3 : x % 2 ^ (64 - s) * 2 ^ s < 18446744073709551616 := by omega
  have e2 : x / 2 ^ 1 / 2 ^ (63 - s) = x / 2 ^ (64 - s) := by rw [Nat.div_div_eq_div_mul, ← Nat.pow_add, show 1 + (63 - s) = 64 - s by omega]
  refine ⟨?_, rfl, by omega, ?_, ?_⟩
  · rw [e1]; exact orD _ _ _ h3 hc (by omega)
  · rw [e2, Nat.div_lt_iff_lt_mul p0, Nat.mul_comm, hp]; exact hx
  · rw [e2, ← hp]
    have hd := Nat.div_add_mod x (2 ^ (64 - s))
    have e4 : x * 2 ^ s = (2 ^ (64 - s) * (x / 2 ^ (64 - s)) + x % 2 ^ (64 - s)) * 2 ^ s := by rw [hd]
    rw [e4, Nat.add_mul, Nat.mul_right_comm]
    omega
theorem shl_step {p A L x y h cy s2 : Nat} (hv : A + p * cy = L * s2) (hs : y + 18446744073709551616 * h = x * s2 + cy) : A + p * y + p * 18446744073709551616 * h = (L + p * x) * s2 := by
  have e : p * (y + 18446744073709551616 * h) = p * (x * s2 + cy) := by rw [hs]
  grind
theorem Shl_own {w : World} {a : Option Addr} {n c s : Nat} {L : List Nat} (h : Words w a n L) (hc : n ≤ c) (hm : c ≤ 9223372036854775807) (hn : n ≤ 1099511627776) (hs : s ≤ 63) :
    CallS Try.prog 144 #[.slice a n c, .int .i64 (s : Int)] w fun v w' => Ext w w' ∧ w'.ownsRow w.heap.size 88 1 v (dig (val L * 2 ^ s)).length (wv (dig (val L * 2 ^ s))) := by
  have ht := h.trim
  have htl := h.trim_le
  refine enter ttOk mixed (args := [.slice a n c, .int .i64 (s : Int)]) Try.func144 rfl (by kernel_rfl) (by kernel_rfl) rfl ?_
  refine CallS.mono (trimmed_ok h hc hm) ?_
  rintro _ w ⟨rfl, rfl⟩
  generalize hX : val L = X at *
  generalize hN : (dig X).length = N at *
  refine And.intro (fun h1 => ?_) (fun h1 => ?_)
  · exact absurd h1 (by omega)
  refine And.intro (fun h2 => ?_) (fun h2 => ?_)
  · have hX0 : X = 0 := dig_nil.1 (List.eq_nil_of_length_eq_zero (by omega))
    have e : dig (X * 2 ^ s) = [] := by rw [hX0, Nat.zero_mul]; rfl
    rw [e]
    exact ⟨Ext.rfl w, rfl, .inl ⟨rfl, rfl⟩⟩
  refine And.intro (fun h3 => ?_) (fun h3 => ?_)
  · have hs0 : s = 0 := by omega
    refine CallS.mono (clone_own ht (by omega)) ?_
    rintro v w1 ⟨hx1, ho⟩
    have e : X * 2 ^ s = X := by rw [hs0]; exact Nat.mul_one X
    rw [e, hN]
    exact ⟨hx1, ho⟩
  have hs64 : s < 64 := by omega
  refine ⟨0, ⟨tdiv64 hs64, by omega⟩, 0, ⟨tdiv64 hs64, by omega⟩, (N : Int), by omega, ((N + 1 : Nat) : Int), by omega, 0, N + 1, ⟨rfl, rfl, by omega, by show (N + 1) * 8 ≤ _; omega, by omega⟩, ?_⟩
  intro b w1 hb
  have hb1 : Blk w1 b 88 (wv (List.replicate (N + 1) 0)) := by rw [← rep_zero]; exact hb.toBlk
  have hge := hb.ge (Ext.rfl w)
  have hown := owns_take (base := w.heap.size) (n := 0) (c := N + 1) (sz := 1) hb1 hge (by rw [wv_length, List.length_replicate, Nat.mul_one]) (by omega) (by omega)
  refine ⟨Nat × Value × List Nat × Nat, fun x => [(0, .slice a N c), (1, .int .i64 (s : Int)), (5, x.2.1), (6, .int .u64 (x.2.2.2 : Int)), (33, .slice a N c), (34, .int .i64 (N : Int)), (35, .int .i64 (x.1 : Int))],
    fun x w' => Ext w w' ∧ w'.ownsRow w.heap.size 88 1 x.2.1 x.1 (wv x.2.2.1) ∧ x.1 ≤ N ∧ WdL x.2.2.1 ∧ x.2.2.2 < 2 ^ s ∧ val x.2.2.1 + 18446744073709551616 ^ x.1 * x.2.2.2 = val ((dig X).take x.1) * 2 ^ s, fun x _ => N - x.1,
    ⟨(0, _, [], 0), ⟨rfl, rfl, rfl, rfl, rfl, rfl, rfl, trivial⟩, hb.ext, hown, Nat.zero_le _, by intro x hx; simp at hx, Nat.pow_pos (by omega), by simp [val]⟩, ?_⟩
  rintro ⟨i, v, O, cy⟩ w2 ⟨hx2, ho, hi, hO, hcy, hv⟩
  dsimp only at *
  have hOl : O.length = i := by have := ho.1; rw [wv_length, Nat.mul_one] at this; exact this
  refine And.intro (fun h4 => ?_) (fun h4 => ?_)
  · have hiN : i < N := lt_of_ilt h4
    have hx := getD_lt_wd ht.lt i
    have hD := ShD.make hx hs hcy
    generalize hy : (dig X).getD i 0 % 2 ^ (64 - s) * 2 ^ s + cy = y at hD
    generalize hh : (dig X).getD i 0 / 2 ^ 1 / 2 ^ (63 - s) = hgh at hD
    refine ⟨i, ⟨rfl, hiN, ht.base (by omega)⟩, _, (ht.ext hx2).load rfl rfl (ht.getD hiN), ?_⟩
    refine ⟨(s : Int), ⟨tmod64 hs64, by omega⟩, _, ⟨(shlZn _ s (by omega)).symm, by omega⟩, (y : Int), hD.ey, ?_⟩
    intro b3 w3 hb3
    have hb3 : New w2 w3 b3 88 (wv [y]) := hb3
    have ho3 := owns_ext ho hb3.ext
    refine ⟨rfl, w.heap.size, i, wv O, wv [y], ⟨ho3, rfl, ?_, wv_one _, fun _ => ⟨_, rfl, rfl⟩, by omega, by show (i + 1) * 8 ≤ _; omega, by have := hx2.size; have := hb3.ext.size; omega⟩, ?_⟩
    · intro j u hj
      have := hb3.toBlk.cell (i := 0 + j) (v := u) (by simpa [wv] using hj)
      exact this
    intro v4 w4 ho4 hg4 _
    rw [← wv_append] at ho4
    have hx4 : Ext w w4 := by
      refine Ext.grown (Ext.trans' hx2 hb3.ext) hg4 ?_
      intro b' hb'
      rcases ho.2 with ⟨he, _⟩ | ⟨g, cap, cur, he, hg, _⟩
      · rw [he] at hb'; simp [Value.ownBlock] at hb'
      · rw [he] at hb'; simp only [Value.ownBlock, Option.some.injEq] at hb'; omega
    refine ⟨_, ⟨(shrZn _ 1 (by omega)).symm, by omega⟩, (s : Int), ⟨tmod64 hs64, by omega⟩, ((63 - s : Nat) : Int), by omega, (hgh : Int), ⟨?_, by omega⟩, ((i + 1 : Nat) : Int), by omega, (i + 1, v4, O ++ [y], hgh), ⟨rfl, rfl, rfl, rfl, rfl, rfl, rfl, trivial⟩, ⟨hx4, ho4, hiN, ?_, hD.hl, ?_⟩, Nat.sub_lt_sub_left hiN (Nat.lt_succ_self i)⟩
    · rw [shrZn _ _ (by omega), hh]
    · intro z hz
      rcases List.mem_append.1 hz with hz | hz
      · exact hO z hz
      · rw [List.mem_singleton] at hz; rw [hz]; exact hD.yl
    · show val (O ++ [y]) + 18446744073709551616 ^ (i + 1) * hgh = _
      rw [val_append, hOl, val_take_next, Nat.pow_succ]
      have e : val [y] = y := by simp [val]
      rw [e]
      exact shl_step hv hD.sum
  · have e9 : i = N := eq_of_nlt hi h4
    rw [e9] at hv ho hOl
    clear e9 h4
    intro b3 w3 hb3
    have hb3 : New w2 w3 b3 88 (wv [cy]) := hb3
    have ho3 := owns_ext ho hb3.ext
    refine ⟨rfl, w.heap.size, N, wv O, wv [cy], ⟨ho3, rfl, ?_, wv_one _, fun _ => ⟨_, rfl, rfl⟩, by omega, by show (N + 1) * 8 ≤ _; omega, by have := hx2.size; have := hb3.ext.size; omega⟩, ?_⟩
    · intro j u hj
      have := hb3.toBlk.cell (i := 0 + j) (v := u) (by simpa [wv] using hj)
      exact this
    intro v4 w4 ho4 hg4 _
    rw [← wv_append] at ho4
    have hx4 : Ext w w4 := by
      refine Ext.grown (Ext.trans' hx2 hb3.ext) hg4 ?_
      intro b' hb'
      rcases ho.2 with ⟨he, _⟩ | ⟨g, cap, cur, he, hg, _⟩
      · rw [he] at hb'; simp [Value.ownBlock] at hb'
      · rw [he] at hb'; simp only [Value.ownBlock, Option.some.injEq] at hb'; omega
    have hc64 : cy < 18446744073709551616 := Nat.lt_of_lt_of_le hcy (Nat.pow_le_pow_right (by omega) (Nat.le_of_lt hs64) : 2 ^ s ≤ 2 ^ 64)
    have hwd : WdL (O ++ [cy]) := by
      intro z hz
      rcases List.mem_append.1 hz with hz | hz
      · exact hO z hz
      · rw [List.mem_singleton] at hz; rw [hz]; exact hc64
    obtain ⟨a4, c4, rfl, hw4, hnc4, hc4⟩ := owns_lt ho4 hwd
    refine CallS.mono (trimmed_ok hw4 hnc4 hc4) ?_
    rintro _ w4 ⟨rfl, rfl⟩
    have hval : val (O ++ [cy]) = X * 2 ^ s := by
      rw [val_append, hOl]
      have e : val [cy] = cy := by simp [val]
      rw [e, hv, val_take_all _ _ (by omega), val_dig]
    have hsh := owns_shrink ho4 hw4.trim_le
    rw [← trimN_dig _ hw4.lt, trim_dig _ hw4.lt, trimN_dig _ hw4.lt, hval] at hsh
    rw [hval]
    exact ⟨hx4, hsh⟩
end Go.Proofs.Ytlfdobjdlgebbaa
