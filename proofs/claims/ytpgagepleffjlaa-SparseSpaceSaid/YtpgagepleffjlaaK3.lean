/-
  The table of this seat's types, and that it is the program's. A helper; no statement of the program is proved here.
-/
import Derived.Test.YtpgagepleffjlaaK2
import Derived.Test.YtpgagepleffjlaaProg
set_option maxRecDepth 100000
namespace Go.Proofs.Ytpgagepleffjlaa
open Go Go.Tw
def tt : TT :=
  [⟨.other, 1, 0, [(.tuple #[])]⟩,
   ⟨.func, 1, 8, [.nilFunc]⟩,
   ⟨(.int .i64), 1, 8, [(.int .i64 0)]⟩,
   ⟨(.int .i64), 1, 8, [(.int .i64 0)]⟩,
   ⟨.bool, 1, 1, [(.bool false)]⟩,
   ⟨(.int .u8), 1, 1, [(.int .u8 0)]⟩,
   ⟨(.int .u8), 1, 1, [(.int .u8 0)]⟩,
   ⟨(.struct [(0, 2), (1, 3), (2, 4), (3, 6)]), 4, 24, [(.int .i64 0), (.int .i64 0), (.bool false), (.int .u8 0)]⟩,
   ⟨(.struct [(0, 2), (1, 3), (2, 4), (3, 6)]), 4, 24, [(.int .i64 0), (.int .i64 0), (.bool false), (.int .u8 0)]⟩,
   ⟨.str, 1, 16, [(.string ByteArray.empty)]⟩,
   ⟨.str, 1, 16, [(.string ByteArray.empty)]⟩,
   ⟨.str, 1, 16, [(.string ByteArray.empty)]⟩,
   ⟨(.int .u64), 1, 8, [(.int .u64 0)]⟩,
   ⟨(.struct [(0, 9), (1, 12)]), 2, 24, [(.string ByteArray.empty), (.int .u64 0)]⟩,
   ⟨(.struct [(0, 9), (1, 12)]), 2, 24, [(.string ByteArray.empty), (.int .u64 0)]⟩,
   ⟨(.ptr 158), 1, 8, [(.pointer none)]⟩,
   ⟨(.ptr 161), 1, 8, [(.pointer none)]⟩,
   ⟨(.ptr 171), 1, 8, [(.pointer none)]⟩,
   ⟨(.struct [(0, 17)]), 1, 8, [(.pointer none)]⟩,
   ⟨(.struct [(0, 17)]), 1, 8, [(.pointer none)]⟩,
   ⟨.iface, 1, 16, [.nilIface]⟩,
   ⟨(.int .i32), 1, 4, [(.int .i32 0)]⟩,
   ⟨(.slice 44), 1, 24, [(.slice none 0 0)]⟩,
   ⟨(.slice 35), 1, 24, [(.slice none 0 0)]⟩,
   ⟨(.slice 77), 1, 24, [(.slice none 0 0)]⟩,
   ⟨(.slice 77), 1, 24, [(.slice none 0 0)]⟩,
   ⟨(.struct [(0, 22), (1, 23), (2, 25)]), 3, 72, [(.slice none 0 0), (.slice none 0 0), (.slice none 0 0)]⟩,
   ⟨(.struct [(0, 22), (1, 23), (2, 25)]), 3, 72, [(.slice none 0 0), (.slice none 0 0), (.slice none 0 0)]⟩,
   ⟨(.int .u8), 1, 1, [(.int .u8 0)]⟩,
   ⟨(.slice 88), 1, 24, [(.slice none 0 0)]⟩,
   ⟨(.struct [(0, 4), (1, 29)]), 2, 32, [(.bool false), (.slice none 0 0)]⟩,
   ⟨(.struct [(0, 4), (1, 29)]), 2, 32, [(.bool false), (.slice none 0 0)]⟩,
   ⟨(.struct [(0, 31), (2, 31)]), 4, 64, [(.bool false), (.slice none 0 0), (.bool false), (.slice none 0 0)]⟩,
   ⟨(.struct [(0, 31), (2, 31)]), 4, 64, [(.bool false), (.slice none 0 0), (.bool false), (.slice none 0 0)]⟩,
   ⟨(.struct [(0, 25), (1, 28), (2, 33)]), 6, 96, [(.slice none 0 0), (.int .u8 0), (.bool false), (.slice none 0 0), (.bool false), (.slice none 0 0)]⟩,
   ⟨(.struct [(0, 25), (1, 28), (2, 33)]), 6, 96, [(.slice none 0 0), (.int .u8 0), (.bool false), (.slice none 0 0), (.bool false), (.slice none 0 0)]⟩,
   ⟨(.slice 25), 1, 24, [(.slice none 0 0)]⟩,
   ⟨(.slice 33), 1, 24, [(.slice none 0 0)]⟩,
   ⟨(.struct [(0, 3), (1, 36), (2, 37), (3, 37), (4, 37), (5, 37)]), 6, 128, [(.int .i64 0), (.slice none 0 0), (.slice none 0 0), (.slice none 0 0), (.slice none 0 0), (.slice none 0 0)]⟩,
   ⟨(.struct [(0, 3), (1, 36), (2, 37), (3, 37), (4, 37), (5, 37)]), 6, 128, [(.int .i64 0), (.slice none 0 0), (.slice none 0 0), (.slice none 0 0), (.slice none 0 0), (.slice none 0 0)]⟩,
   ⟨(.int .i64), 1, 8, [(.int .i64 0)]⟩,
   ⟨.other, 1, 0, [(.tuple #[(.agg #[(.int .i64 0), (.slice none 0 0), (.slice none 0 0), (.slice none 0 0), (.slice none 0 0), (.slice none 0 0)]), (.int .i64 0)])]⟩,
   ⟨.func, 1, 8, [.nilFunc]⟩,
   ⟨(.struct [(0, 33), (4, 33), (8, 4)]), 9, 136, [(.bool false), (.slice none 0 0), (.bool false), (.slice none 0 0), (.bool false), (.slice none 0 0), (.bool false), (.slice none 0 0), (.bool false)]⟩,
   ⟨(.struct [(0, 33), (4, 33), (8, 4)]), 9, 136, [(.bool false), (.slice none 0 0), (.bool false), (.slice none 0 0), (.bool false), (.slice none 0 0), (.bool false), (.slice none 0 0), (.bool false)]⟩,
   ⟨.func, 1, 8, [.nilFunc]⟩,
   ⟨.func, 1, 8, [.nilFunc]⟩,
   ⟨.func, 1, 8, [.nilFunc]⟩,
   ⟨.func, 1, 8, [.nilFunc]⟩,
   ⟨.func, 1, 8, [.nilFunc]⟩,
   ⟨.func, 1, 8, [.nilFunc]⟩,
   ⟨.func, 1, 8, [.nilFunc]⟩,
   ⟨.func, 1, 8, [.nilFunc]⟩,
   ⟨.func, 1, 8, [.nilFunc]⟩,
   ⟨.func, 1, 8, [.nilFunc]⟩,
   ⟨.func, 1, 8, [.nilFunc]⟩,
   ⟨.func, 1, 8, [.nilFunc]⟩,
   ⟨.func, 1, 8, [.nilFunc]⟩,
   ⟨.func, 1, 8, [.nilFunc]⟩,
   ⟨.func, 1, 8, [.nilFunc]⟩,
   ⟨.func, 1, 8, [.nilFunc]⟩,
   ⟨.func, 1, 8, [.nilFunc]⟩,
   ⟨.func, 1, 8, [.nilFunc]⟩,
   ⟨.func, 1, 8, [.nilFunc]⟩,
   ⟨(.slice 3), 1, 24, [(.slice none 0 0)]⟩,
   ⟨.func, 1, 8, [.nilFunc]⟩,
   ⟨.other, 1, 0, [(.tuple #[(.slice none 0 0), (.int .i64 0)])]⟩,
   ⟨.func, 1, 8, [.nilFunc]⟩,
   ⟨.func, 1, 8, [.nilFunc]⟩,
   ⟨.func, 1, 8, [.nilFunc]⟩,
   ⟨.other, 1, 0, [(.tuple #[(.slice none 0 0), (.int .i64 0)])]⟩,
   ⟨.func, 1, 8, [.nilFunc]⟩,
   ⟨.func, 1, 8, [.nilFunc]⟩,
   ⟨.other, 1, 0, [(.tuple #[(.slice none 0 0), (.int .i64 0)])]⟩,
   ⟨.func, 1, 8, [.nilFunc]⟩,
   ⟨.func, 1, 8, [.nilFunc]⟩,
   ⟨(.struct [(0, 3), (1, 33)]), 5, 72, [(.int .i64 0), (.bool false), (.slice none 0 0), (.bool false), (.slice none 0 0)]⟩,
   ⟨(.struct [(0, 3), (1, 33)]), 5, 72, [(.int .i64 0), (.bool false), (.slice none 0 0), (.bool false), (.slice none 0 0)]⟩,
   ⟨.func, 1, 8, [.nilFunc]⟩,
   ⟨.func, 1, 8, [.nilFunc]⟩,
   ⟨.func, 1, 8, [.nilFunc]⟩,
   ⟨.func, 1, 8, [.nilFunc]⟩,
   ⟨.func, 1, 8, [.nilFunc]⟩,
   ⟨.func, 1, 8, [.nilFunc]⟩,
   ⟨.func, 1, 8, [.nilFunc]⟩,
   ⟨.func, 1, 8, [.nilFunc]⟩,
   ⟨.func, 1, 8, [.nilFunc]⟩,
   ⟨.func, 1, 8, [.nilFunc]⟩,
   ⟨(.int .u64), 1, 8, [(.int .u64 0)]⟩,
   ⟨.func, 1, 8, [.nilFunc]⟩,
   ⟨.func, 1, 8, [.nilFunc]⟩,
   ⟨.func, 1, 8, [.nilFunc]⟩,
   ⟨.other, 1, 0, [(.tuple #[(.agg #[(.bool false), (.slice none 0 0), (.bool false), (.slice none 0 0)]), (.agg #[(.bool false), (.slice none 0 0), (.bool false), (.slice none 0 0)])])]⟩,
   ⟨.func, 1, 8, [.nilFunc]⟩,
   ⟨.func, 1, 8, [.nilFunc]⟩,
   ⟨.func, 1, 8, [.nilFunc]⟩,
   ⟨.func, 1, 8, [.nilFunc]⟩,
   ⟨.func, 1, 8, [.nilFunc]⟩,
   ⟨.func, 1, 8, [.nilFunc]⟩,
   ⟨.func, 1, 8, [.nilFunc]⟩,
   ⟨.other, 1, 0, [(.tuple #[(.int .i64 0), (.int .i64 0)])]⟩,
   ⟨.func, 1, 8, [.nilFunc]⟩,
   ⟨.func, 1, 8, [.nilFunc]⟩,
   ⟨.func, 1, 8, [.nilFunc]⟩,
   ⟨.func, 1, 8, [.nilFunc]⟩,
   ⟨.func, 1, 8, [.nilFunc]⟩,
   ⟨.func, 1, 8, [.nilFunc]⟩,
   ⟨.func, 1, 8, [.nilFunc]⟩,
   ⟨.func, 1, 8, [.nilFunc]⟩,
   ⟨.func, 1, 8, [.nilFunc]⟩,
   ⟨.func, 1, 8, [.nilFunc]⟩,
   ⟨.func, 1, 8, [.nilFunc]⟩,
   ⟨.func, 1, 8, [.nilFunc]⟩,
   ⟨.func, 1, 8, [.nilFunc]⟩,
   ⟨(.map 3 3), 1, 8, [(.map none)]⟩,
   ⟨.func, 1, 8, [.nilFunc]⟩,
   ⟨.func, 1, 8, [.nilFunc]⟩,
   ⟨.func, 1, 8, [.nilFunc]⟩,
   ⟨.func, 1, 8, [.nilFunc]⟩,
   ⟨.func, 1, 8, [.nilFunc]⟩,
   ⟨.func, 1, 8, [.nilFunc]⟩,
   ⟨.func, 1, 8, [.nilFunc]⟩,
   ⟨.other, 1, 0, [(.tuple #[(.agg #[(.bool false), (.slice none 0 0)]), (.bool false)])]⟩,
   ⟨.func, 1, 8, [.nilFunc]⟩,
   ⟨.func, 1, 8, [.nilFunc]⟩,
   ⟨.func, 1, 8, [.nilFunc]⟩,
   ⟨.func, 1, 8, [.nilFunc]⟩,
   ⟨.func, 1, 8, [.nilFunc]⟩,
   ⟨.func, 1, 8, [.nilFunc]⟩,
   ⟨.func, 1, 8, [.nilFunc]⟩,
   ⟨.func, 1, 8, [.nilFunc]⟩,
   ⟨.func, 1, 8, [.nilFunc]⟩,
   ⟨(.slice 5), 1, 24, [(.slice none 0 0)]⟩,
   ⟨.func, 1, 8, [.nilFunc]⟩,
   ⟨.other, 1, 0, [(.tuple #[(.slice none 0 0), (.slice none 0 0)])]⟩,
   ⟨.func, 1, 8, [.nilFunc]⟩,
   ⟨.func, 1, 8, [.nilFunc]⟩,
   ⟨.func, 1, 8, [.nilFunc]⟩,
   ⟨.func, 1, 8, [.nilFunc]⟩,
   ⟨.other, 1, 0, [(.tuple #[(.agg #[(.bool false), (.slice none 0 0)]), (.agg #[(.bool false), (.slice none 0 0)])])]⟩,
   ⟨.func, 1, 8, [.nilFunc]⟩,
   ⟨.func, 1, 8, [.nilFunc]⟩,
   ⟨.func, 1, 8, [.nilFunc]⟩,
   ⟨.func, 1, 8, [.nilFunc]⟩,
   ⟨.other, 1, 0, [(.tuple #[(.int .u64 0), (.int .u64 0)])]⟩,
   ⟨.func, 1, 8, [.nilFunc]⟩,
   ⟨.func, 1, 8, [.nilFunc]⟩,
   ⟨.func, 1, 8, [.nilFunc]⟩,
   ⟨.func, 1, 8, [.nilFunc]⟩,
   ⟨.func, 1, 8, [.nilFunc]⟩,
   ⟨.func, 1, 8, [.nilFunc]⟩,
   ⟨.func, 1, 8, [.nilFunc]⟩,
   ⟨(.int .u64), 1, 8, [(.int .u64 0)]⟩,
   ⟨.iface, 1, 16, [.nilIface]⟩,
   ⟨.iface, 1, 16, [.nilIface]⟩,
   ⟨(.ptr 173), 1, 8, [(.pointer none)]⟩,
   ⟨.func, 1, 8, [.nilFunc]⟩,
   ⟨(.struct [(0, 17), (1, 17), (2, 17), (3, 9)]), 4, 40, [(.pointer none), (.pointer none), (.pointer none), (.string ByteArray.empty)]⟩,
   ⟨(.struct [(0, 17), (1, 17), (2, 17), (3, 9)]), 4, 40, [(.pointer none), (.pointer none), (.pointer none), (.string ByteArray.empty)]⟩,
   ⟨(.arr 0 16), 0, 0, []⟩,
   ⟨(.struct [(0, 159)]), 0, 0, []⟩,
   ⟨(.struct [(0, 159)]), 0, 0, []⟩,
   ⟨.func, 1, 8, [.nilFunc]⟩,
   ⟨(.int .u32), 1, 4, [(.int .u32 0)]⟩,
   ⟨(.int .u8), 1, 1, [(.int .u8 0)]⟩,
   ⟨(.int .u8), 1, 1, [(.int .u8 0)]⟩,
   ⟨.func, 1, 8, [.nilFunc]⟩,
   ⟨(.ptr 5), 1, 8, [(.pointer none)]⟩,
   ⟨(.int .i32), 1, 4, [(.int .i32 0)]⟩,
   ⟨(.int .i32), 1, 4, [(.int .i32 0)]⟩,
   ⟨(.struct [(0, 12), (1, 12), (2, 163), (3, 164), (4, 5), (5, 5), (6, 165), (7, 166), (8, 167), (9, 168), (10, 169)]), 11, 48, [(.int .u64 0), (.int .u64 0), (.int .u32 0), (.int .u8 0), (.int .u8 0), (.int .u8 0), (.int .u8 0), .nilFunc, (.pointer none), (.int .i32 0), (.int .i32 0)]⟩,
   ⟨(.struct [(0, 12), (1, 12), (2, 163), (3, 164), (4, 5), (5, 5), (6, 165), (7, 166), (8, 167), (9, 168), (10, 169)]), 11, 48, [(.int .u64 0), (.int .u64 0), (.int .u32 0), (.int .u8 0), (.int .u8 0), (.int .u8 0), (.int .u8 0), .nilFunc, (.pointer none), (.int .i32 0), (.int .i32 0)]⟩,
   ⟨(.struct [(0, 9)]), 1, 16, [(.string ByteArray.empty)]⟩,
   ⟨(.struct [(0, 9)]), 1, 16, [(.string ByteArray.empty)]⟩,
   ⟨.other, 1, 8, [(.pointer none)]⟩]
theorem ttOk : TOk Try.prog tt := by unfold TOk; kernel_rfl
theorem mixed : Try.prog.follows .mixedOrders = true := by kernel_rfl
end Go.Proofs.Ytpgagepleffjlaa
/-
  What memory reads as: blocks, rows of words. Helpers; no statement of the program is proved here.
-/
set_option linter.unusedSimpArgs false
set_option linter.unusedVariables false
namespace Go.Tw
open Go Go.RowKit

/-! ### blocks -/
def Blk (w : World) (b t : Nat) (cs : List Value) : Prop := w.heap[b]? = some (.cells cs.toArray t)
theorem Blk.lt {w : World} {b t : Nat} {cs : List Value} (h : Blk w b t cs) : b < w.heap.size := by
  rcases Nat.lt_or_ge b w.heap.size with h' | h'
  · exact h'
  · unfold Blk at h; rw [Array.getElem?_eq_none h'] at h; cases h
theorem Blk.cell {w : World} {b t i : Nat} {cs : List Value} {v : Value} (h : Blk w b t cs) (hv : cs[i]? = some v) : w.cell? ⟨b, i, none⟩ = some v := by
  unfold Blk at h
  simp [World.cell?, h, hv]
theorem Blk.free {w : World} {b t : Nat} {cs : List Value} (h : Blk w b t cs) (i : Nat) : w.frozen? ⟨b, i, none⟩ = false := by
  unfold Blk at h
  simp [World.frozen?, h]
theorem Blk.ext {w w' : World} {b t : Nat} {cs : List Value} (h : Blk w b t cs) (k : Ext w w') : Blk w' b t cs := by
  have := h.lt
  unfold Blk at *
  rw [k.block b this]; exact h
theorem Blk.grown {w w' : World} {b t : Nat} {cs : List Value} {row : Option Nat} (h : Blk w b t cs) (k : w.grownBy w' row) (hb : some b ≠ row) : Blk w' b t cs := by
  have := h.lt
  unfold Blk at *
  rw [k.block b this hb]; exact h
theorem New.toBlk {w w' : World} {b t : Nat} {cs : List Value} (h : New w w' b t cs) : Blk w' b t cs := h.blk
theorem New.ge {w0 w w' : World} {b t : Nat} {cs : List Value} (h : New w w' b t cs) (k : Ext w0 w) : w0.heap.size ≤ b := by rw [h.isNew]; exact k.size
theorem New.extFrom {w0 w w' : World} {b t : Nat} {cs : List Value} (h : New w w' b t cs) (k : Ext w0 w) : Ext w0 w' := Ext.trans' k h.ext
theorem Ext.grown {w0 w w' : World} {row : Option Nat} (h : Ext w0 w) (k : w.grownBy w' row) (hr : ∀ b, row = some b → w0.heap.size ≤ b) : Ext w0 w' := Below.grown h k h.size hr

theorem loadScalar {T : TT} {w : World} {t : Nat} {p : Addr} {v : Value} (hk : (known (tyAt T t) && !(tyAt T t).agg) = true) (h : w.cell? p = some v) : LoadAt T w t p v := by
  simp only [Bool.and_eq_true, Bool.not_eq_true'] at hk
  refine ⟨hk.1, ?_⟩
  rw [hk.2]; exact h
theorem loadAgg {T : TT} {w : World} {t : Nat} {p : Addr} {cs : List Value} (hk : (known (tyAt T t) && (tyAt T t).agg && Nat.beq cs.length (tyAt T t).size) = true) (h : ∀ (j : Nat) u, cs[j]? = some u → w.cell? (p.add j) = some u) : LoadAt T w t p (.agg cs.toArray) := by
  simp only [Bool.and_eq_true] at hk
  refine ⟨hk.1.1, ?_⟩
  rw [hk.1.2]
  exact ⟨cs, rfl, (beq_iff _ _).1 hk.2, h⟩

theorem Stored.grown {w w' : World} {b i : Nat} {vs : List Value} (h : Stored w w' ⟨b, i, none⟩ vs) : w.grownBy w' (some b) ∧ w'.heap.size = w.heap.size := by
  unfold Stored at h
  subst h
  have : ∀ (vs : List Value) (k : Nat) (w : World), w.grownBy (setFrom w ⟨b, i, none⟩ k vs) (some b) ∧ (setFrom w ⟨b, i, none⟩ k vs).heap.size = w.heap.size := by
    intro vs
    induction vs with
    | nil => intro k w; exact ⟨⟨rfl, rfl, rfl, Nat.le_refl _, fun _ _ _ => rfl⟩, rfl⟩
    | cons v vs ih =>
      intro k w
      obtain ⟨h1, h2⟩ := ih (k + 1) (w.setCell (Addr.add ⟨b, i, none⟩ k) v)
      refine ⟨⟨h1.os, h1.tape, h1.output, by simp only [setFrom]; rw [h2]; simp, ?_⟩, by simp only [setFrom]; rw [h2]; simp⟩
      intro j hj hne
      simp only [setFrom]
      rw [h1.block j (by simpa using hj) hne]
      have hjb : j ≠ b := fun e => hne (by rw [e])
      rw [Addr.add_lit]
      exact Below.heap_setCell _ _ _ _ hjb
  exact this vs 0 w
theorem Stored.blk {w w' : World} {b i t : Nat} {vs cs : List Value} (h : Stored w w' ⟨b, i, none⟩ vs) (hb : Blk w b t cs) : Blk w' b t (splice cs i vs) := by
  unfold Stored at h
  subst h
  have : ∀ (vs : List Value) (k : Nat) (w : World) (cs : List Value), Blk w b t cs → Blk (setFrom w ⟨b, i, none⟩ k vs) b t (splice cs (i + k) vs) := by
    intro vs
    induction vs with
    | nil => intro k w cs hb; rw [splice_none]; exact hb
    | cons v vs ih =>
      intro k w cs hb
      simp only [setFrom]
      rw [← splice_cons, show i + k + 1 = i + (k + 1) from by omega]
      refine ih (k + 1) _ _ ?_
      unfold Blk at hb ⊢
      rw [Addr.add_lit]
      simp only [World.setCell, Array.getElem?_modify, if_true, hb, Option.map_some]
      simp
  simpa using this vs 0 w cs hb
theorem storeOk {T : TT} {w : World} {b i t t' : Nat} {cs : List Value} {v : Value} {p : Addr} (hp : p = ⟨b, i, none⟩) (hk : (known (tyAt T t) && Nat.beq v.cells.toList.length (tyAt T t).size && v.cells.toList.all Value.oneCell') = true) (hb : Blk w b t' cs) (hi : i + (tyAt T t).size ≤ cs.length) : StoreOk T w t p v := by
  subst hp
  refine ⟨hk, fun j hj => ?_⟩
  rw [Addr.add_lit]
  exact ⟨⟨_, hb.cell (List.getElem?_eq_getElem (by omega))⟩, hb.free _⟩

/-! ### words -/
def Wd (L : List Nat) : Prop := ∀ x ∈ L, x < 18446744073709551616
def wv (L : List Nat) : List Value := L.map fun (x : Nat) => Value.int .u64 (x : Int)
/-- A slice of words: at a, of n words, L. -/
structure Words (w : World) (a : Option Addr) (n : Nat) (L : List Nat) : Prop where
  len : L.length = n
  base : 0 < n → okB a
  get : ∀ (j : Nat) (x : Nat), L[j]? = some x → w.cell? (addrAt a j) = some (.int .u64 (x : Int))
  lt : Wd L
/-- A value that is a slice of the words L. -/
def Sl (w : World) (v : Value) (L : List Nat) : Prop := ∃ a n c, v = .slice a n c ∧ Words w a n L ∧ n ≤ c ∧ c ≤ 9223372036854775807

theorem Words.ext {w w' : World} {a : Option Addr} {n : Nat} {L : List Nat} (h : Words w a n L) (k : Ext w w') : Words w' a n L :=
  ⟨h.len, h.base, fun j x hj => k.cellEq (h.get j x hj), h.lt⟩
theorem Sl.ext {w w' : World} {v : Value} {L : List Nat} (h : Sl w v L) (k : Ext w w') : Sl w' v L := by
  obtain ⟨a, n, c, he, hw, h1, h2⟩ := h; exact ⟨a, n, c, he, hw.ext k, h1, h2⟩
theorem subA_zero (a : Option Addr) (c sz : Nat) : subA a c 0 sz = a := by
  unfold subA
  split
  · rfl
  · cases a <;> simp [Addr.add]
theorem Words.take {w : World} {a : Option Addr} {n : Nat} {L : List Nat} (h : Words w a n L) {k : Nat} (hk : k ≤ n) : Words w a k (L.take k) := by
  have hl := h.len
  refine ⟨by simp; omega, fun h0 => h.base (by omega), fun j x hj => ?_, fun x hx => h.lt x (List.mem_of_mem_take hx)⟩
  rw [List.getElem?_take] at hj
  split at hj
  · exact h.get j x hj
  · cases hj
theorem Words.load {T : TT} {w : World} {a : Option Addr} {n : Nat} {L : List Nat} (h : Words w a n L) {t j sz x : Nat} (hk : (known (tyAt T t) && !(tyAt T t).agg) = true) (hs : sz = 1) (hx : L[j]? = some x) :
    LoadAt T w t (addrAt a (j * sz)) (.int .u64 (x : Int)) := by
  subst hs
  rw [Nat.mul_one]
  exact loadScalar hk (h.get j x hx)
theorem Words.getD {w : World} {a : Option Addr} {n : Nat} {L : List Nat} (h : Words w a n L) {j : Nat} (hj : j < n) : L[j]? = some (L.getD j 0) := by
  have := h.len
  rw [List.getD_eq_getElem?_getD, List.getElem?_eq_getElem (by omega)]; rfl
theorem Wd.getD {L : List Nat} (h : Wd L) (j : Nat) : L.getD j 0 < 18446744073709551616 := by
  rw [List.getD_eq_getElem?_getD]
  cases hj : L[j]? with
  | none => simp
  | some x => exact h x (List.mem_of_getElem? hj)
theorem Words.nil (w : World) : Words w none 0 [] := ⟨rfl, fun h => by omega, fun j x h => by simp at h, fun x h => by simp at h⟩
theorem Sl.nil (w : World) : Sl w (.slice none 0 0) [] := ⟨none, 0, 0, rfl, Words.nil w, Nat.le_refl _, by omega⟩
theorem Words.blk {w : World} {b t n : Nat} {A : List Nat} (h : Blk w b t (wv A)) (hn : n ≤ A.length) (hA : Wd A) : Words w (some ⟨b, 0, none⟩) n (A.take n) := by
  refine ⟨by simp; omega, fun _ => ⟨_, rfl, rfl⟩, fun j x hj => ?_, fun x hx => hA x (List.mem_of_mem_take hx)⟩
  rw [List.getElem?_take] at hj
  split at hj
  · have := h.cell (i := 0 + j) (v := .int .u64 (x : Int)) (by simp [wv, hj])
    exact this
  · cases hj
theorem Words.blkAll {w : World} {b t : Nat} {A : List Nat} (h : Blk w b t (wv A)) (hA : Wd A) : Words w (some ⟨b, 0, none⟩) A.length A := by
  have := Words.blk h (Nat.le_refl _) hA
  simpa using this

theorem wv_length (L : List Nat) : (wv L).length = L.length := by simp [wv]
theorem wv_append (L M : List Nat) : wv (L ++ M) = wv L ++ wv M := by simp [wv]
theorem wv_set (L : List Nat) (i x : Nat) : splice (wv L) i [Value.int .u64 (x : Int)] = wv (L.set i x) := by
  have : ∀ (cs : List Value) (i : Nat) (v : Value), splice cs i [v] = cs.set i v := by
    intro cs
    induction cs with
    | nil => intro i v; simp [splice_nil]
    | cons c cs ih => intro i v; cases i <;> simp [splice, over, ih]
  rw [this, wv, wv, List.map_set]
theorem wv_one (L : List Nat) : ∀ v ∈ wv L, v.oneCell' = true := by
  intro v hv
  obtain ⟨x, _, rfl⟩ := List.mem_map.1 hv
  rfl
theorem rep_zero (n : Nat) : rep n [Value.int .u64 0] = wv (List.replicate n 0) := by
  induction n with
  | zero => rfl
  | succ n ih => simp [rep, ih, wv, List.replicate_succ]
theorem Words.news {w : World} {a : Option Addr} {n : Nat} {L : List Nat} (h : Words w a n L) : ∀ (j : Nat) v, (wv L)[j]? = some v → w.cell? (addrAt a j) = some v := by
  intro j v hj
  simp only [wv, List.getElem?_map, Option.map_eq_some_iff] at hj
  obtain ⟨x, hx, rfl⟩ := hj
  exact h.get j x hx
theorem owns_sl {w : World} {base e n : Nat} {v : Value} {L : List Nat} (h : w.ownsRow base e 1 v n (wv L)) (hL : Wd L) : Sl w v L := by
  obtain ⟨hl, h⟩ := h
  rw [wv_length, Nat.mul_one] at hl
  rcases h with ⟨rfl, rfl⟩ | ⟨g, cap, cur, rfl, _, hb, hnc, hcm, hcs, htk⟩
  · have : L = [] := List.eq_nil_of_length_eq_zero hl
    subst this; exact Sl.nil w
  · refine ⟨some ⟨g, 0, none⟩, n, cap, rfl, ⟨hl, fun _ => ⟨_, rfl, rfl⟩, fun j x hj => ?_, hL⟩, hnc, by unfold maxLen at hcm; exact hcm⟩
    have h1 : (wv L)[j]? = some (.int .u64 (x : Int)) := by simp [wv, hj]
    rw [← htk, List.getElem?_take] at h1
    split at h1
    · have h2 : cur[0 + j]? = some (.int .u64 (x : Int)) := by simpa using h1
      show w.cell? ⟨g, 0 + j, none⟩ = _
      simp only [World.cell?, hb]
      simpa using h2
    · cases h1
theorem owns_new {w w' : World} {base b t : Nat} {cs : List Value} (h : New w w' b t cs) (hb : base ≤ b) (n sz : Nat) (hs : cs.length = n * sz) (hn : n ≤ 9223372036854775807) : w'.ownsRow base t sz (.slice (some ⟨b, 0, none⟩) n n) n cs :=
  ⟨hs, .inr ⟨b, n, cs.toArray, rfl, hb, h.blk, Nat.le_refl _, by unfold maxLen; exact hn, by simpa using hs, by rw [← hs]; simp⟩⟩
theorem owns_take {w : World} {base b t : Nat} {cs : List Value} (h : Blk w b t cs) (hb : base ≤ b) (n c sz : Nat) (hs : cs.length = c * sz) (hn : n ≤ c) (hc : c ≤ 9223372036854775807) : w.ownsRow base t sz (.slice (some ⟨b, 0, none⟩) n c) n (cs.take (n * sz)) :=
  ⟨by rw [List.length_take, hs, Nat.min_eq_left]; exact Nat.mul_le_mul_right _ hn, .inr ⟨b, c, cs.toArray, rfl, hb, h, hn, by unfold maxLen; exact hc, by simpa using hs, rfl⟩⟩
end Go.Tw
/-
  Plain numbers: rows of digits of 64 bits and what they say. No program in sight; helpers.
-/
set_option linter.unusedSimpArgs false
set_option linter.unusedVariables false
namespace Go.Tw

/-- What digits say, the least first. -/
def val (L : List Nat) : Nat :=
  match L with
  | [] => 0
  | x :: L => x + 18446744073709551616 * val L
def trimN (L : List Nat) : Nat → Nat
  | 0 => 0
  | k + 1 => if L.getD k 0 = 0 then trimN L k else k + 1
def WdL (L : List Nat) : Prop := ∀ x ∈ L, x < 18446744073709551616
/-- The digits of a number. -/
def digF (fuel n : Nat) : List Nat :=
  match fuel with
  | 0 => []
  | f + 1 => if n = 0 then [] else n % 18446744073709551616 :: digF f (n / 18446744073709551616)
def dig (n : Nat) : List Nat := digF n n

theorem digF_eq : ∀ (f g n : Nat), n ≤ f → n ≤ g → digF f n = digF g n
  | 0, g, n, h, _ => by
    obtain rfl : n = 0 := by omega
    cases g <;> rfl
  | f + 1, 0, n, _, h => by
    obtain rfl : n = 0 := by omega
    rfl
  | f + 1, g + 1, n, h1, h2 => by
    simp only [digF]
    split
    · rfl
    · rw [digF_eq f g (n / 18446744073709551616) (by omega) (by omega)]
theorem dig_zero : dig 0 = [] := rfl
theorem dig_pos {n : Nat} (h : n ≠ 0) : dig n = n % 18446744073709551616 :: dig (n / 18446744073709551616) := by
  obtain ⟨m, rfl⟩ : ∃ m, n = m + 1 := ⟨n - 1, by omega⟩
  show digF (m + 1) (m + 1) = _
  simp only [digF, if_neg h]
  rw [digF_eq m _ _ (by omega) (Nat.le_refl _)]
  rfl
theorem dig_ind (P : Nat → Prop) (h0 : P 0) (h1 : ∀ n, n ≠ 0 → P (n / 18446744073709551616) → P n) : ∀ n, P n := by
  intro n
  induction n using Nat.strongRecOn with
  | _ n ih =>
    by_cases h : n = 0
    · subst h; exact h0
    · exact h1 n h (ih _ (by omega))
theorem val_dig (n : Nat) : val (dig n) = n := by
  refine dig_ind (fun n => val (dig n) = n) rfl ?_ n
  intro n h ih
  rw [dig_pos h]
  simp only [val, ih]
  omega
theorem dig_wd (n : Nat) : WdL (dig n) := by
  refine dig_ind (fun n => WdL (dig n)) (by intro x hx; simp [dig_zero] at hx) ?_ n
  intro n h ih
  rw [dig_pos h]
  intro x hx
  rcases List.mem_cons.1 hx with rfl | hx
  · omega
  · exact ih x hx
theorem dig_len_le (k n : Nat) (h : n < 18446744073709551616 ^ k) : (dig n).length ≤ k := by
  induction k generalizing n with
  | zero => simp at h; subst h; simp [dig_zero]
  | succ k ih =>
    by_cases h0 : n = 0
    · subst h0; simp [dig_zero]
    · rw [dig_pos h0, List.length_cons]
      have : n / 18446744073709551616 < 18446744073709551616 ^ k := by
        rw [Nat.pow_succ] at h
        rw [Nat.div_lt_iff_lt_mul (by omega)]; exact h
      have := ih _ this
      omega
theorem val_lt (L : List Nat) (h : WdL L) : val L < 18446744073709551616 ^ L.length := by
  induction L with
  | nil => simp [val]
  | cons x L ih =>
    have h1 := h x (by simp)
    have h2 := ih (fun y hy => h y (by simp [hy]))
    simp only [val, List.length_cons, Nat.pow_succ]
    generalize 18446744073709551616 ^ L.length = p at *
    have : 18446744073709551616 * (val L + 1) ≤ 18446744073709551616 * p := Nat.mul_le_mul_left _ h2
    omega
theorem dig_lt (n : Nat) : n < 18446744073709551616 ^ (dig n).length := by
  have := val_lt (dig n) (dig_wd n)
  rw [val_dig] at this; exact this
theorem dig_le_pow (n : Nat) (h : n ≠ 0) : 18446744073709551616 ^ ((dig n).length - 1) ≤ n := by
  refine dig_ind (fun n => n ≠ 0 → 18446744073709551616 ^ ((dig n).length - 1) ≤ n) (by simp) ?_ n h
  intro n h ih _
  rw [dig_pos h]
  simp only [List.length_cons, Nat.add_sub_cancel]
  by_cases h0 : n / 18446744073709551616 = 0
  · rw [h0, dig_zero]; simp; omega
  · have := ih h0
    obtain ⟨k, hk⟩ : ∃ k, (dig (n / 18446744073709551616)).length = k + 1 := by
      refine ⟨(dig (n / 18446744073709551616)).length - 1, ?_⟩
      rw [dig_pos h0]; simp
    rw [hk] at this ⊢
    simp only [Nat.add_sub_cancel] at this
    rw [Nat.pow_succ]
    generalize 18446744073709551616 ^ k = p at *
    omega
theorem val_append (L M : List Nat) : val (L ++ M) = val L + 18446744073709551616 ^ L.length * val M := by
  induction L with
  | nil => simp [val]
  | cons x L ih =>
    simp only [List.cons_append, val, ih, List.length_cons, Nat.pow_succ]
    rw [Nat.mul_add, Nat.mul_comm (18446744073709551616 ^ L.length) 18446744073709551616, Nat.mul_assoc]
    omega
theorem val_replicate (n : Nat) : val (List.replicate n 0) = 0 := by
  induction n with
  | zero => rfl
  | succ n ih => simp [List.replicate_succ, val, ih]
theorem trimN_le (L : List Nat) (n : Nat) : trimN L n ≤ n := by
  induction n with
  | zero => simp [trimN]
  | succ n ih => simp only [trimN]; split <;> omega
theorem trimN_top (L : List Nat) (n : Nat) (h : trimN L n ≠ 0) : L.getD (trimN L n - 1) 0 ≠ 0 := by
  induction n with
  | zero => simp [trimN] at h
  | succ n ih =>
    simp only [trimN] at h ⊢
    split
    · rename_i h0; rw [if_pos h0] at h; exact ih h
    · rename_i h0; exact h0
theorem trimN_above (L : List Nat) (n k : Nat) (h1 : trimN L n ≤ k) (h2 : k < n) : L.getD k 0 = 0 := by
  induction n with
  | zero => omega
  | succ n ih =>
    simp only [trimN] at h1
    split at h1
    · rename_i h0
      by_cases hk : k = n
      · subst hk; exact h0
      · exact ih h1 (by omega)
    · omega
theorem val_drop_zero : ∀ (L : List Nat) (k : Nat), (∀ j, k ≤ j → j < L.length → L.getD j 0 = 0) → val (L.take k) = val L
  | [], k, _ => by simp
  | x :: L, 0, h => by
    have hx := h 0 (by omega) (by simp)
    simp at hx
    subst hx
    have := val_drop_zero L 0 (fun j _ hj => by have := h (j + 1) (by omega) (by simp; omega); simpa using this)
    simp [val] at this ⊢
    omega
  | x :: L, k + 1, h => by
    have := val_drop_zero L k (fun j h1 hj => by have := h (j + 1) (by omega) (by simp; omega); simpa using this)
    simp [val, this]
theorem val_trim (L : List Nat) : val (L.take (trimN L L.length)) = val L :=
  val_drop_zero L _ fun j h1 h2 => trimN_above L L.length j h1 h2
/-- Digits without a nought on top are the digits. -/
theorem dig_val : ∀ (L : List Nat), WdL L → (L = [] ∨ L.getD (L.length - 1) 0 ≠ 0) → dig (val L) = L
  | [], _, _ => rfl
  | x :: L, h, ht => by
    have hx := h x (by simp)
    have hL : WdL L := fun y hy => h y (by simp [hy])
    have ht : (x :: L).getD L.length 0 ≠ 0 := by
      rcases ht with h | h
      · cases h
      · simpa using h
    have hv : val (x :: L) ≠ 0 := by
      intro hz
      simp only [val] at hz
      cases L with
      | nil => simp [val] at hz; subst hz; simp at ht
      | cons y L =>
        have := dig_val (y :: L) hL (.inr (by simpa using ht))
        rw [show val (y :: L) = 0 by omega] at this
        simp [dig_zero] at this
    rw [dig_pos hv]
    have e1 : val (x :: L) % 18446744073709551616 = x := by simp only [val]; omega
    have e2 : val (x :: L) / 18446744073709551616 = val L := by simp only [val]; omega
    rw [e1, e2]
    cases L with
    | nil => rfl
    | cons y L => rw [dig_val (y :: L) hL (.inr (by simpa using ht))]
theorem trim_dig (L : List Nat) (h : WdL L) : L.take (trimN L L.length) = dig (val L) := by
  rw [← val_trim L]
  symm
  apply dig_val
  · exact fun x hx => h x (List.mem_of_mem_take hx)
  · by_cases h0 : trimN L L.length = 0
    · left; rw [h0]; simp
    · right
      have hle := trimN_le L L.length
      have := trimN_top L L.length h0
      rw [List.length_take, Nat.min_eq_left hle]
      simpa [List.getD, List.getElem?_take, show trimN L L.length - 1 < trimN L L.length by omega] using this
theorem trimN_dig (L : List Nat) (h : WdL L) : trimN L L.length = (dig (val L)).length := by
  rw [← trim_dig L h, List.length_take, Nat.min_eq_left (trimN_le L L.length)]
theorem dig_top {n : Nat} (h : n ≠ 0) : (dig n).getD ((dig n).length - 1) 0 ≠ 0 := by
  refine dig_ind (fun n => n ≠ 0 → (dig n).getD ((dig n).length - 1) 0 ≠ 0) (by simp) ?_ n h
  intro n h ih _
  rw [dig_pos h]
  by_cases h0 : n / 18446744073709551616 = 0
  · rw [h0, dig_zero]; simp; omega
  · have := ih h0
    have hne : (dig (n / 18446744073709551616)).length ≠ 0 := by rw [dig_pos h0]; simp
    rw [List.length_cons, Nat.add_sub_cancel]
    obtain ⟨k, hk⟩ : ∃ k, (dig (n / 18446744073709551616)).length = k + 1 := ⟨_, (Nat.succ_pred_eq_of_ne_zero hne).symm⟩
    rw [hk] at this ⊢
    simpa using this
theorem dig_len_mono {m n : Nat} (h : m ≤ n) : (dig m).length ≤ (dig n).length := dig_len_le _ _ (Nat.lt_of_le_of_lt h (dig_lt n))
theorem dig_inj {m n : Nat} (h : dig m = dig n) : m = n := by rw [← val_dig m, h, val_dig]
theorem dig_nil {n : Nat} : dig n = [] ↔ n = 0 := ⟨fun h => dig_inj (h.trans dig_zero.symm), fun h => by subst h; rfl⟩
/-- The digits on top decide. -/
theorem val_take_succ (L : List Nat) (k : Nat) (h : k < L.length) : val (L.take (k + 1)) = val (L.take k) + 18446744073709551616 ^ k * L.getD k 0 := by
  rw [List.take_succ_eq_append_getElem h, val_append]
  simp [val, Nat.min_eq_left (Nat.le_of_lt h), h]
theorem val_take_lt (L : List Nat) (k : Nat) (h : WdL L) : val (L.take k) < 18446744073709551616 ^ k := by
  have h1 := val_lt (L.take k) (fun x hx => h x (List.mem_of_mem_take hx))
  exact Nat.lt_of_lt_of_le h1 (Nat.pow_le_pow_right (by omega) (by simp; omega))
theorem val_split (L : List Nat) (k : Nat) (h : k ≤ L.length) : val L = val (L.take k) + 18446744073709551616 ^ k * val (L.drop k) := by
  have := val_append (L.take k) (L.drop k)
  rw [List.take_append_drop, List.length_take, Nat.min_eq_left h] at this
  exact this
theorem drop_eq_of {L M : List Nat} {k : Nat} (hl : L.length = M.length) (h : ∀ j, k ≤ j → j < L.length → L.getD j 0 = M.getD j 0) : L.drop k = M.drop k := by
  apply List.ext_getElem?
  intro i
  rw [List.getElem?_drop, List.getElem?_drop]
  by_cases hi : k + i < L.length
  · have := h (k + i) (by omega) hi
    rw [List.getD_eq_getElem?_getD, List.getD_eq_getElem?_getD, List.getElem?_eq_getElem hi, List.getElem?_eq_getElem (by omega)] at this
    rw [List.getElem?_eq_getElem hi, List.getElem?_eq_getElem (by omega)]
    simpa using this
  · rw [List.getElem?_eq_none (by omega), List.getElem?_eq_none (by omega)]
theorem val_lt_of_top {L M : List Nat} {k : Nat} (hL : WdL L) (hl : L.length = M.length) (hk : k < L.length) (h : ∀ j, k < j → j < L.length → L.getD j 0 = M.getD j 0) (hlt : L.getD k 0 < M.getD k 0) : val L < val M := by
  have h1 := val_split L (k + 1) (by omega)
  have h2 := val_split M (k + 1) (by omega)
  rw [drop_eq_of hl (k := k + 1) (fun j h1 h2 => h j (by omega) h2)] at h1
  rw [val_take_succ L k hk] at h1
  rw [val_take_succ M k (by omega)] at h2
  have h3 := val_take_lt L k hL
  generalize 18446744073709551616 ^ (k + 1) * val (M.drop (k + 1)) = T at *
  generalize 18446744073709551616 ^ k = p at *
  have h4 : p * (L.getD k 0 + 1) ≤ p * M.getD k 0 := Nat.mul_le_mul_left _ hlt
  rw [Nat.mul_add] at h4
  omega
theorem lt_of_dig_len {m n : Nat} (h : (dig m).length < (dig n).length) : m < n := by
  rcases Nat.lt_or_ge m n with h' | h'
  · exact h'
  · have := dig_len_mono h'; omega
theorem val_take_all (L : List Nat) (k : Nat) (h : L.length ≤ k) : val (L.take k) = val L := by rw [List.take_of_length_le h]
/-- One digit more, nought behind the end. -/
theorem val_take_next (L : List Nat) (k : Nat) : val (L.take (k + 1)) = val (L.take k) + 18446744073709551616 ^ k * L.getD k 0 := by
  by_cases h : k < L.length
  · exact val_take_succ L k h
  · rw [val_take_all L _ (by omega), val_take_all L _ (by omega), List.getD_eq_getElem?_getD, List.getElem?_eq_none (by omega)]; simp
theorem take_set (A : List Nat) (i x : Nat) : (A.set i x).take i = A.take i := by
  apply List.ext_getElem?
  intro j
  rw [List.getElem?_take, List.getElem?_take]
  split
  · rw [List.getElem?_set_ne (by omega)]
  · rfl
theorem val_set_next (A : List Nat) (i x : Nat) (h : i < A.length) : val ((A.set i x).take (i + 1)) = val (A.take i) + 18446744073709551616 ^ i * x := by
  rw [val_take_succ _ i (by simpa using h), take_set]
  congr 2
  rw [List.getD_eq_getElem?_getD, List.getElem?_set_self h]; rfl
theorem wd_set {A : List Nat} (h : WdL A) {i x : Nat} (hx : x < 18446744073709551616) : WdL (A.set i x) := by
  intro y hy
  rcases List.mem_or_eq_of_mem_set hy with hy | rfl
  · exact h y hy
  · exact hx
theorem wd_replicate (n : Nat) : WdL (List.replicate n 0) := by
  intro x hx
  rw [List.mem_replicate] at hx
  rw [hx.2]; omega
theorem getD_lt_wd {L : List Nat} (h : WdL L) (j : Nat) : L.getD j 0 < 18446744073709551616 := by
  rw [List.getD_eq_getElem?_getD]
  cases hj : L[j]? with
  | none => simp
  | some x => exact h x (List.mem_of_getElem? hj)
/-- One step of a sum. -/
theorem add_step {p A L M cy x y : Nat} (h : A + p * cy = L + M) : A + p * ((x + y + cy) % 18446744073709551616) + p * 18446744073709551616 * ((x + y + cy) / 18446744073709551616) = (L + p * x) + (M + p * y) := by
  have h1 : p * (x + y + cy) = p * ((x + y + cy) % 18446744073709551616) + p * 18446744073709551616 * ((x + y + cy) / 18446744073709551616) := by
    rw [Nat.mul_assoc, ← Nat.mul_add]
    congr 1
    omega
  have h2 : p * (x + y + cy) = p * x + p * y + p * cy := by rw [Nat.mul_add, Nat.mul_add]
  omega
theorem lgetD_ne {A : List Nat} {i j x : Nat} (h : i ≠ j) : (A.set i x).getD j 0 = A.getD j 0 := by
  rw [List.getD_eq_getElem?_getD, List.getElem?_set_ne h, ← List.getD_eq_getElem?_getD]
theorem lgetD_same {A : List Nat} {i x : Nat} (h : i < A.length) : (A.set i x).getD i 0 = x := by
  rw [List.getD_eq_getElem?_getD, List.getElem?_set_self h]; rfl
/-- One step of a difference. -/
theorem sub_step {p A L M bw x y : Nat} (hx : x < 18446744073709551616) (hy : y < 18446744073709551616) (hb : bw ≤ 1) (h : A + M = L + p * bw) :
    A + p * ((x + 18446744073709551616 - y - bw) % 18446744073709551616) + (M + p * y) = (L + p * x) + p * 18446744073709551616 * (if x < y + bw then 1 else 0) := by
  have key : p * ((x + 18446744073709551616 - y - bw) % 18446744073709551616) + p * y + p * bw = p * x + p * 18446744073709551616 * (if x < y + bw then 1 else 0) := by
    rw [Nat.mul_assoc, ← Nat.mul_add, ← Nat.mul_add, ← Nat.mul_add]
    congr 1
    split <;> omega
  omega
/-- Which is greater. -/
def cmpN (x y : Nat) : Int := if x < y then -1 else if y < x then 1 else 0
end Go.Tw
/-
  Rows of words and the numbers that they say. Helpers; no statement of the program is proved here.
-/
set_option linter.unusedSimpArgs false
set_option linter.unusedVariables false
namespace Go.Tw
open Go Go.RowKit
theorem Words.trim {w : World} {a : Option Addr} {n : Nat} {L : List Nat} (h : Words w a n L) : Words w a (dig (val L)).length (dig (val L)) := by
  have hl : (dig (val L)).length ≤ n := by rw [← trimN_dig L h.lt, ← h.len]; exact trimN_le _ _
  have := h.take hl
  rw [← trimN_dig L h.lt, trim_dig L h.lt] at this
  rw [← trimN_dig L h.lt]; exact this
theorem Words.trim_le {w : World} {a : Option Addr} {n : Nat} {L : List Nat} (h : Words w a n L) : (dig (val L)).length ≤ n := by
  rw [← trimN_dig L h.lt, ← h.len]; exact trimN_le _ _
theorem addr_word (b i sz : Nat) (hs : sz = 1) : addrAt (some ⟨b, 0, none⟩) (i * sz) = ⟨b, i, none⟩ := by
  subst hs; simp [addrAt, blk, ofs]
theorem storeWord {T : TT} {w : World} {b i t t' sz : Nat} {A : List Nat} {x : Int} (hk : (known (tyAt T t) && Nat.beq 1 (tyAt T t).size) = true) (hs : sz = 1) (hb : Blk w b t' (wv A)) (hi : i < A.length) : StoreOk T w t (addrAt (some ⟨b, 0, none⟩) (i * sz)) (.int .u64 x) := by
  simp only [Bool.and_eq_true] at hk
  have h1 := (beq_iff _ _).1 hk.2
  refine storeOk (addr_word b i sz hs) ?_ hb (by rw [wv_length]; omega)
  rw [hk.1, ← h1]; rfl
theorem storedWord {w w' : World} {b i t sz x : Nat} {A : List Nat} (h : Stored w w' (addrAt (some ⟨b, 0, none⟩) (i * sz)) (Value.int .u64 (x : Int)).cells.toList) (hs : sz = 1) (hb : Blk w b t (wv A)) :
    Blk w' b t (wv (A.set i x)) ∧ w.grownBy w' (some b) ∧ w'.heap.size = w.heap.size := by
  rw [addr_word b i sz hs] at h
  have h1 := Stored.blk h hb
  have h2 := Stored.grown h
  refine ⟨?_, h2.1, h2.2⟩
  have : splice (wv A) i (Value.int .u64 (x : Int)).cells.toList = wv (A.set i x) := wv_set A i x
  rw [this] at h1; exact h1
/-! blocks of which the first words are known -/
theorem wvR_set (A : List Nat) (R : List Value) (i x : Nat) (hi : i < A.length) : splice (wv A ++ R) i [Value.int .u64 (x : Int)] = wv (A.set i x) ++ R := by
  have : ∀ (cs : List Value) (i : Nat) (v : Value), splice cs i [v] = cs.set i v := by
    intro cs
    induction cs with
    | nil => intro i v; simp [splice_nil]
    | cons c cs ih => intro i v; cases i <;> simp [splice, over, ih]
  rw [this, List.set_append_left _ _ (by rw [wv_length]; exact hi), wv, wv, List.map_set]
theorem storeWordR {T : TT} {w : World} {b i t t' sz : Nat} {A : List Nat} {R : List Value} {x : Int} (hk : (known (tyAt T t) && Nat.beq 1 (tyAt T t).size) = true) (hs : sz = 1) (hb : Blk w b t' (wv A ++ R)) (hi : i < A.length) : StoreOk T w t (addrAt (some ⟨b, 0, none⟩) (i * sz)) (.int .u64 x) := by
  simp only [Bool.and_eq_true] at hk
  have h1 := (beq_iff _ _).1 hk.2
  refine storeOk (addr_word b i sz hs) ?_ hb (by rw [List.length_append, wv_length]; omega)
  rw [hk.1, ← h1]; rfl
theorem storedWordR {w w' : World} {b i t sz x : Nat} {A : List Nat} {R : List Value} (h : Stored w w' (addrAt (some ⟨b, 0, none⟩) (i * sz)) (Value.int .u64 (x : Int)).cells.toList) (hs : sz = 1) (hb : Blk w b t (wv A ++ R)) (hi : i < A.length) :
    Blk w' b t (wv (A.set i x) ++ R) ∧ w.grownBy w' (some b) ∧ w'.heap.size = w.heap.size := by
  rw [addr_word b i sz hs] at h
  have h1 := Stored.blk h hb
  have h2 := Stored.grown h
  refine ⟨?_, h2.1, h2.2⟩
  have : splice (wv A ++ R) i (Value.int .u64 (x : Int)).cells.toList = wv (A.set i x) ++ R := wvR_set A R i x hi
  rw [this] at h1; exact h1
theorem Words.blkR {w : World} {b t : Nat} {A : List Nat} {R : List Value} (h : Blk w b t (wv A ++ R)) (hA : Wd A) : Words w (some ⟨b, 0, none⟩) A.length A := by
  refine ⟨rfl, fun _ => ⟨_, rfl, rfl⟩, fun j x hj => ?_, hA⟩
  have hlt : j < A.length := by
    rcases Nat.lt_or_ge j A.length with h' | h'
    · exact h'
    · rw [List.getElem?_eq_none h'] at hj; cases hj
  have := h.cell (i := 0 + j) (v := .int .u64 (x : Int)) (by rw [Nat.zero_add, List.getElem?_append_left (by rw [wv_length]; exact hlt)]; simp [wv, hj])
  exact this
theorem owns_blk {w : World} {base e n : Nat} {v : Value} {L : List Nat} (h : w.ownsRow base e 1 v n (wv L)) (hn : 0 < n) :
    ∃ g cap R, v = .slice (some ⟨g, 0, none⟩) n cap ∧ base ≤ g ∧ Blk w g e (wv L ++ R) ∧ n ≤ cap ∧ cap ≤ 9223372036854775807 ∧ L.length = n := by
  obtain ⟨hl, h⟩ := h
  rw [wv_length, Nat.mul_one] at hl
  rcases h with ⟨rfl, rfl⟩ | ⟨g, cap, cur, rfl, hg, hb, hnc, hcm, hcs, htk⟩
  · omega
  · refine ⟨g, cap, cur.toList.drop (n * 1), rfl, hg, ?_, hnc, by unfold maxLen at hcm; exact hcm, hl⟩
    unfold Blk
    rw [← htk, List.take_append_drop]
    simpa using hb
theorem owns_zero {w : World} {base e : Nat} {v : Value} {xs : List Value} (h : w.ownsRow base e 1 v 0 xs) : ∃ a c, v = .slice a 0 c ∧ c ≤ 9223372036854775807 := by
  rcases h.2 with ⟨rfl, _⟩ | ⟨g, cap, cur, rfl, hg, hb, hnc, hcm, _⟩
  · exact ⟨_, _, rfl, by omega⟩
  · exact ⟨_, _, rfl, by unfold maxLen at hcm; exact hcm⟩
theorem Words.zero (w : World) (a : Option Addr) : Words w a 0 [] := ⟨rfl, fun h => by omega, fun j x h => by simp at h, fun x h => by simp at h⟩
theorem Ext.grownB {w0 w w' : World} {b : Nat} (h : Ext w0 w) (k : w.grownBy w' (some b)) (hb : w0.heap.size ≤ b) : Ext w0 w' := Ext.grown h k (by intro b' he; cases he; exact hb)
theorem Words.extB {w0 w w' : World} {a : Option Addr} {n : Nat} {L : List Nat} (h : Words w0 a n L) (k : Ext w0 w) : Words w a n L := h.ext k
end Go.Tw
/-
  Operations that the calculus takes as the model runs them: a byte of a string. And bits of words. Helpers; no statement of the program is proved here.
-/
set_option linter.unusedSimpArgs false
set_option linter.unusedVariables false
namespace Go.Tw
open Go Go.RowKit

theorem raw_index {P : Program} {T : TT} (hT : TOk P T) {o : Oper} {e : Env} {w : World} {K : Value → World → Prop} {t : Nat} {x i : Operand} (ho : o.op = .index t x i) (ht : (tyAt T t).d = .str) {s : ByteArray} {k : IntKind} {j : Int} {b : UInt8}
    (hx : ev e x = some (.string s)) (hi : ev e i = some (.int k j)) (h0 : 0 ≤ j) (hb : s[j.toNat]? = some b) (h : K (.int .u8 (b.toNat : Int)) w) : rawVC P o e w K := by
  intro r hr
  obtain ⟨dst, op, type, pos, after, guard⟩ := o
  simp only at ho
  subst ho
  simp only [execOp, hr x _ hx, hr i _ hi, Instr.index, Sem.run_bind, asIntOf, Sem.run_pure, Result.andThen, run_underlying (hT.str ht), h0, if_true, hb]
  exact h

/-- k bits hold x, and no fewer. -/
def Bl (x k : Nat) : Prop := x < 2 ^ k ∧ (x = 0 → k = 0) ∧ (x ≠ 0 → 1 ≤ k ∧ 2 ^ (k - 1) ≤ x)
theorem Bl.shift {x j k : Nat} (h : Bl (x / 2 ^ j) k) (hx : 2 ^ j ≤ x) : Bl x (j + k) := by
  obtain ⟨h1, h2, h3⟩ := h
  have hp : 0 < 2 ^ j := Nat.two_pow_pos j
  have hne : x / 2 ^ j ≠ 0 := by
    have := Nat.div_le_div_right (c := 2 ^ j) hx
    rw [Nat.div_self hp] at this; omega
  obtain ⟨h4, h5⟩ := h3 hne
  refine ⟨?_, fun h => by omega, fun _ => ⟨by omega, ?_⟩⟩
  · rw [Nat.pow_add]
    rw [Nat.div_lt_iff_lt_mul hp, Nat.mul_comm] at h1
    exact h1
  · rw [show j + k - 1 = j + (k - 1) from by omega, Nat.pow_add]
    rw [Nat.le_div_iff_mul_le hp, Nat.mul_comm] at h5
    exact h5

/-! bits of words -/
theorem wrap_u64 (n : Nat) (h : n < 18446744073709551616) : IntKind.u64.wrap (n : Int) = (n : Int) := by
  simp [IntKind.wrap, IntKind.signed, IntKind.bits]; omega
theorem ofInt_nat (n : Nat) : BitVec.ofInt 64 (n : Int) = BitVec.ofNat 64 n := by simp
theorem andZ (x y : Nat) (hx : x < 18446744073709551616) (hy : y < 18446744073709551616) : bitZ .and .u64 (x : Int) (y : Int) = ((x &&& y : Nat) : Int) := by
  have h1 : (BitVec.ofInt IntKind.u64.bits (x : Int) &&& BitVec.ofInt IntKind.u64.bits (y : Int)).toNat = x &&& y := by
    show (BitVec.ofInt 64 (x : Int) &&& BitVec.ofInt 64 (y : Int)).toNat = x &&& y
    rw [ofInt_nat, ofInt_nat, BitVec.toNat_and, BitVec.toNat_ofNat, BitVec.toNat_ofNat, Nat.mod_eq_of_lt (by omega), Nat.mod_eq_of_lt (by omega)]
  unfold bitZ
  simp only [h1]
  exact wrap_u64 _ (Nat.lt_of_le_of_lt Nat.and_le_left hx)
theorem orZ (x y : Nat) (hx : x < 18446744073709551616) (hy : y < 18446744073709551616) : bitZ .or .u64 (x : Int) (y : Int) = ((x ||| y : Nat) : Int) := by
  have h1 : (BitVec.ofInt IntKind.u64.bits (x : Int) ||| BitVec.ofInt IntKind.u64.bits (y : Int)).toNat = x ||| y := by
    show (BitVec.ofInt 64 (x : Int) ||| BitVec.ofInt 64 (y : Int)).toNat = x ||| y
    rw [ofInt_nat, ofInt_nat, BitVec.toNat_or, BitVec.toNat_ofNat, BitVec.toNat_ofNat, Nat.mod_eq_of_lt (by omega), Nat.mod_eq_of_lt (by omega)]
  unfold bitZ
  simp only [h1]
  exact wrap_u64 _ (Nat.or_lt_two_pow (n := 64) hx hy)
theorem mask32 (x : Nat) : x &&& 4294967295 = x % 4294967296 := Nat.and_two_pow_sub_one_eq_mod x 32
theorem andMask (x : Nat) (hx : x < 18446744073709551616) : bitZ .and .u64 (x : Int) 4294967295 = ((x % 4294967296 : Nat) : Int) := by
  rw [← mask32]
  exact andZ x 4294967295 hx (by omega)
theorem orAdd (x y k : Nat) (hy : y < 2 ^ k) : (x * 2 ^ k) ||| y = x * 2 ^ k + y := by
  rw [Nat.mul_comm]; exact (Nat.two_pow_add_eq_or_of_lt hy x).symm
theorem shrZn (x n : Nat) (h : n ≤ 64) : shrZ .u64 (x : Int) (n : Int) = ((x / 2 ^ n : Nat) : Int) := by
  unfold shrZ
  have h1 : min (n : Int).toNat IntKind.u64.bits = n := by
    rw [Int.toNat_natCast]; show min n 64 = n; omega
  rw [h1, Int.fdiv_eq_ediv_of_nonneg _ (by exact_mod_cast Nat.zero_le _)]
  rw [Int.natCast_ediv, Int.natCast_pow]; rfl
theorem shlZn (x n : Nat) (h : n ≤ 64) : shlZ .u64 (x : Int) (n : Int) = ((x * 2 ^ n % 18446744073709551616 : Nat) : Int) := by
  unfold shlZ
  have h1 : min (n : Int).toNat IntKind.u64.bits = n := by
    rw [Int.toNat_natCast]; show min n 64 = n; omega
  rw [h1]
  have h2 : ((x : Int) * 2 ^ n) = ((x * 2 ^ n : Nat) : Int) := by rw [Int.natCast_mul, Int.natCast_pow]; rfl
  rw [h2]
  simp [IntKind.wrap, IntKind.signed, IntKind.bits]
theorem mulZ (x y : Nat) (h : x * y < 18446744073709551616) : ((x * y : Nat) : Int) = ((x : Int) * (y : Int)) % 18446744073709551616 := by
  rw [← Int.natCast_mul]; omega
theorem addZ (x y : Nat) (h : x + y < 18446744073709551616) : ((x + y : Nat) : Int) = ((x : Int) + (y : Int)) % 18446744073709551616 := by omega
theorem mulZm (x y : Nat) : ((x * y % 18446744073709551616 : Nat) : Int) = ((x : Int) * (y : Int)) % 18446744073709551616 := by
  rw [← Int.natCast_mul]; omega
def blB (x k : Nat) : Bool := Nat.blt x (2 ^ k) && (!Nat.beq x 0 || Nat.beq k 0) && (Nat.beq x 0 || (Nat.ble 1 k && Nat.ble (2 ^ (k - 1)) x))
theorem blB_spec {x k : Nat} (h : blB x k = true) : Bl x k := by
  simp only [blB, Bool.and_eq_true, Bool.or_eq_true, Bool.not_eq_true'] at h
  obtain ⟨⟨h1, h2⟩, h3⟩ := h
  refine ⟨Nat.le_of_ble_eq_true h1, fun h0 => ?_, fun h0 => ?_⟩
  · rcases h2 with h2 | h2
    · rw [h0] at h2; cases h2
    · exact Nat.eq_of_beq_eq_true h2
  · rcases h3 with h3 | h3
    · exact absurd (Nat.eq_of_beq_eq_true h3) h0
    · exact ⟨Nat.le_of_ble_eq_true h3.1, Nat.le_of_ble_eq_true h3.2⟩
end Go.Tw
