/-
  Contracts of the layer limbs, first part: words added, subtracted; trimmed, copied, compared. Helpers; no statement of the program is proved here.
-/
import Derived.Test.YtpgagepleffjlaaK5
import Derived.Laws.Externs
set_option maxRecDepth 100000
set_option linter.unusedSimpArgs false
set_option linter.unusedVariables false
namespace Go.Proofs.Ytpgagepleffjlaa
open Go Go.Tw Go.RowKit
attribute [local irreducible] LoadAt StoreOk Stored rawVC

/-! ### math/bits -/
def addEntry : Array Value → Sem Value := fun args => do
  let (x, y, c) ← Extern.MathBitsCarry.three "Add64" args
  pure (Extern.MathBitsCarry.pair ((x + y + c) % Extern.MathBitsCarry.m64) ((x + y + c) / Extern.MathBitsCarry.m64))
def subEntry : Array Value → Sem Value := fun args => do
  let (x, y, b) ← Extern.MathBitsCarry.three "Sub64" args
  pure (Extern.MathBitsCarry.pair ((x + Extern.MathBitsCarry.m64 - y - b) % Extern.MathBitsCarry.m64) (if x < y + b then 1 else 0))
theorem add64 (x y c : Nat) (hc : c ≤ 1) (w : World) :
    CallS Try.prog 114 #[.int .u64 (x : Int), .int .u64 (y : Int), .int .u64 (c : Int)] w fun v w' => w' = w ∧ v = .tuple #[.int .u64 (((x + y + c) % 18446744073709551616 : Nat) : Int), .int .u64 (((x + y + c) / 18446744073709551616 : Nat) : Int)] := by
  refine CallS.of ?_
  rw [run_callFunc_extern (P := Try.prog) (fn := Try.f114) (e := addEntry) rfl (by kernel_rfl) (by kernel_rfl) (by kernel_rfl) (by kernel_rfl)]
  have : c = 0 ∨ c = 1 := by omega
  rcases this with rfl | rfl <;> exact ⟨rfl, rfl⟩
theorem sub64 (x y b : Nat) (hb : b ≤ 1) (w : World) :
    CallS Try.prog 115 #[.int .u64 (x : Int), .int .u64 (y : Int), .int .u64 (b : Int)] w fun v w' => w' = w ∧ v = .tuple #[.int .u64 (((x + 18446744073709551616 - y - b) % 18446744073709551616 : Nat) : Int), .int .u64 ((if x < y + b then 1 else 0 : Nat) : Int)] := by
  refine CallS.of ?_
  rw [run_callFunc_extern (P := Try.prog) (fn := Try.f115) (e := subEntry) rfl (by kernel_rfl) (by kernel_rfl) (by kernel_rfl) (by kernel_rfl)]
  have : b = 0 ∨ b = 1 := by omega
  rcases this with rfl | rfl <;> exact ⟨rfl, rfl⟩

/-! ### trimmed, Clone, Trim -/
theorem trimmed_ok {w : World} {a : Option Addr} {n c : Nat} {L : List Nat} (h : Words w a n L) (hc : n ≤ c) (hm : c ≤ 9223372036854775807) :
    CallS Try.prog 105 #[.slice a n c] w fun v w' => w' = w ∧ v = .slice a (dig (val L)).length c := by
  have hn : trimN L n = (dig (val L)).length := by rw [← h.len]; exact trimN_dig L h.lt
  refine enter ttOk mixed (args := [.slice a n c]) Try.func105 rfl (by kernel_rfl) (by kernel_rfl) rfl ?_
  refine ⟨Nat, fun k => [(0, .slice a k c)], fun k w' => w' = w ∧ k ≤ n ∧ trimN L n = trimN L k, fun k _ => k, ⟨n, ⟨rfl, trivial⟩, rfl, Nat.le_refl _, rfl⟩, ?_⟩
  rintro k w' ⟨rfl, hk, he⟩
  refine And.intro (fun h1 => ?_) (fun h1 => ?_)
  · obtain ⟨k, rfl⟩ : ∃ k', k = k' + 1 := ⟨k - 1, by omega⟩
    refine ⟨k, by omega, k, ⟨rfl, by omega, h.base (by omega)⟩, _, h.load rfl rfl (h.getD (by omega)), fun h2 => ?_, fun h2 => ?_⟩
    · refine ⟨k, by omega, 0, k, ⟨rfl, rfl, by omega, by omega⟩, k, ⟨?_, trivial⟩, ⟨rfl, by omega, ?_⟩, Nat.lt_succ_self k⟩
      · show some _ = some _
        simp [subA_zero]
      · rw [he, trimN, if_pos (by omega)]
    · refine ⟨rfl, ?_⟩
      show Value.slice _ _ _ = _
      rw [← hn, he, trimN, if_neg (by omega)]
  · obtain rfl : k = 0 := by omega
    exact ⟨rfl, by rw [← hn, he]; rfl⟩

/-- What slices.Clone and Trim hand back is the call's own. -/
theorem clone_own {w : World} {a : Option Addr} {n c : Nat} {L : List Nat} (h : Words w a n L) (hn : n ≤ 4398046511104) :
    CallS Try.prog 117 #[.slice a n c] w fun v w' => Ext w w' ∧ w'.ownsRow w.heap.size 88 1 v n (wv L) := by
  refine enter ttOk mixed (args := [.slice a n c]) Try.func117 rfl (by kernel_rfl) (by kernel_rfl) rfl ?_
  refine And.intro (fun h1 => ?_) (fun h1 => ?_)
  · have : n = 0 := by
      rcases Nat.eq_zero_or_pos n with h0 | h0
      · exact h0
      · obtain ⟨p, hp, _⟩ := h.base h0; rw [h1] at hp; cases hp
    subst this
    have : L = [] := List.eq_nil_of_length_eq_zero h.len
    subst this
    exact ⟨Ext.rfl w, rfl, .inl ⟨rfl, rfl⟩⟩
  · intro b w1 hb
    have hown := owns_new hb (Nat.le_refl b) 0 1 rfl (by omega)
    refine ⟨rfl, b, 0, [], wv L, ⟨hown, ?_, (h.ext hb.ext).news, wv_one L, h.base, ?_, ?_, ?_⟩, ?_⟩
    · rw [wv_length, h.len]; exact (Nat.mul_one n).symm
    · omega
    · show (0 + n) * 8 ≤ _; omega
    · rw [hb.size, hb.isNew]; omega
    · intro v w2 ho hg _
      refine ⟨Ext.grown hb.ext hg ?_, ?_⟩
      · intro b' hb'
        simp only [Value.ownBlock, Option.some.injEq] at hb'
        rw [← hb', hb.isNew]; exact Nat.le_refl _
      · have := hb.isNew
        rw [← this]
        have ho' : w2.ownsRow b 88 1 v (0 + n) ([] ++ wv L) := ho
        rw [Nat.zero_add, List.nil_append] at ho'
        exact ho'
theorem clone_ok {w : World} {a : Option Addr} {n c : Nat} {L : List Nat} (h : Words w a n L) (hn : n ≤ 4398046511104) :
    CallS Try.prog 117 #[.slice a n c] w fun v w' => Ext w w' ∧ Sl w' v L :=
  CallS.mono (clone_own h hn) fun _ _ ⟨hx, ho⟩ => ⟨hx, owns_sl ho h.lt⟩

theorem Trim_own {w : World} {a : Option Addr} {n c : Nat} {L : List Nat} (h : Words w a n L) (hc : n ≤ c) (hm : c ≤ 9223372036854775807) (hn : n ≤ 4398046511104) :
    CallS Try.prog 100 #[.slice a n c] w fun v w' => Ext w w' ∧ w'.ownsRow w.heap.size 88 1 v (dig (val L)).length (wv (dig (val L))) := by
  refine enter ttOk mixed (args := [.slice a n c]) Try.func100 rfl (by kernel_rfl) (by kernel_rfl) rfl ?_
  refine CallS.mono (trimmed_ok h hc hm) ?_
  rintro _ _ ⟨rfl, rfl⟩
  have hle := h.trim_le
  exact CallS.mono (clone_own h.trim (by omega)) fun v w' h => h
theorem Trim_ok {w : World} {a : Option Addr} {n c : Nat} {L : List Nat} (h : Words w a n L) (hc : n ≤ c) (hm : c ≤ 9223372036854775807) (hn : n ≤ 4398046511104) :
    CallS Try.prog 100 #[.slice a n c] w fun v w' => Ext w w' ∧ Sl w' v (dig (val L)) :=
  CallS.mono (Trim_own h hc hm hn) fun _ _ ⟨hx, ho⟩ => ⟨hx, owns_sl ho (dig_wd _)⟩
end Go.Proofs.Ytpgagepleffjlaa
/-
  Contracts of the layer limbs, second part: compared. Helpers; no statement of the program is proved here.
-/
set_option maxRecDepth 100000
set_option linter.unusedSimpArgs false
set_option linter.unusedVariables false
namespace Go.Proofs.Ytpgagepleffjlaa
open Go Go.Tw Go.RowKit
attribute [local irreducible] LoadAt StoreOk Stored rawVC

theorem Cmp_ok {w : World} {a a' : Option Addr} {n c n' c' : Nat} {L L' : List Nat} (h : Words w a n L) (hc : n ≤ c) (hm : c ≤ 9223372036854775807) (h' : Words w a' n' L') (hc' : n' ≤ c') (hm' : c' ≤ 9223372036854775807) :
    CallS Try.prog 95 #[.slice a n c, .slice a' n' c'] w fun v w' => Ext w w' ∧ v = .int .i64 (cmpN (val L) (val L')) := by
  refine enter ttOk mixed (args := [.slice a n c, .slice a' n' c']) Try.func95 rfl (by kernel_rfl) (by kernel_rfl) rfl ?_
  refine CallS.mono (trimmed_ok h hc hm) ?_
  rintro _ _ ⟨rfl, rfl⟩
  refine CallS.mono (trimmed_ok h' hc' hm') ?_
  rintro _ w ⟨rfl, rfl⟩
  have hL := h.trim
  have hM := h'.trim
  have hLe := h.trim_le
  have hMe := h'.trim_le
  generalize hx : val L = x at *
  generalize hy : val L' = y at *
  refine And.intro (fun h1 => ?_) (fun h1 => ?_)
  · refine And.intro (fun h2 => ?_) (fun h2 => ?_)
    · have := lt_of_dig_len (m := x) (n := y) (by omega)
      exact ⟨Ext.rfl w, by rw [cmpN, if_pos this]; rfl⟩
    · have := lt_of_dig_len (m := y) (n := x) (by omega)
      exact ⟨Ext.rfl w, by rw [cmpN, if_neg (by omega), if_pos this]; rfl⟩
  · have hlen : (dig x).length = (dig y).length := by omega
    refine ⟨((dig x).length : Int) - 1, by omega, ?_⟩
    refine ⟨Nat, fun k => [(0, .slice a (dig x).length c), (1, .slice a' (dig y).length c'), (5, .int .i64 ((k : Int) - 1))], fun k w' => Ext w w' ∧ k ≤ (dig x).length ∧ ∀ j, k ≤ j → j < (dig x).length → (dig x).getD j 0 = (dig y).getD j 0, fun k _ => k,
      ⟨(dig x).length, ⟨rfl, rfl, rfl, trivial⟩, Ext.rfl w, Nat.le_refl _, fun j h1 h2 => by omega⟩, ?_⟩
    rintro k w1 ⟨hx1, hk, he⟩
    refine And.intro (fun h2 => ?_) (fun h2 => ?_)
    · obtain ⟨k, rfl⟩ : ∃ k', k = k' + 1 := ⟨k - 1, by omega⟩
      have hL1 := hL.ext hx1
      have hM1 := hM.ext hx1
      refine ⟨sq 10, by kernel_rfl, k, ⟨by omega, by omega, hL.base (by omega)⟩, _, hL1.load rfl rfl (hL.getD (by omega)), k, ⟨by omega, by omega, hM.base (by omega)⟩, _, hM1.load rfl rfl (hM.getD (by omega)), fun h3 => ?_, fun h3 => ?_⟩
      · intro w2 hx2 _
        have := val_lt_of_top (k := k) hL.lt hlen (by omega) (fun j h1 h2 => he j (by omega) h2) (by omega)
        rw [val_dig, val_dig] at this
        exact ⟨Ext.trans' hx1 hx2, by rw [cmpN, if_pos this]; rfl⟩
      · intro w2 hx2 _
        have hL2 := hL1.ext hx2
        have hM2 := hM1.ext hx2
        refine ⟨sq 10, by kernel_rfl, k, ⟨by omega, by omega, hL.base (by omega)⟩, _, hL2.load rfl rfl (hL.getD (by omega)), k, ⟨by omega, by omega, hM.base (by omega)⟩, _, hM2.load rfl rfl (hM.getD (by omega)), fun h4 => ?_, fun h4 => ?_⟩
        · intro w3 hx3 _
          have := val_lt_of_top (k := k) hM.lt hlen.symm (by omega) (fun j h1 h2 => (he j (by omega) (by omega)).symm) (by omega)
          rw [val_dig, val_dig] at this
          exact ⟨Ext.trans' (Ext.trans' hx1 hx2) hx3, by rw [cmpN, if_neg (by omega), if_pos this]; rfl⟩
        · intro w3 hx3 _
          refine ⟨(k : Int) - 1, by omega, k, ⟨rfl, rfl, rfl, trivial⟩, ⟨Ext.trans' (Ext.trans' hx1 hx2) hx3, by omega, ?_⟩, Nat.lt_succ_self k⟩
          intro j h5 h6
          by_cases hj : j = k
          · subst hj; omega
          · exact he j (by omega) h6
    · have : x = y := by
        apply dig_inj
        have := drop_eq_of (k := 0) hlen (fun j _ h6 => he j (by omega) h6)
        simpa using this
      subst this
      exact ⟨hx1, by rw [cmpN, if_neg (by omega), if_neg (by omega)]; rfl⟩
end Go.Proofs.Ytpgagepleffjlaa
/-
  Contracts of the layer limbs, third part: sums. Helpers; no statement of the program is proved here.
-/
set_option maxRecDepth 100000
set_option linter.unusedSimpArgs false
set_option linter.unusedVariables false
namespace Go.Proofs.Ytpgagepleffjlaa
open Go Go.Tw Go.RowKit
attribute [local irreducible] LoadAt StoreOk Stored rawVC

theorem digit_ok {w : World} {a : Option Addr} {n c : Nat} {L : List Nat} (h : Words w a n L) (i : Nat) :
    CallS Try.prog 113 #[.slice a n c, .int .i64 (i : Int)] w fun v w' => w' = w ∧ v = .int .u64 ((L.getD i 0 : Nat) : Int) := by
  refine enter ttOk mixed (args := [.slice a n c, .int .i64 (i : Int)]) Try.func113 rfl (by kernel_rfl) (by kernel_rfl) rfl ?_
  have hl := h.len
  refine And.intro (fun h1 => ?_) (fun h1 => ?_)
  · exact ⟨i, ⟨rfl, by omega, h.base (by omega)⟩, _, h.load rfl rfl (h.getD (by omega)), rfl, rfl⟩
  · refine ⟨rfl, ?_⟩
    rw [List.getD_eq_getElem?_getD, List.getElem?_eq_none (by omega)]; rfl

theorem Add_ok {w : World} {a a' : Option Addr} {n c n' c' : Nat} {L L' : List Nat} (h : Words w a n L) (h' : Words w a' n' L') (hn : n ≤ 1099511627776) (hn' : n' ≤ 1099511627776) :
    CallS Try.prog 94 #[.slice a n c, .slice a' n' c'] w fun v w' => Ext w w' ∧ Sl w' v (dig (val L + val L')) := by
  obtain ⟨N, hN, hN1, hN2, hN3⟩ : ∃ N : Nat, (N : Int) = (if (n' : Int) > n then (n' : Int) else n) ∧ n ≤ N ∧ n' ≤ N ∧ N ≤ 1099511627776 := by
    by_cases hh : (n' : Int) > n
    · exact ⟨n', by rw [if_pos hh], by omega, by omega, by omega⟩
    · exact ⟨n, by rw [if_neg hh], by omega, by omega, by omega⟩
  have hl := h.len
  have hl' := h'.len
  refine enter ttOk mixed (args := [.slice a n c, .slice a' n' c']) Try.func94 rfl (by kernel_rfl) (by kernel_rfl) rfl ?_
  refine ⟨N, hN, ((N + 1 : Nat) : Int), by omega, N, N + 1, ⟨rfl, rfl, by omega, by show (N + 1) * 8 ≤ _; omega, by omega⟩, ?_⟩
  intro b w1 hb
  have hb1 : Blk w1 b 88 (wv (List.replicate (N + 1) 0)) := by rw [← rep_zero]; exact hb.toBlk
  have hge := hb.ge (Ext.rfl w)
  refine ⟨Nat × List Nat × Nat, fun x => [(0, .slice a n c), (1, .slice a' n' c'), (6, .func (.func 113) #[] #[]), (7, .slice (some ⟨b, 0, none⟩) N (N + 1)), (8, .int .u64 (x.2.2 : Int)), (19, .int .i64 (N : Int)), (20, .int .i64 (x.1 : Int))],
    fun x w' => Ext w w' ∧ Blk w' b 88 (wv x.2.1) ∧ x.2.1.length = N + 1 ∧ WdL x.2.1 ∧ x.1 ≤ N ∧ x.2.2 ≤ 1 ∧ val (x.2.1.take x.1) + 18446744073709551616 ^ x.1 * x.2.2 = val (L.take x.1) + val (L'.take x.1), fun x _ => N - x.1,
    ⟨(0, List.replicate (N + 1) 0, 0), ⟨rfl, rfl, rfl, rfl, rfl, rfl, rfl, trivial⟩, hb.ext, hb1, by simp, wd_replicate _, Nat.zero_le _, by show 0 ≤ 1; omega, by simp [val]⟩, ?_⟩
  rintro ⟨i, A, cy⟩ w2 ⟨hx2, hB, hA, hWd, hi, hcy, hv⟩
  dsimp only at *
  refine And.intro (fun h1 => ?_) (fun h1 => ?_)
  · refine CallS.mono (digit_ok (h.ext hx2) i) ?_
    rintro _ _ ⟨rfl, rfl⟩
    refine CallS.mono (digit_ok (h'.ext hx2) i) ?_
    rintro _ _ ⟨rfl, rfl⟩
    refine CallS.mono (add64 _ _ cy hcy _) ?_
    rintro _ w2 ⟨rfl, rfl⟩
    refine ⟨i, ⟨rfl, by omega, ⟨_, rfl, rfl⟩⟩, storeWord rfl rfl hB (by omega), ?_⟩
    intro w3 hs
    obtain ⟨hB3, hg3, _⟩ := storedWord hs rfl hB
    have hd1 := getD_lt_wd h.lt i
    have hd2 := getD_lt_wd h'.lt i
    refine ⟨((i + 1 : Nat) : Int), by omega, (i + 1, A.set i ((L.getD i 0 + L'.getD i 0 + cy) % 18446744073709551616), (L.getD i 0 + L'.getD i 0 + cy) / 18446744073709551616), ⟨rfl, rfl, rfl, rfl, rfl, rfl, rfl, trivial⟩,
      ⟨Ext.grownB hx2 hg3 hge, hB3, by simpa using hA, wd_set hWd (by omega), by show i + 1 ≤ N; omega, by show _ / _ ≤ 1; omega, ?_⟩, ?_⟩
    · show val ((A.set i _).take (i + 1)) + _ = _
      rw [val_set_next A i _ (by omega), val_take_next, val_take_next, Nat.pow_succ]
      exact add_step hv
    · show N - (i + 1) < N - i; omega
  · obtain rfl : i = N := by omega
    intro b2 w3 hb2
    have hb2 : New w2 w3 b2 88 (wv [cy]) := hb2
    have hx3 := hb2.extFrom hx2
    have hB3 := hB.ext hb2.ext
    have hown := owns_take (base := b) (n := i) (c := i + 1) (sz := 1) hB3 (Nat.le_refl b) (by rw [wv_length, hA]; omega) (by omega) (by omega)
    have e1 : (wv A).take (i * 1) = wv (A.take i) := by rw [Nat.mul_one, wv, wv, List.map_take]
    rw [e1] at hown
    refine ⟨rfl, b, i, wv (A.take i), wv [cy], ⟨hown, rfl, ?_, wv_one _, fun _ => ⟨_, rfl, rfl⟩, by omega, by show (i + 1) * 8 ≤ _; omega, Nat.le_of_lt hB3.lt⟩, ?_⟩
    · intro j v hj
      have := hb2.toBlk.cell (i := 0 + j) (v := v) (by simpa [wv] using hj)
      exact this
    · intro v w4 ho hg _
      have hx4 : Ext w w4 := Ext.grown hx3 hg (by intro b' hb'; simp only [Value.ownBlock, Option.some.injEq] at hb'; omega)
      have hwd : WdL (A.take i ++ [cy]) := by
        intro y hy
        rcases List.mem_append.1 hy with hy | hy
        · exact hWd y (List.mem_of_mem_take hy)
        · simp at hy; subst hy; omega
      rw [← wv_append] at ho
      obtain ⟨a4, n4, c4, rfl, hw4, hnc4, hc4⟩ := owns_sl ho hwd
      refine CallS.mono (trimmed_ok hw4 hnc4 hc4) ?_
      rintro _ w5 ⟨rfl, rfl⟩
      have hval : val (A.take i ++ [cy]) = val L + val L' := by
        rw [val_append, List.length_take, Nat.min_eq_left (by omega)]
        rw [val_take_all L _ (by omega), val_take_all L' _ (by omega)] at hv
        simpa [val] using hv
      have ht := hw4.trim
      have htl := hw4.trim_le
      rw [hval] at ht htl ⊢
      exact ⟨hx4, _, _, _, rfl, ht, by omega, hc4⟩
end Go.Proofs.Ytpgagepleffjlaa
/-
  Contracts of the layer limbs, fourth part: differences. Helpers; no statement of the program is proved here.
-/
set_option maxRecDepth 100000
set_option linter.unusedSimpArgs false
set_option linter.unusedVariables false
namespace Go.Proofs.Ytpgagepleffjlaa
open Go Go.Tw Go.RowKit
attribute [local irreducible] LoadAt StoreOk Stored rawVC

theorem Sub_ok {w : World} {a a' : Option Addr} {n c n' c' : Nat} {L L' : List Nat} (h : Words w a n L) (hc : n ≤ c) (hm : c ≤ 9223372036854775807) (h' : Words w a' n' L') (hc' : n' ≤ c') (hm' : c' ≤ 9223372036854775807) (hn : n ≤ 4398046511104) :
    CallS Try.prog 96 #[.slice a n c, .slice a' n' c'] w fun v w' => Ext w w' ∧ Sl w' v (dig (val L - val L')) := by
  have hl := h.len
  have hl' := h'.len
  refine enter ttOk mixed (args := [.slice a n c, .slice a' n' c']) Try.func96 rfl (by kernel_rfl) (by kernel_rfl) rfl ?_
  refine CallS.mono (Cmp_ok h hc hm h' hc' hm') ?_
  rintro _ w1 ⟨hx1, rfl⟩
  have hcm : cmpN (val L) (val L') < 0 ↔ val L < val L' := by
    unfold cmpN; split <;> (try split) <;> omega
  refine And.intro (fun h1 => ?_) (fun h1 => ?_)
  · refine ⟨hx1, ?_⟩
    have h2 := hcm.1 h1
    rw [show val L - val L' = 0 by omega]
    exact Sl.nil _
  · have hle : val L' ≤ val L := by
      have : ¬ val L < val L' := fun hh => h1 (hcm.2 hh)
      omega
    refine CallS.mono (Trim_own (h.ext hx1) hc hm hn) ?_
    rintro v w2 ⟨hx2, hown⟩
    have hx02 := Ext.trans' hx1 hx2
    have htl := h.trim_le
    generalize hX : val L = X at *
    have hsl := owns_sl hown (dig_wd X)
    obtain ⟨a2, n2, c2, rfl, hw2, hnc2, hc2⟩ := hsl
    have hn2 : n2 = (dig X).length := hw2.len.symm
    subst hn2
    have hdl := dig_lt X
    generalize hN : (dig X).length = N at *
    by_cases h0 : N = 0
    · subst h0
      have hX0 : X = 0 := dig_nil.1 (List.eq_nil_of_length_eq_zero hN)
      refine ⟨Unit, fun _ => [(0, .slice a n c), (1, .slice a' n' c'), (5, .slice a2 0 c2), (6, .int .u64 0), (16, .int .i64 0), (17, .int .i64 0)], fun _ w' => Ext w w', fun _ _ => 0, ⟨(), ⟨rfl, rfl, rfl, rfl, rfl, rfl, trivial⟩, hx02⟩, ?_⟩
      rintro _ w3 hx3
      refine And.intro (fun h1 => ?_) (fun h1 => ?_)
      · exact absurd h1 (by omega)
      · refine CallS.mono (trimmed_ok (Words.zero w3 a2) (Nat.zero_le c2) hc2) ?_
        rintro _ w4 ⟨rfl, rfl⟩
        refine ⟨hx3, a2, 0, c2, rfl, ?_, Nat.zero_le _, hc2⟩
        rw [hX0, Nat.zero_sub]; exact Words.zero _ _
    · obtain ⟨g, cap, R, hv, hg, hB, hncap, hcap, _⟩ := owns_blk hown (by omega)
      simp only [Value.slice.injEq] at hv
      obtain ⟨rfl, _, rfl⟩ := hv
      have hgw : w.heap.size ≤ g := Nat.le_trans hx1.size hg
      refine ⟨Nat × List Nat × Nat, fun x => [(0, .slice a n c), (1, .slice a' n' c'), (5, .slice (some ⟨g, 0, none⟩) N c2), (6, .int .u64 (x.2.2 : Int)), (16, .int .i64 (N : Int)), (17, .int .i64 (x.1 : Int))],
        fun x w' => Ext w w' ∧ Blk w' g 88 (wv x.2.1 ++ R) ∧ x.2.1.length = N ∧ WdL x.2.1 ∧ x.1 ≤ N ∧ x.2.2 ≤ 1 ∧ (∀ j, x.1 ≤ j → x.2.1.getD j 0 = (dig X).getD j 0) ∧ val (x.2.1.take x.1) + val (L'.take x.1) = val ((dig X).take x.1) + 18446744073709551616 ^ x.1 * x.2.2, fun x _ => N - x.1,
        ⟨(0, dig X, 0), ⟨rfl, rfl, rfl, rfl, rfl, rfl, trivial⟩, hx02, hB, hN, dig_wd X, Nat.zero_le _, by show 0 ≤ 1; omega, fun j _ => rfl, by simp [val]⟩, ?_⟩
      rintro ⟨i, A, bw⟩ w3 ⟨hx3, hB3, hA, hWd, hi, hbw, hsame, hv⟩
      dsimp only at *
      refine And.intro (fun h1 => ?_) (fun h1 => ?_)
      · have hWA := Words.blkR hB3 hWd
        have hd1 := getD_lt_wd hWd i
        have hd2 := getD_lt_wd h'.lt i
        have hbr : (if A.getD i 0 < L'.getD i 0 + bw then 1 else 0 : Nat) ≤ 1 := by split <;> omega
        have hnext : ∀ w4, w3.grownBy w4 (some g) → Blk w4 g 88 (wv (A.set i ((A.getD i 0 + 18446744073709551616 - L'.getD i 0 - bw) % 18446744073709551616)) ++ R) →
            Ext w w4 ∧ Blk w4 g 88 (wv (A.set i ((A.getD i 0 + 18446744073709551616 - L'.getD i 0 - bw) % 18446744073709551616)) ++ R) ∧ (A.set i ((A.getD i 0 + 18446744073709551616 - L'.getD i 0 - bw) % 18446744073709551616)).length = N ∧ WdL (A.set i ((A.getD i 0 + 18446744073709551616 - L'.getD i 0 - bw) % 18446744073709551616)) ∧ i + 1 ≤ N ∧ (if A.getD i 0 < L'.getD i 0 + bw then 1 else 0 : Nat) ≤ 1 ∧
            (∀ j, i + 1 ≤ j → (A.set i ((A.getD i 0 + 18446744073709551616 - L'.getD i 0 - bw) % 18446744073709551616)).getD j 0 = (dig X).getD j 0) ∧
            val ((A.set i ((A.getD i 0 + 18446744073709551616 - L'.getD i 0 - bw) % 18446744073709551616)).take (i + 1)) + val (L'.take (i + 1)) = val ((dig X).take (i + 1)) + 18446744073709551616 ^ (i + 1) * (if A.getD i 0 < L'.getD i 0 + bw then 1 else 0 : Nat) := by
          intro w4 hg4 hB4
          refine ⟨Ext.grownB hx3 hg4 hgw, hB4, by simpa using hA, wd_set hWd (by omega), by omega, hbr, ?_, ?_⟩
          · intro j hj
            rw [lgetD_ne (by omega)]; exact hsame j (by omega)
          · rw [val_set_next A i _ (by omega), val_take_next L', val_take_next (dig X), Nat.pow_succ, ← hsame i (Nat.le_refl i)]
            exact sub_step hd1 hd2 hbw hv
        refine And.intro (fun h2 => ?_) (fun h2 => ?_)
        · refine ⟨i, ⟨rfl, by omega, h'.base (by omega)⟩, _, (h'.ext hx3).load rfl rfl (h'.getD (by omega)), i, ⟨rfl, by omega, ⟨_, rfl, rfl⟩⟩, _, hWA.load rfl rfl (hWA.getD (by omega)), ?_⟩
          refine CallS.mono (sub64 (A.getD i 0) (L'.getD i 0) bw hbw w3) ?_
          rintro _ _ ⟨rfl, rfl⟩
          refine ⟨i, ⟨rfl, by omega, ⟨_, rfl, rfl⟩⟩, storeWordR rfl rfl hB3 (by omega), ?_⟩
          intro w4 hs
          obtain ⟨hB4, hg4, _⟩ := storedWordR hs rfl hB3 (by omega)
          refine ⟨((i + 1 : Nat) : Int), by omega, (i + 1, _, _), ⟨rfl, rfl, rfl, rfl, rfl, rfl, trivial⟩, hnext w4 hg4 hB4, ?_⟩
          show N - (i + 1) < N - i; omega
        · have hz : L'.getD i 0 = 0 := by rw [List.getD_eq_getElem?_getD, List.getElem?_eq_none (by omega)]; rfl
          refine ⟨i, ⟨rfl, by omega, ⟨_, rfl, rfl⟩⟩, _, hWA.load rfl rfl (hWA.getD (by omega)), ?_⟩
          refine CallS.mono (sub64 (A.getD i 0) 0 bw hbw w3) ?_
          rintro _ _ ⟨rfl, rfl⟩
          refine ⟨i, ⟨rfl, by omega, ⟨_, rfl, rfl⟩⟩, storeWordR rfl rfl hB3 (by omega), ?_⟩
          intro w4 hs
          obtain ⟨hB4, hg4, _⟩ := storedWordR hs rfl hB3 (by omega)
          rw [hz] at hnext
          refine ⟨((i + 1 : Nat) : Int), by omega, (i + 1, _, _), ⟨rfl, rfl, rfl, rfl, rfl, rfl, trivial⟩, hnext w4 hg4 hB4, ?_⟩
          show N - (i + 1) < N - i; omega
      · obtain rfl : i = N := by omega
        have hWA := Words.blkR hB3 hWd
        rw [hA] at hWA
        refine CallS.mono (trimmed_ok hWA hncap hcap) ?_
        rintro _ w4 ⟨rfl, rfl⟩
        have hval : val A = X - val L' := by
          rw [val_take_all A _ (by omega), val_take_all (dig X) _ (by omega), val_dig] at hv
          have h3 := val_lt A hWd
          rw [hA] at h3
          by_cases hln : i ≤ L'.length
          · have h4 := val_split L' i hln
            generalize 18446744073709551616 ^ i = p at *
            have h5 : val (L'.drop i) = 0 := by
              rcases Nat.eq_zero_or_pos (val (L'.drop i)) with h | h
              · exact h
              · have : p * 1 ≤ p * val (L'.drop i) := Nat.mul_le_mul_left _ h
                omega
            rw [h5, Nat.mul_zero] at h4
            have : bw = 0 ∨ bw = 1 := by omega
            rcases this with rfl | rfl
            · omega
            · omega
          · rw [val_take_all L' _ (by omega)] at hv
            generalize 18446744073709551616 ^ i = p at *
            have : bw = 0 ∨ bw = 1 := by omega
            rcases this with rfl | rfl
            · omega
            · omega
        have ht := hWA.trim
        have htl := hWA.trim_le
        rw [hval] at ht htl ⊢
        exact ⟨hx3, _, _, _, rfl, ht, by omega, hcap⟩
end Go.Proofs.Ytpgagepleffjlaa
/-
  Contracts of the layer limbs, fifth part: words multiplied, their lengths in bits. Helpers; no statement of the program is proved here.
-/
set_option maxRecDepth 100000
set_option linter.unusedSimpArgs false
set_option linter.unusedVariables false
namespace Go.Proofs.Ytpgagepleffjlaa
open Go Go.Tw Go.RowKit
attribute [local irreducible] LoadAt StoreOk Stored rawVC

theorem mul64_math (x y : Nat) (hx : x < 18446744073709551616) (hy : y < 18446744073709551616) :
    let x0 := x % 4294967296; let x1 := x / 4294967296; let y0 := y % 4294967296; let y1 := y / 4294967296
    let t := x1 * y0 + x0 * y0 / 4294967296
    x0 * y0 < 18446744073709551616 ∧ x1 * y0 < 18446744073709551616 ∧ x1 * y0 + x0 * y0 / 4294967296 < 18446744073709551616 ∧ x0 * y1 < 18446744073709551616 ∧ t % 4294967296 + x0 * y1 < 18446744073709551616 ∧ x1 * y1 < 18446744073709551616 ∧
    x1 * y1 + t / 4294967296 < 18446744073709551616 ∧ x1 * y1 + t / 4294967296 + (t % 4294967296 + x0 * y1) / 4294967296 = x * y / 18446744073709551616 ∧ x * y / 18446744073709551616 < 18446744073709551616 := by
  intro x0 x1 y0 y1 t
  have hx0 : x0 < 4294967296 := Nat.mod_lt _ (by omega)
  have hy0 : y0 < 4294967296 := Nat.mod_lt _ (by omega)
  have hx1 : x1 < 4294967296 := by omega
  have hy1 : y1 < 4294967296 := by omega
  have ex : x = x1 * 4294967296 + x0 := by omega
  have ey : y = y1 * 4294967296 + y0 := by omega
  have b : ∀ p q : Nat, p < 4294967296 → q < 4294967296 → p * q ≤ 18446744065119617025 := by
    intro p q hp hq
    have := Nat.mul_le_mul (show p ≤ 4294967295 by omega) (show q ≤ 4294967295 by omega)
    omega
  have b00 := b x0 y0 hx0 hy0
  have b10 := b x1 y0 hx1 hy0
  have b01 := b x0 y1 hx0 hy1
  have b11 := b x1 y1 hx1 hy1
  have e : x * y = (x1 * y1) * 18446744073709551616 + (x1 * y0 + x0 * y1) * 4294967296 + x0 * y0 := by
    rw [ex, ey]
    rw [Nat.add_mul, Nat.mul_add, Nat.mul_add]
    have h1 : x1 * 4294967296 * (y1 * 4294967296) = x1 * y1 * 18446744073709551616 := by rw [Nat.mul_mul_mul_comm]
    have h2 : x1 * 4294967296 * y0 = x1 * y0 * 4294967296 := by rw [Nat.mul_right_comm]
    have h3 : x0 * (y1 * 4294967296) = x0 * y1 * 4294967296 := by rw [Nat.mul_assoc]
    rw [h1, h2, h3, Nat.add_mul]; omega
  rw [e]
  show _ ∧ _ ∧ _ ∧ _ ∧ (x1 * y0 + x0 * y0 / 4294967296) % 4294967296 + x0 * y1 < _ ∧ _ ∧ x1 * y1 + (x1 * y0 + x0 * y0 / 4294967296) / 4294967296 < _ ∧ x1 * y1 + (x1 * y0 + x0 * y0 / 4294967296) / 4294967296 + ((x1 * y0 + x0 * y0 / 4294967296) % 4294967296 + x0 * y1) / 4294967296 = _ ∧ _
  generalize x0 * y0 = p at *
  generalize x1 * y0 = q at *
  generalize x0 * y1 = r at *
  generalize x1 * y1 = s at *
  omega

theorem mul64 (x y : Nat) (hx : x < 18446744073709551616) (hy : y < 18446744073709551616) (w : World) :
    CallS Try.prog 116 #[.int .u64 (x : Int), .int .u64 (y : Int)] w fun v w' => w' = w ∧ v = .tuple #[.int .u64 ((x * y / 18446744073709551616 : Nat) : Int), .int .u64 ((x * y % 18446744073709551616 : Nat) : Int)] := by
  obtain ⟨h1, h2, h3, h4, h5, h6, h7, h8, h9⟩ := mul64_math x y hx hy
  have sx := shrZn x 32 (by omega)
  have sy := shrZn y 32 (by omega)
  have ax := andMask x hx
  have ay := andMask y hy
  refine enter ttOk mixed (args := [.int .u64 (x : Int), .int .u64 (y : Int)]) Try.func116 rfl (by kernel_rfl) (by kernel_rfl) rfl ?_
  refine ⟨_, ax.symm, _, ⟨sx.symm, by omega⟩, _, ay.symm, _, ⟨sy.symm, by omega⟩, ?_⟩
  refine ⟨_, mulZ _ _ h1, _, mulZ _ _ h2, _, ⟨(shrZn _ 32 (by omega)).symm, by omega⟩, _, addZ _ _ h3, ?_⟩
  refine ⟨_, (andMask _ h3).symm, _, ⟨(shrZn _ 32 (by omega)).symm, by omega⟩, _, mulZ _ _ h4, _, addZ _ _ h5, ?_⟩
  refine ⟨_, mulZ _ _ h6, _, addZ _ _ h7, _, ⟨(shrZn _ 32 (by omega)).symm, by omega⟩, _, addZ _ _ (by rw [show ((2 : Nat) ^ 32) = 4294967296 from rfl, h8]; exact h9), ?_⟩
  refine ⟨_, mulZm x y, rfl, ?_⟩
  rw [show ((2 : Nat) ^ 32) = 4294967296 from rfl, h8]; rfl

def lenTab : List UInt8 := [0, 1, 2, 2, 3, 3, 3, 3, 4, 4, 4, 4, 4, 4, 4, 4, 5, 5, 5, 5, 5, 5, 5, 5, 5, 5, 5, 5, 5, 5, 5, 5, 6, 6, 6, 6, 6, 6, 6, 6, 6, 6, 6, 6, 6, 6, 6, 6, 6, 6, 6, 6, 6, 6, 6, 6, 6, 6, 6, 6, 6, 6, 6, 6] ++ [7, 7, 7, 7, 7, 7, 7, 7, 7, 7, 7, 7, 7, 7, 7, 7, 7, 7, 7, 7, 7, 7, 7, 7, 7, 7, 7, 7, 7, 7, 7, 7, 7, 7, 7, 7, 7, 7, 7, 7, 7, 7, 7, 7, 7, 7, 7, 7, 7, 7, 7, 7, 7, 7, 7, 7, 7, 7, 7, 7, 7, 7, 7, 7] ++ [8, 8, 8, 8, 8, 8, 8, 8, 8, 8, 8, 8, 8, 8, 8, 8, 8, 8, 8, 8, 8, 8, 8, 8, 8, 8, 8, 8, 8, 8, 8, 8, 8, 8, 8, 8, 8, 8, 8, 8, 8, 8, 8, 8, 8, 8, 8, 8, 8, 8, 8, 8, 8, 8, 8, 8, 8, 8, 8, 8, 8, 8, 8, 8] ++ [8, 8, 8, 8, 8, 8, 8, 8, 8, 8, 8, 8, 8, 8, 8, 8, 8, 8, 8, 8, 8, 8, 8, 8, 8, 8, 8, 8, 8, 8, 8, 8, 8, 8, 8, 8, 8, 8, 8, 8, 8, 8, 8, 8, 8, 8, 8, 8, 8, 8, 8, 8, 8, 8, 8, 8, 8, 8, 8, 8, 8, 8, 8, 8]
theorem lenTab_all : (List.range 256).all (fun i => match lenTab[i]? with | some b => blB i b.toNat | none => false) = true := by kernel_rfl
theorem lenTab_at (i : Nat) (h : i < 256) : ∃ b, (⟨lenTab.toArray⟩ : ByteArray)[i]? = some b ∧ Bl i b.toNat := by
  have h1 := List.all_eq_true.1 lenTab_all i (by simpa using h)
  split at h1
  · rename_i b hb
    refine ⟨b, ?_, blB_spec h1⟩
    have hl : lenTab.length = 256 := by kernel_rfl
    have hs : i < (⟨lenTab.toArray⟩ : ByteArray).size := by show i < lenTab.toArray.size; simp [hl, h]
    rw [getElem?_pos _ i hs]
    have : (⟨lenTab.toArray⟩ : ByteArray)[i] = lenTab[i] := rfl
    rw [this, ← hb]
    simp [hl, h]
  · cases h1

theorem Bl.uniq {x j k : Nat} (h : Bl x j) (h' : Bl x k) : j = k := by
  obtain ⟨h1, h2, h3⟩ := h
  obtain ⟨k1, k2, k3⟩ := h'
  by_cases h0 : x = 0
  · rw [h2 h0, k2 h0]
  · obtain ⟨h4, h5⟩ := h3 h0
    obtain ⟨k4, k5⟩ := k3 h0
    have a1 : 2 ^ (j - 1) < 2 ^ k := Nat.lt_of_le_of_lt h5 k1
    have a2 : 2 ^ (k - 1) < 2 ^ j := Nat.lt_of_le_of_lt k5 h1
    have b1 := (Nat.pow_lt_pow_iff_right (by omega : 1 < 2)).1 a1
    have b2 := (Nat.pow_lt_pow_iff_right (by omega : 1 < 2)).1 a2
    omega

theorem len64 (x : Nat) (hx : x < 18446744073709551616) (w : World) :
    CallS Try.prog 106 #[.int .u64 (x : Int)] w fun v w' => w' = w ∧ ∃ k : Nat, v = .int .i64 (k : Int) ∧ Bl x k ∧ k ≤ 64 := by
  -- the last look into the table, behind n bits
  have fin : ∀ (y n : Nat), y < 256 → n ≤ 56 → ∃ b : UInt8, (⟨lenTab.toArray⟩ : ByteArray)[((((y : Int) % 256)).toNat)]? = some b ∧ Bl y b.toNat ∧ b.toNat ≤ 8 := by
    intro y n hy hn
    obtain ⟨b, hb, hB⟩ := lenTab_at y hy
    refine ⟨b, by rw [show (((y : Int) % 256)).toNat = y by omega]; exact hb, hB, ?_⟩
    rcases Nat.eq_zero_or_pos y with h0 | h0
    · rw [hB.2.1 h0]; omega
    · have := (hB.2.2 (by omega)).2
      have h3 : 2 ^ (b.toNat - 1) < 2 ^ 8 := Nat.lt_of_le_of_lt this hy
      have := (Nat.pow_lt_pow_iff_right (by omega : 1 < 2)).1 h3
      omega
  refine enter ttOk mixed (args := [.int .u64 (x : Int)]) Try.func106 rfl (by kernel_rfl) (by kernel_rfl) rfl ?_
  refine And.intro (fun h0 => ?_) (fun h0 => ?_)
  · refine ⟨_, ⟨(shrZn (x) 32 (by omega)).symm, by omega⟩, ?_⟩
    refine And.intro (fun h1 => ?_) (fun h1 => ?_)
    · refine ⟨_, ⟨(shrZn (x / 2 ^ 32) 16 (by omega)).symm, by omega⟩, 48, by omega, ?_⟩
      refine And.intro (fun h2 => ?_) (fun h2 => ?_)
      · refine ⟨_, ⟨(shrZn (x / 2 ^ 32 / 2 ^ 16) 8 (by omega)).symm, by omega⟩, 56, by omega, ?_⟩
        obtain ⟨b, hb, hB, hb8⟩ := fin (x / 2 ^ 32 / 2 ^ 16 / 2 ^ 8) 56 (by omega) (by omega)
        refine ⟨_, rfl, raw_index ttOk rfl rfl rfl rfl (by omega) hb ⟨((b.toNat : Nat) : Int), by omega, ((56 + b.toNat : Nat) : Int), by omega, rfl, 56 + b.toNat, rfl, ?_, by omega⟩⟩
        have h9 : Bl x (32 + (16 + (8 + b.toNat))) := (Bl.shift (Bl.shift (Bl.shift hB (by omega)) (by omega)) (by omega))
        rw [show 56 + b.toNat = (32 + (16 + (8 + b.toNat))) by omega]; exact h9
      · obtain ⟨b, hb, hB, hb8⟩ := fin (x / 2 ^ 32 / 2 ^ 16) 48 (by omega) (by omega)
        refine ⟨_, rfl, raw_index ttOk rfl rfl rfl rfl (by omega) hb ⟨((b.toNat : Nat) : Int), by omega, ((48 + b.toNat : Nat) : Int), by omega, rfl, 48 + b.toNat, rfl, ?_, by omega⟩⟩
        have h9 : Bl x (32 + (16 + b.toNat)) := (Bl.shift (Bl.shift hB (by omega)) (by omega))
        rw [show 48 + b.toNat = (32 + (16 + b.toNat)) by omega]; exact h9
    · refine And.intro (fun h2 => ?_) (fun h2 => ?_)
      · refine ⟨_, ⟨(shrZn (x / 2 ^ 32) 8 (by omega)).symm, by omega⟩, 40, by omega, ?_⟩
        obtain ⟨b, hb, hB, hb8⟩ := fin (x / 2 ^ 32 / 2 ^ 8) 40 (by omega) (by omega)
        refine ⟨_, rfl, raw_index ttOk rfl rfl rfl rfl (by omega) hb ⟨((b.toNat : Nat) : Int), by omega, ((40 + b.toNat : Nat) : Int), by omega, rfl, 40 + b.toNat, rfl, ?_, by omega⟩⟩
        have h9 : Bl x (32 + (8 + b.toNat)) := (Bl.shift (Bl.shift hB (by omega)) (by omega))
        rw [show 40 + b.toNat = (32 + (8 + b.toNat)) by omega]; exact h9
      · obtain ⟨b, hb, hB, hb8⟩ := fin (x / 2 ^ 32) 32 (by omega) (by omega)
        refine ⟨_, rfl, raw_index ttOk rfl rfl rfl rfl (by omega) hb ⟨((b.toNat : Nat) : Int), by omega, ((32 + b.toNat : Nat) : Int), by omega, rfl, 32 + b.toNat, rfl, ?_, by omega⟩⟩
        have h9 : Bl x (32 + b.toNat) := (Bl.shift hB (by omega))
        rw [show 32 + b.toNat = (32 + b.toNat) by omega]; exact h9
  · refine And.intro (fun h1 => ?_) (fun h1 => ?_)
    · refine ⟨_, ⟨(shrZn (x) 16 (by omega)).symm, by omega⟩, 16, by omega, ?_⟩
      refine And.intro (fun h2 => ?_) (fun h2 => ?_)
      · refine ⟨_, ⟨(shrZn (x / 2 ^ 16) 8 (by omega)).symm, by omega⟩, 24, by omega, ?_⟩
        obtain ⟨b, hb, hB, hb8⟩ := fin (x / 2 ^ 16 / 2 ^ 8) 24 (by omega) (by omega)
        refine ⟨_, rfl, raw_index ttOk rfl rfl rfl rfl (by omega) hb ⟨((b.toNat : Nat) : Int), by omega, ((24 + b.toNat : Nat) : Int), by omega, rfl, 24 + b.toNat, rfl, ?_, by omega⟩⟩
        have h9 : Bl x (16 + (8 + b.toNat)) := (Bl.shift (Bl.shift hB (by omega)) (by omega))
        rw [show 24 + b.toNat = (16 + (8 + b.toNat)) by omega]; exact h9
      · obtain ⟨b, hb, hB, hb8⟩ := fin (x / 2 ^ 16) 16 (by omega) (by omega)
        refine ⟨_, rfl, raw_index ttOk rfl rfl rfl rfl (by omega) hb ⟨((b.toNat : Nat) : Int), by omega, ((16 + b.toNat : Nat) : Int), by omega, rfl, 16 + b.toNat, rfl, ?_, by omega⟩⟩
        have h9 : Bl x (16 + b.toNat) := (Bl.shift hB (by omega))
        rw [show 16 + b.toNat = (16 + b.toNat) by omega]; exact h9
    · refine And.intro (fun h2 => ?_) (fun h2 => ?_)
      · refine ⟨_, ⟨(shrZn (x) 8 (by omega)).symm, by omega⟩, 8, by omega, ?_⟩
        obtain ⟨b, hb, hB, hb8⟩ := fin (x / 2 ^ 8) 8 (by omega) (by omega)
        refine ⟨_, rfl, raw_index ttOk rfl rfl rfl rfl (by omega) hb ⟨((b.toNat : Nat) : Int), by omega, ((8 + b.toNat : Nat) : Int), by omega, rfl, 8 + b.toNat, rfl, ?_, by omega⟩⟩
        have h9 : Bl x (8 + b.toNat) := (Bl.shift hB (by omega))
        rw [show 8 + b.toNat = (8 + b.toNat) by omega]; exact h9
      · obtain ⟨b, hb, hB, hb8⟩ := fin (x) 0 (by omega) (by omega)
        refine ⟨_, rfl, raw_index ttOk rfl rfl rfl rfl (by omega) hb ⟨((b.toNat : Nat) : Int), by omega, ((0 + b.toNat : Nat) : Int), by omega, rfl, 0 + b.toNat, rfl, ?_, by omega⟩⟩
        have h9 : Bl x b.toNat := hB
        rw [show 0 + b.toNat = b.toNat by omega]; exact h9
end Go.Proofs.Ytpgagepleffjlaa
/-
  Contracts of the layer limbs: products. Helpers; no statement of the program is proved here.
-/
set_option maxRecDepth 100000
set_option linter.unusedSimpArgs false
set_option linter.unusedVariables false
namespace Go.Proofs.Ytpgagepleffjlaa
open Go Go.Tw Go.RowKit
attribute [local irreducible] LoadAt StoreOk Stored rawVC

theorem val_set : ∀ (A : List Nat) (i x : Nat), i < A.length → val (A.set i x) + 18446744073709551616 ^ i * A.getD i 0 = val A + 18446744073709551616 ^ i * x
  | [], i, x, h => by simp at h
  | a :: A, 0, x, h => by
    show x + 18446744073709551616 * val A + 18446744073709551616 ^ 0 * a = a + 18446744073709551616 * val A + 18446744073709551616 ^ 0 * x
    rw [Nat.pow_zero]; omega
  | a :: A, i + 1, x, h => by
    have ih := val_set A i x (by simpa using h)
    show a + 18446744073709551616 * val (A.set i x) + 18446744073709551616 ^ (i + 1) * A.getD i 0 = a + 18446744073709551616 * val A + 18446744073709551616 ^ (i + 1) * x
    rw [Nat.pow_succ, Nat.mul_comm (18446744073709551616 ^ i), Nat.mul_assoc, Nat.mul_assoc]
    generalize 18446744073709551616 ^ i * A.getD i 0 = p at *
    generalize 18446744073709551616 ^ i * x = q at *
    omega
theorem val_set_take (A : List Nat) (i m x : Nat) (h : i < m) (hm : m ≤ A.length) : val ((A.set i x).take m) + 18446744073709551616 ^ i * A.getD i 0 = val (A.take m) + 18446744073709551616 ^ i * x := by
  have := val_set (A.take m) i x (by rw [List.length_take]; omega)
  rw [← List.take_set] at *
  have e : (A.take m).getD i 0 = A.getD i 0 := by
    rw [List.getD_eq_getElem?_getD, List.getD_eq_getElem?_getD, List.getElem?_take_of_lt h]
  rw [e] at this
  exact this

/-! ### the machine's sums and products, with what they hand back named -/
theorem mul64e (x y : Nat) (hx : x < 18446744073709551616) (hy : y < 18446744073709551616) (w : World) :
    CallS Try.prog 116 #[.int .u64 (x : Int), .int .u64 (y : Int)] w fun v w' => w' = w ∧ ∃ hi lo : Nat, v = .tuple #[.int .u64 (hi : Int), .int .u64 (lo : Int)] ∧ hi ≤ 18446744073709551614 ∧ lo < 18446744073709551616 ∧ x * y = lo + 18446744073709551616 * hi := by
  refine CallS.mono (mul64 x y hx hy w) ?_
  rintro v w' ⟨h, hv⟩
  refine ⟨h, _, _, hv, ?_⟩
  have h1 : x * y ≤ 18446744073709551615 * 18446744073709551615 := Nat.mul_le_mul (by omega) (by omega)
  generalize x * y = p at *
  omega
theorem add64e (x y c : Nat) (hx : x < 18446744073709551616) (hy : y < 18446744073709551616) (hc : c ≤ 1) (w : World) :
    CallS Try.prog 114 #[.int .u64 (x : Int), .int .u64 (y : Int), .int .u64 (c : Int)] w fun v w' => w' = w ∧ ∃ s k : Nat, v = .tuple #[.int .u64 (s : Int), .int .u64 (k : Int)] ∧ s < 18446744073709551616 ∧ k ≤ 1 ∧ x + y + c = s + 18446744073709551616 * k := by
  refine CallS.mono (add64 x y c hc w) ?_
  rintro v w' ⟨h, hv⟩
  exact ⟨h, _, _, hv, by omega⟩
theorem add64z (x y : Nat) (hx : x < 18446744073709551616) (hy : y < 18446744073709551616) (w : World) :
    CallS Try.prog 114 #[.int .u64 (x : Int), .int .u64 (y : Int), .int .u64 0] w fun v w' => w' = w ∧ ∃ s k : Nat, v = .tuple #[.int .u64 (s : Int), .int .u64 (k : Int)] ∧ s < 18446744073709551616 ∧ k ≤ 1 ∧ x + y = s + 18446744073709551616 * k := by
  refine CallS.mono (add64 x y 0 (Nat.zero_le 1) w) ?_
  rintro v w' ⟨h, hv⟩
  exact ⟨h, _, _, hv, by omega⟩
theorem sub64e (x y b : Nat) (hx : x < 18446744073709551616) (hy : y < 18446744073709551616) (hb : b ≤ 1) (w : World) :
    CallS Try.prog 115 #[.int .u64 (x : Int), .int .u64 (y : Int), .int .u64 (b : Int)] w fun v w' => w' = w ∧ ∃ s k : Nat, v = .tuple #[.int .u64 (s : Int), .int .u64 (k : Int)] ∧ s < 18446744073709551616 ∧ k ≤ 1 ∧ x + 18446744073709551616 * k = s + y + b := by
  refine CallS.mono (sub64 x y b hb w) ?_
  rintro v w' ⟨h, hv⟩
  refine ⟨h, _, _, hv, ?_⟩
  split <;> omega

/-- One step of a product's row. -/
theorem mul_step {x y o cy hi lo lo2 c1 z c2 : Nat} (hcy : cy < 18446744073709551616) (ho : o < 18446744073709551616) (hhi : hi ≤ 18446744073709551614) (e1 : x * y = lo + 18446744073709551616 * hi) (e2 : lo + cy = lo2 + 18446744073709551616 * c1) (e3 : o + lo2 = z + 18446744073709551616 * c2) (hx : x < 18446744073709551616) (hy : y < 18446744073709551616) (hc1 : c1 ≤ 1) :
    hi + c1 < 18446744073709551616 ∧ hi + c1 + c2 < 18446744073709551616 ∧ x * y + cy + o = z + 18446744073709551616 * (hi + c1 + c2) := by
  have h1 : x * y ≤ 18446744073709551615 * 18446744073709551615 := Nat.mul_le_mul (by omega) (by omega)
  generalize x * y = p at *
  omega

theorem mul_row {p g1 g2 o xy cy z cz t1 t2 : Nat} (e : g1 + p * o = g2 + p * z) (hv : g2 + p * cy = t2 + t1) (s3 : xy + cy + o = z + 18446744073709551616 * cz) : g1 + p * 18446744073709551616 * cz = t2 + (t1 + p * xy) := by
  have e3 : p * (xy + cy + o) = p * (z + 18446744073709551616 * cz) := by rw [s3]
  rw [Nat.mul_add, Nat.mul_add, Nat.mul_add, ← Nat.mul_assoc] at e3
  generalize p * 18446744073709551616 * cz = g4 at *
  generalize p * o = g3 at *
  generalize p * cy = g5 at *
  generalize p * z = g6 at *
  generalize p * xy = g7 at *
  clear s3
  omega

def MulRow (X Y i M : Nat) (A : List Nat) (k cy : Nat) : Prop := val (A.take (i + M)) + 18446744073709551616 ^ (i + k) * cy = val ((dig X).take i) * Y + 18446744073709551616 ^ i * ((dig X).getD i 0 * val ((dig Y).take k))
def MulAll (X Y i M : Nat) (A : List Nat) : Prop := val (A.take (i + M)) = val ((dig X).take i) * Y
theorem eq_of_nlt {k M : Nat} (h : k ≤ M) (h2 : ¬ ((k : Int) < (M : Int))) : k = M := by omega
theorem lt_of_ilt {k M : Nat} (h2 : (k : Int) < (M : Int)) : k < M := by omega
theorem MulRow.first {X Y i M : Nat} {A : List Nat} (hv : MulAll X Y i M A) : MulRow X Y i M A 0 0 := by
  unfold MulRow; unfold MulAll at hv; rw [hv]; simp [val]
theorem MulRow.step {X Y i M k cy z cz : Nat} {A : List Nat} (hv : MulRow X Y i M A k cy) (hk : k < M) (hA : i + M ≤ A.length) (s3 : (dig X).getD i 0 * (dig Y).getD k 0 + cy + A.getD (i + k) 0 = z + 18446744073709551616 * cz) :
    MulRow X Y i M (A.set (i + k) z) (k + 1) cz := by
  unfold MulRow at *
  have e := val_set_take A (i + k) (i + M) z (Nat.add_lt_add_left hk i) hA
  have e0 : i + (k + 1) = (i + k) + 1 := rfl
  rw [val_take_next (dig Y), e0, Nat.pow_succ]
  have e2 : 18446744073709551616 ^ i * ((dig X).getD i 0 * (val ((dig Y).take k) + 18446744073709551616 ^ k * (dig Y).getD k 0)) = 18446744073709551616 ^ i * ((dig X).getD i 0 * val ((dig Y).take k)) + 18446744073709551616 ^ (i + k) * ((dig X).getD i 0 * (dig Y).getD k 0) := by
    rw [Nat.pow_add]; simp only [Nat.mul_add, Nat.mul_assoc, Nat.mul_left_comm, Nat.mul_comm]
  rw [e2]
  exact mul_row e hv s3
theorem MulRow.last {X Y i M cy : Nat} {A : List Nat} (hv : MulRow X Y i M A M cy) (hM : (dig Y).length = M) (hA : i + M < A.length) : MulAll X Y (i + 1) M (A.set (i + M) cy) := by
  unfold MulRow at hv; unfold MulAll
  rw [show i + 1 + M = i + M + 1 from Nat.succ_add i M, val_set_next A (i + M) _ hA, hv, val_take_next, val_take_all (dig Y) M (Nat.le_of_eq hM), val_dig, Nat.add_mul, Nat.mul_assoc]

theorem addI (i k : Nat) {N : Nat} (h : i + k < N) (hN : N ≤ 4398046511104) : ((i + k : Nat) : Int) = (i : Int) + (k : Int) ∧ -9223372036854775808 ≤ ((i + k : Nat) : Int) ∧ ((i + k : Nat) : Int) ≤ 9223372036854775807 := by omega
theorem addI1 (k : Nat) {M : Nat} (h : k < M) (hN : M ≤ 4398046511104) : ((k + 1 : Nat) : Int) = (k : Int) + 1 ∧ -9223372036854775808 ≤ ((k + 1 : Nat) : Int) ∧ ((k + 1 : Nat) : Int) ≤ 9223372036854775807 := by omega
theorem Mul_ok {w : World} {a a' : Option Addr} {n c n' c' : Nat} {L L' : List Nat} (h : Words w a n L) (h' : Words w a' n' L') (hc : n ≤ c) (hm : c ≤ 9223372036854775807) (hc' : n' ≤ c') (hm' : c' ≤ 9223372036854775807) (hn : n ≤ 1099511627776) (hn' : n' ≤ 1099511627776) :
    CallS Try.prog 97 #[.slice a n c, .slice a' n' c'] w fun v w' => Ext w w' ∧ Sl w' v (dig (val L * val L')) := by
  have ht := h.trim
  have htl := h.trim_le
  have ht' := h'.trim
  have htl' := h'.trim_le
  refine enter ttOk mixed (args := [.slice a n c, .slice a' n' c']) Try.func97 rfl (by kernel_rfl) (by kernel_rfl) rfl ?_
  refine CallS.mono (trimmed_ok h hc hm) ?_
  rintro _ w ⟨rfl, rfl⟩
  refine CallS.mono (trimmed_ok h' hc' hm') ?_
  rintro _ w ⟨rfl, rfl⟩
  generalize hX : val L = X at *
  generalize hY : val L' = Y at *
  generalize hN : (dig X).length = N at *
  generalize hM : (dig Y).length = M at *
  refine ⟨((N + M : Nat) : Int), by omega, N + M, N + M, ⟨rfl, rfl, Nat.le_refl _, by show (N + M) * 8 ≤ _; omega, by omega⟩, ?_⟩
  intro b w1 hb
  have hb1 : Blk w1 b 88 (wv (List.replicate (N + M) 0)) := by rw [← rep_zero]; exact hb.toBlk
  have hge := hb.ge (Ext.rfl _)
  have hNM : N + M ≤ 4398046511104 := by omega
  have hM4 : M ≤ 4398046511104 := by omega
  refine ⟨Nat × List Nat, fun x => [(0, .slice a N c), (1, .slice a' M c'), (5, .slice (some ⟨b, 0, none⟩) (N + M) (N + M)), (24, .slice a N c), (25, .int .i64 (N : Int)), (26, .int .i64 (x.1 : Int))],
    fun x w' => Ext w w' ∧ Blk w' b 88 (wv x.2) ∧ x.2.length = N + M ∧ WdL x.2 ∧ x.1 ≤ N ∧ MulAll X Y x.1 M x.2, fun x _ => N - x.1,
    ⟨(0, List.replicate (N + M) 0), ⟨rfl, rfl, rfl, rfl, rfl, rfl, trivial⟩, hb.ext, hb1, by simp, wd_replicate _, Nat.zero_le _, by show MulAll _ _ _ _ _; unfold MulAll; rw [List.take_replicate, val_replicate]; simp [val]⟩, ?_⟩
  rintro ⟨i, A⟩ w2 ⟨hx2, hB, hA, hWd, hi, hv⟩
  dsimp only at *
  refine And.intro (fun h1 => ?_) (fun h1 => ?_)
  · have hiN : i < N := lt_of_ilt h1
    refine ⟨i, ⟨rfl, hiN, ht.base (by omega)⟩, _, (ht.ext hx2).load rfl rfl (ht.getD hiN), ?_⟩
    have hxw := getD_lt_wd ht.lt i
    refine ⟨Nat × List Nat × Nat, fun x => [(0, .slice a N c), (1, .slice a' M c'), (5, .slice (some ⟨b, 0, none⟩) (N + M) (N + M)), (24, .slice a N c), (25, .int .i64 (N : Int)), (26, .int .i64 (i : Int)), (6, .int .i64 (i : Int)), (7, .int .u64 (((dig X).getD i 0 : Nat) : Int)), (8, .int .u64 (x.2.2 : Int)), (31, .slice a' M c'), (32, .int .i64 (M : Int)), (33, .int .i64 (x.1 : Int))],
      fun x w' => Ext w w' ∧ Blk w' b 88 (wv x.2.1) ∧ x.2.1.length = N + M ∧ WdL x.2.1 ∧ x.1 ≤ M ∧ x.2.2 < 18446744073709551616 ∧ MulRow X Y i M x.2.1 x.1 x.2.2, fun x _ => M - x.1,
      ⟨(0, A, 0), ⟨rfl, rfl, rfl, rfl, rfl, rfl, rfl, rfl, rfl, rfl, rfl, rfl, trivial⟩, hx2, hB, hA, hWd, Nat.zero_le _, by show 0 < 18446744073709551616; omega, MulRow.first hv⟩, ?_⟩
    rintro ⟨k, A, cy⟩ w3 ⟨hx3, hB, hA, hWd, hk, hcy, hv⟩
    dsimp only at *
    refine And.intro (fun h2 => ?_) (fun h2 => ?_)
    · have hkM : k < M := lt_of_ilt h2
      refine ⟨k, ⟨rfl, hkM, ht'.base (by omega)⟩, _, (ht'.ext hx3).load rfl rfl (ht'.getD hkM), ?_⟩
      have hyw := getD_lt_wd ht'.lt k
      have how := getD_lt_wd hWd (i + k)
      have hWA := Words.blkAll hB hWd
      rw [hA] at hWA
      have hin := Nat.add_lt_add_left hkM i
      have hin2 : i + k < N + M := Nat.lt_of_lt_of_le hin (Nat.add_le_add_right hi M)
      refine CallS.mono (mul64e _ _ hxw hyw _) ?_
      rintro _ _ ⟨rfl, hi1, lo1, rfl, g1, g2, g3⟩
      refine CallS.mono (add64z _ _ g2 hcy _) ?_
      rintro _ _ ⟨rfl, lo2, c1, rfl, g4, g5, g6⟩
      refine ⟨_, addZ _ _ (Nat.lt_of_le_of_lt (Nat.add_le_add g1 g5) (Nat.lt_succ_self _)), ((i + k : Nat) : Int), addI i k hin2 hNM, ((i + k : Nat) : Int), addI i k hin2 hNM, i + k, ⟨rfl, hin2, ⟨_, rfl, rfl⟩⟩, _, hWA.load rfl rfl (hWA.getD hin2), ?_⟩
      refine CallS.mono (add64z _ _ how g4 _) ?_
      rintro _ _ ⟨rfl, z, c2, rfl, g7, g8, g9⟩
      obtain ⟨s1, s2, s3⟩ := mul_step hcy how g1 g3 g6 g9 hxw hyw g5
      refine ⟨i + k, ⟨rfl, hin2, ⟨_, rfl, rfl⟩⟩, storeWord rfl rfl hB (hA ▸ hin2), ?_⟩
      intro w4 hs
      obtain ⟨hB4, hg4, _⟩ := storedWord hs rfl hB
      refine ⟨_, addZ _ _ s2, ((k + 1 : Nat) : Int), addI1 k hkM hM4, (k + 1, _, _), ⟨rfl, rfl, rfl, rfl, rfl, rfl, rfl, rfl, rfl, rfl, rfl, rfl, trivial⟩,
        ⟨Ext.grownB hx3 hg4 hge, hB4, (List.length_set ..).trans hA, wd_set hWd g7, hkM, s2, hv.step hkM (hA ▸ Nat.add_le_add_right hi M) s3⟩, Nat.sub_lt_sub_left hkM (Nat.lt_succ_self k)⟩
    · obtain rfl : k = M := eq_of_nlt hk h2
      refine ⟨((i + k : Nat) : Int), by omega, i + k, ⟨rfl, by omega, ⟨_, rfl, rfl⟩⟩, storeWord rfl rfl hB (by omega), ?_⟩
      intro w4 hs
      obtain ⟨hB4, hg4, _⟩ := storedWord hs rfl hB
      refine ⟨((i + 1 : Nat) : Int), by omega, (i + 1, _), ⟨rfl, rfl, rfl, rfl, rfl, rfl, trivial⟩, ⟨Ext.grownB hx3 hg4 hge, hB4, by simpa using hA, wd_set hWd hcy, by show i + 1 ≤ N; omega, ?_⟩, ?_⟩
      · exact hv.last hM (by omega)
      · show N - (i + 1) < N - i; omega
  · have e9 : i = N := eq_of_nlt hi h1
    rw [e9] at hv
    clear e9 h1
    have hWA := Words.blkAll hB hWd
    rw [hA] at hWA
    refine CallS.mono (trimmed_ok hWA (Nat.le_refl _) (by omega)) ?_
    rintro _ w4 ⟨rfl, rfl⟩
    have hval : val A = X * Y := by
      unfold MulAll at hv
      rw [val_take_all A _ (by omega), val_take_all (dig X) _ (by omega), val_dig] at hv
      exact hv
    have ht3 := hWA.trim
    have htl3 := hWA.trim_le
    rw [hval] at ht3 htl3 ⊢
    exact ⟨hx2, _, _, _, rfl, ht3, htl3, by omega⟩
end Go.Proofs.Ytpgagepleffjlaa
