/-
  Contracts of the stable sort of terms by place, of rows that are in order: nothing is moved, however many there are. Helpers; no statement of the program is proved here.
-/
import Derived.Test.YtlfdobjdlgebbaaK7
set_option maxRecDepth 100000
set_option linter.unusedSimpArgs false
set_option linter.unusedVariables false
namespace Go.Proofs.Ytlfdobjdlgebbaa
open Go Go.Tw Go.RowKit
attribute [local irreducible] LoadAt StoreOk Stored rawVC

theorem ltTo' {i n : Nat} (h : (i : Int) < (n : Int)) : i < n := by omega
theorem half {a b k : Nat} (h : (k : Int) = shrZ .u64 ((a + b : Nat) : Int) 1) : 2 * k ≤ a + b ∧ a + b ≤ 2 * k + 1 := by
  have e2 := shrZn (a + b) 1 (by omega)
  have e : (k : Int) = (((a + b) / 2 ^ 1 : Nat) : Int) := h.trans e2
  omega
/-- All in order. -/
abbrev AscT (ts : List TmR) : Prop := SP ts ts.length
theorem insAsc_ok {w : World} {g c n a b : Nat} {ts : List TmR} (hT : Tms w (some ⟨g, 0, none⟩) n ts) (hS : SP ts n) (hb : b ≤ n) (hn : n ≤ 1099511627776) (ha : a ≤ 1099511627776) :
    CallS Try.prog 135 #[.slice (some ⟨g, 0, none⟩) n c, .int .i64 (a : Int), .int .i64 (b : Int), fnV] w fun v w' => Ext w w' := by
  have hl := hT.len
  refine enter ttOk mixed (args := [.slice (some ⟨g, 0, none⟩) n c, .int .i64 (a : Int), .int .i64 (b : Int), fnV]) Try.func135 rfl (by kernel_rfl) (by kernel_rfl) rfl ?_
  refine ⟨((a + 1 : Nat) : Int), sucI a (by omega), ?_⟩
  refine ⟨Nat, fun x => [(0, .slice (some ⟨g, 0, none⟩) n c), (1, .int .i64 (a : Int)), (2, .int .i64 (b : Int)), (3, fnV), (8, .int .i64 (x : Int))],
    fun x w' => Ext w w' ∧ a + 1 ≤ x, fun x _ => b - x, ⟨a + 1, ⟨rfl, rfl, rfl, rfl, rfl, trivial⟩, Ext.rfl w, Nat.le_refl _⟩, ?_⟩
  rintro i w2 ⟨hx2, hi⟩
  refine And.intro (fun h1 => ?_) (fun h1 => ?_)
  · have hlt := ltTo' h1
    refine ⟨Unit, fun x => [(0, .slice (some ⟨g, 0, none⟩) n c), (1, .int .i64 (a : Int)), (2, .int .i64 (b : Int)), (3, fnV), (8, .int .i64 (i : Int)), (9, .int .i64 (i : Int))],
      fun x w' => Ext w w', fun x _ => 0, ⟨(), ⟨rfl, rfl, rfl, rfl, rfl, rfl, trivial⟩, hx2⟩, ?_⟩
    intro u w3 hx3
    have hT2 := hT.ext hx3
    refine ⟨sq 17, by kernel_rfl, ?_⟩
    refine And.intro (fun h2 => ?_) (fun h2 => ?_)
    · have hi1 : i < ts.length := by omega
      have hi0 : i - 1 < ts.length := by omega
      have hsub : ((i - 1 : Nat) : Int) = (i : Int) - 1 ∧ (-9223372036854775808 ≤ (i : Int) - 1 ∧ (i : Int) - 1 ≤ 9223372036854775807) := by omega
      refine ⟨i, ⟨rfl, by omega, ⟨_, rfl, rfl⟩⟩, _, hT2.load (ty := tT) (getD_some hi1) rfl rfl, ((i - 1 : Nat) : Int), hsub, i - 1, ⟨rfl, by omega, ⟨_, rfl, rfl⟩⟩, _, hT2.load (ty := tT) (getD_some hi0) rfl rfl, ?_⟩
      refine dcallV (.int .i64 (cmpZ (ky ts i) (ky ts (i - 1)))) (fun w' hw _ => NormC_ok _ _ w') ?_
      refine And.intro (fun h3 => ?_) (fun h3 => ?_)
      · exfalso
        have h4 := cmpZ_lss.1 h3
        have := hS (i - 1) i (by omega) (by omega)
        omega
      · intro w4 hx4 _
        exact ⟨((i + 1 : Nat) : Int), sucI i (by omega), i + 1, ⟨rfl, rfl, rfl, rfl, rfl, trivial⟩, ⟨Ext.trans' hx3 hx4, Nat.le_succ_of_le hi⟩, Nat.sub_lt_sub_left hlt (Nat.lt_succ_self i)⟩
    · exfalso; omega
  · exact hx2
theorem symAsc_ok {g c n : Nat} {ts : List TmR} (hl : ts.length = n) (hS : SP ts n) (hn : n ≤ 1099511627776) : ∀ (d : Nat) (w : World) (a m b : Nat), Tms w (some ⟨g, 0, none⟩) n ts → b - a ≤ d → a < m → m < b → b ≤ n →
    CallS Try.prog 136 #[.slice (some ⟨g, 0, none⟩) n c, .int .i64 (a : Int), .int .i64 (m : Int), .int .i64 (b : Int), fnV] w fun v w' => Ext w w' := by
  intro d
  induction d with
  | zero => intro w a m b hT hd h1 h2 h3; omega
  | succ d ih =>
    intro w a m b hT hd ham hmb hbn
    refine enter ttOk mixed (args := [.slice (some ⟨g, 0, none⟩) n c, .int .i64 (a : Int), .int .i64 (m : Int), .int .i64 (b : Int), fnV]) Try.func136 rfl (by kernel_rfl) (by kernel_rfl) rfl ?_
    have hsub : ((m - a : Nat) : Int) = (m : Int) - (a : Int) ∧ (-9223372036854775808 ≤ (m : Int) - (a : Int) ∧ (m : Int) - (a : Int) ≤ 9223372036854775807) := by omega
    refine ⟨((m - a : Nat) : Int), hsub, ?_⟩
    refine And.intro (fun h1 => ?_) (fun h1 => ?_)
    · have hma : m = a + 1 := by omega
      refine ⟨Nat, fun x => [(0, .slice (some ⟨g, 0, none⟩) n c), (1, .int .i64 (a : Int)), (2, .int .i64 (m : Int)), (3, .int .i64 (b : Int)), (4, fnV), (10, .int .i64 (m : Int)), (11, .int .i64 (x : Int))],
        fun x w' => Ext w w' ∧ m ≤ x ∧ x ≤ b, fun x _ => x, ⟨b, ⟨rfl, rfl, rfl, rfl, rfl, rfl, rfl, trivial⟩, Ext.rfl w, by omega, Nat.le_refl _⟩, ?_⟩
      rintro hi w2 ⟨hx2, hmh, hhb⟩
      refine And.intro (fun h3 => ?_) (fun h3 => ?_)
      · have hlt : m < hi := lt_of_ilt h3
        refine (midL hlt (show m + hi ≤ 4398046511104 by omega)).elim fun h hmid => ?_
        have hhl : h < ts.length := by have := hmid.2.1; omega
        have hal : a < ts.length := by omega
        have hT2 := hT.ext hx2
        refine ⟨((m + hi : Nat) : Int), hmid.2.2.2.2.1, ((m + hi : Nat) : Int), hmid.2.2.2.2.2, ((h : Nat) : Int), ⟨hmid.2.2.1, by omega⟩, ((h : Nat) : Int), hmid.2.2.2.1, ?_⟩
        refine ⟨sq 11, by kernel_rfl, h, ⟨rfl, by omega, ⟨_, rfl, rfl⟩⟩, _, hT2.load (ty := tT) (getD_some hhl) rfl rfl, a, ⟨rfl, by omega, ⟨_, rfl, rfl⟩⟩, _, hT2.load (ty := tT) (getD_some hal) rfl rfl, ?_⟩
        refine dcallV (.int .i64 (cmpZ (ky ts h) (ky ts a))) (fun w' hw _ => NormC_ok _ _ w') ?_
        refine And.intro (fun h4 => ?_) (fun h4 => ?_)
        · exfalso
          have h5 := cmpZ_lss.1 h4
          have := hS a h (by have := hmid.1; omega) (by omega)
          omega
        · intro w3 hx3 _
          exact ⟨h, ⟨rfl, rfl, rfl, rfl, rfl, rfl, rfl, trivial⟩, ⟨Ext.trans' hx2 hx3, hmid.1, by have := hmid.2.1; omega⟩, hmid.2.1⟩
      · refine ⟨Unit, fun x => [(0, .slice (some ⟨g, 0, none⟩) n c), (10, .int .i64 (m : Int)), (13, .int .i64 (a : Int))], fun _ w' => Ext w w', fun _ _ => 0, ⟨(), ⟨rfl, rfl, rfl, trivial⟩, hx2⟩, ?_⟩
        intro u w3 hx3
        refine ⟨((m - 1 : Nat) : Int), by omega, ?_⟩
        refine And.intro (fun h4 => ?_) (fun h4 => ?_)
        · exfalso; omega
        · exact hx3
    have hsub2 : ((b - m : Nat) : Int) = (b : Int) - (m : Int) ∧ (-9223372036854775808 ≤ (b : Int) - (m : Int) ∧ (b : Int) - (m : Int) ≤ 9223372036854775807) := by omega
    refine ⟨((b - m : Nat) : Int), hsub2, ?_⟩
    refine And.intro (fun h2 => ?_) (fun h2 => ?_)
    · have hbm : b = m + 1 := by omega
      refine ⟨Nat, fun x => [(0, .slice (some ⟨g, 0, none⟩) n c), (1, .int .i64 (a : Int)), (2, .int .i64 (m : Int)), (3, .int .i64 (b : Int)), (4, fnV), (14, .int .i64 (x : Int)), (15, .int .i64 (m : Int))],
        fun x w' => Ext w w' ∧ a ≤ x ∧ x ≤ m, fun x _ => m - x, ⟨a, ⟨rfl, rfl, rfl, rfl, rfl, rfl, rfl, trivial⟩, Ext.rfl w, Nat.le_refl _, by omega⟩, ?_⟩
      rintro lo w2 ⟨hx2, hal, hlm⟩
      refine And.intro (fun h3 => ?_) (fun h3 => ?_)
      · have hlt : lo < m := lt_of_ilt h3
        refine (midL hlt (show lo + m ≤ 4398046511104 by omega)).elim fun h hmid => ?_
        have hhl : h < ts.length := by have := hmid.2.1; omega
        have hml : m < ts.length := by omega
        have hT2 := hT.ext hx2
        refine ⟨((lo + m : Nat) : Int), hmid.2.2.2.2.1, ((lo + m : Nat) : Int), hmid.2.2.2.2.2, ((h : Nat) : Int), ⟨hmid.2.2.1, by omega⟩, ((h : Nat) : Int), hmid.2.2.2.1, ?_⟩
        refine ⟨sq 12, by kernel_rfl, m, ⟨rfl, by omega, ⟨_, rfl, rfl⟩⟩, _, hT2.load (ty := tT) (getD_some hml) rfl rfl, h, ⟨rfl, by omega, ⟨_, rfl, rfl⟩⟩, _, hT2.load (ty := tT) (getD_some hhl) rfl rfl, ?_⟩
        refine dcallV (.int .i64 (cmpZ (ky ts m) (ky ts h))) (fun w' hw _ => NormC_ok _ _ w') ?_
        refine And.intro (fun h4 => ?_) (fun h4 => ?_)
        · exfalso
          have h5 := cmpZ_lss.1 h4
          have := hS h m hmid.2.1 (by omega)
          omega
        · intro w3 hx3 _
          exact ⟨((h + 1 : Nat) : Int), sucI h (by have := hmid.2.1; omega), h + 1, ⟨rfl, rfl, rfl, rfl, rfl, rfl, rfl, trivial⟩, ⟨Ext.trans' hx2 hx3, by have := hmid.1; omega, hmid.2.1⟩, subLt2 hmid.1 hmid.2.1⟩
      · have e : lo = m := Nat.le_antisymm hlm (by omega)
        refine ⟨Unit, fun x => [(0, .slice (some ⟨g, 0, none⟩) n c), (14, .int .i64 (m : Int)), (17, .int .i64 (m : Int))], fun _ w' => Ext w w', fun _ _ => 0, ⟨(), ⟨rfl, congrArg (fun z : Nat => some (Value.int .i64 (z : Int))) e, rfl, trivial⟩, hx2⟩, ?_⟩
        intro u w3 hx3
        refine And.intro (fun h4 => ?_) (fun h4 => ?_)
        · exfalso; omega
        · exact hx3
    have hab : a < b := by omega
    refine (midL hab (show a + b ≤ 4398046511104 by omega)).elim fun mid hmid => ?_
    have hm1 := hmid.1
    have hm2 := hmid.2.1
    have hlow : a + 2 ≤ b := by omega
    have hma : a < mid := by
      have e := half hmid.2.2.1
      omega
    have hhalf := half hmid.2.2.1
    refine ⟨((a + b : Nat) : Int), hmid.2.2.2.2.1, ((a + b : Nat) : Int), hmid.2.2.2.2.2, ((mid : Nat) : Int), ⟨hmid.2.2.1, by omega⟩, ((mid : Nat) : Int), hmid.2.2.2.1, ?_⟩
    refine ⟨((mid + m : Nat) : Int), by omega, ?_⟩
    refine And.intro (fun h3 => ?_) (fun h3 => ?_)
    · -- m above mid
      have hmm : mid < m := by omega
      refine ⟨((mid + m - b : Nat) : Int), by omega, ?_⟩
      refine ⟨((mid + m - 1 : Nat) : Int), by omega, ?_⟩
      refine ⟨Nat, fun x => [(0, .slice (some ⟨g, 0, none⟩) n c), (1, .int .i64 (a : Int)), (2, .int .i64 (m : Int)), (3, .int .i64 (b : Int)), (4, fnV), (18, .int .i64 (mid : Int)), (19, .int .i64 ((mid + m : Nat) : Int)), (20, .int .i64 (x : Int)), (21, .int .i64 (mid : Int)), (22, .int .i64 ((mid + m - 1 : Nat) : Int))],
        fun x w' => Ext w w' ∧ (mid + m - b) ≤ x ∧ x ≤ mid, fun x _ => mid - x, ⟨(mid + m - b), ⟨rfl, rfl, rfl, rfl, rfl, rfl, rfl, rfl, rfl, rfl, trivial⟩, Ext.rfl w, Nat.le_refl _, by omega⟩, ?_⟩
      rintro lo w2 ⟨hx2, hlo, hlr⟩
      refine And.intro (fun h4 => ?_) (fun h4 => ?_)
      · have hlt : lo < mid := lt_of_ilt h4
        refine (midL hlt (show lo + mid ≤ 4398046511104 by omega)).elim fun h hq => ?_
        have hq1 := hq.1
        have hq2 := hq.2.1
        have hhl : h < ts.length := by omega
        have hpl : mid + m - 1 - h < ts.length := by omega
        have hT2 := hT.ext hx2
        refine ⟨((lo + mid : Nat) : Int), hq.2.2.2.2.1, ((lo + mid : Nat) : Int), hq.2.2.2.2.2, ((h : Nat) : Int), ⟨hq.2.2.1, by omega⟩, ((h : Nat) : Int), hq.2.2.2.1, ?_⟩
        refine ⟨sq 14, by kernel_rfl, ((mid + m - 1 - h : Nat) : Int), by omega, mid + m - 1 - h, ⟨rfl, by omega, ⟨_, rfl, rfl⟩⟩, _, hT2.load (ty := tT) (getD_some hpl) rfl rfl, h, ⟨rfl, by omega, ⟨_, rfl, rfl⟩⟩, _, hT2.load (ty := tT) (getD_some hhl) rfl rfl, ?_⟩
        refine dcallV (.int .i64 (cmpZ (ky ts (mid + m - 1 - h)) (ky ts h))) (fun w' hw _ => NormC_ok _ _ w') ?_
        refine And.intro (fun h5 => ?_) (fun h5 => ?_)
        · exfalso
          have h6 := cmpZ_lss.1 h5
          have := hS h (mid + m - 1 - h) (by omega) (by omega)
          omega
        · intro w3 hx3 _
          exact ⟨((h + 1 : Nat) : Int), sucI h (by omega), h + 1, ⟨rfl, rfl, rfl, rfl, rfl, rfl, rfl, rfl, rfl, rfl, trivial⟩, ⟨Ext.trans' hx2 hx3, by omega, by omega⟩, subLt2 hq1 hq2⟩
      · have e : lo = mid := Nat.le_antisymm hlr (by omega)
        refine ⟨(m : Int), by omega, ?_⟩
        refine And.intro (fun h5 => ?_) (fun h5 => ?_)
        rotate_left
        · exfalso; omega
        refine And.intro (fun h6 => ?_) (fun h6 => ?_)
        · exfalso; omega
        refine And.intro (fun h7 => ?_) (fun h7 => ?_)
        rotate_left
        · exfalso; omega
        refine And.intro (fun h8 => ?_) (fun h8 => ?_)
        · exfalso; omega
        refine And.intro (fun h9 => ?_) (fun h9 => ?_)
        rotate_left
        · exfalso; omega
        refine And.intro (fun h10 => ?_) (fun h10 => ?_)
        rotate_left
        · exfalso; omega
        refine CallS.mono (ih w2 mid m b (hT.ext hx2) (by omega) hmm hmb hbn) ?_
        rintro v w3 hx3
        exact Ext.trans' hx2 hx3
    · have hmm : m ≤ mid := by omega
      refine ⟨((mid + m - 1 : Nat) : Int), by omega, ?_⟩
      refine ⟨Nat, fun x => [(0, .slice (some ⟨g, 0, none⟩) n c), (1, .int .i64 (a : Int)), (2, .int .i64 (m : Int)), (3, .int .i64 (b : Int)), (4, fnV), (18, .int .i64 (mid : Int)), (19, .int .i64 ((mid + m : Nat) : Int)), (20, .int .i64 (x : Int)), (21, .int .i64 (m : Int)), (22, .int .i64 ((mid + m - 1 : Nat) : Int))],
        fun x w' => Ext w w' ∧ a ≤ x ∧ x ≤ m, fun x _ => m - x, ⟨a, ⟨rfl, rfl, rfl, rfl, rfl, rfl, rfl, rfl, rfl, rfl, trivial⟩, Ext.rfl w, Nat.le_refl _, by omega⟩, ?_⟩
      rintro lo w2 ⟨hx2, hlo, hlr⟩
      refine And.intro (fun h4 => ?_) (fun h4 => ?_)
      · have hlt : lo < m := lt_of_ilt h4
        refine (midL hlt (show lo + m ≤ 4398046511104 by omega)).elim fun h hq => ?_
        have hq1 := hq.1
        have hq2 := hq.2.1
        have hhl : h < ts.length := by omega
        have hpl : mid + m - 1 - h < ts.length := by omega
        have hT2 := hT.ext hx2
        refine ⟨((lo + m : Nat) : Int), hq.2.2.2.2.1, ((lo + m : Nat) : Int), hq.2.2.2.2.2, ((h : Nat) : Int), ⟨hq.2.2.1, by omega⟩, ((h : Nat) : Int), hq.2.2.2.1, ?_⟩
        refine ⟨sq 14, by kernel_rfl, ((mid + m - 1 - h : Nat) : Int), by omega, mid + m - 1 - h, ⟨rfl, by omega, ⟨_, rfl, rfl⟩⟩, _, hT2.load (ty := tT) (getD_some hpl) rfl rfl, h, ⟨rfl, by omega, ⟨_, rfl, rfl⟩⟩, _, hT2.load (ty := tT) (getD_some hhl) rfl rfl, ?_⟩
        refine dcallV (.int .i64 (cmpZ (ky ts (mid + m - 1 - h)) (ky ts h))) (fun w' hw _ => NormC_ok _ _ w') ?_
        refine And.intro (fun h5 => ?_) (fun h5 => ?_)
        · exfalso
          have h6 := cmpZ_lss.1 h5
          have := hS h (mid + m - 1 - h) (by omega) (by omega)
          omega
        · intro w3 hx3 _
          exact ⟨((h + 1 : Nat) : Int), sucI h (by omega), h + 1, ⟨rfl, rfl, rfl, rfl, rfl, rfl, rfl, rfl, rfl, rfl, trivial⟩, ⟨Ext.trans' hx2 hx3, by omega, by omega⟩, subLt2 hq1 hq2⟩
      · have e : lo = m := Nat.le_antisymm hlr (by omega)
        refine ⟨(mid : Int), by omega, ?_⟩
        refine And.intro (fun h5 => ?_) (fun h5 => ?_)
        · exfalso; omega
        refine And.intro (fun h7 => ?_) (fun h7 => ?_)
        rotate_left
        · exfalso; omega
        refine And.intro (fun h8 => ?_) (fun h8 => ?_)
        · have hc := ih w2 a m mid (hT.ext hx2) (by omega) ham (by omega) (by omega)
          rw [← e] at hc
          refine CallS.mono hc ?_
          rintro v w3 hx3
          refine And.intro (fun h9 => ?_) (fun h9 => ?_)
          · exfalso; omega
          · exact Ext.trans' hx2 hx3
        · refine And.intro (fun h9 => ?_) (fun h9 => ?_)
          · exfalso; omega
          · exact hx2
theorem stableAsc_ok {w : World} {g c n : Nat} {ts : List TmR} (hT : Tms w (some ⟨g, 0, none⟩) n ts) (hS : SP ts n) (hn : n ≤ 1099511627776) :
    CallS Try.prog 110 #[.slice (some ⟨g, 0, none⟩) n c, .int .i64 (n : Int), fnV] w fun v w' => Ext w w' := by
  have hl := hT.len
  refine enter ttOk mixed (args := [.slice (some ⟨g, 0, none⟩) n c, .int .i64 (n : Int), fnV]) Try.func110 rfl (by kernel_rfl) (by kernel_rfl) rfl ?_
  refine ⟨Nat × Nat, fun x => [(0, .slice (some ⟨g, 0, none⟩) n c), (1, .int .i64 (n : Int)), (2, fnV), (6, .int .i64 20), (7, .int .i64 (x.1 : Int)), (8, .int .i64 (x.2 : Int))],
    fun x w' => Ext w w' ∧ x.2 = x.1 + 20 ∧ x.1 ≤ n, fun x _ => n + 20 - x.2, ⟨(0, 20), ⟨rfl, rfl, rfl, rfl, rfl, rfl, trivial⟩, Ext.rfl w, rfl, Nat.zero_le _⟩, ?_⟩
  rintro ⟨a, b⟩ w2 ⟨hx2, hab, han⟩
  dsimp only at *
  refine And.intro (fun h1 => ?_) (fun h1 => ?_)
  · have hbn : b ≤ n := by omega
    refine CallS.mono (insAsc_ok (c := c) (hT.ext hx2) hS hbn hn (by omega)) ?_
    intro v w3 hx3
    exact ⟨((b + 20 : Nat) : Int), by omega, (b, b + 20), ⟨rfl, rfl, rfl, rfl, rfl, rfl, trivial⟩, ⟨Ext.trans' hx2 hx3, rfl, hbn⟩, by show n + 20 - (b + 20) < n + 20 - b; omega⟩
  · refine CallS.mono (insAsc_ok (c := c) (hT.ext hx2) hS (Nat.le_refl n) hn (by omega)) ?_
    intro v w3 hx3
    have hx3 := Ext.trans' hx2 hx3
    refine ⟨Nat, fun x => [(0, .slice (some ⟨g, 0, none⟩) n c), (1, .int .i64 (n : Int)), (2, fnV), (6, .int .i64 (x : Int))],
      fun x w' => Ext w w' ∧ 20 ≤ x ∧ x ≤ 2199023255552, fun x _ => 4398046511104 - x, ⟨20, ⟨rfl, rfl, rfl, rfl, trivial⟩, hx3, Nat.le_refl _, by omega⟩, ?_⟩
    rintro bs w4 ⟨hx4, hbs, hbs2⟩
    refine And.intro (fun h2 => ?_) (fun h2 => ?_)
    · have hlt : bs < n := ltTo' h2
      refine ⟨((2 * bs : Nat) : Int), by omega, ?_⟩
      refine ⟨Nat × Nat, fun x => [(0, .slice (some ⟨g, 0, none⟩) n c), (1, .int .i64 (n : Int)), (2, fnV), (6, .int .i64 (bs : Int)), (7, .int .i64 (x.1 : Int)), (8, .int .i64 (x.2 : Int))],
        fun x w' => Ext w w' ∧ x.2 = x.1 + 2 * bs ∧ x.1 ≤ n, fun x _ => n + 2 * bs - x.2, ⟨(0, 2 * bs), ⟨rfl, rfl, rfl, rfl, rfl, rfl, trivial⟩, hx4, by omega, Nat.zero_le _⟩, ?_⟩
      rintro ⟨a, b⟩ w5 ⟨hx5, hab, han⟩
      dsimp only at *
      refine And.intro (fun h3 => ?_) (fun h3 => ?_)
      · have hbn : b ≤ n := by omega
        refine ⟨((a + bs : Nat) : Int), by omega, ?_⟩
        refine CallS.mono (symAsc_ok (c := c) hl hS hn (b - a) w5 a (a + bs) b (hT.ext hx5) (Nat.le_refl _) (by omega) (by omega) hbn) ?_
        intro v w6 hx6
        exact ⟨((2 * bs : Nat) : Int), by omega, ((b + 2 * bs : Nat) : Int), by omega, (b, b + 2 * bs), ⟨rfl, rfl, rfl, rfl, rfl, rfl, trivial⟩, ⟨Ext.trans' hx5 hx6, rfl, hbn⟩, by show n + 2 * bs - (b + 2 * bs) < n + 2 * bs - b; omega⟩
      · refine ⟨((a + bs : Nat) : Int), by omega, ?_⟩
        refine And.intro (fun h4 => ?_) (fun h4 => ?_)
        · have hmn : a + bs < n := ltTo' h4
          refine CallS.mono (symAsc_ok (c := c) hl hS hn (n - a) w5 a (a + bs) n (hT.ext hx5) (Nat.le_refl _) (by omega) hmn (Nat.le_refl _)) ?_
          intro v w6 hx6
          exact ⟨((bs * 2 : Nat) : Int), by omega, bs * 2, ⟨rfl, rfl, rfl, rfl, trivial⟩, ⟨Ext.trans' hx5 hx6, by omega, by omega⟩, by show 4398046511104 - bs * 2 < 4398046511104 - bs; omega⟩
        · exact ⟨((bs * 2 : Nat) : Int), by omega, bs * 2, ⟨rfl, rfl, rfl, rfl, trivial⟩, ⟨hx5, by omega, by omega⟩, by show 4398046511104 - bs * 2 < 4398046511104 - bs; omega⟩
    · exact hx4
theorem SortAsc_ok {w : World} {g c n : Nat} {ts : List TmR} (hT : Tms w (some ⟨g, 0, none⟩) n ts) (hS : SP ts n) (hn : n ≤ 1099511627776) :
    CallS Try.prog 79 #[.slice (some ⟨g, 0, none⟩) n c, fnV] w fun v w' => Ext w w' := by
  refine enter ttOk mixed (args := [.slice (some ⟨g, 0, none⟩) n c, fnV]) Try.func79 rfl (by kernel_rfl) (by kernel_rfl) rfl ?_
  refine CallS.mono (stableAsc_ok (c := c) hT hS hn) ?_
  intro v w2 h
  exact h
end Go.Proofs.Ytlfdobjdlgebbaa
/-
  Contracts of the layer sparse: the one form. Helpers; no statement of the program is proved here.
-/
set_option maxRecDepth 100000
set_option linter.unusedSimpArgs false
set_option linter.unusedVariables false
namespace Go.Proofs.Ytlfdobjdlgebbaa
open Go Go.Tw Go.RowKit
attribute [local irreducible] LoadAt StoreOk Stored rawVC

def nK (k : Nat) : Nat := 1 + 21 * (k + 2)
theorem sgQ_zero {q : Rat} : sgQ q = 0 ↔ q = 0 := by
  unfold sgQ
  constructor
  · intro h
    by_cases h1 : q < 0
    · rw [if_pos h1] at h; cases h
    · rw [if_neg h1] at h
      by_cases h2 : 0 < q
      · rw [if_pos h2] at h; cases h
      · exact Rat.le_antisymm (Rat.not_lt.1 h2) (Rat.not_lt.1 h1)
  · intro h; subst h
    rw [if_neg Rat.lt_irrefl, if_neg Rat.lt_irrefl]
theorem accBase {k : Nat} {H : Hd} {base base' e : Nat} {w : World} {s : SlR} {zs : VL} (h : Acc k H base e w s zs) (hb : base' ≤ base) : Acc k H base' e w s zs := by
  obtain ⟨⟨ts, h1, h2⟩, h3⟩ := h
  refine ⟨⟨ts, ⟨h1.1, ?_⟩, h2⟩, h3⟩
  rcases h1.2 with h | ⟨g, cap, cur, he, hg, h⟩
  · exact .inl h
  · exact .inr ⟨g, cap, cur, he, Nat.le_trans hb hg, h⟩
theorem nilExit {w : World} {k base : Nat} {H : Hd} {xs : VL} (h : xs = []) : ∃ s : SlR, Value.slice none 0 0 = s.v ∧ Acc k H base tT w s (nrm xs) := ⟨⟨none, 0, 0⟩, rfl, by rw [h]; exact Acc.nil _ _ _ _ _⟩
theorem asc_of {k : Nat} {H : Hd} {w : World} {us : List TmR} {ys : VL} {n : Nat} (h : TsIn k H w us ys) (hs : SP us n) (hn : us.length = n) : Asc ys := by
  intro p q hpq hq
  have hl := h.length
  have e : ∀ j, j < ys.length → pl ys j = ky us j := by
    intro j hj
    obtain ⟨t, h1, h2, _⟩ := h.get (vget hj)
    unfold ky
    rw [List.getD_eq_getElem?_getD, h1]
    exact h2.symm
  rw [e p (by omega), e q hq]
  exact hs p q hpq (by omega)
theorem fitStep {k i0 i : Nat} {q x : Rat} (h : FitQ (1 + (i - i0) * (k + 2)) q) (hx : FitQ (k + 1) x) (hi : i0 ≤ i) : FitQ (1 + (i + 1 - i0) * (k + 2)) (q + x) := by
  have := FitQ.add h hx
  refine this.mono ?_
  rw [show i + 1 - i0 = (i - i0) + 1 by omega, Nat.add_mul]; omega
theorem fitLe {k i0 i n : Nat} (hi : i ≤ n) (hn : n ≤ 21) : 1 + (i - i0) * (k + 2) ≤ nK k := by
  unfold nK
  have : (i - i0) * (k + 2) ≤ 21 * (k + 2) := Nat.mul_le_mul_right _ (by omega)
  omega
theorem fitLe' {k i0 i : Nat} (h : i - i0 ≤ 21) : 1 + (i - i0) * (k + 2) ≤ nK k := by
  unfold nK
  have : (i - i0) * (k + 2) ≤ 21 * (k + 2) := Nat.mul_le_mul_right _ h
  omega
theorem ris_pl {ys : VL} (h : Ris ys) {i j : Nat} (hij : i < j) (hj : j < ys.length) : pl ys i < pl ys j := by
  have e : ∀ i (hi : i < ys.length), pl ys i = ys[i].1 := by
    intro i hi
    unfold pl
    rw [List.getD_eq_getElem?_getD, List.getElem?_eq_getElem hi]; rfl
  rw [e i (by omega), e j hj]
  exact List.pairwise_iff_getElem.1 h i j (by omega) hj hij
theorem grp {ys zs : VL} {i0 i : Nat} {q : Rat} (h : SumI ys zs i0 i q) (h21 : ys.length ≤ 21 ∨ Ris ys) : i - i0 ≤ 21 := by
  have := h.il
  rcases h21 with h21 | hr
  · omega
  · rcases Nat.lt_or_ge i (i0 + 2) with h' | h'
    · omega
    · exfalso
      have h1 := h.same (i0 + 1) (by omega) (by omega)
      have h2 := ris_pl hr (Nat.lt_succ_self i0) (by omega)
      have h2 : pl ys i0 < pl ys (i0 + 1) := h2
      omega
theorem nK_le {k : Nat} (h : k ≤ 1073741824) : nK k ≤ 137438953472 := by unfold nK; omega
theorem ltTo {i n : Nat} (h : (i : Int) < (n : Int)) : i < n := by omega
theorem geTo {i n : Nat} (h : ¬ (i : Int) < (n : Int)) : n ≤ i := by omega
theorem sucI' (j n : Nat) (h : j < n) (hn : n ≤ 21) : ((j + 1 : Nat) : Int) = ((j : Nat) : Int) + 1 ∧ (-9223372036854775808 ≤ ((j : Nat) : Int) + 1 ∧ ((j : Nat) : Int) + 1 ≤ 9223372036854775807) := by omega

/-- Norm; the answer lies in a row of its own. -/
theorem VNormA_ok {k : Nat} {H : Hd} {w : World} {r : SlR} {xs : VL} (hH : HB H w) (hx : InV k H w r xs) (hk : k ≤ 1073741824) (hn : xs.length ≤ 65536) (h21 : xs.length ≤ 21 ∨ Ris xs) :
    CallS Try.prog 24 #[r.v] w fun v w' => Ext w w' ∧ ∃ s : SlR, v = s.v ∧ Acc (nK k) H w.heap.size tT w' s (nrm xs) := by
  have hrn := hx.len
  obtain ⟨⟨ts, hT, hI⟩, hnc, hcm, hav⟩ := hx
  have hn40 : r.n ≤ 65536 := by omega
  have htsl := hT.len
  refine enter ttOk mixed (args := [r.v]) Try.func24 rfl (by kernel_rfl) (by kernel_rfl) rfl ?_
  refine CallS.mono (cloneT_own hT (by omega)) ?_
  rintro v w1 ⟨hx1, ho1⟩
  rcases Nat.eq_zero_or_pos r.n with h0 | h0
  · rw [h0] at ho1
    obtain ⟨a, c, rfl, hc⟩ := owns_zero5 ho1
    refine CallS.mono SortNil_ok ?_
    intro v w2 hw2
    refine ⟨Unit, fun x => [(3, .slice a 0 c), (4, .slice none 0 0), (5, .int .i64 0)], fun _ w' => w' = w1, fun _ _ => 0, ⟨(), ⟨rfl, rfl, rfl, trivial⟩, hw2⟩, ?_⟩
    intro u w3 hw3
    have hw3 : w3 = w1 := hw3
    refine And.intro (fun h1 => ?_) (fun h1 => ?_)
    · exfalso; omega
    · exact ⟨by rw [hw3]; exact hx1, nilExit (List.eq_nil_of_length_eq_zero (by omega))⟩
  obtain ⟨g, cap, R, rfl, hge, hB1, hncap, hcapm, htl⟩ := owns_blk5 ho1 h0
  have hsort : CallS Try.prog 79 #[.slice (some ⟨g, 0, none⟩) r.n cap, fnV] w1 fun v w' => w1.grownBy w' (some g) ∧ ∃ us, us.Perm ts ∧ SP us r.n ∧ Blk w' g tT (tcs us ++ R) ∧ ∃ ys : VL, ys.Perm xs ∧ TsIn k H w us ys ∧ (ys.length ≤ 21 ∨ Ris ys) := by
    rcases h21 with h21 | hr
    · refine CallS.mono (Sort_ok (c := cap) hB1 htl (by omega)) ?_
      rintro v w2 ⟨hg2, us, hP, hSP, hB2⟩
      obtain ⟨ys, hyp, hyI⟩ := TsIn.perm hP hI
      exact ⟨hg2, us, hP, hSP, hB2, ys, hyp, hyI, .inl (by rw [hyp.length_eq]; exact h21)⟩
    · have hT1 := Tms.blk hB1
      rw [htl] at hT1
      have hSP : SP ts r.n := by
        intro p q hpq hq
        have e : ∀ j, j < xs.length → ky ts j = pl xs j := by
          intro j hj
          obtain ⟨t, h1, h2, _⟩ := hI.get (vget hj)
          unfold ky
          rw [List.getD_eq_getElem?_getD, h1]
          exact h2
        rw [e p (by omega), e q (by omega)]
        exact Int.le_of_lt (ris_pl hr hpq (by omega))
      refine CallS.mono (SortAsc_ok (c := cap) hT1 hSP (by omega)) ?_
      intro v w2 hx
      exact ⟨Wr.ext (Wr.refl _ _) hx, ts, List.Perm.refl _, hSP, hB1.ext hx, xs, List.Perm.refl _, hI, .inr hr⟩
  refine CallS.mono hsort ?_
  rintro v w2 ⟨hg2, us, hP, hSP, hB2, ys, hyp, hyI, hy21⟩
  have hx2 : Ext w w2 := Ext.grownB hx1 hg2 hge
  have hul : us.length = r.n := by rw [hP.length_eq, htl]
  have hyl : ys.length = r.n := by rw [← hyI.length, hul]
  have hasc : Asc ys := asc_of hyI hSP hul
  have hg0 := hB2.lt
  refine ⟨Nat × SlR × VL, fun x => [(3, .slice (some ⟨g, 0, none⟩) r.n cap), (4, x.2.1.v), (5, .int .i64 (x.1 : Int))],
    fun x w' => Ext w w' ∧ Blk w' g tT (tcs us ++ R) ∧ g + 1 ≤ w'.heap.size ∧ Acc (nK k) (fun b => H b ∨ b = g) (g + 1) tT w' x.2.1 x.2.2 ∧ NormI ys x.2.2 x.1, fun x _ => r.n - x.1,
    ⟨(0, ⟨none, 0, 0⟩, []), ⟨rfl, rfl, rfl, trivial⟩, hx2, hB2, hg0, Acc.nil _ _ _ _ _, NormI.first ys⟩, ?_⟩
  rintro ⟨i, s, zs⟩ w3 ⟨hx3, hBg3, hg13, hA3, hN⟩
  dsimp only at *
  refine And.intro (fun h1 => ?_) (fun h1 => ?_)
  · have hin := ltTo h1
    have hiy : i < ys.length := by rw [hyl]; exact hin
    intro b6 w4 hb6
    have hg6 : g ≠ b6 := Nat.ne_of_lt (Nat.lt_of_lt_of_le hg13 (Nat.le_of_eq hb6.isNew.symm))
    have hs5 := storeQ (r := RatR.zero) hb6.toBlk (hb6.extFrom hx3) (hb6.ge hx3) rfl
    refine ⟨hs5.1, fun w5 hs5' => ?_⟩
    have h5 := hs5.2 w5 hs5'
    have hBg5 := Blk.grownN (hBg3.ext hb6.ext) h5.2.1 hg6
    have hA4 : Acc (nK k) (fun b => (H b ∨ b = g) ∨ b = b6) (g + 1) tT w4 s zs := (hA3.to (fun b hb => hb.elim .inl fun e => .inr (by rw [e]; exact Nat.le_of_eq hb6.isNew.symm))).ext hb6.ext
    have hA5 := hA4.grow h5.2.1 (.inr rfl) (fun e => by have := (hA3.own_lt e).1; have := hb6.isNew; omega)
    have hT5 := Tms.blk hBg5
    rw [hul] at hT5
    refine (hyI.get (vget hiy)).elim fun t0 d0 => ?_
    have hld := hT5.loadAt (T := tt) (ty := 3) (sz := 5) d0.1 rfl rfl
    rw [d0.2.1] at hld
    refine ⟨i, ⟨rfl, hin, ⟨_, rfl, rfl⟩⟩, _, hld, ?_⟩
    have hzl3 : zs.length ≤ 1099511627776 := by
      have := hN.len
      omega
    refine ⟨Nat × RatR × Rat, fun x => [(3, .slice (some ⟨g, 0, none⟩) r.n cap), (4, s.v), (5, .int .i64 (x.1 : Int)), (6, .pointer (some ⟨b6, 0, none⟩)), (7, .int .i64 (pl ys i))],
      fun x w' => Ext w w' ∧ Blk w' g tT (tcs us ++ R) ∧ g + 1 ≤ w'.heap.size ∧ b6 < w'.heap.size ∧ Blk w' b6 33 (rcs x.2.1) ∧ Acc (nK k) (fun b => (H b ∨ b = g) ∨ b = b6) (g + 1) tT w' s zs ∧ CanQ (rowH (fun b => (H b ∨ b = g) ∨ b = b6) s.v) w' x.2.1 x.2.2 ∧ FitQ (1 + (x.1 - i) * (k + 2)) x.2.2 ∧ SumI ys zs i x.1 x.2.2, fun x _ => r.n - x.1,
      ⟨(i, RatR.zero, 0), ⟨rfl, rfl, rfl, rfl, rfl, trivial⟩, h5.2.2, hBg5, Nat.le_trans hg13 (Nat.le_trans hb6.ext.size h5.2.1.size), Nat.lt_of_lt_of_le hb6.lt h5.2.1.size, h5.1, hA5, CanQ.zero _ _, FitQ.zero (Nat.le_add_right _ _), hN.sum hiy⟩, ?_⟩
    clear hBg5 hA5 hT5 hld h5 hs5 hs5' hA4
    rintro ⟨i', rr, q⟩ w6 ⟨hx6, hBg, hg1, hb61, hB6, hA, hq, hf, hS⟩
    dsimp only at *
    have hzl := hzl3
    have hne6 : s.v.ownBlock ≠ some b6 := fun e => by have := (hA3.own_lt e).1; have := hb6.isNew; omega
    have hHs : HB (rowH (fun b => (H b ∨ b = g) ∨ b = b6) s.v) w6 := by
      intro b hb
      rcases hb with ((hb | hb) | hb) | hb
      · exact Nat.lt_of_lt_of_le (hH b hb) hx6.size
      · rw [hb]; exact hg1
      · rw [hb]; exact hb61
      · exact (hA.own_lt hb).1
    refine And.intro (fun h2 => ?_) (fun h2 => ?_)
    · have hin' := ltTo h2
      have hiy' : i' < ys.length := by rw [hyl]; exact hin'
      have hT6 := Tms.blk hBg
      rw [hul] at hT6
      refine (hyI.get (vget hiy')).elim fun t d => ?_
      have hld := hT6.loadAt (T := tt) (ty := 3) (sz := 5) d.1 rfl rfl
      rw [d.2.1] at hld
      refine ⟨i', ⟨rfl, hin', ⟨_, rfl, rfl⟩⟩, _, hld, ?_⟩
      refine And.intro (fun h3 => ?_) (fun h3 => ?_)
      · have hX := hT6.loadX (T := tt) (ty := 33) (sz := 5) d.1 rfl rfl
        have hXi : InQ 137438953472 (rowH (fun b => (H b ∨ b = g) ∨ b = b6) s.v) w6 t.x (xl ys i') := by
          refine ((d.2.2.to (H' := rowH (fun b => (H b ∨ b = g) ∨ b = b6) s.v) fun b hb => ?_).ext hx6).mono (by omega)
          rcases hb with ((hb | hb) | hb) | hb
          · exact .inl hb
          · rw [hb]; exact .inr hge
          · rw [hb]; exact .inr (hb6.ge hx3)
          · exact .inr (by have := (hA.own_lt hb).2; omega)
        have hqi := hq.inq (hf.mono (Nat.le_trans (fitLe' (grp hS hy21)) (nK_le hk))) (by omega)
        refine ⟨sq 8, by kernel_rfl, rr.v, loadQ hB6, i', ⟨rfl, hin', ⟨_, rfl, rfl⟩⟩, t.x.v, hX, ?_⟩
        refine dcallR (mk := RatR.v) (Q := fun r w' => CanQ (rowH (fun b => (H b ∨ b = g) ∨ b = b6) s.v) w' r (q + xl ys i')) RatR.inj (fun _ => CanQ.stable) (fun w' hw _ => RAdd_ok (HB.ext hHs hw) (hqi.ext hw) (hXi.ext hw)) ?_
        intro rn w7 hx7 hF7
        have hs8 := storeQ (r := rn) (hB6.ext hx7) (Ext.trans' hx6 hx7) (hb6.ge hx3) rfl
        refine ⟨hs8.1, fun w8 hs8' => ?_⟩
        have h8 := hs8.2 w8 hs8'
        intro w9 hx9 _
        have hq9 := (hF7.1.far h8.2.1 (.inl (.inr rfl))).ext hx9
        have hA9 := ((hA.ext hx7).grow h8.2.1 (.inr rfl) hne6).ext hx9
        have hBg9 := (Blk.grownN (hBg.ext hx7) h8.2.1 hg6).ext hx9
        have hsz := Nat.le_trans hx7.size (Nat.le_trans h8.2.1.size hx9.size)
        have hfx := fitStep hf (d.2.2.fit) hS.ge
        exact ⟨((i' + 1 : Nat) : Int), sucI i' (by omega), (i' + 1, rn, q + xl ys i'), ⟨rfl, rfl, rfl, rfl, rfl, trivial⟩, ⟨Ext.trans' h8.2.2 hx9, hBg9, Nat.le_trans hg1 hsz, Nat.lt_of_lt_of_le hb61 hsz, h8.1.ext hx9, hA9, hq9, hfx, hS.step hiy' h3⟩, Nat.sub_lt_sub_left hin' (Nat.lt_succ_self i')⟩
      · have hout := hS.out hasc (.inr ⟨hiy', h3⟩)
        refine ⟨rr.v, loadQ hB6, ?_⟩
        refine CallS.mono (RSign_ok (HB.ext hHs (Ext.rfl _)) (hq.is (hf.mono (Nat.le_trans (fitLe' (grp hS hy21)) (Nat.le_trans (nK_le hk) (by omega)))))) ?_
        rintro _ w8 ⟨hx8, rfl⟩
        have hx08 := Ext.trans' hx6 hx8
        refine And.intro (fun h7 => ?_) (fun h7 => ?_)
        · have hq0 : q ≠ 0 := fun h => h7 (sgQ_zero.2 h)
          refine ⟨rr.v, loadQ (hB6.ext hx8), ?_⟩
          intro b9 w9 hb9
          have hb9 : New w8 w9 b9 tT (tcs [⟨pl ys i, rr⟩]) := hb9
          have hA9 := (hA.ext hx8).ext hb9.ext
          have hq9 := (hq.ext hx8).ext hb9.ext
          have hx09 := hb9.extFrom hx08
          refine hA9.ts.elim fun ts0 d => ?_
          refine ⟨rfl, g + 1, zs.length, tcs ts0, tcs [⟨pl ys i, rr⟩], ⟨d.1, rfl, ?_, tcs_mem_one _, fun _ => ⟨_, rfl, rfl⟩, ?_, ?_, ?_⟩, ?_⟩
          · intro j v hj
            have := hb9.toBlk.cell (i := 0 + j) (v := v) (by rw [Nat.zero_add]; exact hj)
            exact this
          · have := hzl; omega
          · show (zs.length + 1) * 72 ≤ _; have := hzl; omega
          · exact Nat.le_trans hg1 (Nat.le_trans hx8.size hb9.ext.size)
          intro v' w10 ho10 hg10 hn10
          have hq10 : CanQ (rowH (fun b => (H b ∨ b = g) ∨ b = b6) s.v) w9 rr q := hq9
          have ho10 : w10.ownsRow (g + 1) tT 5 v' (zs.length + 1) (tcs ts0 ++ (TmR.mk (pl ys i) rr).cs) := by rw [tcs_one] at ho10; exact ho10
          refine (Acc.push (t := ⟨pl ys i, rr⟩) (p := (pl ys i, q)) d.1 d.2 ho10 hg10 hn10 rfl hq10 (hf.mono (fitLe' (grp hS hy21)))).elim fun s' d' => ?_
          have hown : ∀ b, s.v.ownBlock = some b → g + 1 ≤ b := fun b hb => (hA9.own_lt hb).2
          have hx10 : Ext w w10 := Ext.grown hx09 hg10 (fun b hb => by have := hown b hb; omega)
          have hBg10 := Blk.grown (hBg.ext (Ext.trans' hx8 hb9.ext)) hg10 (by intro e; have := hown g e.symm; omega)
          exact ⟨(i', s', zs ++ [(pl ys i, q)]), ⟨rfl, congrArg some d'.1, rfl, trivial⟩, ⟨hx10, hBg10, Nat.le_trans hg1 (Nat.le_trans hx8.size (Nat.le_trans hb9.ext.size hg10.size)), d'.2.to (fun b hb => .inl (.inl hb)), hS.push hq0 hout⟩, by have := hout.1; have := hS.il; have := hyl; show r.n - i' < r.n - i; omega⟩
        · have hq0 : q = 0 := sgQ_zero.1 (Classical.not_not.1 h7)
          exact ⟨(i', s, zs), ⟨rfl, rfl, rfl, trivial⟩, ⟨hx08, hBg.ext hx8, Nat.le_trans hg1 hx8.size, (hA.ext hx8).to (fun b hb => .inl (.inl hb)), hS.keep hq0 hout.1⟩, by have := hout.1; have := hS.il; have := hyl; show r.n - i' < r.n - i; omega⟩
    · have hout := hS.out hasc (.inl (Nat.le_antisymm hS.il (by rw [hyl]; exact geTo h2)))
      refine ⟨rr.v, loadQ hB6, ?_⟩
      refine CallS.mono (RSign_ok (HB.ext hHs (Ext.rfl _)) (hq.is (hf.mono (Nat.le_trans (fitLe' (grp hS hy21)) (Nat.le_trans (nK_le hk) (by omega)))))) ?_
      rintro _ w8 ⟨hx8, rfl⟩
      have hx08 := Ext.trans' hx6 hx8
      refine And.intro (fun h7 => ?_) (fun h7 => ?_)
      · have hq0 : q ≠ 0 := fun h => h7 (sgQ_zero.2 h)
        refine ⟨rr.v, loadQ (hB6.ext hx8), ?_⟩
        intro b9 w9 hb9
        have hb9 : New w8 w9 b9 tT (tcs [⟨pl ys i, rr⟩]) := hb9
        have hA9 := (hA.ext hx8).ext hb9.ext
        have hq9 := (hq.ext hx8).ext hb9.ext
        have hx09 := hb9.extFrom hx08
        refine hA9.ts.elim fun ts0 d => ?_
        refine ⟨rfl, g + 1, zs.length, tcs ts0, tcs [⟨pl ys i, rr⟩], ⟨d.1, rfl, ?_, tcs_mem_one _, fun _ => ⟨_, rfl, rfl⟩, ?_, ?_, ?_⟩, ?_⟩
        · intro j v hj
          have := hb9.toBlk.cell (i := 0 + j) (v := v) (by rw [Nat.zero_add]; exact hj)
          exact this
        · have := hzl; omega
        · show (zs.length + 1) * 72 ≤ _; have := hzl; omega
        · exact Nat.le_trans hg1 (Nat.le_trans hx8.size hb9.ext.size)
        intro v' w10 ho10 hg10 hn10
        have hq10 : CanQ (rowH (fun b => (H b ∨ b = g) ∨ b = b6) s.v) w9 rr q := hq9
        have ho10 : w10.ownsRow (g + 1) tT 5 v' (zs.length + 1) (tcs ts0 ++ (TmR.mk (pl ys i) rr).cs) := by rw [tcs_one] at ho10; exact ho10
        refine (Acc.push (t := ⟨pl ys i, rr⟩) (p := (pl ys i, q)) d.1 d.2 ho10 hg10 hn10 rfl hq10 (hf.mono (fitLe' (grp hS hy21)))).elim fun s' d' => ?_
        have hown : ∀ b, s.v.ownBlock = some b → g + 1 ≤ b := fun b hb => (hA9.own_lt hb).2
        have hx10 : Ext w w10 := Ext.grown hx09 hg10 (fun b hb => by have := hown b hb; omega)
        have hBg10 := Blk.grown (hBg.ext (Ext.trans' hx8 hb9.ext)) hg10 (by intro e; have := hown g e.symm; omega)
        exact ⟨(i', s', zs ++ [(pl ys i, q)]), ⟨rfl, congrArg some d'.1, rfl, trivial⟩, ⟨hx10, hBg10, Nat.le_trans hg1 (Nat.le_trans hx8.size (Nat.le_trans hb9.ext.size hg10.size)), d'.2.to (fun b hb => .inl (.inl hb)), hS.push hq0 hout⟩, by have := hout.1; have := hS.il; have := hyl; show r.n - i' < r.n - i; omega⟩
      · have hq0 : q = 0 := sgQ_zero.1 (Classical.not_not.1 h7)
        exact ⟨(i', s, zs), ⟨rfl, rfl, rfl, trivial⟩, ⟨hx08, hBg.ext hx8, Nat.le_trans hg1 hx8.size, (hA.ext hx8).to (fun b hb => .inl (.inl hb)), hS.keep hq0 hout.1⟩, by have := hout.1; have := hS.il; have := hyl; show r.n - i' < r.n - i; omega⟩
  · have hin := geTo h1
    have hd := hN.done (by rw [hyl]; exact hin)
    have he : zs = nrm xs := nrm_eq hd.1 fun p => by rw [hd.2.1, getL_perm hyp]
    rw [he] at hA3
    exact ⟨hx3, s, rfl, accBase (hA3.to (fun b hb => .inl (.inl hb))) (Nat.le_trans hge (Nat.le_succ g))⟩
theorem VNorm_ok {k : Nat} {H : Hd} {w : World} {r : SlR} {xs : VL} (hH : HB H w) (hx : InV k H w r xs) (hk : k ≤ 1073741824) (hn : xs.length ≤ 21) :
    CallS Try.prog 24 #[r.v] w fun v w' => Ext w w' ∧ ∃ s : SlR, v = s.v ∧ CanV (nK k) H w' s (nrm xs) := by
  refine CallS.mono (VNormA_ok hH hx hk (by omega) (.inl hn)) ?_
  rintro _ w' ⟨hx, s, rfl, h⟩
  exact ⟨hx, s, rfl, h.out hH⟩
theorem VNormR_ok {k : Nat} {H : Hd} {w : World} {r : SlR} {xs : VL} (hH : HB H w) (hx : InV k H w r xs) (hk : k ≤ 1073741824) (hn : xs.length ≤ 65536) (h21 : xs.length ≤ 21 ∨ Ris xs) :
    CallS Try.prog 24 #[r.v] w fun v w' => Ext w w' ∧ ∃ s : SlR, v = s.v ∧ CanV (nK k) H w' s (nrm xs) := by
  refine CallS.mono (VNormA_ok hH hx hk hn h21) ?_
  rintro _ w' ⟨hx, s, rfl, h⟩
  exact ⟨hx, s, rfl, h.out hH⟩
end Go.Proofs.Ytlfdobjdlgebbaa
/-
  Contracts of the layer sparse: in order or not, and a term told. Helpers; no statement of the program is proved here.
-/
set_option maxRecDepth 100000
set_option linter.unusedSimpArgs false
set_option linter.unusedVariables false
namespace Go.Proofs.Ytlfdobjdlgebbaa
open Go Go.Tw Go.RowKit
attribute [local irreducible] LoadAt StoreOk Stored rawVC

theorem ris_of {xs : VL} (h : ∀ j, j + 1 < xs.length → pl xs j < pl xs (j + 1)) : Ris xs := by
  have key : ∀ d j, j + d + 1 < xs.length → pl xs j < pl xs (j + d + 1) := by
    intro d
    induction d with
    | zero => exact fun j hj => h j hj
    | succ d ih => exact fun j hj => Int.lt_trans (ih j (by omega)) (h (j + d + 1) hj)
  unfold Ris
  rw [List.pairwise_iff_getElem]
  intro i j hi hj hij
  obtain ⟨d, rfl⟩ : ∃ d, j = i + d + 1 := ⟨j - i - 1, by omega⟩
  have := key d i hj
  unfold pl at this
  rw [List.getD_eq_getElem?_getD, List.getD_eq_getElem?_getD, List.getElem?_eq_getElem hi, List.getElem?_eq_getElem hj] at this
  exact this
theorem ris_at {xs : VL} (h : Ris xs) {j : Nat} (hj : j + 1 < xs.length) : pl xs j < pl xs (j + 1) := by
  unfold Ris at h
  rw [List.pairwise_iff_getElem] at h
  have := h j (j + 1) (by omega) hj (by omega)
  unfold pl
  rw [List.getD_eq_getElem?_getD, List.getD_eq_getElem?_getD, List.getElem?_eq_getElem (by omega), List.getElem?_eq_getElem hj]
  exact this
theorem predI (j : Nat) (h1 : 1 ≤ j) (h : j ≤ 4398046511104) : ((j - 1 : Nat) : Int) = ((j : Nat) : Int) - 1 ∧ (-9223372036854775808 ≤ ((j : Nat) : Int) - 1 ∧ ((j : Nat) : Int) - 1 ≤ 9223372036854775807) := by omega
theorem rising_ok {k : Nat} {H : Hd} {w : World} {r : SlR} {xs : VL} (hx : InV k H w r xs) (hn : xs.length ≤ 1099511627776) :
    CallS Try.prog 105 #[r.v] w fun v w' => Ext w w' ∧ ∃ b : Bool, v = .bool b ∧ (b = true ↔ Ris xs) := by
  have hrn := hx.len
  obtain ⟨⟨ts, hT, hI⟩, hnc, hcm, hav⟩ := hx
  refine enter ttOk mixed (args := [r.v]) Try.func105 rfl (by kernel_rfl) (by kernel_rfl) rfl ?_
  refine ⟨Nat, fun x => [(0, r.v), (3, .int .i64 (x : Int))], fun x w' => Ext w w' ∧ 1 ≤ x ∧ ∀ j, j + 1 < x → j + 1 < xs.length → pl xs j < pl xs (j + 1), fun x _ => r.n + 1 - x, ⟨1, ⟨rfl, rfl, trivial⟩, Ext.rfl w, Nat.le_refl _, fun j h => by omega⟩, ?_⟩
  rintro i w2 ⟨hx2, hi1, hs⟩
  dsimp only at *
  refine And.intro (fun h1 => ?_) (fun h1 => ?_)
  · have hin := ltTo h1
    have hi0 : i - 1 < r.n := by omega
    have hT2 := hT.ext hx2
    have hb := hT.base (by omega)
    refine (hI.get (vget (show i - 1 < xs.length by omega))).elim fun t d => ?_
    refine (hI.get (vget (show i < xs.length by omega))).elim fun u e => ?_
    have l1 := hT2.loadAt (T := tt) (ty := 3) (sz := 5) d.1 rfl rfl
    have l2 := hT2.loadAt (T := tt) (ty := 3) (sz := 5) e.1 rfl rfl
    rw [d.2.1] at l1
    rw [e.2.1] at l2
    refine ⟨sq 12, by kernel_rfl, ((i - 1 : Nat) : Int), predI i hi1 (by omega), i - 1, ⟨rfl, hi0, hb⟩, _, l1, i, ⟨rfl, hin, hb⟩, _, l2, ?_⟩
    have hi2 : i - 1 + 1 = i := by omega
    refine And.intro (fun h2 => ?_) (fun h2 => ?_)
    · intro w3 hx3 _
      refine ⟨Ext.trans' hx2 hx3, false, rfl, ⟨fun h => (by cases h), fun h => ?_⟩⟩
      have := ris_at h (j := i - 1) (by omega)
      rw [hi2] at this
      have h2 : pl xs (i - 1) ≥ pl xs i := h2
      omega
    · intro w3 hx3 _
      have h2 : ¬ pl xs (i - 1) ≥ pl xs i := h2
      exact ⟨((i + 1 : Nat) : Int), sucI i (by omega), i + 1, ⟨rfl, rfl, trivial⟩, ⟨Ext.trans' hx2 hx3, Nat.le_succ_of_le hi1, fun j hj hj2 => by
        by_cases hji : j = i - 1
        · rw [hji, hi2]; omega
        · exact hs j (by omega) hj2⟩, by show r.n + 1 - (i + 1) < r.n + 1 - i; omega⟩
  · have hin := geTo h1
    exact ⟨hx2, true, rfl, ⟨fun _ => ris_of fun j hj => hs j (by omega) hj, fun _ => rfl⟩⟩
/-- The same, by rising places. -/
noncomputable def srt (xs : VL) : VL := @ite _ (Ris xs) (Classical.propDecidable _) xs (nrm xs)
theorem srt_ris (xs : VL) : Ris (srt xs) := by
  unfold srt; split
  · assumption
  · exact (nrm_cn xs).ris
theorem srt_get (xs : VL) (p : Int) : getL (srt xs) p = getL xs p := by
  unfold srt; split
  · rfl
  · exact nrm_get xs p
theorem srt_len (xs : VL) : (srt xs).length ≤ xs.length := by
  unfold srt; split
  · exact Nat.le_refl _
  · exact nrm_len xs
/-- May be put in order. -/
def Ok21 (xs : VL) : Prop := xs.length ≤ 21 ∨ Ris xs
theorem k_le_nK (k : Nat) : k ≤ nK k := by unfold nK; omega
theorem sorted_ok {k : Nat} {H : Hd} {w : World} {r : SlR} {xs : VL} (hH : HB H w) (hx : InV k H w r xs) (hk : k ≤ 1073741824) (hn : xs.length ≤ 1099511627776) (h21 : Ok21 xs) :
    CallS Try.prog 74 #[r.v] w fun v w' => Ext w w' ∧ ∃ s : SlR, v = s.v ∧ InV (nK k) H w' s (srt xs) := by
  refine enter ttOk mixed (args := [r.v]) Try.func74 rfl (by kernel_rfl) (by kernel_rfl) rfl ?_
  refine CallS.mono (rising_ok hx hn) ?_
  rintro _ w2 ⟨hx2, b, rfl, hb⟩
  cases b
  · have hnr : ¬ Ris xs := fun h => by have := hb.2 h; cases this
    have e : srt xs = nrm xs := by unfold srt; exact if_neg hnr
    have hl : xs.length ≤ 21 := h21.elim id fun h => absurd h hnr
    refine CallS.mono (VNorm_ok (HB.ext hH hx2) (hx.ext hx2) hk hl) ?_
    rintro _ w3 ⟨hx3, s, rfl, hs⟩
    rw [e]
    exact ⟨Ext.trans' hx2 hx3, s, rfl, hs.inv (Nat.le_trans (nK_le hk) (by omega))⟩
  · have e : srt xs = xs := by unfold srt; exact if_pos (hb.1 rfl)
    rw [e]
    exact ⟨hx2, r, rfl, (hx.ext hx2).mono (k_le_nK k)⟩
/-- A term told to a vector that lies in a cell. -/
theorem putC_ok {K : Nat} {H : Hd} {w : World} {b base : Nat} {s : SlR} {zs : VL} {x : RatR} {q : Rat} (at' : Int) (hHs : HB (rowH H s.v) w) (hb : Blk w b 25 [s.v]) (hA : Acc K H base tT w s zs) (hHb : H b) (hbb : b < base) (hbw : base ≤ w.heap.size) (hq : CanQ (rowH H s.v) w x q) (hf : FitQ K q) (hK : K ≤ 1099511627776) (hl : zs.length ≤ 1099511627775) :
    CallS Try.prog 75 #[.int .i64 at', x.v, .pointer (some ⟨b, 0, none⟩)] w fun v w' => Below b w w' ∧ w.heap.size ≤ w'.heap.size ∧ ∃ s' : SlR, Blk w' b 25 [s'.v] ∧ Acc K H base tT w' s' (putL zs at' q) := by
  have hown : ∀ c, s.v.ownBlock = some c → base ≤ c := fun c hc => (hA.own_lt hc).2
  refine enter ttOk mixed (args := [.int .i64 at', x.v, .pointer (some ⟨b, 0, none⟩)]) Try.func75 rfl (by kernel_rfl) (by kernel_rfl) rfl ?_
  intro b4 w1 hb4
  have hX : Blk w1 b4 33 (rcs x) := hb4.toBlk
  have hq1 := hq.up hb4.ext
  refine ⟨x.v, loadQ hX, ?_⟩
  refine CallS.mono (RSign_ok (hHs.up hb4.ext) (hq1.is (hf.mono hK))) ?_
  rintro _ w2 ⟨hx2, rfl⟩
  have hx02 := Ext.trans' hb4.ext hx2
  refine And.intro (fun h1 => ?_) (fun h1 => ?_)
  · have hq0 : q ≠ 0 := fun h => h1 (sgQ_zero.2 h)
    have hB2 := hb.ext hx02
    refine ⟨s.v, hB2.one (off := 0) rfl rfl, x.v, loadQ (hX.ext hx2), ?_⟩
    intro b3 w3 hb3
    have hb3 : New w2 w3 b3 tT (tcs [⟨at', x⟩]) := hb3
    have hx03 := hb3.extFrom hx02
    have hA3 := hA.ext hx03
    refine hA3.ts.elim fun ts0 d => ?_
    refine ⟨rfl, base, zs.length, tcs ts0, tcs [⟨at', x⟩], ⟨d.1, rfl, ?_, tcs_mem_one _, fun _ => ⟨_, rfl, rfl⟩, by omega, by show (zs.length + 1) * 72 ≤ _; omega, Nat.le_trans hbw hx03.size⟩, ?_⟩
    · intro j v hj
      have := hb3.toBlk.cell (i := 0 + j) (v := v) (by rw [Nat.zero_add]; exact hj)
      exact this
    intro v' w4 ho4 hg4 hn4
    have ho4 : w4.ownsRow base tT 5 v' (zs.length + 1) (tcs ts0 ++ (TmR.mk at' x).cs) := by rw [tcs_one] at ho4; exact ho4
    refine (Acc.push (t := ⟨at', x⟩) (p := (at', q)) d.1 d.2 ho4 hg4 hn4 rfl (hq.ext hx03) hf).elim fun s' d' => ?_
    have hB4 : Blk w4 b 25 [s.v] := Blk.grown (hb.ext hx03) hg4 (by intro e; have := hown b e.symm; omega)
    rw [d'.1]
    refine ⟨storeOk (v := s'.v) rfl rfl hB4 (Nat.le_refl _), fun w5 hs5 => ?_⟩
    have hB5 : Blk w5 b 25 [s'.v] := Stored.blk hs5 hB4
    have hg5 := (Stored.grown hs5).1
    have hA5 := d'.2.grow hg5 hHb (fun e => by have := (d'.2.own_lt e).2; omega)
    have e : putL zs at' q = zs ++ [(at', q)] := if_neg hq0
    rw [e]
    refine ⟨?_, ?_, s', hB5, hA5⟩
    · have h3 : Below b w w3 := Below.mono hx03 (by have := hb.lt; omega)
      have h4 : Below b w3 w4 := ⟨hg4.os, hg4.tape, hg4.output, hg4.size, fun i hi => hg4.block i (by have := hb.lt; have := hx03.size; omega) (fun e => by have := hown i e.symm; omega)⟩
      have h5 : Below b w4 w5 := ⟨hg5.os, hg5.tape, hg5.output, hg5.size, fun i hi => hg5.block i (by have := hB4.lt; omega) (fun e => by have := Option.some.inj e; omega)⟩
      exact Below.trans (Below.trans h3 h4) h5
    · exact Nat.le_trans hx03.size (Nat.le_trans hg4.size hg5.size)
  · have hq0 : q = 0 := sgQ_zero.1 (Classical.not_not.1 h1)
    have e : putL zs at' q = zs := if_pos hq0
    rw [e]
    exact ⟨Below.mono hx02 (by have := hb.lt; omega), hx02.size, s, hb.ext hx02, hA.ext hx02⟩
end Go.Proofs.Ytlfdobjdlgebbaa
/-
  Contracts of the layer sparse: one, and a multiple of another one. Helpers; no statement of the program is proved here.
-/
set_option maxRecDepth 100000
set_option linter.unusedSimpArgs false
set_option linter.unusedVariables false
namespace Go.Proofs.Ytlfdobjdlgebbaa
open Go Go.Tw Go.RowKit
attribute [local irreducible] LoadAt StoreOk Stored rawVC

def aK (k : Nat) : Nat := 4 * nK k + 8
theorem Ext.below {w0 w w' : World} {b : Nat} (h : Ext w0 w) (k : Below b w w') (hb : w0.heap.size ≤ b) : Ext w0 w' := Below.trans h (Below.mono k hb)
theorem InV.head {k : Nat} {H : Hd} {w : World} {r : SlR} {t : Int × Rat} {xs : VL} (h : InV k H w r (t :: xs)) : 0 < r.n ∧ okB r.a ∧ ∃ u : TmR, LoadAt tt w 3 ⟨Tw.blk r.a, ofs r.a + 0 * 5 + 0, none⟩ (.int .i64 t.1) ∧ LoadAt tt w 33 ⟨Tw.blk r.a, ofs r.a + 0 * 5 + 1, none⟩ u.x.v ∧ InQ k H w u.x t.2 := by
  have hl := h.len
  obtain ⟨⟨ts, hT, hI⟩, _, _, _⟩ := h
  have hn : 0 < r.n := by rw [hl]; exact Nat.succ_pos _
  obtain ⟨u, h1, h2, h3⟩ := hI.get (j := 0) rfl
  have l1 := hT.loadAt (T := tt) (ty := 3) (sz := 5) h1 rfl rfl
  rw [h2] at l1
  exact ⟨hn, hT.base hn, u, l1, hT.loadX (T := tt) (ty := 33) (sz := 5) h1 rfl rfl, h3⟩
def AH (H : Hd) (b4 b7 : Nat) : Hd := fun c => (H c ∨ c = b4) ∨ c = b7
structure AxI (k : Nat) (H : Hd) (w3 : World) (b4 b7 : Nat) (a : Rat) (xs ys : VL) (rx ry : SlR) (x y : VL) (s : SlR) (zs : VL) (w' : World) : Prop where
  ext : Ext w3 w'
  lt : b7 < w'.heap.size
  blk : Blk w' b7 25 [s.v]
  acc : Acc (aK k) (AH H b4 b7) (b7 + 1) tT w' s zs
  vx : InV (nK k) (AH H b4 b7) w3 rx x
  vy : InV (nK k) (AH H b4 b7) w3 ry y
  mrg : MrgI a x y (srt xs) (srt ys) zs
theorem AxI.hb {k : Nat} {H : Hd} {w3 : World} {b4 b7 : Nat} {a : Rat} {xs ys : VL} {rx ry : SlR} {x y : VL} {s : SlR} {zs : VL} {w' : World} (h : AxI k H w3 b4 b7 a xs ys rx ry x y s zs w') (hH : HB H w3) (h4 : b4 < w3.heap.size) : HB (rowH (AH H b4 b7) s.v) w' := by
  intro b hb
  have := h.ext.size
  rcases hb with ((hb | hb) | hb) | hb
  · exact Nat.lt_of_lt_of_le (hH b hb) this
  · omega
  · rw [hb]; exact h.lt
  · exact (h.acc.own_lt hb).1
theorem AxI.zl {k : Nat} {H : Hd} {w3 : World} {b4 b7 : Nat} {a : Rat} {xs ys : VL} {rx ry : SlR} {x y : VL} {s : SlR} {zs : VL} {w' : World} (h : AxI k H w3 b4 b7 a xs ys rx ry x y s zs w') (hx : xs.length ≤ 65536) (hy : ys.length ≤ 65536) : zs.length ≤ 1099511627775 := by
  have := h.mrg.len
  have := srt_len xs
  have := srt_len ys
  omega
theorem AxI.up {k : Nat} {H : Hd} {w3 : World} {b4 b7 : Nat} {a : Rat} {xs ys : VL} {rx ry : SlR} {x y : VL} {s : SlR} {zs : VL} {w' : World} (h : AxI k H w3 b4 b7 a xs ys rx ry x y s zs w') (h7 : w3.heap.size = b7) {j : Nat} {r : RatR} {q : Rat} (hq : InQ j (AH H b4 b7) w3 r q) : InQ j (rowH (AH H b4 b7) s.v) w' r q :=
  (hq.to fun b hb => hb.elim .inl fun e => .inr (by have := (h.acc.own_lt e).2; omega)).ext h.ext
theorem aK_le {k : Nat} (h : k ≤ 16777216) : aK k ≤ 137438953472 := by unfold aK nK; omega
theorem fit_y {k : Nat} {q : Rat} (h : FitQ (nK k + 1) q) : FitQ (aK k) q := h.mono (by unfold aK; omega)
theorem fit_x {k : Nat} {a q : Rat} (ha : FitQ (k + 1) a) (h : FitQ (nK k + 1) q) : FitQ (2 * nK k + 2) (a * q) := (FitQ.mul ha h (by omega)).mono (by have := k_le_nK k; omega)
theorem fit_xy {k : Nat} {a q u : Rat} (ha : FitQ (k + 1) a) (h : FitQ (nK k + 1) q) (h' : FitQ (nK k + 1) u) : FitQ (aK k) (u + a * q) := (FitQ.add h' (fit_x ha h)).mono (by unfold aK; omega)
theorem sliceOne (r : SlR) : Value.slice (subA r.a r.c 1 5) (r.n - 1) (r.c - 1) = (⟨subA r.a r.c 1 5, r.n - 1, r.c - 1⟩ : SlR).v := rfl

theorem nK_le' {k : Nat} (h : k ≤ 16777216) : nK k ≤ 137438953472 := by unfold nK; omega
theorem Axpy_ok {k : Nat} {H : Hd} {w : World} {ry rx : SlR} {ra : RatR} {xs ys : VL} {a : Rat} (hH : HB H w) (hy : InV k H w ry ys) (hra : InQ k H w ra a) (hx : InV k H w rx xs) (hk : k ≤ 16777216) (hxl : xs.length ≤ 65536) (hyl : ys.length ≤ 65536) (ox : Ok21 xs) (oy : Ok21 ys) :
    CallS Try.prog 22 #[ry.v, ra.v, rx.v] w fun v w' => Ext w w' ∧ ∃ s : SlR, v = s.v ∧ CanV (aK k) H w' s (axp ys a xs) := by
  refine enter ttOk mixed (args := [ry.v, ra.v, rx.v]) Try.func22 rfl (by kernel_rfl) (by kernel_rfl) rfl ?_
  intro b4 w1 hb4
  have hH1 := hH.up hb4.ext
  refine CallS.mono (sorted_ok hH1 (hx.up hb4.ext) (by omega) (by omega) ox) ?_
  rintro _ w2 ⟨hx2, rx0, rfl, hvx⟩
  refine CallS.mono (sorted_ok (HB.ext hH1 hx2) ((hy.up hb4.ext).ext hx2) (by omega) (by omega) oy) ?_
  rintro _ w3 ⟨hx3, ry0, rfl, hvy⟩
  have hx13 := Ext.trans' hx2 hx3
  have hx03 := Ext.trans' hb4.ext hx13
  intro b7 w4 hb7
  have h7 : w3.heap.size = b7 := hb7.isNew.symm
  have hH3 := HB.ext hH hx03
  have hb4lt : b4 < w3.heap.size := Nat.lt_of_lt_of_le hb4.lt hx13.size
  have hB4 : Blk w3 b4 33 (rcs ra) := hb4.toBlk.ext hx13
  have toA : ∀ b, AH H b4 b7 b → upH H w w1 b ∨ w3.heap.size ≤ b := by
    intro b hb
    rcases hb with (hb | hb) | hb
    · exact .inl (.inl hb)
    · rw [hb]; exact .inl (hb4.inUp (Ext.rfl _) (Ext.rfl _))
    · rw [hb]; exact .inr (Nat.le_of_eq h7)
  have hra : InQ k (AH H b4 b7) w3 ra a := ((hra.up hb4.ext).ext hx13).to toA
  refine ⟨SlR × SlR × VL × VL × SlR × VL, fun x => [(0, x.2.1.v), (2, x.1.v), (4, .pointer (some ⟨b4, 0, none⟩)), (7, .pointer (some ⟨b7, 0, none⟩)), (8, .func (.func 75) #[] #[.pointer (some ⟨b7, 0, none⟩)])],
    fun x w' => AxI k H w3 b4 b7 a xs ys x.1 x.2.1 x.2.2.1 x.2.2.2.1 x.2.2.2.2.1 x.2.2.2.2.2 w', fun x _ => x.2.2.1.length + x.2.2.2.1.length,
    ⟨(rx0, ry0, srt xs, srt ys, ⟨none, 0, 0⟩, []), ⟨rfl, rfl, rfl, rfl, rfl, trivial⟩, ⟨hb7.ext, hb7.lt, hb7.toBlk, Acc.nil _ _ _ _ _, (hvx.ext hx3).to toA, hvy.to toA, MrgI.first (srt_ris xs) (srt_ris ys)⟩⟩, ?_⟩
  rintro ⟨rx, ry, x, y, s, zs⟩ w5 hI
  dsimp only at *
  have hnx := hI.vx.len
  have hny := hI.vy.len
  have hHs := hI.hb hH3 hb4lt
  have hzl := hI.zl hxl hyl
  cases x with
  | nil =>
    have hnx : rx.n = 0 := hnx
    refine And.intro (fun h1 => ?_) (fun h1 => ?_)
    · exfalso; omega
    cases y with
    | nil =>
      have hny : ry.n = 0 := hny
      refine And.intro (fun h2 => ?_) (fun h2 => ?_)
      · exfalso; omega
      have hd := hI.mrg.done
      have he : zs = axp ys a xs := axp_eq hd.1 fun p => by rw [hd.2.1, srt_get, srt_get]
      have hc := hI.acc.out (fun b hb => by rcases hb with (hb | hb) | hb; have := hH3 b hb; omega; omega; omega)
      rw [he] at hc
      refine ⟨s.v, hI.blk.one (off := 0) rfl rfl, ?_⟩
      exact ⟨Ext.trans' hx03 hI.ext, s, rfl, hc.to fun b hb => .inl (.inl (.inl hb))⟩
    | cons t y =>
      have hy0 := InV.head hI.vy
      refine And.intro (fun h2 => ?_) (fun h2 => ?_)
      rotate_left
      · exfalso; have := hy0.1; omega
      refine hy0.2.2.elim fun uy ly => ?_
      refine ⟨sq 20, by kernel_rfl, ?_⟩
      refine And.intro (fun h3 => ?_) (fun h3 => ?_)
      rotate_left
      · exfalso; omega
      intro w5' hx5 _
      have hI : AxI k H w3 b4 b7 a xs ys rx ry [] (t :: y) s zs w5' := ⟨Ext.trans' hI.ext hx5, Nat.lt_of_lt_of_le hI.lt hx5.size, hI.blk.ext hx5, hI.acc.ext hx5, hI.vx, hI.vy, hI.mrg⟩
      have hHs := hI.hb hH3 hb4lt
      have hzl := hI.zl hxl hyl
      refine ⟨sqT 10, by kernel_rfl, 0, ⟨rfl, hy0.1, hy0.2.1⟩, _, ly.1.ext hI.ext, 0, ⟨rfl, hy0.1, hy0.2.1⟩, uy.x.v, ly.2.1.ext hI.ext, ?_⟩
      refine dcallR (mk := RatR.v) (Q := fun r w' => CanQ (rowH (AH H b4 b7) s.v) w' r t.2) RatR.inj (fun _ => CanQ.stable) (fun w' hw _ => Norm_ok (HB.ext hHs hw) ((hI.up h7 ly.2.2).is.ext hw)) ?_
      intro rn
      intro w6 hx6 hF6
      refine CallS.mono (putC_ok (t.1) (HB.ext hHs hx6) (hI.blk.ext hx6) (hI.acc.ext hx6) (.inr rfl) (Nat.lt_succ_self b7) (Nat.le_trans hI.lt hx6.size) hF6.1 (fit_y ly.2.2.fit) (Nat.le_trans (aK_le hk) (by omega)) hzl) ?_
      rintro v7 w7 ⟨hB7, hs7, s', hb7', hA7⟩
      intro w8 hx8 _
      have hx38 : Ext w3 w8 := Ext.trans' (Ext.below (Ext.trans' hI.ext hx6) hB7 (Nat.le_of_eq h7)) hx8
      have hlt8 : b7 < w8.heap.size := Nat.lt_of_lt_of_le hI.lt (Nat.le_trans hx6.size (Nat.le_trans hs7 hx8.size))
      have hb8 := hb7'.ext hx8
      have hA8 := hA7.ext hx8
      refine ⟨1, ry.n, ⟨rfl, rfl, hy0.1, hI.vy.nc⟩, ?_⟩
      exact ⟨(rx, ⟨subA ry.a ry.c 1 5, ry.n - 1, ry.c - 1⟩, [], y, s', _), ⟨rfl, rfl, rfl, rfl, rfl, trivial⟩, ⟨hx38, hlt8, hb8, hA8, hI.vx, hI.vy.tail, (hI.mrg.takeY (fun s hs => by simp at hs))⟩, by show _ < _; simp only [List.length_cons]; omega⟩
  | cons u x =>
    have hx0 := InV.head hI.vx
    refine hx0.2.2.elim fun ux lx => ?_
    refine And.intro (fun h1 => ?_) (fun h1 => ?_)
    rotate_left
    · exfalso; have := hx0.1; omega
    refine ⟨sq 20, by kernel_rfl, ?_⟩
    refine And.intro (fun h2 => ?_) (fun h2 => ?_)
    · exfalso; have := hx0.1; omega
    cases y with
    | nil =>
      have hny : ry.n = 0 := hny
      refine And.intro (fun h3 => ?_) (fun h3 => ?_)
      · exfalso; omega
      intro w5' hx5 _
      have hI : AxI k H w3 b4 b7 a xs ys rx ry (u :: x) [] s zs w5' := ⟨Ext.trans' hI.ext hx5, Nat.lt_of_lt_of_le hI.lt hx5.size, hI.blk.ext hx5, hI.acc.ext hx5, hI.vx, hI.vy, hI.mrg⟩
      have hHs := hI.hb hH3 hb4lt
      have hzl := hI.zl hxl hyl
      refine ⟨sq 15, by kernel_rfl, ?_⟩
      refine And.intro (fun h4 => ?_) (fun h4 => ?_)
      rotate_left
      · exfalso; omega
      intro w6' hx6 _
      have hI : AxI k H w3 b4 b7 a xs ys rx ry (u :: x) [] s zs w6' := ⟨Ext.trans' hI.ext hx6, Nat.lt_of_lt_of_le hI.lt hx6.size, hI.blk.ext hx6, hI.acc.ext hx6, hI.vx, hI.vy, hI.mrg⟩
      have hHs := hI.hb hH3 hb4lt
      have hzl := hI.zl hxl hyl
      refine ⟨sqT 11, by kernel_rfl, 0, ⟨rfl, hx0.1, hx0.2.1⟩, _, lx.1.ext hI.ext, ra.v, loadQ (hB4.ext hI.ext), 0, ⟨rfl, hx0.1, hx0.2.1⟩, ux.x.v, lx.2.1.ext hI.ext, ?_⟩
      refine dcallR (mk := RatR.v) (Q := fun r w' => CanQ (rowH (AH H b4 b7) s.v) w' r (a * u.2)) RatR.inj (fun _ => CanQ.stable) (fun w' hw _ => RMul_ok (HB.ext hHs hw) (((hI.up h7 hra).ext hw).mono (by omega)) (((hI.up h7 lx.2.2).ext hw).mono (nK_le' hk))) ?_
      intro rn
      intro w6 hx6 hF6
      refine CallS.mono (putC_ok (u.1) (HB.ext hHs hx6) (hI.blk.ext hx6) (hI.acc.ext hx6) (.inr rfl) (Nat.lt_succ_self b7) (Nat.le_trans hI.lt hx6.size) hF6.1 ((fit_x hra.fit lx.2.2.fit).mono (by unfold aK; omega)) (Nat.le_trans (aK_le hk) (by omega)) hzl) ?_
      rintro v7 w7 ⟨hB7, hs7, s', hb7', hA7⟩
      intro w8 hx8 _
      have hx38 : Ext w3 w8 := Ext.trans' (Ext.below (Ext.trans' hI.ext hx6) hB7 (Nat.le_of_eq h7)) hx8
      have hlt8 : b7 < w8.heap.size := Nat.lt_of_lt_of_le hI.lt (Nat.le_trans hx6.size (Nat.le_trans hs7 hx8.size))
      have hb8 := hb7'.ext hx8
      have hA8 := hA7.ext hx8
      refine ⟨1, rx.n, ⟨rfl, rfl, hx0.1, hI.vx.nc⟩, ?_⟩
      exact ⟨(⟨subA rx.a rx.c 1 5, rx.n - 1, rx.c - 1⟩, ry, x, [], s', _), ⟨rfl, rfl, rfl, rfl, rfl, trivial⟩, ⟨hx38, hlt8, hb8, hA8, hI.vx.tail, hI.vy, hI.mrg.takeX (fun s hs => by simp at hs)⟩, by show _ < _; simp only [List.length_cons]; omega⟩
    | cons t y =>
      have hy0 := InV.head hI.vy
      refine hy0.2.2.elim fun uy ly => ?_
      refine And.intro (fun h3 => ?_) (fun h3 => ?_)
      rotate_left
      · exfalso; have := hy0.1; omega
      refine ⟨0, ⟨rfl, hy0.1, hy0.2.1⟩, _, ly.1.ext hI.ext, 0, ⟨rfl, hx0.1, hx0.2.1⟩, _, lx.1.ext hI.ext, ?_⟩
      refine And.intro (fun h4 => ?_) (fun h4 => ?_)
      · intro w5' hx5 _
        have hI : AxI k H w3 b4 b7 a xs ys rx ry (u :: x) (t :: y) s zs w5' := ⟨Ext.trans' hI.ext hx5, Nat.lt_of_lt_of_le hI.lt hx5.size, hI.blk.ext hx5, hI.acc.ext hx5, hI.vx, hI.vy, hI.mrg⟩
        have hHs := hI.hb hH3 hb4lt
        have hzl := hI.zl hxl hyl
        have hbef : ∀ s ∈ u :: x, t.1 < s.1 := fun s hs => by
          rcases List.mem_cons.1 hs with rfl | hs
          · exact h4
          · exact Int.lt_trans h4 (hI.mrg.rx.head s hs)
        refine ⟨sqT 10, by kernel_rfl, 0, ⟨rfl, hy0.1, hy0.2.1⟩, _, ly.1.ext hI.ext, 0, ⟨rfl, hy0.1, hy0.2.1⟩, uy.x.v, ly.2.1.ext hI.ext, ?_⟩
        refine dcallR (mk := RatR.v) (Q := fun r w' => CanQ (rowH (AH H b4 b7) s.v) w' r t.2) RatR.inj (fun _ => CanQ.stable) (fun w' hw _ => Norm_ok (HB.ext hHs hw) ((hI.up h7 ly.2.2).is.ext hw)) ?_
        intro rn
        intro w6 hx6 hF6
        refine CallS.mono (putC_ok (t.1) (HB.ext hHs hx6) (hI.blk.ext hx6) (hI.acc.ext hx6) (.inr rfl) (Nat.lt_succ_self b7) (Nat.le_trans hI.lt hx6.size) hF6.1 (fit_y ly.2.2.fit) (Nat.le_trans (aK_le hk) (by omega)) hzl) ?_
        rintro v7 w7 ⟨hB7, hs7, s', hb7', hA7⟩
        intro w8 hx8 _
        have hx38 : Ext w3 w8 := Ext.trans' (Ext.below (Ext.trans' hI.ext hx6) hB7 (Nat.le_of_eq h7)) hx8
        have hlt8 : b7 < w8.heap.size := Nat.lt_of_lt_of_le hI.lt (Nat.le_trans hx6.size (Nat.le_trans hs7 hx8.size))
        have hb8 := hb7'.ext hx8
        have hA8 := hA7.ext hx8
        refine ⟨1, ry.n, ⟨rfl, rfl, hy0.1, hI.vy.nc⟩, ?_⟩
        exact ⟨(rx, ⟨subA ry.a ry.c 1 5, ry.n - 1, ry.c - 1⟩, u :: x, y, s', _), ⟨rfl, rfl, rfl, rfl, rfl, trivial⟩, ⟨hx38, hlt8, hb8, hA8, hI.vx, hI.vy.tail, (hI.mrg.takeY hbef)⟩, by show _ < _; simp only [List.length_cons]; omega⟩
      · intro w5' hx5 _
        have hI : AxI k H w3 b4 b7 a xs ys rx ry (u :: x) (t :: y) s zs w5' := ⟨Ext.trans' hI.ext hx5, Nat.lt_of_lt_of_le hI.lt hx5.size, hI.blk.ext hx5, hI.acc.ext hx5, hI.vx, hI.vy, hI.mrg⟩
        have hHs := hI.hb hH3 hb4lt
        have hzl := hI.zl hxl hyl
        refine ⟨sq 15, by kernel_rfl, ?_⟩
        refine And.intro (fun h5 => ?_) (fun h5 => ?_)
        · exfalso; have := hy0.1; omega
        refine ⟨0, ⟨rfl, hx0.1, hx0.2.1⟩, _, lx.1.ext hI.ext, 0, ⟨rfl, hy0.1, hy0.2.1⟩, _, ly.1.ext hI.ext, ?_⟩
        refine And.intro (fun h6 => ?_) (fun h6 => ?_)
        · intro w6' hx6 _
          have hI : AxI k H w3 b4 b7 a xs ys rx ry (u :: x) (t :: y) s zs w6' := ⟨Ext.trans' hI.ext hx6, Nat.lt_of_lt_of_le hI.lt hx6.size, hI.blk.ext hx6, hI.acc.ext hx6, hI.vx, hI.vy, hI.mrg⟩
          have hHs := hI.hb hH3 hb4lt
          have hzl := hI.zl hxl hyl
          have hbef : ∀ s ∈ t :: y, u.1 < s.1 := fun s hs => by
            rcases List.mem_cons.1 hs with rfl | hs
            · exact h6
            · exact Int.lt_trans h6 (hI.mrg.ry.head s hs)
          refine ⟨sqT 11, by kernel_rfl, 0, ⟨rfl, hx0.1, hx0.2.1⟩, _, lx.1.ext hI.ext, ra.v, loadQ (hB4.ext hI.ext), 0, ⟨rfl, hx0.1, hx0.2.1⟩, ux.x.v, lx.2.1.ext hI.ext, ?_⟩
          refine dcallR (mk := RatR.v) (Q := fun r w' => CanQ (rowH (AH H b4 b7) s.v) w' r (a * u.2)) RatR.inj (fun _ => CanQ.stable) (fun w' hw _ => RMul_ok (HB.ext hHs hw) (((hI.up h7 hra).ext hw).mono (by omega)) (((hI.up h7 lx.2.2).ext hw).mono (nK_le' hk))) ?_
          intro rn
          intro w6 hx6 hF6
          refine CallS.mono (putC_ok (u.1) (HB.ext hHs hx6) (hI.blk.ext hx6) (hI.acc.ext hx6) (.inr rfl) (Nat.lt_succ_self b7) (Nat.le_trans hI.lt hx6.size) hF6.1 ((fit_x hra.fit lx.2.2.fit).mono (by unfold aK; omega)) (Nat.le_trans (aK_le hk) (by omega)) hzl) ?_
          rintro v7 w7 ⟨hB7, hs7, s', hb7', hA7⟩
          intro w8 hx8 _
          have hx38 : Ext w3 w8 := Ext.trans' (Ext.below (Ext.trans' hI.ext hx6) hB7 (Nat.le_of_eq h7)) hx8
          have hlt8 : b7 < w8.heap.size := Nat.lt_of_lt_of_le hI.lt (Nat.le_trans hx6.size (Nat.le_trans hs7 hx8.size))
          have hb8 := hb7'.ext hx8
          have hA8 := hA7.ext hx8
          refine ⟨1, rx.n, ⟨rfl, rfl, hx0.1, hI.vx.nc⟩, ?_⟩
          exact ⟨(⟨subA rx.a rx.c 1 5, rx.n - 1, rx.c - 1⟩, ry, x, t :: y, s', _), ⟨rfl, rfl, rfl, rfl, rfl, trivial⟩, ⟨hx38, hlt8, hb8, hA8, hI.vx.tail, hI.vy, hI.mrg.takeX hbef⟩, by show _ < _; simp only [List.length_cons]; omega⟩
        · intro w6' hx6 _
          have hI : AxI k H w3 b4 b7 a xs ys rx ry (u :: x) (t :: y) s zs w6' := ⟨Ext.trans' hI.ext hx6, Nat.lt_of_lt_of_le hI.lt hx6.size, hI.blk.ext hx6, hI.acc.ext hx6, hI.vx, hI.vy, hI.mrg⟩
          have hHs := hI.hb hH3 hb4lt
          have hzl := hI.zl hxl hyl
          have heq : u.1 = t.1 := Int.le_antisymm (Int.not_lt.1 h4) (Int.not_lt.1 h6)
          refine ⟨sqT 16, by kernel_rfl, 0, ⟨rfl, hx0.1, hx0.2.1⟩, _, lx.1.ext hI.ext, 0, ⟨rfl, hy0.1, hy0.2.1⟩, uy.x.v, ly.2.1.ext hI.ext, ra.v, loadQ (hB4.ext hI.ext), 0, ⟨rfl, hx0.1, hx0.2.1⟩, ux.x.v, lx.2.1.ext hI.ext, ?_⟩
          refine dcallR (mk := RatR.v) (Q := fun r w' => CanQ (rowH (AH H b4 b7) s.v) w' r (a * u.2)) RatR.inj (fun _ => CanQ.stable) (fun w' hw _ => RMul_ok (HB.ext hHs hw) (((hI.up h7 hra).ext hw).mono (by omega)) (((hI.up h7 lx.2.2).ext hw).mono (nK_le' hk))) ?_
          intro rm
          refine dcallR (mk := RatR.v) (Q := fun r w' => CanQ (rowH (AH H b4 b7) s.v) w' r (t.2 + a * u.2)) RatR.inj (fun _ => CanQ.stable) (fun w' hw hF => RAdd_ok (HB.ext hHs hw) (((hI.up h7 ly.2.2).ext hw).mono (nK_le' hk)) (hF.1.inq ((fit_x hra.fit lx.2.2.fit).mono (by have := nK_le' hk; have := aK_le hk; unfold aK at this; omega)) (by omega))) ?_
          intro rn
          intro w6 hx6 hF6
          refine CallS.mono (putC_ok (u.1) (HB.ext hHs hx6) (hI.blk.ext hx6) (hI.acc.ext hx6) (.inr rfl) (Nat.lt_succ_self b7) (Nat.le_trans hI.lt hx6.size) hF6.1 (fit_xy hra.fit lx.2.2.fit ly.2.2.fit) (Nat.le_trans (aK_le hk) (by omega)) hzl) ?_
          rintro v7 w7 ⟨hB7, hs7, s', hb7', hA7⟩
          intro w8 hx8 _
          have hx38 : Ext w3 w8 := Ext.trans' (Ext.below (Ext.trans' hI.ext hx6) hB7 (Nat.le_of_eq h7)) hx8
          have hlt8 : b7 < w8.heap.size := Nat.lt_of_lt_of_le hI.lt (Nat.le_trans hx6.size (Nat.le_trans hs7 hx8.size))
          have hb8 := hb7'.ext hx8
          have hA8 := hA7.ext hx8
          refine ⟨sq 6, by kernel_rfl, 1, rx.n, ⟨rfl, rfl, hx0.1, hI.vx.nc⟩, 1, ry.n, ⟨rfl, rfl, hy0.1, hI.vy.nc⟩, ?_⟩
          intro w9 hx9 _
          exact ⟨(⟨subA rx.a rx.c 1 5, rx.n - 1, rx.c - 1⟩, ⟨subA ry.a ry.c 1 5, ry.n - 1, ry.c - 1⟩, x, y, s', _), ⟨rfl, rfl, rfl, rfl, rfl, trivial⟩, ⟨Ext.trans' hx38 hx9, Nat.lt_of_lt_of_le hlt8 hx9.size, hb8.ext hx9, hA8.ext hx9, hI.vx.tail, hI.vy.tail, hI.mrg.both heq⟩, by show _ < _; simp only [List.length_cons]; omega⟩
end Go.Proofs.Ytlfdobjdlgebbaa
/-
  Contracts of the layer sparse: sums, multiples, what stands at a place, products. Helpers; no statement of the program is proved here.
-/
set_option maxRecDepth 100000
set_option linter.unusedSimpArgs false
set_option linter.unusedVariables false
namespace Go.Proofs.Ytlfdobjdlgebbaa
open Go Go.Tw Go.RowKit
attribute [local irreducible] LoadAt StoreOk Stored rawVC

theorem divInt_one (n : Int) : Rat.divInt n 1 = (n : Rat) := by
  rw [Rat.divInt_eq_div]
  have : ((1 : Int) : Rat) = 1 := rfl
  rw [this]; grind
theorem ROf1_ok {H : Hd} {w : World} {n : Int} (hH : HB H w) (n1 : -9223372036854775808 ≤ n) (n2 : n ≤ 9223372036854775807) :
    CallS Try.prog 23 #[.int .i64 n, .int .i64 1] w fun v w' => Ext w w' ∧ ∃ r : RatR, v = r.v ∧ CanQ H w' r (n : Rat) := by
  have := ROf_ok (d := 1) hH n1 n2 (by omega) (by omega)
  rw [divInt_one] at this; exact this
theorem fitInt (n : Int) (h : n.natAbs < 18446744073709551616) : FitQ 1 (n : Rat) := ⟨Fit_iff.2 (by rw [Nat.pow_one]; exact h), Fit.one⟩
theorem VAdd_ok {k : Nat} {H : Hd} {w : World} {rx ry : SlR} {xs ys : VL} (hH : HB H w) (hx : InV k H w rx xs) (hy : InV k H w ry ys) (hk : k ≤ 16777216) (hk1 : 1 ≤ k) (hxl : xs.length ≤ 65536) (hyl : ys.length ≤ 65536) (ox : Ok21 xs) (oy : Ok21 ys) :
    CallS Try.prog 21 #[rx.v, ry.v] w fun v w' => Ext w w' ∧ ∃ s : SlR, v = s.v ∧ CanV (aK k) H w' s (axp xs 1 ys) := by
  refine enter ttOk mixed (args := [rx.v, ry.v]) Try.func21 rfl (by kernel_rfl) (by kernel_rfl) rfl ?_
  refine CallS.mono (ROf1_ok (n := 1) hH (by omega) (by omega)) ?_
  rintro _ w1 ⟨hx1, r, rfl, hr⟩
  refine CallS.mono (Axpy_ok (HB.ext hH hx1) (hx.ext hx1) (hr.inq ((fitInt 1 (by decide)).mono hk1) (by omega)) (hy.ext hx1) hk hyl hxl oy ox) ?_
  rintro _ w2 ⟨hx2, s, rfl, hs⟩
  exact ⟨Ext.trans' hx1 hx2, s, rfl, hs⟩
theorem VScale_ok {k : Nat} {H : Hd} {w : World} {ra : RatR} {rx : SlR} {a : Rat} {xs : VL} (hH : HB H w) (ha : InQ k H w ra a) (hx : InV k H w rx xs) (hk : k ≤ 16777216) (hxl : xs.length ≤ 65536) (ox : Ok21 xs) :
    CallS Try.prog 25 #[ra.v, rx.v] w fun v w' => Ext w w' ∧ ∃ s : SlR, v = s.v ∧ CanV (aK k) H w' s (axp [] a xs) := by
  refine enter ttOk mixed (args := [ra.v, rx.v]) Try.func25 rfl (by kernel_rfl) (by kernel_rfl) rfl ?_
  intro b1 w1 hb1
  have hB : Blk w1 b1 33 (rcs ra) := hb1.toBlk
  refine ⟨ra.v, loadQ hB, ?_⟩
  refine CallS.mono (Axpy_ok (ry := ⟨none, 0, 0⟩) (ys := []) (hH.up hb1.ext) (InV.nil k _ w1) (ha.up hb1.ext) (hx.up hb1.ext) hk hxl (Nat.zero_le _) ox (.inl (Nat.zero_le _))) ?_
  rintro _ w2 ⟨hx2, s, rfl, hs⟩
  exact ⟨Ext.trans' hb1.ext hx2, s, rfl, hs.less⟩
theorem VSame_ok {k : Nat} {H : Hd} {w : World} {rx ry : SlR} {xs ys : VL} (hH : HB H w) (hx : InV k H w rx xs) (hy : InV k H w ry ys) (hk : k ≤ 16777216) (hk1 : 1 ≤ k) (hxl : xs.length ≤ 65536) (hyl : ys.length ≤ 65536) (ox : Ok21 xs) (oy : Ok21 ys) :
    CallS Try.prog 32 #[rx.v, ry.v] w fun v w' => Ext w w' ∧ v = .bool (decide (axp xs (-1) ys = [])) := by
  refine enter ttOk mixed (args := [rx.v, ry.v]) Try.func32 rfl (by kernel_rfl) (by kernel_rfl) rfl ?_
  refine CallS.mono (ROf1_ok (n := -1) hH (by omega) (by omega)) ?_
  rintro _ w1 ⟨hx1, r, rfl, hr⟩
  refine CallS.mono (Axpy_ok (HB.ext hH hx1) (hx.ext hx1) (hr.inq ((fitInt (-1) (by decide)).mono hk1) (by omega)) (hy.ext hx1) hk hyl hxl oy ox) ?_
  rintro _ w2 ⟨hx2, s, rfl, hs⟩
  have hl := hs.len
  have e : ((-1 : Int) : Rat) = -1 := rfl
  rw [e] at hl
  refine And.intro (fun h1 => ?_) (fun h1 => ?_)
  · have : axp xs (-1) ys = [] := List.eq_nil_of_length_eq_zero (by omega)
    exact ⟨Ext.trans' hx1 hx2, by rw [decide_eq_true this]; rfl⟩
  · have : ¬ axp xs (-1) ys = [] := fun h => h1 (by rw [h] at hl; simp at hl; omega)
    exact ⟨Ext.trans' hx1 hx2, by rw [decide_eq_false this]; rfl⟩
theorem getL_take_le {xs : VL} {i : Nat} (h : xs.length ≤ i) (p : Int) : getL (xs.take i) p = getL xs p := by rw [List.take_of_length_le h]
theorem storeTmB {w w' : World} {b : Nat} {cs : List Value} {t : TmR} (hb : Blk w b tT cs) (hk : (Nat.beq cs.length 5) = true) : StoreOk tt w tT ⟨b, 0, none⟩ t.v ∧ (Stored w w' ⟨b, 0, none⟩ t.v.cells.toList → Blk w' b tT t.cs ∧ w.grownBy w' (some b)) := by
  have h3 := Nat.eq_of_beq_eq_true hk
  refine ⟨storeOk rfl rfl hb (by rw [h3]; exact Nat.le_refl 5), fun hs => ?_⟩
  have hg := (Stored.grown hs).1
  have hB := Stored.blk hs hb
  obtain ⟨c1, c2, c3, c4, c5, rfl⟩ : ∃ c1 c2 c3 c4 c5, cs = [c1, c2, c3, c4, c5] := by
    match cs, h3 with
    | [c1, c2, c3, c4, c5], _ => exact ⟨c1, c2, c3, c4, c5, rfl⟩
  exact ⟨hB, hg⟩
theorem fitGet {k n : Nat} {q x : Rat} {i : Nat} (h : FitQ (1 + i * (k + 2)) q) (hx : FitQ (k + 1) x) : FitQ (1 + (i + 1) * (k + 2)) (q + x) := (FitQ.add h hx).mono (by rw [Nat.add_mul]; omega)
theorem fitKeep {k : Nat} {q : Rat} {i : Nat} (h : FitQ (1 + i * (k + 2)) q) : FitQ (1 + (i + 1) * (k + 2)) q := h.mono (by rw [Nat.add_mul]; omega)
theorem fitMul {i n k : Nat} (h : i ≤ n) : 1 + i * (k + 2) ≤ 1 + n * (k + 2) := by have := Nat.mul_le_mul_right (k + 2) h; omega
theorem VGet_ok {k : Nat} {H : Hd} {w : World} {r : SlR} {xs : VL} (hH : HB H w) (hx : InV k H w r xs) (at' : Int) (hk : k ≤ 137438953472) (hb : 1 + xs.length * (k + 2) ≤ 137438953472) :
    CallS Try.prog 30 #[r.v, .int .i64 at'] w fun v w' => Ext w w' ∧ ∃ r : RatR, v = r.v ∧ (CanQ H w' r (getL xs at') ∧ FitQ (1 + xs.length * (k + 2)) (getL xs at')) := by
  have hrn := hx.len
  obtain ⟨⟨ts, hT, hI⟩, hnc, hcm, hav⟩ := hx
  have hl40 : r.n ≤ 137438953472 := by
    have : xs.length * 1 ≤ xs.length * (k + 2) := Nat.mul_le_mul_left _ (by omega)
    omega
  refine enter ttOk mixed (args := [r.v, .int .i64 at']) Try.func30 rfl (by kernel_rfl) (by kernel_rfl) rfl ?_
  intro b4 w1 hb4
  intro b5 w2 hb5
  have hs2 := storeQ (w0 := w) (r := RatR.zero) hb5.toBlk (hb5.extFrom hb4.ext) (hb5.ge hb4.ext) rfl
  refine ⟨hs2.1, fun w3 hs3 => ?_⟩
  have h3 := hs2.2 w3 hs3
  have l4 := hb4.lt
  have n5 := hb5.isNew
  have l5 := hb5.lt
  have ne45 : b4 ≠ b5 := by omega
  have B4 := Blk.grownN (hb4.toBlk.ext hb5.ext) h3.2.1 ne45
  have g4 := hb4.ge (Ext.rfl w)
  have g5 := hb5.ge hb4.ext
  have l5' := Nat.lt_of_lt_of_le l5 h3.2.1.size
  refine ⟨Nat × RatR, fun x => [(0, r.v), (1, .int .i64 at'), (4, .pointer (some ⟨b4, 0, none⟩)), (5, .pointer (some ⟨b5, 0, none⟩)), (9, r.v), (10, .int .i64 (r.n : Int)), (11, .int .i64 (x.1 : Int))],
    fun x w' => Ext w w' ∧ b5 < w'.heap.size ∧ Blk w' b4 33 (tyAt tt 33).zero ∧ Blk w' b5 33 (rcs x.2) ∧ CanQ (AH H b4 b5) w' x.2 (getL (xs.take x.1) at') ∧ FitQ (1 + x.1 * (k + 2)) (getL (xs.take x.1) at') ∧ x.1 ≤ r.n, fun x _ => r.n - x.1,
    ⟨(0, RatR.zero), ⟨rfl, rfl, rfl, rfl, rfl, rfl, rfl, trivial⟩, h3.2.2, l5', B4, h3.1, CanQ.zero _ _, FitQ.zero (Nat.le_add_right _ _), Nat.zero_le _⟩, ?_⟩
  clear B4 h3 hs3 hs2
  rintro ⟨i, rr⟩ w4 ⟨hx4, hlt, B4, B5, hq, hf, hi⟩
  dsimp only at *
  refine And.intro (fun h1 => ?_) (fun h1 => ?_)
  · have hin := ltTo h1
    have hix : i < xs.length := by omega
    have hT4 := hT.ext hx4
    have hbs := hT.base (by omega)
    refine (hI.get (vget hix)).elim fun t d => ?_
    refine ⟨i, ⟨rfl, hin, hbs⟩, t.v, hT4.load (ty := tT) d.1 rfl rfl, ?_⟩
    intro b7 w5 hb7
    have hst := fun w' => storeTmB (w' := w') (t := t) hb7.toBlk rfl
    refine ⟨(hst w5).1, fun w6 hs6 => ?_⟩
    have h6 := (hst w6).2 hs6
    have hx46 : Ext w4 w6 := Ext.grownB hb7.ext h6.2 (Nat.le_of_eq hb7.isNew.symm)
    have hx06 := Ext.trans' hx4 hx46
    have hsuc := sucI i (by omega)
    have e1 := getL_take_succ hix at'
    have hB7 := h6.1
    refine ⟨_, hB7.one (off := 0) rfl rfl, ?_⟩
    have hat : t.at' = pl xs i := d.2.1
    refine And.intro (fun h2 => ?_) (fun h2 => ?_)
    · have hpl : pl xs i = at' := by rw [← hat]; exact h2
      rw [if_pos hpl] at e1
      have hHs : HB (AH H b4 b5) w6 := by
        intro b hb
        have := hx46.size
        rcases hb with (hb | hb) | hb
        · exact Nat.lt_of_lt_of_le (hH b hb) hx06.size
        · omega
        · omega
      have hXi : InQ 137438953472 (AH H b4 b5) w6 t.x (xl xs i) := ((d.2.2.to (H' := AH H b4 b5) fun b hb => by
        rcases hb with (hb | hb) | hb
        · exact .inl hb
        · rw [hb]; exact .inr g4
        · rw [hb]; exact .inr g5).ext hx06).mono hk
      refine ⟨rr.v, loadQ (B5.ext hx46), t.x.v, hB7.agg (off := 1) (sub := rcs t.x) rfl rfl, ?_⟩
      refine CallS.mono (RAdd_ok hHs ((hq.ext hx46).inq (hf.mono (Nat.le_trans (fitMul (Nat.le_of_lt hix)) hb)) (by omega)) hXi) ?_
      rintro _ w7 ⟨hx7, rn, rfl, hrn'⟩
      have hx67 := Ext.trans' hx46 hx7
      have hs8 := storeQ (r := rn) (B5.ext hx67) (Ext.trans' hx4 hx67) g5 rfl
      refine ⟨hs8.1, fun w8 hs8' => ?_⟩
      have h8 := hs8.2 w8 hs8'
      have hsz := Nat.le_trans hx67.size h8.2.1.size
      rw [← e1] at hrn'
      refine ⟨((i + 1 : Nat) : Int), hsuc, (i + 1, rn), ⟨rfl, rfl, rfl, rfl, rfl, rfl, rfl, trivial⟩, ⟨h8.2.2, Nat.lt_of_lt_of_le hlt hsz, Blk.grownN (B4.ext hx67) h8.2.1 ne45, h8.1, hrn'.far h8.2.1 (.inr rfl), ?_, hin⟩, Nat.sub_lt_sub_left hin (Nat.lt_succ_self i)⟩
      show FitQ _ (getL (xs.take (i + 1)) at')
      rw [e1]; exact fitGet (n := 0) hf d.2.2.fit
    · have hpl : ¬ pl xs i = at' := by rw [← hat]; exact h2
      rw [if_neg hpl, Rat.add_zero] at e1
      refine ⟨((i + 1 : Nat) : Int), hsuc, (i + 1, rr), ⟨rfl, rfl, rfl, rfl, rfl, rfl, rfl, trivial⟩, ⟨hx06, Nat.lt_of_lt_of_le hlt hx46.size, B4.ext hx46, B5.ext hx46, ?_, ?_, hin⟩, Nat.sub_lt_sub_left hin (Nat.lt_succ_self i)⟩
      · show CanQ _ _ _ (getL (xs.take (i + 1)) at')
        rw [e1]; exact hq.ext hx46
      · show FitQ _ (getL (xs.take (i + 1)) at')
        rw [e1]; exact fitKeep hf
  · have e9 : i = r.n := Nat.le_antisymm hi (geTo h1)
    rw [e9, getL_take_le (by omega)] at hq hf
    rw [hrn] at hf
    refine ⟨rr.v, loadQ B5, ?_⟩
    have hrt := retRat (H := H) B4 hx4 g4 rfl (H' := AH H b4 b5) (.inl (.inr rfl)) (fun h => h.to fun b hb => .inl (.inl (.inl hb))) hq
    refine ⟨hrt.1, fun w' hs' => ?_⟩
    obtain ⟨v, h1, h2, r', h3, h4⟩ := hrt.2 w' hs'
    exact ⟨v, h1, h2, r', h3, h4, hf⟩
end Go.Proofs.Ytlfdobjdlgebbaa
/-
  Contracts of the layer sparse: products. Helpers; no statement of the program is proved here.
-/
set_option maxRecDepth 100000
set_option linter.unusedSimpArgs false
set_option linter.unusedVariables false
namespace Go.Proofs.Ytlfdobjdlgebbaa
open Go Go.Tw Go.RowKit
attribute [local irreducible] LoadAt StoreOk Stored rawVC

def dK (k n : Nat) : Nat := 1 + n * (2 * nK k + 3)
theorem fitDot {k m n : Nat} {q a b : Rat} (h : FitQ (dK k m) q) (ha : FitQ (nK k + 1) a) (hb : FitQ (nK k + 1) b) (hmn : m + 1 ≤ n) : FitQ (dK k n) (q + a * b) := by
  refine (FitQ.add h (FitQ.mul ha hb (by omega))).mono ?_
  unfold dK
  have := Nat.mul_le_mul_right (2 * nK k + 3) hmn
  rw [Nat.add_mul] at this
  omega
theorem dK_pos (k n : Nat) : 1 ≤ dK k n := by unfold dK; omega
theorem dK_mono {k m n : Nat} (h : m ≤ n) : dK k m ≤ dK k n := by unfold dK; have := Nat.mul_le_mul_right (2 * nK k + 3) h; omega
structure DtI (k : Nat) (H : Hd) (w w2 : World) (b4 b5 : Nat) (xs ys : VL) (rx ry : SlR) (x y : VL) (rr : RatR) (q : Rat) (w' : World) : Prop where
  ext0 : Ext w w'
  ext : Ext w2 w'
  lt : b5 < w'.heap.size
  c4 : Blk w' b4 33 (tyAt tt 33).zero
  c5 : Blk w' b5 33 (rcs rr)
  cq : CanQ (AH H b4 b5) w' rr q
  cf : FitQ (dK k ((srt xs).length - x.length)) q
  cl : x.length ≤ (srt xs).length
  vx : InV (nK k) (AH H b4 b5) w2 rx x
  vy : InV (nK k) (AH H b4 b5) w2 ry y
  dot : DotI x y (srt xs) (srt ys) q
theorem DtI.go {k : Nat} {H : Hd} {w w2 : World} {b4 b5 : Nat} {xs ys : VL} {rx ry : SlR} {x y : VL} {rr : RatR} {q : Rat} {w' w'' : World} (h : DtI k H w w2 b4 b5 xs ys rx ry x y rr q w') (e : Ext w' w'') : DtI k H w w2 b4 b5 xs ys rx ry x y rr q w'' :=
  ⟨Ext.trans' h.ext0 e, Ext.trans' h.ext e, Nat.lt_of_lt_of_le h.lt e.size, h.c4.ext e, h.c5.ext e, h.cq.ext e, h.cf, h.cl, h.vx, h.vy, h.dot⟩
theorem VDot_ok {k : Nat} {H : Hd} {w : World} {rx ry : SlR} {xs ys : VL} (hH : HB H w) (hx : InV k H w rx xs) (hy : InV k H w ry ys) (hk : k ≤ 16777216) (hxl : xs.length ≤ 65536) (hyl : ys.length ≤ 65536) (ox : Ok21 xs) (oy : Ok21 ys) (hD : dK k xs.length ≤ 68719476736) :
    CallS Try.prog 29 #[rx.v, ry.v] w fun v w' => Ext w w' ∧ ∃ r : RatR, v = r.v ∧ (CanQ H w' r (dotL xs ys) ∧ FitQ (dK k xs.length) (dotL xs ys)) := by
  refine enter ttOk mixed (args := [rx.v, ry.v]) Try.func29 rfl (by kernel_rfl) (by kernel_rfl) rfl ?_
  intro b4 w1 hb4
  have hH1 := hH.up hb4.ext
  refine CallS.mono (sorted_ok hH1 (hx.up hb4.ext) (by omega) (by omega) ox) ?_
  rintro _ w1' ⟨hx1, rx0, rfl, hvx⟩
  refine CallS.mono (sorted_ok (HB.ext hH1 hx1) ((hy.up hb4.ext).ext hx1) (by omega) (by omega) oy) ?_
  rintro _ w2 ⟨hx2, ry0, rfl, hvy⟩
  have hx12 := Ext.trans' hx1 hx2
  have hx02 := Ext.trans' hb4.ext hx12
  intro b5 w3 hb5
  have hs3 := storeQ (w0 := w) (r := RatR.zero) hb5.toBlk (hb5.extFrom hx02) (hb5.ge hx02) rfl
  refine ⟨hs3.1, fun w4 hs4 => ?_⟩
  have h4 := hs3.2 w4 hs4
  have l4 := hb4.lt
  have n5 := hb5.isNew
  have l5 := hb5.lt
  have ne45 : b4 ≠ b5 := by have := hx12.size; omega
  have B4 := Blk.grownN ((hb4.toBlk.ext hx12).ext hb5.ext) h4.2.1 ne45
  have g4 := hb4.ge (Ext.rfl w)
  have g5 := hb5.ge hx02
  have hx24 : Ext w2 w4 := Ext.grownB hb5.ext h4.2.1 (Nat.le_of_eq n5.symm)
  have toA : ∀ b, AH H b4 b5 b → upH H w w1 b ∨ w2.heap.size ≤ b := by
    intro b hb
    rcases hb with (hb | hb) | hb
    · exact .inl (.inl hb)
    · rw [hb]; exact .inl (hb4.inUp (Ext.rfl _) (Ext.rfl _))
    · rw [hb]; exact .inr (Nat.le_of_eq n5.symm)
  refine ⟨SlR × SlR × VL × VL × RatR × Rat, fun x => [(0, x.1.v), (1, x.2.1.v), (4, .pointer (some ⟨b4, 0, none⟩)), (5, .pointer (some ⟨b5, 0, none⟩))],
    fun x w' => DtI k H w w2 b4 b5 xs ys x.1 x.2.1 x.2.2.1 x.2.2.2.1 x.2.2.2.2.1 x.2.2.2.2.2 w', fun x _ => x.2.2.1.length + x.2.2.2.1.length,
    ⟨(rx0, ry0, srt xs, srt ys, RatR.zero, 0), ⟨rfl, rfl, rfl, rfl, trivial⟩, ⟨h4.2.2, hx24, Nat.lt_of_lt_of_le l5 h4.2.1.size, B4, h4.1, CanQ.zero _ _, FitQ.zero (dK_pos k _), Nat.le_refl _, (hvx.ext hx2).to toA, hvy.to toA, ⟨srt_ris xs, srt_ris ys, Rat.zero_add _⟩⟩⟩, ?_⟩
  clear B4 hx24 h4 hs4 hs3 toA hvx hvy
  rintro ⟨rx, ry, x, y, rr, q⟩ w5 hI
  dsimp only at *
  have hnx := hI.vx.len
  have hny := hI.vy.len
  have fin : (x = [] ∨ y = []) → ∃ v, LoadAt tt w5 33 ⟨b5, 0, none⟩ v ∧ StoreOk tt w5 33 ⟨b4, 0, none⟩ v ∧ ∀ w', Stored w5 w' ⟨b4, 0, none⟩ v.cells.toList → ∃ v, LoadAt tt w' 33 ⟨b4, 0, none⟩ v ∧ (Ext w w' ∧ ∃ r : RatR, v = r.v ∧ (CanQ H w' r (dotL xs ys) ∧ FitQ (dK k xs.length) (dotL xs ys))) := by
    intro he
    have hd := hI.dot.done he
    have e : dotL (srt xs) (srt ys) = dotL xs ys := dotL_congr (srt_get xs) (srt_get ys)
    rw [e] at hd
    have hq := hI.cq
    have hf := hI.cf
    rw [hd] at hq hf
    refine ⟨rr.v, loadQ hI.c5, ?_⟩
    have hrt := retRat (H := H) hI.c4 hI.ext0 g4 rfl (H' := AH H b4 b5) (.inl (.inr rfl)) (fun h => h.to fun b hb => .inl (.inl (.inl hb))) hq
    refine ⟨hrt.1, fun w' hs' => ?_⟩
    obtain ⟨v, h1, h2, r', h3, h4⟩ := hrt.2 w' hs'
    exact ⟨v, h1, h2, r', h3, h4, hf.mono (dK_mono (by have := srt_len xs; omega))⟩
  cases x with
  | nil =>
    have hnx : rx.n = 0 := hnx
    refine And.intro (fun h1 => ?_) (fun h1 => ?_)
    · exfalso; omega
    · exact fin (.inl rfl)
  | cons u x =>
    have hx0 := InV.head hI.vx
    refine hx0.2.2.elim fun ux lx => ?_
    refine And.intro (fun h1 => ?_) (fun h1 => ?_)
    rotate_left
    · exfalso; have := hx0.1; omega
    cases y with
    | nil =>
      have hny : ry.n = 0 := hny
      refine And.intro (fun h1 => ?_) (fun h1 => ?_)
      · exfalso; omega
      · exact fin (.inr rfl)
    | cons t y =>
      clear fin
      have hy0 := InV.head hI.vy
      refine hy0.2.2.elim fun uy ly => ?_
      refine And.intro (fun h2 => ?_) (fun h2 => ?_)
      rotate_left
      · exfalso; have := hy0.1; omega
      refine ⟨sq 10, by kernel_rfl, 0, ⟨rfl, hx0.1, hx0.2.1⟩, _, lx.1.ext hI.ext, 0, ⟨rfl, hy0.1, hy0.2.1⟩, _, ly.1.ext hI.ext, ?_⟩
      refine And.intro (fun h3 => ?_) (fun h3 => ?_)
      · intro w6 hx6 _
        have hI := hI.go hx6
        have hbef : ∀ s ∈ t :: y, u.1 < s.1 := fun s hs => by
          rcases List.mem_cons.1 hs with rfl | hs
          · exact h3
          · exact Int.lt_trans h3 (hI.dot.ry.head s hs)
        refine ⟨1, rx.n, ⟨rfl, rfl, hx0.1, hI.vx.nc⟩, ?_⟩
        exact ⟨(⟨subA rx.a rx.c 1 5, rx.n - 1, rx.c - 1⟩, ry, x, t :: y, rr, q), ⟨rfl, rfl, rfl, rfl, trivial⟩, ⟨hI.ext0, hI.ext, hI.lt, hI.c4, hI.c5, hI.cq, hI.cf.mono (dK_mono (by simp only [List.length_cons]; omega)), Nat.le_of_succ_le hI.cl, hI.vx.tail, hI.vy, hI.dot.dropX hbef⟩, by show _ < _; simp only [List.length_cons]; omega⟩
      · intro w6 hx6 _
        have hI := hI.go hx6
        refine ⟨sq 10, by kernel_rfl, 0, ⟨rfl, hy0.1, hy0.2.1⟩, _, ly.1.ext hI.ext, 0, ⟨rfl, hx0.1, hx0.2.1⟩, _, lx.1.ext hI.ext, ?_⟩
        refine And.intro (fun h4 => ?_) (fun h4 => ?_)
        · intro w7 hx7 _
          have hI := hI.go hx7
          have hbef : ∀ s ∈ u :: x, t.1 < s.1 := fun s hs => by
            rcases List.mem_cons.1 hs with rfl | hs
            · exact h4
            · exact Int.lt_trans h4 (hI.dot.rx.head s hs)
          refine ⟨1, ry.n, ⟨rfl, rfl, hy0.1, hI.vy.nc⟩, ?_⟩
          exact ⟨(rx, ⟨subA ry.a ry.c 1 5, ry.n - 1, ry.c - 1⟩, u :: x, y, rr, q), ⟨rfl, rfl, rfl, rfl, trivial⟩, ⟨hI.ext0, hI.ext, hI.lt, hI.c4, hI.c5, hI.cq, hI.cf, hI.cl, hI.vx, hI.vy.tail, hI.dot.dropY hbef⟩, by show _ < _; simp only [List.length_cons]; omega⟩
        · intro w7 hx7 _
          have hI := hI.go hx7
          have heq : u.1 = t.1 := Int.le_antisymm (Int.not_lt.1 h4) (Int.not_lt.1 h3)
          have hxl' : x.length + 1 ≤ (srt xs).length := hI.cl
          have hsl := srt_len xs
          have hHs : HB (AH H b4 b5) w7 := by
            intro b hb
            have := hI.ext.size
            have := hx12.size
            rcases hb with (hb | hb) | hb
            · exact Nat.lt_of_lt_of_le (hH b hb) hI.ext0.size
            · omega
            · rw [hb]; exact hI.lt
          have hdb : dK k ((srt xs).length - (u :: x).length) ≤ 137438953472 := Nat.le_trans (dK_mono (show (srt xs).length - (u :: x).length ≤ xs.length by omega)) (by omega)
          have hmu : FitQ 137438953472 (u.2 * t.2) := (FitQ.mul lx.2.2.fit ly.2.2.fit (by omega)).mono (by have := aK_le hk; unfold aK at this; omega)
          refine ⟨sq 12, by kernel_rfl, rr.v, loadQ hI.c5, 0, ⟨rfl, hx0.1, hx0.2.1⟩, ux.x.v, lx.2.1.ext hI.ext, 0, ⟨rfl, hy0.1, hy0.2.1⟩, uy.x.v, ly.2.1.ext hI.ext, ?_⟩
          refine dcallR (mk := RatR.v) (Q := fun r w' => CanQ (AH H b4 b5) w' r (u.2 * t.2)) RatR.inj (fun _ => CanQ.stable) (fun w' hw _ => RMul_ok (HB.ext hHs hw) (((lx.2.2.ext hI.ext).ext hw).mono (nK_le' hk)) (((ly.2.2.ext hI.ext).ext hw).mono (nK_le' hk))) ?_
          intro rm
          refine dcallR (mk := RatR.v) (Q := fun r w' => CanQ (AH H b4 b5) w' r (q + u.2 * t.2)) RatR.inj (fun _ => CanQ.stable) (fun w' hw hF => RAdd_ok (HB.ext hHs hw) ((hI.cq.ext hw).inq (hI.cf.mono hdb) (by omega)) (hF.1.inq hmu (by omega))) ?_
          intro rn w8 hx8 hF8
          have hI8 := hI.go hx8
          have hs8 := storeQ (r := rn) hI8.c5 hI8.ext0 g5 rfl
          refine ⟨hs8.1, fun w9 hs9 => ?_⟩
          have h9 := hs8.2 w9 hs9
          have hx29 : Ext w2 w9 := Ext.grownB hI8.ext h9.2.1 (Nat.le_of_eq n5.symm)
          have b49 := Blk.grownN hI8.c4 h9.2.1 ne45
          have q9 := hF8.1.far h9.2.1 (.inr rfl)
          have lt9 := Nat.lt_of_lt_of_le hI8.lt h9.2.1.size
          intro w10 hx10 _
          have hff := fitDot hI.cf lx.2.2.fit ly.2.2.fit (n := (srt xs).length - x.length) (by simp only [List.length_cons]; omega)
          refine ⟨sq 6, by kernel_rfl, 1, rx.n, ⟨rfl, rfl, hx0.1, hI.vx.nc⟩, 1, ry.n, ⟨rfl, rfl, hy0.1, hI.vy.nc⟩, ?_⟩
          intro w11 hx11 _
          have hxx := Ext.trans' hx10 hx11
          exact ⟨(⟨subA rx.a rx.c 1 5, rx.n - 1, rx.c - 1⟩, ⟨subA ry.a ry.c 1 5, ry.n - 1, ry.c - 1⟩, x, y, rn, _), ⟨rfl, rfl, rfl, rfl, trivial⟩, ⟨Ext.trans' h9.2.2 hxx, Ext.trans' hx29 hxx, Nat.lt_of_lt_of_le lt9 hxx.size, b49.ext hxx, h9.1.ext hxx, q9.ext hxx, hff, Nat.le_of_succ_le hI.cl, hI.vx.tail, hI.vy.tail, hI.dot.both heq⟩, by show _ < _; simp only [List.length_cons]; omega⟩
end Go.Proofs.Ytlfdobjdlgebbaa
/-
  Contracts of the layer sparse: something else at a place. Helpers; no statement of the program is proved here.
-/
set_option maxRecDepth 100000
set_option linter.unusedSimpArgs false
set_option linter.unusedVariables false
namespace Go.Tw
open Go Go.RowKit
/-- clear of a slice. -/
theorem raw_clear {P : Program} {T : TT} (hT : TOk P T) {o : Oper} {e : Env} {w : World} {K : Value → World → Prop} {t el : Nat} {x : Operand} {c : Call} (ho : o.op = .call c) (hc : c.callee = .builtin .clear) (ha : c.args.toList = [x]) (hat : c.argTypes.toList = [t]) (ht : (tyAt T t).d = .slice el)
    (hk : (known (tyAt T el) && Nat.blt 0 (tyAt T el).size && Nat.beq (tyAt T el).zero.length (tyAt T el).size && (tyAt T el).zero.all Value.oneCell') = true) {a : Option Addr} {m n : Nat} (hx : ev e x = some (.slice a m n))
    (h0 : m = 0 → K (.tuple #[]) w)
    (h1 : 0 < m → ∃ p, a = some p ∧ (∀ j, j < m * (tyAt T el).size → (∃ u, w.cell? (p.add j) = some u) ∧ w.frozen? (p.add j) = false) ∧ ∀ w', Stored w w' p (rep m (tyAt T el).zero) → K (.tuple #[]) w') : rawVC P o e w K := by
  intro r hr
  obtain ⟨dst, op, type, pos, after, guard⟩ := o
  simp only at ho
  subst ho
  simp only [Bool.and_eq_true] at hk
  obtain ⟨⟨⟨hkn, hpos⟩, hzl⟩, hone⟩ := hk
  have h1' : c.args.map r = #[.slice a m n] := by
    apply Array.ext'; rw [Array.toList_map, ha]; simp [hr x _ hx]
  have hat' : c.argTypes = #[t] := toList_eq1 hat
  simp only [execOp, resolve, hc, Sem.run_bind, Sem.run_pure, Result.andThen, invoke, h1', builtin, hat', Builtin.clear_]
  simp only [List.getElem?_toArray, List.getElem?_cons_zero, Sem.run_bind, run_underlying (hT.slice ht), Result.andThen]
  rcases Nat.eq_zero_or_pos m with hm | hm
  · subst hm
    cases a <;> exact h0 rfl
  · obtain ⟨p, rfl, hcells, hK⟩ := h1 hm
    obtain ⟨z, hz, hzc⟩ := hT.zero (known_ne hkn) w
    obtain ⟨k, rfl⟩ : ∃ k, m = k + 1 := ⟨m - 1, by omega⟩
    have hzs : z.cells.size = (tyAt T el).size := by rw [← Array.length_toList, hzc]; exact Nat.eq_of_beq_eq_true hzl
    have hzp : 0 < z.cells.size := by rw [hzs]; exact Nat.lt_of_lt_of_le Nat.zero_lt_one (Nat.le_of_ble_eq_true hpos)
    have he : (Builtin.zeroCells z.cells (k + 1)).toList = rep (k + 1) (tyAt T el).zero := by
      unfold Builtin.zeroCells
      rw [rep_range _ _ hzp, hzc]
    have hall : (rep (k + 1) (tyAt T el).zero).all Value.oneCell' = true := by
      have : ∀ n, (rep n (tyAt T el).zero).all Value.oneCell' = true := by
        intro n
        induction n with
        | zero => rfl
        | succ n ih => simp only [rep, List.all_append, hone, ih, Bool.and_self]
      exact this _
    have hst := run_storeFrom (P := P) p (rep (k + 1) (tyAt T el).zero) 0 w hall (fun j hj => by
      rw [Nat.zero_add]
      refine hcells j ?_
      rw [rep_length, Nat.eq_of_beq_eq_true hzl] at hj
      exact hj)
    simp only [hz, Sem.run_bind, Result.andThen, he, hst, Sem.run_pure]
    exact hK _ rfl
theorem TsIn.filter {k : Nat} {H : Hd} {w : World} {ts : List TmR} {xs : VL} (h : TsIn k H w ts xs) (p : Int) : TsIn k H w (ts.filter fun t => !decide (t.at' = p)) (xs.filter fun t => !decide (t.1 = p)) := by
  induction h with
  | nil => exact .nil
  | cons h1 h2 _ ih =>
    rename_i t q _ _ _
    by_cases hq : q.1 = p
    · have ht : t.at' = p := h1.trans hq
      simp only [List.filter_cons, hq, ht, decide_true, Bool.not_true, Bool.false_eq_true, if_false]; exact ih
    · have ht : ¬ t.at' = p := fun h => hq (h1.symm.trans h)
      simp only [List.filter_cons, hq, ht, decide_false, Bool.not_false, if_true]; exact .cons h1 h2 ih
theorem owns_cap {w : World} {base e n : Nat} {v : Value} {ts : List TmR} (h : w.ownsRow base e 5 v n (tcs ts)) (hn : 0 < n) :
    ∃ g cap R, v = .slice (some ⟨g, 0, none⟩) n cap ∧ base ≤ g ∧ Blk w g e (tcs ts ++ R) ∧ n ≤ cap ∧ cap ≤ 9223372036854775807 ∧ ts.length = n ∧ (tcs ts ++ R).length = cap * 5 := by
  obtain ⟨hl, h⟩ := h
  rw [tcs_length] at hl
  rcases h with ⟨rfl, rfl⟩ | ⟨g, cap, cur, rfl, hg, hb, hnc, hcm, hcs, htk⟩
  · omega
  · refine ⟨g, cap, cur.toList.drop (n * 5), rfl, hg, ?_, hnc, by unfold maxLen at hcm; exact hcm, by omega, ?_⟩
    · unfold Blk
      rw [← htk, List.take_append_drop]
      simpa using hb
    · rw [← htk, List.take_append_drop]; simpa using hcs
theorem owns_of_blk {w : World} {base e g n cap : Nat} {ts : List TmR} {R : List Value} (h : Blk w g e (tcs ts ++ R)) (hb : base ≤ g) (hn : ts.length = n) (hc : n ≤ cap) (hm : cap ≤ 9223372036854775807) (hl : (tcs ts ++ R).length = cap * 5) : w.ownsRow base e 5 (.slice (some ⟨g, 0, none⟩) n cap) n (tcs ts) := by
  have e1 := tcs_length ts
  refine ⟨by rw [e1, hn], .inr ⟨g, cap, (tcs ts ++ R).toArray, rfl, hb, h, hc, by unfold maxLen; exact hm, by simpa using hl, ?_⟩⟩
  show (tcs ts ++ R).take (n * 5) = tcs ts
  rw [List.take_append_of_le_length (by omega), List.take_of_length_le (by omega)]
end Go.Tw
namespace Go.Proofs.Ytlfdobjdlgebbaa
open Go Go.Tw Go.RowKit
attribute [local irreducible] LoadAt StoreOk Stored rawVC

abbrev pV (b : Nat) : Value := .func (.func 87) #[] #[.pointer (some ⟨b, 0, none⟩)]
theorem PutC_ok (t : TmR) {b : Nat} {p : Int} {w : World} (hb : Blk w b 3 [.int .i64 p]) : CallS Try.prog 87 #[t.v, .pointer (some ⟨b, 0, none⟩)] w fun v w' => Ext w w' ∧ v = .bool (decide (t.at' = p)) := by
  refine enter ttOk mixed (args := [t.v, .pointer (some ⟨b, 0, none⟩)]) Try.func87 rfl (by kernel_rfl) (by kernel_rfl) rfl ?_
  intro b1 w1 hb1
  have hX : Blk w1 b1 tT t.cs := hb1.toBlk
  refine ⟨_, hX.one (off := 0) rfl rfl, _, (hb.ext hb1.ext).one (off := 0) rfl rfl, ?_⟩
  refine And.intro (fun h => ?_) (fun h => ?_)
  · exact ⟨hb1.ext, by rw [decide_eq_true h]; rfl⟩
  · exact ⟨hb1.ext, by rw [decide_eq_false h]; rfl⟩
def fnd (ts : List TmR) (p z : Int) : Prop := (z = -1 ∧ ∀ t ∈ ts, t.at' ≠ p) ∨ ∃ i : Nat, z = (i : Int) ∧ i < ts.length ∧ ky ts i = p ∧ ∀ j, j < i → ky ts j ≠ p
theorem IndexF_ok {w : World} {a : Option Addr} {n c b : Nat} {p : Int} {ts : List TmR} (hT : Tms w a n ts) (hb : Blk w b 3 [.int .i64 p]) (hn : n ≤ 1099511627776) :
    CallS Try.prog 116 #[.slice a n c, pV b] w fun v w' => Ext w w' ∧ ∃ z, v = .int .i64 z ∧ fnd ts p z := by
  have hl := hT.len
  refine enter ttOk mixed (args := [.slice a n c, pV b]) Try.func116 rfl (by kernel_rfl) (by kernel_rfl) rfl ?_
  refine ⟨Nat, fun x => [(0, .slice a n c), (1, pV b), (7, .int .i64 (n : Int)), (8, .int .i64 (x : Int))], fun x w' => Ext w w' ∧ x ≤ n ∧ ∀ j, j < x → ky ts j ≠ p, fun x _ => n - x, ⟨0, ⟨rfl, rfl, rfl, rfl, trivial⟩, Ext.rfl w, Nat.zero_le _, fun j h => by omega⟩, ?_⟩
  rintro i w2 ⟨hx2, hi, hs⟩
  dsimp only at *
  refine And.intro (fun h1 => ?_) (fun h1 => ?_)
  · have hin := ltTo h1
    refine ⟨i, ⟨rfl, hin, hT.base (by omega)⟩, _, (hT.ext hx2).load (ty := tT) (getD_some (by omega)) rfl rfl, ?_⟩
    refine CallS.mono (PutC_ok _ (hb.ext hx2)) ?_
    rintro _ w3 ⟨hx3, rfl⟩
    by_cases hc : (ts.getD i default).at' = p
    · rw [decide_eq_true hc]
      exact ⟨Ext.trans' hx2 hx3, (i : Int), rfl, .inr ⟨i, rfl, by omega, hc, hs⟩⟩
    · rw [decide_eq_false hc]
      exact ⟨((i + 1 : Nat) : Int), sucI i (by omega), i + 1, ⟨rfl, rfl, rfl, rfl, trivial⟩, ⟨Ext.trans' hx2 hx3, hin, fun j hj => by
        by_cases hji : j = i
        · rw [hji]; exact hc
        · exact hs j (by omega)⟩, Nat.sub_lt_sub_left hin (Nat.lt_succ_self i)⟩
  · have e : i = n := Nat.le_antisymm hi (geTo h1)
    refine ⟨hx2, -1, rfl, .inl ⟨rfl, fun t ht => ?_⟩⟩
    obtain ⟨j, hj, rfl⟩ := List.getElem_of_mem ht
    have := hs j (by omega)
    unfold ky at this
    rw [List.getD_eq_getElem?_getD, List.getElem?_eq_getElem hj] at this
    exact this
end Go.Proofs.Ytlfdobjdlgebbaa
