/-
  SparseSpaceSaid is proved: for every input, whatever its vectors, fractions and place, SparseSpace returns true and each argument reads afterwards as it read before.
  No condition is laid beyond the given row. Ahead of it: how what comes in is opened.
-/
import Derived.Test.YtpgagepleffjlaaKC
import Derived.ProofKit
import Derived.Deep.Slices
import Derived.Deep.Fields
import Derived.ReadAgain
import Derived.Test.YtpgagepleffjlaaRows
import Derived.Test.YtpgagepleffjlaaChecked
set_option maxRecDepth 100000
set_option linter.unusedSimpArgs false
set_option linter.unusedVariables false
namespace Go.Proofs.Ytpgagepleffjlaa
open Go Go.Tw Go.RowKit Go.ChangeShapes Go.WideShapes Go.Deep
theorem listOf {α : Type} [Inhabited α] (n : Nat) {P : Nat → α → Prop} (h : ∀ i, i < n → ∃ z, P i z) : ∃ L : List α, L.length = n ∧ ∀ i z, L[i]? = some z → P i z := by
  induction n with
  | zero => exact ⟨[], rfl, fun i z h => by simp at h⟩
  | succ n ih =>
    obtain ⟨L, h1, h2⟩ := ih fun i hi => h i (Nat.lt_succ_of_lt hi)
    obtain ⟨z, hz⟩ := h n (Nat.lt_succ_self n)
    refine ⟨L ++ [z], by simp [h1], fun i y hy => ?_⟩
    rcases Nat.lt_or_ge i n with hi | hi
    · rw [List.getElem?_append_left (by omega)] at hy
      exact h2 i y hy
    · rw [List.getElem?_append_right (by omega)] at hy
      have : i - L.length = 0 := by
        rcases Nat.eq_zero_or_pos (i - L.length) with h0 | h0
        · exact h0
        · rw [List.getElem?_eq_none (by simp; omega)] at hy; cases hy
      rw [this] at hy
      simp only [List.getElem?_cons_zero, Option.some.injEq] at hy
      subst hy
      have : i = n := by omega
      rw [this]; exact hz
theorem cells1 {w : World} {base : Nat} {a : Addr} {n : Nat} {cs : List Value} (h : w.cells? base a n = some cs) : cs.length = n ∧ ∀ j, j < n → w.cell? (a.add j) = cs[j]? := (World.cells?_some h).2
theorem add_add' (a : Addr) (i j : Nat) : (a.add i).add j = a.add (i + j) :=
  Go.Deep.add_add a i j
section
variable {H : Type} {enc : TypeId × Value → H} {w : World} {base : Nat} {sp : Nat → Bool} {held : Bool} {fuel : Nat} {cs : List Value} {x : DataW H × List MemPlace}
theorem opWords (h : DataW.trod enc Try.prog w base sp held fuel 29 cs = some x) : ∃ a n c L, cs = [.slice a n c] ∧ Words w a n L ∧ n ≤ c ∧ c ≤ 9223372036854775807 := by
  rcases open_slice (t := 29) (e := 88) rfl h with ⟨rfl, _⟩ | ⟨a, len, cap, m, n, D, Pl, rfl, hb, hl, hm, hmm, hx, hi⟩
  · exact ⟨none, 0, 0, [], rfl, Words.nil w, Nat.le_refl _, by omega⟩
  · have hlm : len ≤ m := by rw [hmm]; split <;> omega
    have hone : ∀ i, i < len → ∃ z : Nat, z < 18446744073709551616 ∧ w.cell? (a.add i) = some (.int .u64 (z : Int)) := by
      intro i hil
      obtain ⟨cs', hc, ht⟩ := hi i (by omega)
      obtain ⟨z, rfl, _, hw⟩ := DataW.trod_int (k := .u64) rfl ht
      have hb : 0 ≤ z ∧ z ≤ 18446744073709551615 := by
        simp [Lit.wf, IntKind.min, IntKind.max, IntKind.signed, IntKind.bits] at hw
        omega
      have hcc := (cells1 hc).2 0 (by decide)
      refine ⟨z.toNat, by omega, ?_⟩
      rw [Int.toNat_of_nonneg hb.1]
      have e : (a.add (i * Try.prog.cellsOf 88)).add 0 = a.add i := by
        have : Try.prog.cellsOf 88 = 1 := by kernel_rfl
        rw [this, Nat.mul_one, add_add', Nat.add_zero]
      rw [e] at hcc
      exact hcc
    obtain ⟨L, hL, hP⟩ := listOf len hone
    have hsp : 0 < len → a.spot = none := by
      intro h0
      obtain ⟨z, _, hz⟩ := hone 0 h0
      have := World.cell?_spot hz
      cases a; simpa [Addr.add] using this
    refine ⟨some a, len, cap, L, rfl, ⟨hL, fun h0 => ⟨a, rfl, hsp h0⟩, fun j z hz => ?_, fun z hz => ?_⟩, hl, by unfold maxLen at hm; exact hm⟩
    · have hj : j < len := by
        rcases Nat.lt_or_ge j len with h' | h'
        · exact h'
        · rw [List.getElem?_eq_none (by omega)] at hz; cases hz
      rw [← add_eq_addrAt (hsp (by omega)) j]
      exact (hP j z hz).2
    · obtain ⟨j, hj, rfl⟩ := List.getElem_of_mem hz
      exact (hP j _ (List.getElem?_eq_getElem hj)).1
theorem opInt (h : DataW.trod enc Try.prog w base sp held fuel 31 cs = some x) : ∃ r : IntR, cs = [.bool r.neg, .slice r.a r.n r.c] ∧ (∃ L, Words w r.a r.n L) ∧ r.n ≤ r.c ∧ r.c ≤ 9223372036854775807 := by
  obtain ⟨y0, y1, n, rfl, hl, h0, h1⟩ := trod_struct2 (t := 31) rfl h
  obtain ⟨b, hb, _⟩ := DataW.trod_bool rfl h0
  obtain ⟨a, m, c, L, hs, hw, h2, h3⟩ := opWords h1
  have hl : cs.length = 2 := hl.trans (by kernel_rfl)
  match cs, hl with
  | [c0, c1], _ =>
    have k0 : c0 = Value.bool b := (List.cons.inj (show [c0] = [Value.bool b] from hb)).1
    have k1 : c1 = Value.slice a m c := (List.cons.inj (show [c1] = [Value.slice a m c] from hs)).1
    rw [k0, k1]
    exact ⟨⟨b, a, m, c⟩, rfl, ⟨L, hw⟩, h2, h3⟩
theorem opRat (h : DataW.trod enc Try.prog w base sp held fuel 33 cs = some x) : ∃ r : RatR, cs = rcs r ∧ OpQ w r := by
  obtain ⟨y0, y1, n, rfl, hl, h0, h1⟩ := trod_struct2 (t := 33) rfl h
  obtain ⟨r0, e0, w0, a0, b0⟩ := opInt h0
  obtain ⟨r1, e1, w1, a1, b1⟩ := opInt h1
  have hl : cs.length = 4 := hl.trans (by kernel_rfl)
  match cs, hl with
  | [c0, c1, c2, c3], _ =>
    have k0 : [c0, c1] = [Value.bool r0.neg, Value.slice r0.a r0.n r0.c] := e0
    have k1 : [c2, c3] = [Value.bool r1.neg, Value.slice r1.a r1.n r1.c] := e1
    have k2 : [c0, c1, c2, c3] = [c0, c1] ++ [c2, c3] := rfl
    rw [k2, k0, k1]
    exact ⟨⟨r0, r1⟩, rfl, w0, w1, a0, b0, a1, b1⟩
theorem opTm (h : DataW.trod enc Try.prog w base sp held fuel 77 cs = some x) : ∃ t : TmR, cs = t.cs ∧ OpQ w t.x := by
  obtain ⟨y0, y1, n, rfl, hl, h0, h1⟩ := trod_struct2 (t := 77) rfl h
  obtain ⟨z, e0, _, _⟩ := DataW.trod_int (k := .i64) rfl h0
  obtain ⟨r1, e1, w1⟩ := opRat h1
  have hl : cs.length = 5 := hl.trans (by kernel_rfl)
  match cs, hl with
  | [c0, c1, c2, c3, c4], _ =>
    have k0 : c0 = Value.int .i64 z := (List.cons.inj (show [c0] = [Value.int .i64 z] from e0)).1
    have k1 : [c1, c2, c3, c4] = rcs r1 := e1
    rw [k0, k1]
    exact ⟨⟨z, r1⟩, rfl, w1⟩
theorem opVec {t : Nat} (ht : Try.prog.underlying t = some (.slice 77)) (h : DataW.trod enc Try.prog w base sp held fuel t cs = some x) : ∃ (r : SlR) (ts : List TmR), cs = [r.v] ∧ OpV w r ts := by
  rcases open_slice ht h with ⟨rfl, _⟩ | ⟨a, len, cap, m, n, D, Pl, rfl, hb, hl, hm, hmm, hx, hi⟩
  · exact ⟨⟨none, 0, 0⟩, [], rfl, Tms.nil w none, fun t h => by simp at h, Nat.le_refl _, by show 0 ≤ _; omega⟩
  · have hlm : len ≤ m := by rw [hmm]; split <;> omega
    have h5 : Try.prog.cellsOf 77 = 5 := by kernel_rfl
    have hone : ∀ i, i < len → ∃ t : TmR, OpQ w t.x ∧ ∀ j v, t.cs[j]? = some v → w.cell? (a.add (i * 5 + j)) = some v := by
      intro i hil
      obtain ⟨cs', hc, ht⟩ := hi i (by omega)
      obtain ⟨t, rfl, hq⟩ := opTm ht
      refine ⟨t, hq, fun j v hj => ?_⟩
      have hj5 : j < 5 := by
        rcases Nat.lt_or_ge j 5 with h' | h'
        · exact h'
        · rw [List.getElem?_eq_none (by exact h')] at hj; cases hj
      have := (cells1 hc).2 j (by rw [h5]; exact hj5)
      rw [h5, add_add', hj] at this
      exact this
    obtain ⟨ts, hL, hP⟩ := listOf len hone
    have hsp : 0 < len → a.spot = none := by
      intro h0
      obtain ⟨t, _, hz⟩ := hone 0 h0
      have := World.cell?_spot (hz 0 _ rfl)
      cases a; simpa [Addr.add] using this
    refine ⟨⟨some a, len, cap⟩, ts, rfl, ⟨hL, fun h0 => ⟨a, rfl, hsp h0⟩, fun i v hv => ?_⟩, fun t ht => ?_, hl, by unfold maxLen at hm; exact hm⟩
    · obtain ⟨t, h1, h2⟩ := tcs_at hv
      have hj : i / 5 < len := by
        rcases Nat.lt_or_ge (i / 5) len with h' | h'
        · exact h'
        · rw [List.getElem?_eq_none (by omega)] at h1; cases h1
      have := (hP _ t h1).2 _ v h2
      rw [Nat.div_add_mod'] at this
      show w.cell? (addrAt (some a) i) = _
      rw [← add_eq_addrAt (hsp (by omega)) i]
      exact this
    · obtain ⟨j, hj, rfl⟩ := List.getElem_of_mem ht
      exact (hP j _ (List.getElem?_eq_getElem hj)).1
end
end Go.Proofs.Ytpgagepleffjlaa
/-
  SparseSpace: the statement.
-/
set_option maxRecDepth 100000
namespace Go.Proofs.Ytpgagepleffjlaa
open Go Go.Tw Go.ChangeShapes Go.WideShapes Go.ChangeAt Go.RowKit

theorem own0 : ownKnob Try.prog.godebug = none := by kernel_rfl
theorem kids0 : Kids Try.prog (fun t => t < Try.prog.types.size) := kids_rows (by kernel_rfl) (by kernel_rfl)
theorem full0 : ∀ t e, t < Try.prog.types.size → Try.prog.underlying t = some (.slice e) → 0 < Try.prog.cellsOf e := slices_full_of _ (by kernel_rfl)
theorem trodAll_ext {H : Type} {enc : TypeId × Value → H} {W W' : World} {sp : Nat → Bool} (hx : Ext W W') : ∀ {ts : List TypeId} {vs : List Value} {ds : List (DataW H)} {ps : List MemPlace}, (∀ p ∈ ps, p.block < W.heap.size) →
    DataW.TrodAll enc Try.prog W 0 sp true ts vs ds ps → DataW.TrodAll enc Try.prog W' 0 sp true ts vs ds ps
  | [], [], [], _, _, h => h
  | _ :: _, _ :: _, _ :: _, _, hl, ⟨p, q, ⟨n, h1⟩, h2, e⟩ =>
    ⟨p, q, ⟨n, DataW.trod_carry n _ _ _ h1 fun x hx' => Below.same hx (hl x (by rw [e]; exact List.mem_append_left _ hx'))⟩, trodAll_ext hx (fun x hx' => hl x (by rw [e]; exact List.mem_append_right _ hx')) h2, e⟩
/-- What the row asks behind a call that made new memory alone. -/
theorem post_ext {H : Type} {enc : TypeId × Value → H} {f : Func} {s : ChangeSpec} {apart fresh handsOn again : Bool} {W W' : World} {args : Array Value} {v : Value} {ds : List (DataW H)} {before : List MemPlace}
    (hvn : s.vars = []) (hW : DataW.Whole enc Try.prog f.params.toList s.vars apart W args.toList ds [] before) (hx : Ext W W') (hlt : ∀ t ∈ f.params.toList, t < Try.prog.types.size)
    (hA : DataW.TrodAll enc Try.prog W 0 (fun _ => true) true f.params.toList args.toList ds before)
    (hres : ∀ (b : Nat) (sp : Nat → Bool) (hd : Bool), DataW.TrodAll enc Try.prog W' b sp hd f.resultTypes.toList (v.resultList f.resultTypes.size) (s.fn H (ds ++ [])).results [])
    (hargs : (s.fn H (ds ++ [])).args = ds) (hvars : (s.fn H (ds ++ [])).vars = [])
    (hok : ∀ (j : Nat) (t : TypeId) (r : Value), f.resultTypes[j]? = some t → (v.resultList f.resultTypes.size)[j]? = some r → Value.okWide Try.prog W' .any 0 t r) :
    s.post enc Try.prog f apart fresh handsOn again W args v W' := by
  have hl : ∀ p ∈ before, p.block < W.heap.size := fun p hp => hW.lt p hp
  have hold : ∀ p ∈ before, (fun b => decide (b < W.heap.size)) p.block = true := fun p hp => by simpa using hl p hp
  have ha : ∀ sp : Nat → Bool, (∀ p ∈ before, sp p.block = true) → DataW.TrodAll enc Try.prog W' 0 sp true f.params.toList args.toList (s.fn H (ds ++ [])).args before := fun sp hsp => by
    rw [hargs]
    exact trodAll_ext hx hl (DataW.TrodAll.respare (T := fun t => t < Try.prog.types.size) kids0 full0 hlt hA hsp)
  have hv : ∀ sp : Nat → Bool, DataW.TrodVars enc Try.prog W' sp s.vars (s.fn H (ds ++ [])).vars [] := fun sp => by
    rw [hvars, hvn]; rfl
  refine ⟨ds, [], before, [], before, [], hW, hres _ _ _, ha _ hold, hv _, Below.frame hx _, fun _ => ?_⟩
  obtain ⟨_, _, _, _, _, hz, hn⟩ := hW
  refine ⟨hok, _, _, ([] ++ before) ++ [], ⟨[] ++ before, [], trodAll_append (ha _ (fun _ _ => rfl)) (hres _ _ _), hv _, rfl, ?_, ?_⟩, ?_⟩
  · intro b off hp
    have hp : MemPlace.cell b off ∈ before := by simpa using hp
    rw [Below.frozen hx (p := ⟨b, off, none⟩) (hl _ hp)]
    exact hz b off hp
  · intro hap
    have := hn hap
    simpa using this
  · intro p hp _
    simpa using hp
theorem space_wide {W : World} {v0 v1 v2 v3 v4 v5 : Value} {rx ry rz : SlR} {rc rd : RatR} {tx ty tz : List TmR} {z : Int} (e0 : v0 = rx.v) (e1 : v1 = ry.v) (e2 : v2 = rz.v) (e3 : v3 = rc.v) (e4 : v4 = rd.v) (e5 : v5 = .int .i64 z)
    (ox : OpV W rx tx) (oy : OpV W ry ty) (oz : OpV W rz tz) (oc : OpQ W rc) (od : OpQ W rd) :
    Calls Try.prog 4 #[v0, v1, v2, v3, v4, v5] W fun e W' => ∃ v, e = .returned v ∧ (Ext W W' ∧ v = .bool true) := by
  subst e0 e1 e2 e3 e4 e5
  exact SparseSpace_ok ox oy oz oc od z
end Go.Proofs.Ytpgagepleffjlaa
/-
  SparseSpace: the statement, proved.
-/
set_option maxRecDepth 100000
namespace Go.Proofs.Ytpgagepleffjlaa
open Go Go.Tw Go.ChangeShapes Go.WideShapes Go.ChangeAt Go.RowKit

section
variable {H : Type} {enc : TypeId × Value → H} {W : World} {base : Nat} {sp : Nat → Bool} {held : Bool} {r : Reach} {b0 : Nat} {v : Value} {d : DataW H} {p : List MemPlace}
theorem openV {t : Nat} (ht : Try.prog.underlying t = some (.slice 77)) (hv : Value.okWide Try.prog W r b0 t v) (h : DataW.Trod enc Try.prog W base sp held t v d p) : ∃ (s : SlR) (ts : List TmR), v = s.v ∧ OpV W s ts := by
  obtain ⟨a, n, c, rfl⟩ := okWide_slice ht hv
  obtain ⟨fuel, hf⟩ := h
  obtain ⟨s, ts, e, ho⟩ := opVec ht hf
  exact ⟨s, ts, (List.cons.inj e).1, ho⟩
theorem openQ (hv : Value.okWide Try.prog W r b0 33 v) (h : DataW.Trod enc Try.prog W base sp held 33 v d p) : ∃ s : RatR, v = s.v ∧ OpQ W s := by
  obtain ⟨cs, rfl, _⟩ := okWide_struct (t := 33) rfl hv
  obtain ⟨fuel, hf⟩ := h
  obtain ⟨s, e, ho⟩ := opRat hf
  refine ⟨s, ?_, ho⟩
  have e : cs.toList = rcs s := e
  show Value.agg cs = Value.agg (rcs s).toArray
  rw [← e]
end
theorem space_lifted (os : Os) (started : os.Started) (H : Type) (enc : TypeId × Value → H) :
    ReturnsInHanded {} Try.checked os 4 .any (Rows.sparseSpaceSpec.pre6 enc Try.prog Try.f4 Rows.sparseSpaceRow.domain false) (Rows.sparseSpaceSpec.post enc Try.prog Try.f4 false true false false) := by
  refine returnsInHanded_of_change (C := Try.checked) own0 started (by kernel_rfl) Try.func4
    (ChangeSpec.witness6 (enc := enc) (C := Try.checked) false ⟨#[], #[.slice none 0 0, .slice none 0 0, .slice none 0 0, RatR.zero.v, RatR.zero.v, .int .i64 0], []⟩ 8 (by kernel_rfl) (by kernel_rfl) (by kernel_rfl) (by kernel_rfl)) ?_
  intro W base args ds gs before hval0 hW hcnd _
  have hval : ∀ (j : Nat) t v, Try.f4.params[j]? = some t → args[j]? = some v → Value.okWide Try.prog W .any base t v := hval0
  have hW' := hW
  obtain ⟨p, q, hA0, hV, rfl, hfz, hnd⟩ := hW
  have hA : DataW.TrodAll enc Try.prog W 0 (fun _ => true) true Try.f4.params.toList args.toList ds p := hA0
  obtain ⟨rfl, rfl⟩ := trodVars_none hV
  simp only [List.append_nil] at hW'
  have hAk := hA
  rw [Try.params4] at hA hval
  obtain ⟨v0, s0, d0, ds0, p0, q0, ea, rfl, rfl, h0, hA⟩ := trodAll_cons hA
  obtain ⟨v1, s1, d1, ds1, p1, q1, rfl, rfl, rfl, h1, hA⟩ := trodAll_cons hA
  obtain ⟨v2, s2, d2, ds2, p2, q2, rfl, rfl, rfl, h2, hA⟩ := trodAll_cons hA
  obtain ⟨v3, s3, d3, ds3, p3, q3, rfl, rfl, rfl, h3, hA⟩ := trodAll_cons hA
  obtain ⟨v4, s4, d4, ds4, p4, q4, rfl, rfl, rfl, h4, hA⟩ := trodAll_cons hA
  obtain ⟨v5, s5, d5, ds5, p5, q5, rfl, rfl, rfl, h5, hA⟩ := trodAll_cons hA
  obtain ⟨rfl, rfl, rfl⟩ := trodAll_nil hA
  have ea : args = #[v0, v1, v2, v3, v4, v5] := by cases args; simp_all
  subst ea
  obtain ⟨rx, tx, e0, ox⟩ := openV rfl (hval 0 _ v0 rfl rfl) h0
  obtain ⟨ry, ty, e1, oy⟩ := openV rfl (hval 1 _ v1 rfl rfl) h1
  obtain ⟨rz, tz, e2, oz⟩ := openV rfl (hval 2 _ v2 rfl rfl) h2
  obtain ⟨rc, e3, oc⟩ := openQ (hval 3 _ v3 rfl rfl) h3
  obtain ⟨rd, e4, od⟩ := openQ (hval 4 _ v4 rfl rfl) h4
  obtain ⟨z, e5, _, _, _⟩ := open_int Try.underlying3 (hval 5 3 v5 rfl rfl) h5
  refine (space_wide e0 e1 e2 e3 e4 e5 ox oy oz oc od).mono fun e W' he => ?_
  obtain ⟨v, rfl, hx, rfl⟩ := he
  exact ⟨_, rfl, post_ext rfl hW' hx (by decide) hAk (fun _ _ _ => trodAll_mk1 (shut_bool Try.underlying4 _)) rfl rfl (ok_one (by kernel_rfl) rfl (okWide_bool_mk Try.underlying4 _))⟩
theorem sparseSpace_holds : Rows.SparseSpaceSaid :=
  OpenClaim.holds_of_wide 4 Try.f4 rfl rfl rfl rfl rfl rfl rfl ⟨rfl, rfl, rfl, rfl, rfl⟩ rfl rfl rfl rfl rfl (by kernel_rfl) Try.func4 (by kernel_rfl)
    (of_decide_eq_true (by kernel_rfl)) (by unfold Func.isWrapper; first | (rw [if_pos (by decide +kernel)]; kernel_rfl) | (rw [if_neg (by decide +kernel)]; exact ⟨rfl, rfl⟩))
    (fun os started H enc _ => space_lifted os started H enc)
end Go.Proofs.Ytpgagepleffjlaa
