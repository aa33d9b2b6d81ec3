/-
  A row of bytes made a text. Helpers; no statement of the program is proved here.
-/
import Derived.Test.YtpgagepleffjlaaK9
import Derived.Laws.BytesString
set_option maxRecDepth 100000
set_option linter.unusedSimpArgs false
set_option linter.unusedVariables false
namespace Go.Tw
open Go Go.RowKit
def txt (ns : List Int) : ByteArray := ns.foldl (fun r n => r.push (UInt8.ofNat n.toNat)) ByteArray.empty
theorem raw_bytes {P : Program} {T : TT} (hT : TOk P T) {o : Oper} {e : Env} {w : World} {K : Value → World → Prop} {s d el : Nat} {x : Operand} (ho : o.op = .convert s d x) (hs : (tyAt T s).d = .slice el) (he : (tyAt T el).d = .int .u8) (hd : (tyAt T d).d = .str)
    {a : Addr} {m n : Nat} (hx : ev e x = some (.slice (some a) m n)) {ns : List Int} (hl : ns.length = m) (hc : ∀ j v, (ns.map (Value.int .u8))[j]? = some v → w.cell? (a.add j) = some v) (hK : K (.string (txt ns)) w) : rawVC P o e w K := by
  intro r hr
  obtain ⟨dst, op, type, pos, after, guard⟩ := o
  simp only at ho
  subst ho
  have h1 : (loadCells a m).run P w = .ok (ns.map (Value.int .u8)).toArray w := by
    have := run_loadCells_list (P := P) w a (ns.map (Value.int .u8)) hc
    simpa [hl] using this
  have h2 := run_bytesToString (P := P) w a m n ns h1
  have h3 := run_convert_bytes_string (P := P) w s d el (some a) m n (hT.slice hs) (hT.int he) (hT.str hd)
  simp only [execOp, hr x _ hx, Sem.run_bind, h3, h2, Result.andThen, Sem.run_pure]
  exact hK
end Go.Tw
/-
  Contracts: the text of a small number. Helpers; no statement of the program is proved here.
-/
set_option maxRecDepth 100000
set_option linter.unusedSimpArgs false
set_option linter.unusedVariables false
namespace Go.Proofs.Ytpgagepleffjlaa
open Go Go.Tw Go.RowKit
attribute [local irreducible] LoadAt StoreOk Stored rawVC

abbrev tB : Nat := 5
theorem Rev1_ok {w : World} {a : Option Addr} {c : Nat} : CallS Try.prog 102 #[.slice a 1 c] w fun v w' => Ext w w' ∧ v = .tuple #[] := by
  refine enter ttOk mixed (args := [.slice a 1 c]) Try.func102 rfl (by kernel_rfl) (by kernel_rfl) rfl ?_
  refine ⟨0, by omega, ?_⟩
  refine ⟨Unit, fun _ => [(0, .slice a 1 c), (2, .int .i64 0), (3, .int .i64 0)], fun _ w' => Ext w w', fun _ _ => 0, ⟨(), ⟨rfl, rfl, rfl, trivial⟩, Ext.rfl w⟩, ?_⟩
  rintro u w1 hx1
  refine And.intro (fun h1 => ?_) (fun h1 => ?_)
  · exfalso; omega
  · exact ⟨hx1, rfl⟩
theorem Text1_ok {w : World} {rx : IntR} {z : Nat} (hx : CanI H0 w rx (z : Int)) (h1 : 1 ≤ z) (h9 : z ≤ 9) :
    CallS Try.prog 79 #[rx.v] w fun v w' => Ext w w' ∧ v = .string (txt [48 + (z : Int)]) := by
  have hw := hx.words
  rw [Int.natAbs_natCast] at hw
  have hdz : dig z = [z] := by
    rw [dig_pos (by omega), Nat.mod_eq_of_lt (by omega), Nat.div_eq_of_lt (by omega), dig_zero]
  rw [hdz] at hw
  have hn1 : rx.n = 1 := hw.len.symm
  have hneg : rx.neg = false := by rw [hx.neg]; exact decide_eq_false (by omega)
  refine enter ttOk mixed (args := [rx.v]) Try.func79 rfl (by kernel_rfl) (by kernel_rfl) rfl ?_
  intro b1 w1 hb1
  have hB : Blk w1 b1 31 [.bool rx.neg, .slice rx.a rx.n rx.c] := hb1.toBlk
  rw [hneg] at hB
  refine ⟨_, hB.one (off := 1) rfl rfl, ?_⟩
  refine CallS.mono (Trim_ok (hw.ext hb1.ext) hx.nc hx.cm (by omega)) ?_
  rintro v w2 ⟨hx2, a4, n4, c4, rfl, hW4, hc4, hm4⟩
  have hv : val [z] = z := by simp [val]
  rw [hv, hdz] at hW4
  have hx02 := Ext.trans' hb1.ext hx2
  refine ⟨SlR × SlR × Bool, fun x => [(1, .pointer (some ⟨b1, 0, none⟩)), (3, x.1.v), (4, x.2.1.v)], fun x w' => Ext w2 w' ∧ (if x.2.2 = true then (Words w' x.2.1.a x.2.1.n [] ∧ w'.ownsRow w2.heap.size tB 1 x.1.v 1 [.int .u8 (48 + (z : Int))]) else (x.2.1 = ⟨a4, n4, c4⟩ ∧ x.1 = ⟨none, 0, 0⟩)), fun x _ => if x.2.2 = true then 0 else 1,
    ⟨(⟨none, 0, 0⟩, ⟨a4, n4, c4⟩, false), ⟨rfl, rfl, rfl, trivial⟩, Ext.rfl w2, ⟨rfl, rfl⟩⟩, ?_⟩
  rintro ⟨s3, s4, d⟩ w3 ⟨hx3, hI⟩
  dsimp only at *
  cases d with
  | true =>
    have hI : Words w3 s4.a s4.n [] ∧ w3.ownsRow w2.heap.size tB 1 s3.v 1 [.int .u8 (48 + (z : Int))] := hI
    have h40 : s4.n = 0 := hI.1.len.symm
    refine And.intro (fun h2 => ?_) (fun h2 => ?_)
    · exfalso; omega
    · have hs3 : ∃ g cap, s3 = ⟨some ⟨g, 0, none⟩, 1, cap⟩ ∧ w3.cell? ⟨g, 0, none⟩ = some (.int .u8 (48 + (z : Int))) := by
        rcases hI.2.2 with ⟨_, h0⟩ | ⟨g, cap, cur, he, hg, hb, hnc, hcm, hcs, htk⟩
        · omega
        · refine ⟨g, cap, SlR.inj he, ?_⟩
          have h5 : cur.toList.take 1 = [Value.int .u8 (48 + (z : Int))] := htk
          have h6 : cur[0]? = some (.int .u8 (48 + (z : Int))) := by
            have := congrArg (fun l => l[0]?) h5
            simpa using this
          simp only [World.cell?, hb]
          simpa using h6
      obtain ⟨g, cap, rfl, hcell⟩ := hs3
      have hB3 := (hB.ext hx2).ext hx3
      refine And.intro (fun h3 => ?_) (fun h3 => ?_)
      · exfalso
        have h3 : ((1 : Nat) : Int) = 0 := h3
        omega
      · refine ⟨_, hB3.one (off := 0) rfl rfl, ?_⟩
        refine CallS.mono Rev1_ok ?_
        rintro _ w4 ⟨hx4, rfl⟩
        refine raw_bytes (ns := [48 + (z : Int)]) ttOk rfl rfl rfl rfl rfl rfl (fun j v hj => ?_) ⟨Ext.trans' (Ext.trans' hx02 hx3) hx4, rfl⟩
        cases j with
        | zero =>
          have hj : some (Value.int .u8 (48 + (z : Int))) = some v := hj
          cases hj
          exact hx4.cellEq hcell
        | succ j => simp at hj
  | false =>
    have hI : s4 = ⟨a4, n4, c4⟩ ∧ s3 = ⟨none, 0, 0⟩ := hI
    obtain ⟨rfl, rfl⟩ := hI
    have h41 : n4 = 1 := hW4.len.symm
    refine And.intro (fun h2 => ?_) (fun h2 => ?_)
    · intro b5 w4 hb5
      have hb5 : New w3 w4 b5 88 (wv [1000000000000000000]) := hb5
      have hW5 : Words w4 (some ⟨b5, 0, none⟩) 1 [1000000000000000000] := Words.blkAll (A := [1000000000000000000]) hb5.toBlk (fun x hx => by simp at hx; omega)
      refine CallS.mono (DivMod_ok ((hW4.ext hx3).ext hb5.ext) hc4 hm4 (show n4 ≤ 1099511627776 by omega) hW5 (Nat.le_refl _) (by omega) (by omega)) ?_
      rintro _ w5 ⟨hx5, q, r, rfl, hq, hr⟩
      have hv2 : val [1000000000000000000] = 1000000000000000000 := by simp [val]
      rw [hv, hv2, Nat.div_eq_of_lt (by omega), dig_zero] at hq
      have hmod : modN z 1000000000000000000 = z := by unfold modN; rw [if_neg (by omega)]; exact Nat.mod_eq_of_lt (by omega)
      rw [hv, hv2, hmod, hdz] at hr
      obtain ⟨aq, nq, cq, rfl, hWq, hcq, hmq⟩ := hq
      obtain ⟨ar, nr, cr, rfl, hWr, hcr, hmr⟩ := hr
      have hnq : nq = 0 := hWq.len.symm
      have hnr : nr = 1 := hWr.len.symm
      have hx45 := Ext.trans' hb5.ext hx5
      refine And.intro (fun h3 => ?_) (fun h3 => ?_)
      · refine ⟨0, ⟨rfl, by omega, hWr.base (by omega)⟩, _, hWr.load rfl rfl rfl, ?_⟩
        refine ⟨SlR × Bool, fun x => [(1, .pointer (some ⟨b1, 0, none⟩)), (3, x.1.v), (4, .slice aq nq cq), (6, .int .u64 (if x.2 = true then 0 else (z : Int))), (7, .int .i64 (if x.2 = true then 1 else 0))], fun x w' => Ext w5 w' ∧ (if x.2 = true then w'.ownsRow w2.heap.size tB 1 x.1.v 1 [.int .u8 (48 + (z : Int))] else x.1 = ⟨none, 0, 0⟩), fun x _ => if x.2 = true then 0 else 1,
          ⟨(⟨none, 0, 0⟩, false), ⟨rfl, rfl, rfl, rfl, rfl, trivial⟩, Ext.rfl w5, rfl⟩, ?_⟩
        rintro ⟨s3, d⟩ w6 ⟨hx6, hJ⟩
        cases d with
        | true =>
          have hJ : w6.ownsRow w2.heap.size tB 1 s3.v 1 [.int .u8 (48 + (z : Int))] := hJ
          refine And.intro (fun h4 => ?_) (fun h4 => ?_)
          · refine And.intro (fun h5 => ?_) (fun h5 => ?_)
            · exfalso; exact absurd (show (0 : Int) > 0 from h5) (by decide)
            · refine And.intro (fun h6 => ?_) (fun h6 => ?_)
              · exfalso
                have h6 : (0 : Int) < (nq : Int) := h6
                omega
              · exact ⟨(s3, ⟨aq, nq, cq⟩, true), ⟨rfl, rfl, rfl, trivial⟩, ⟨Ext.trans' hx3 (Ext.trans' hx45 hx6), hWq.ext hx6, hJ⟩, Nat.zero_lt_one⟩
          · exfalso; apply h4; show (1 : Int) < 18; decide
        | false =>
          have hJ : s3 = ⟨none, 0, 0⟩ := hJ
          subst hJ
          refine And.intro (fun h4 => ?_) (fun h4 => ?_)
          · refine And.intro (fun h5 => ?_) (fun h5 => ?_)
            · refine ⟨((z % 10 : Nat) : Int), ⟨remZ z 10, fun h => by omega⟩, 48 + (z : Int), by omega, 48 + (z : Int), by omega, ?_⟩
              intro b8 w7 hb8
              have hb8 : New w6 w7 b8 tB [.int .u8 (48 + (z : Int))] := hb8
              have h27 : Ext w2 w7 := Ext.trans' (Ext.trans' (Ext.trans' hx3 hx45) hx6) hb8.ext
              refine ⟨rfl, w2.heap.size, 0, [], [.int .u8 (48 + (z : Int))], ⟨World.ownsRow_nil _ _ _ _, rfl, ?_, ?_, fun _ => ⟨_, rfl, rfl⟩, by omega, by show 1 * 1 ≤ _; omega, h27.size⟩, ?_⟩
              · intro j v hj
                exact hb8.toBlk.cell (i := 0 + j) (v := v) (by rw [Nat.zero_add]; exact hj)
              · intro v hv
                rw [List.mem_singleton] at hv
                subst hv; rfl
              intro v' w8 ho hg hn
              have ho : w8.ownsRow w2.heap.size tB 1 v' 1 [.int .u8 (48 + (z : Int))] := ho
              have hx8 : Ext w2 w8 := Ext.grown h27 hg (fun b hb => by cases hb)
              have hx68 : Ext w6 w8 := Ext.grown hb8.ext hg (fun b hb => by cases hb)
              have hv : ∃ s : SlR, v' = s.v := by
                rcases ho.2 with ⟨rfl, h0⟩ | ⟨g, cap, cur, rfl, _⟩
                · omega
                · exact ⟨⟨_, _, _⟩, rfl⟩
              obtain ⟨s, rfl⟩ := hv
              have hq0 := quoZ z 10 (by omega)
              rw [Nat.div_eq_of_lt (by omega)] at hq0
              refine ⟨0, ⟨hq0, fun h => by omega⟩, 1, ⟨rfl, by decide⟩, ?_⟩
              exact ⟨(s, true), ⟨rfl, rfl, rfl, rfl, rfl, trivial⟩, ⟨Ext.trans' hx6 hx68, ho⟩, Nat.zero_lt_one⟩
            · exfalso; apply h5; show (0 : Int) < (z : Int); omega
          · exfalso; apply h4; show (0 : Int) < 18; decide
      · exfalso; apply h3; show (0 : Int) < (nr : Int); omega
    · exfalso; apply h2; show (0 : Int) < (n4 : Int); omega
theorem txt_size1 (n : Int) : (txt [n]).size = 1 := rfl
/-- The text of a fraction of one digit above and below. -/
theorem RText_ok {w : World} {rx : RatR} {q : Rat} {z : Nat} (hx : QI 1 w rx q) (hq : q.num = (z : Int)) (h1 : 1 ≤ z) (h9 : z ≤ 9) (hd : q.den ≤ 9) :
    CallS Try.prog 46 #[rx.v] w fun v w' => Ext w w' ∧ v = .string (if q.den = 1 then txt [48 + (z : Int)] else txt [48 + (z : Int)] ++ ⟨#[47]⟩ ++ txt [48 + (q.den : Int)]) := by
  refine enter ttOk mixed (args := [rx.v]) Try.func46 rfl (by kernel_rfl) (by kernel_rfl) rfl ?_
  intro b1 w1 hb1
  have hB1 : Blk w1 b1 33 (rcs rx) := hb1.toBlk
  refine ⟨rx.v, loadQ hB1, ?_⟩
  refine CallS.mono (Norm_ok ((H0.hb w).up hb1.ext) (hx.inq.is.up hb1.ext)) ?_
  rintro _ w2 ⟨hx2, r, rfl, hr⟩
  have st := storeQ (r := r) (hB1.ext hx2) (Ext.trans' hb1.ext hx2) (hb1.ge (Ext.rfl _)) rfl
  refine ⟨st.1, fun w3 hs3 => ?_⟩
  have hB3 := (st.2 w3 hs3).1
  have hx3 := (st.2 w3 hs3).2.2
  have hr3 := (hr.far (st.2 w3 hs3).2.1 (hb1.inUp (Ext.rfl w) (Ext.rfl w1))).less
  have hnum : CanI H0 w3 r.num (z : Int) := hq ▸ hr3.num
  refine ⟨_, hB3.one (off := 3) rfl rfl, ?_⟩
  by_cases h0 : q.den = 1
  · have hn0 : r.den.n = 0 := by
      rw [hr3.den.n0]; unfold denC; rw [if_pos h0]
    rw [if_pos h0]
    refine And.intro (fun h2 => ?_) (fun h2 => ?_)
    · refine ⟨r.num.v, loadQn hB3, ?_⟩
      refine CallS.mono (Text1_ok hnum h1 h9) ?_
      rintro _ w4 ⟨hx4, rfl⟩
      exact ⟨Ext.trans' hx3 hx4, rfl⟩
    · exfalso; apply h2; show (r.den.n : Int) = 0; omega
  · have hdn : CanI H0 w3 r.den ((q.den : Nat) : Int) := by
      have := hr3.den
      unfold denC at this
      rw [if_neg h0] at this
      exact this
    have hd0 := q.den_pos
    have hn0 : r.den.n ≠ 0 := by
      intro h
      have := hr3.den.n0.1 h
      unfold denC at this
      rw [if_neg h0] at this
      omega
    rw [if_neg h0]
    refine And.intro (fun h2 => ?_) (fun h2 => ?_)
    · exfalso
      have h2 : (r.den.n : Int) = 0 := h2
      omega
    · refine ⟨sq 9, by kernel_rfl, r.num.v, loadQn hB3, ?_⟩
      refine dcallV (.string (txt [48 + (z : Int)])) (fun w' hw hF => Text1_ok (hnum.ext hw) h1 h9) ?_
      refine ⟨show (txt [48 + (z : Int)]).size + 1 ≤ _ by rw [txt_size1]; omega, ?_⟩
      refine ⟨r.den.v, hB3.agg (sub := [.bool r.den.neg, .slice r.den.a r.den.n r.den.c]) rfl rfl, ?_⟩
      refine dcallV (.string (txt [48 + (q.den : Int)])) (fun w' hw hF => Text1_ok (hdn.ext hw) (by omega) hd) ?_
      refine ⟨show (txt [48 + (z : Int)] ++ ⟨#[47]⟩ : ByteArray).size + (txt [48 + (q.den : Int)]).size ≤ _ by rw [ByteArray.size_append, txt_size1, txt_size1]; show 1 + 1 + 1 ≤ _; omega, ?_⟩
      intro w4 hx4 _
      exact ⟨Ext.trans' hx3 hx4, rfl⟩
end Go.Proofs.Ytpgagepleffjlaa
/-
  The watch of the layer sparse: its terms. Helpers; no statement of the program is proved here.
-/
set_option maxRecDepth 100000
set_option linter.unusedSimpArgs false
set_option linter.unusedVariables false
namespace Go.Proofs.Ytpgagepleffjlaa
open Go Go.Tw Go.RowKit
attribute [local irreducible] LoadAt StoreOk Stored rawVC

theorem TmR.inj {x y : TmR} (h : x.v = y.v) : x = y := by
  obtain ⟨a, ⟨⟨b, c, d, e⟩, ⟨f, g, i, j⟩⟩⟩ := x
  obtain ⟨a', ⟨⟨b', c', d', e'⟩, ⟨f', g', i', j'⟩⟩⟩ := y
  simp only [TmR.v, Value.agg.injEq, Array.mk.injEq, List.cons.injEq, Value.int.injEq, Value.bool.injEq, Value.slice.injEq, true_and, and_true] at h
  obtain ⟨h1, h2, ⟨h3, h4, h5⟩, h6, h7, h8, h9⟩ := h
  subst h1 h2 h3 h4 h5 h6 h7 h8 h9
  rfl
structure TC (i : Int) (q : Rat) (w : World) (t : TmR) : Prop where
  at' : t.at' = i
  qc : QC 1 w t.x q
theorem TC.ext {i : Int} {q : Rat} {w w' : World} {t : TmR} (h : TC i q w t) (e : Ext w w') : TC i q w' t := ⟨h.at', h.qc.ext e⟩
theorem TC.stable {i : Int} {q : Rat} (t : TmR) : Stable (fun w => TC i q w t) := fun _ _ h e => h.ext e
theorem term_at {w : World} (i n d : Int) (hn : n.natAbs < 65536) (hd : d.natAbs < 65536) (hf : FitQ 1 (Rat.divInt n d)) :
    CallS Try.prog 44 #[.int .i64 i, .int .i64 n, .int .i64 d] w fun v w' => Ext w w' ∧ ∃ t : TmR, v = t.v ∧ TC i (Rat.divInt n d) w' t := by
  refine enter ttOk mixed (args := [.int .i64 i, .int .i64 n, .int .i64 d]) Try.func44 rfl (by kernel_rfl) (by kernel_rfl) rfl ?_
  intro b w1 hb
  refine CallS.mono (ROf_ok ((H0.hb w).up hb.ext) (by omega) (by omega) (by omega) (by omega)) ?_
  rintro _ w2 ⟨hx2, r, rfl, hr⟩
  have hB2 := hb.toBlk.ext hx2
  refine ⟨(storeTmB (w' := w2) (t := ⟨i, r⟩) hB2 rfl).1, fun w3 hs3 => ?_⟩
  have h3 := (storeTmB (t := ⟨i, r⟩) hB2 rfl).2 hs3
  have hr3 := (hr.far h3.2 (hb.inUp (Ext.rfl w) (Ext.rfl w1))).less
  refine ⟨(TmR.mk i r).v, h3.1.agg (sub := (TmR.mk i r).cs) rfl rfl, ?_⟩
  exact ⟨Ext.grownB (Ext.trans' hb.ext hx2) h3.2 (hb.ge (Ext.rfl w)), ⟨i, r⟩, rfl, rfl, hr3, hf⟩
theorem fit1 {q : Rat} (h : (Nat.blt q.num.natAbs 18446744073709551616 && Nat.blt q.den 18446744073709551616) = true) : FitQ 1 q := by
  simp only [Bool.and_eq_true, Nat.blt_eq] at h
  exact ⟨Fit_iff.2 (by rw [Nat.pow_one]; exact h.1), Fit_iff.2 (by rw [Nat.pow_one]; exact h.2)⟩
/-! ### rows of terms -/
inductive TCs (w : World) : List TmR → VL → Prop
  | nil : TCs w [] []
  | cons {i : Int} {q : Rat} {t : TmR} {ts : List TmR} {xs : VL} : TC i q w t → TCs w ts xs → TCs w (t :: ts) ((i, q) :: xs)
theorem TCs.ext {w w' : World} {ts : List TmR} {xs : VL} (h : TCs w ts xs) (e : Ext w w') : TCs w' ts xs := by
  induction h with
  | nil => exact .nil
  | cons h _ ih => exact .cons (h.ext e) ih
theorem TCs.can {w : World} {ts : List TmR} {xs : VL} (h : TCs w ts xs) : TsCan 1 H0 w ts xs := by
  induction h with
  | nil => exact .nil
  | cons h _ ih => exact .cons h.at' h.qc.can h.qc.fit ih
theorem TCs.vc {w : World} {ts : List TmR} {xs : VL} {b e : Nat} (n : Nat) (h : TCs w ts xs) (hb : Blk w b e (tcs ts)) (hn : ts.length = n) (hl : n ≤ 21) (hc : Cn xs) : VC 1 n w ⟨some ⟨b, 0, none⟩, n, n⟩ xs := by
  subst hn
  have hB : Blk w b e (tcs ts ++ []) := by rw [List.append_nil]; exact hb
  have hl' := h.can.length
  exact ⟨⟨⟨ts, Tms.blk hB, h.can⟩, Nat.le_refl _, by show ts.length ≤ _; omega, H0.av _ _⟩, hc, by omega⟩
theorem TCs.vi {w : World} {ts : List TmR} {xs : VL} {b e : Nat} (n : Nat) (h : TCs w ts xs) (hb : Blk w b e (tcs ts)) (hn : ts.length = n) (hl : n ≤ 21) : VI 1 n w ⟨some ⟨b, 0, none⟩, n, n⟩ xs := by
  subst hn
  have hB : Blk w b e (tcs ts ++ []) := by rw [List.append_nil]; exact hb
  have hl' := h.can.length
  exact ⟨⟨⟨ts, Tms.blk hB, h.can.inq (by omega)⟩, Nat.le_refl _, by show ts.length ≤ _; omega, H0.av _ _⟩, by omega, .inl (by omega)⟩
end Go.Proofs.Ytpgagepleffjlaa
/-
  The watch of the layer sparse: its own example. Helpers; no statement of the program is proved here.
-/
set_option maxRecDepth 100000
set_option linter.unusedSimpArgs false
set_option linter.unusedVariables false
namespace Go.Proofs.Ytpgagepleffjlaa
open Go Go.Tw Go.RowKit
attribute [local irreducible] LoadAt StoreOk Stored rawVC

def cnB (x : VL) : Bool :=
  match x with
  | [] => true
  | t :: x => !decide (t.2 = 0) && x.all (fun s => decide (t.1 < s.1)) && cnB x
theorem cnL {x : VL} (h : cnB x = true) : Cn x := by
  induction x with
  | nil => exact Cn.nil
  | cons t x ih =>
    simp only [cnB, Bool.and_eq_true, List.all_eq_true, decide_eq_true_eq, Bool.not_eq_true', decide_eq_false_iff_not] at h
    refine ⟨List.pairwise_cons.2 ⟨h.1.2, (ih h.2).1⟩, ?_⟩
    intro s hs
    rcases List.mem_cons.1 hs with rfl | hs
    · exact h.1.1
    · exact (ih h.2).2 s hs
theorem sratT_at {k1 k2 : Nat} {w : World} {x y : RatR} {p q : Rat} (hx : QC k1 w x p) (hy : QC k2 w y q) (h : k1 ≤ 1099511627776) (e : p = q) :
    CallS Try.prog 62 #[x.v, y.v] w fun v w' => Ext w w' ∧ v = .bool true := by
  have := srat_at hx hy h
  rw [decide_eq_true e] at this; exact this
theorem awake5_at (w0 : World) : CallS Try.prog 16 #[] w0 fun v w' => Ext w0 w' ∧ v = .bool true := by
  refine enter ttOk mixed (args := []) Try.func16 rfl (by kernel_rfl) (by kernel_rfl) rfl ?_
  refine CallS.mono (term_at (2) (1) (1) (by decide) (by decide) (fit1 (by kernel_rfl))) ?_
  rintro _ w1 ⟨x1, ta0, rfl, qta0⟩
  refine CallS.mono (term_at (0) (1) (2) (by decide) (by decide) (fit1 (by kernel_rfl))) ?_
  rintro _ w2 ⟨x2, ta1, rfl, qta1⟩
  refine CallS.mono (term_at (2) (-1) (1) (by decide) (by decide) (fit1 (by kernel_rfl))) ?_
  rintro _ w3 ⟨x3, ta2, rfl, qta2⟩
  intro a w4 ha
  have ha : New w3 w4 a tT (tcs [ta0, ta1, ta2]) := ha
  have x4 := ha.ext
  have va := TCs.vi 3 (.cons (qta0.ext (Ext.trans' (Ext.trans' x2 x3) x4)) (.cons (qta1.ext (Ext.trans' x3 x4)) (.cons (qta2.ext x4) (.nil)))) ha.toBlk rfl (by decide)
  refine CallS.mono (norm_at va (by decide)) ?_
  rintro _ w5 ⟨x5, s1, rfl, h1⟩
  refine CallS.mono (term_at (0) (1) (1) (by decide) (by decide) (fit1 (by kernel_rfl))) ?_
  rintro _ w6 ⟨x6, tb0, rfl, qtb0⟩
  refine CallS.mono (term_at (3) (2) (1) (by decide) (by decide) (fit1 (by kernel_rfl))) ?_
  rintro _ w7 ⟨x7, tb1, rfl, qtb1⟩
  intro b w8 hb
  have hb : New w7 w8 b tT (tcs [tb0, tb1]) := hb
  have x8 := hb.ext
  have vb := TCs.vi 2 (.cons (qtb0.ext (Ext.trans' x7 x8)) (.cons (qtb1.ext x8) (.nil))) hb.toBlk rfl (by decide)
  refine CallS.mono (term_at (3) (-2) (1) (by decide) (by decide) (fit1 (by kernel_rfl))) ?_
  rintro _ w9 ⟨x9, tc0, rfl, qtc0⟩
  refine CallS.mono (term_at (4) (1) (1) (by decide) (by decide) (fit1 (by kernel_rfl))) ?_
  rintro _ w10 ⟨x10, tc1, rfl, qtc1⟩
  intro c w11 hc
  have hc : New w10 w11 c tT (tcs [tc0, tc1]) := hc
  have x11 := hc.ext
  have vc := TCs.vi 2 (.cons (qtc0.ext (Ext.trans' x10 x11)) (.cons (qtc1.ext x11) (.nil))) hc.toBlk rfl (by decide)
  refine CallS.mono (add_at 1 (vb.ext (Ext.trans' (Ext.trans' x9 x10) x11)) vc (by decide)) ?_
  rintro _ w12 ⟨x12, s2, rfl, h2⟩
  refine CallS.mono (term_at (0) (1) (1) (by decide) (by decide) (fit1 (by kernel_rfl))) ?_
  rintro _ w13 ⟨x13, td0, rfl, qtd0⟩
  intro d w14 hd
  have hd : New w13 w14 d tT (tcs [td0]) := hd
  have x14 := hd.ext
  have vd := TCs.vi 1 (.cons (qtd0.ext x14) (.nil)) hd.toBlk rfl (by decide)
  refine CallS.mono (of_at (-2) 1 (by decide) (by decide) (fit1 (by kernel_rfl))) ?_
  rintro _ w15 ⟨x15, r3, rfl, hr3⟩
  refine CallS.mono (term_at (0) (1) (2) (by decide) (by decide) (fit1 (by kernel_rfl))) ?_
  rintro _ w16 ⟨x16, te0, rfl, qte0⟩
  refine CallS.mono (term_at (1) (1) (1) (by decide) (by decide) (fit1 (by kernel_rfl))) ?_
  rintro _ w17 ⟨x17, te1, rfl, qte1⟩
  intro e w18 he
  have he : New w17 w18 e tT (tcs [te0, te1]) := he
  have x18 := he.ext
  have ve := TCs.vi 2 (.cons (qte0.ext (Ext.trans' x17 x18)) (.cons (qte1.ext x18) (.nil))) he.toBlk rfl (by decide)
  refine CallS.mono (axpy_at 1 (vd.ext (Ext.trans' (Ext.trans' (Ext.trans' x15 x16) x17) x18)) ((hr3.ext (Ext.trans' (Ext.trans' x16 x17) x18)).qi (by decide)) ve (by decide)) ?_
  rintro _ w19 ⟨x19, s3, rfl, h3⟩
  refine CallS.mono (term_at (0) (1) (1) (by decide) (by decide) (fit1 (by kernel_rfl))) ?_
  rintro _ w20 ⟨x20, tf0, rfl, qtf0⟩
  refine CallS.mono (term_at (2) (3) (1) (by decide) (by decide) (fit1 (by kernel_rfl))) ?_
  rintro _ w21 ⟨x21, tf1, rfl, qtf1⟩
  intro f w22 hf
  have hf : New w21 w22 f tT (tcs [tf0, tf1]) := hf
  have x22 := hf.ext
  have vf := TCs.vi 2 (.cons (qtf0.ext (Ext.trans' x21 x22)) (.cons (qtf1.ext x22) (.nil))) hf.toBlk rfl (by decide)
  refine CallS.mono (term_at (2) (1) (3) (by decide) (by decide) (fit1 (by kernel_rfl))) ?_
  rintro _ w23 ⟨x23, tg0, rfl, qtg0⟩
  refine CallS.mono (term_at (5) (9) (1) (by decide) (by decide) (fit1 (by kernel_rfl))) ?_
  rintro _ w24 ⟨x24, tg1, rfl, qtg1⟩
  intro g w25 hg
  have hg : New w24 w25 g tT (tcs [tg0, tg1]) := hg
  have x25 := hg.ext
  have vg := TCs.vi 2 (.cons (qtg0.ext (Ext.trans' x24 x25)) (.cons (qtg1.ext x25) (.nil))) hg.toBlk rfl (by decide)
  refine CallS.mono (dot_at 1 (vf.ext (Ext.trans' (Ext.trans' x23 x24) x25)) vg (by decide)) ?_
  rintro _ w26 ⟨x26, r4, rfl, h4⟩
  intro b4 u4 hb4
  have st4 := storeQ (r := r4) hb4.toBlk hb4.ext (hb4.ge (Ext.rfl _)) rfl
  refine ⟨st4.1, fun w27 hs4 => ?_⟩
  have hB4 := (st4.2 w27 hs4).1
  have x27 := (st4.2 w27 hs4).2.2
  have h1 := (h1.ext (Ext.trans' (Ext.trans' (Ext.trans' (Ext.trans' (Ext.trans' (Ext.trans' (Ext.trans' (Ext.trans' (Ext.trans' (Ext.trans' (Ext.trans' (Ext.trans' (Ext.trans' (Ext.trans' (Ext.trans' (Ext.trans' (Ext.trans' (Ext.trans' (Ext.trans' (Ext.trans' (Ext.trans' x6 x7) x8) x9) x10) x11) x12) x13) x14) x15) x16) x17) x18) x19) x20) x21) x22) x23) x24) x25) x26) x27))
  have h2 := (h2.ext (Ext.trans' (Ext.trans' (Ext.trans' (Ext.trans' (Ext.trans' (Ext.trans' (Ext.trans' (Ext.trans' (Ext.trans' (Ext.trans' (Ext.trans' (Ext.trans' (Ext.trans' (Ext.trans' x13 x14) x15) x16) x17) x18) x19) x20) x21) x22) x23) x24) x25) x26) x27))
  have h3 := (h3.ext (Ext.trans' (Ext.trans' (Ext.trans' (Ext.trans' (Ext.trans' (Ext.trans' (Ext.trans' x20 x21) x22) x23) x24) x25) x26) x27))
  have h4 := (h4.ext x27)
  refine ⟨sq 26, by kernel_rfl, ?_⟩
  refine dcallR (mk := TmR.v) (Q := fun r w' => TC (0) (Rat.divInt (1) (2)) w' r) TmR.inj (fun _ => TC.stable _) (fun w' hw hF => term_at (0) (1) (2) (by decide) (by decide) (fit1 (by kernel_rfl))) ?_
  intro ti0
  intro i _
  refine dcallV (.bool true) (fun w' hw hF => svecT_at ((h1).ext hw) (TCs.vc 1 (ts := [ti0]) (.cons (hF.2.1) (.nil)) (show Blk w' i tT (tcs [ti0]) from (hF.1).1) rfl (by decide) (cnL (by kernel_rfl))) (by decide) (by kernel_rfl)) ?_
  refine dcallR (mk := TmR.v) (Q := fun r w' => TC (0) (Rat.divInt (1) (1)) w' r) TmR.inj (fun _ => TC.stable _) (fun w' hw hF => term_at (0) (1) (1) (by decide) (by decide) (fit1 (by kernel_rfl))) ?_
  intro tj0
  refine dcallR (mk := TmR.v) (Q := fun r w' => TC (4) (Rat.divInt (1) (1)) w' r) TmR.inj (fun _ => TC.stable _) (fun w' hw hF => term_at (4) (1) (1) (by decide) (by decide) (fit1 (by kernel_rfl))) ?_
  intro tj1
  intro j _
  refine dcallV (.bool true) (fun w' hw hF => svecT_at ((h2).ext hw) (TCs.vc 2 (ts := [tj0, tj1]) (.cons (hF.2.2.1) (.cons (hF.2.1) (.nil))) (show Blk w' j tT (tcs [tj0, tj1]) from (hF.1).1) rfl (by decide) (cnL (by kernel_rfl))) (by decide) (by kernel_rfl)) ?_
  refine dcallR (mk := TmR.v) (Q := fun r w' => TC (1) (Rat.divInt (-2) (1)) w' r) TmR.inj (fun _ => TC.stable _) (fun w' hw hF => term_at (1) (-2) (1) (by decide) (by decide) (fit1 (by kernel_rfl))) ?_
  intro tk0
  intro k _
  refine dcallV (.bool true) (fun w' hw hF => svecT_at ((h3).ext hw) (TCs.vc 1 (ts := [tk0]) (.cons (hF.2.1) (.nil)) (show Blk w' k tT (tcs [tk0]) from (hF.1).1) rfl (by decide) (cnL (by kernel_rfl))) (by decide) (by kernel_rfl)) ?_
  refine ⟨r4.v, loadQ hB4, ?_⟩
  refine dcallR (mk := RatR.v) (Q := fun r w' => QC 1 w' r (Rat.divInt 1 1)) RatR.inj (fun _ => QC.stable) (fun w' hw hF => of_at 1 1 (by decide) (by decide) (fit1 (by kernel_rfl))) ?_
  intro r5
  refine dcallV (.bool true) (fun w' hw hF => sratT_at ((h4).ext hw) (hF.1) (by decide) (by kernel_rfl)) ?_
  intro w28 x28 hF
  exact ⟨(Ext.trans' (Ext.trans' (Ext.trans' (Ext.trans' (Ext.trans' (Ext.trans' (Ext.trans' (Ext.trans' (Ext.trans' (Ext.trans' (Ext.trans' (Ext.trans' (Ext.trans' (Ext.trans' (Ext.trans' (Ext.trans' (Ext.trans' (Ext.trans' (Ext.trans' (Ext.trans' (Ext.trans' (Ext.trans' (Ext.trans' (Ext.trans' (Ext.trans' (Ext.trans' (Ext.trans' x1 x2) x3) x4) x5) x6) x7) x8) x9) x10) x11) x12) x13) x14) x15) x16) x17) x18) x19) x20) x21) x22) x23) x24) x25) x26) x27) x28), rfl⟩
end Go.Proofs.Ytpgagepleffjlaa
/-
  What the fixed examples of the layer sparse ask: rows of terms told whether right, rows of fractions read. Helpers; no statement of the program is proved here.
-/
set_option maxRecDepth 100000
set_option linter.unusedSimpArgs false
set_option linter.unusedVariables false
namespace Go.Proofs.Ytpgagepleffjlaa
open Go Go.Tw Go.RowKit
attribute [local irreducible] LoadAt StoreOk Stored rawVC

theorem formedC_at {k : Nat} {w : World} {rx : RatR} {q : Rat} (h : QC k w rx q) (hk : k ≤ 1099511627776) :
    CallS Try.prog 80 #[rx.v] w fun v w' => Ext w w' ∧ v = .bool (decide (q ≠ 0)) := by
  have := formed_ok h.can.num.words h.can.den.words (h.qi hk).inq.is (h.fit.mono hk)
  refine CallS.mono this ?_
  rintro _ w2 ⟨hx2, rfl⟩
  refine ⟨hx2, ?_⟩
  have e : (q ≠ 0 ∧ frmN q rx (dig q.num.natAbs) ∧ frmD q rx (dig (denC q).natAbs)) ↔ q ≠ 0 := ⟨fun h => h.1, fun h1 => ⟨h1, ⟨h.can.num.neg.symm, rfl⟩, ⟨h.can.den.neg.symm, rfl⟩⟩⟩
  rw [decide_eq_decide.2 e]
/-- Terms in a block of their own. -/
structure TR (w : World) (b n : Nat) (ts : List TmR) (xs : VL) : Prop where
  tcs : TCs w ts xs
  blk : Blk w b tT (Tw.tcs ts)
  len : ts.length = n
  n21 : n ≤ 21
section
variable {w w' : World} {b n : Nat} {ts : List TmR} {xs : VL}
theorem TR.ext (h : TR w b n ts xs) (e : Ext w w') : TR w' b n ts xs := ⟨h.tcs.ext e, h.blk.ext e, h.len, h.n21⟩
theorem TR.vi (h : TR w b n ts xs) : VI 1 n w ⟨some ⟨b, 0, none⟩, n, n⟩ xs := TCs.vi n h.tcs h.blk h.len h.n21
theorem TCs.at {w : World} {ts : List TmR} {xs : VL} (h : TCs w ts xs) {j : Nat} {t : TmR} (hj : ts[j]? = some t) : ∃ p, xs[j]? = some p ∧ t.at' = p.1 ∧ QC 1 w t.x p.2 := by
  induction h generalizing j with
  | nil => simp at hj
  | cons h1 _ ih =>
    cases j with
    | zero => simp at hj; subst hj; exact ⟨_, rfl, h1.at', h1.qc⟩
    | succ j => simpa using ih (by simpa using hj)
theorem TCs.length {w : World} {ts : List TmR} {xs : VL} (h : TCs w ts xs) : ts.length = xs.length := h.can.length
def prB (xs : VL) : List (Int × Bool) := xs.map fun p => (p.1, !decide (p.2 = 0))
theorem right_at (h : TR w b n ts xs) (N : Int) (r : Bool) (hr : rightL N (-1) (prB xs) = r) :
    CallS Try.prog 47 #[.slice (some ⟨b, 0, none⟩) n n, .int .i64 N] w fun v w' => Ext w w' ∧ v = .bool r := by
  subst hr
  have hB : Blk w b tT (tcs ts ++ []) := by rw [List.append_nil]; exact h.blk
  have hT := Tms.blk hB
  rw [h.len] at hT
  have h21 := h.n21
  refine Right_ok (prB xs) hT (by omega) (by unfold prB; rw [List.length_map, h.tcs.length]) ?_
  intro j t p hj hp
  obtain ⟨p', hp', hat, hq⟩ := h.tcs.at hj
  have e : p = (p'.1, !decide (p'.2 = 0)) := by
    unfold prB at hp
    rw [List.getElem?_map, hp'] at hp
    exact (Option.some.inj hp).symm
  subst e
  refine ⟨hat, fun w' hx => ?_⟩
  refine CallS.mono (formedC_at (hq.ext hx) (by omega)) ?_
  rintro _ w2 ⟨hx2, rfl⟩
  refine ⟨hx2, ?_⟩
  by_cases h0 : p'.2 = 0 <;> simp [h0]
theorem rightNil_at (w : World) (N : Int) : CallS Try.prog 47 #[.slice none 0 0, .int .i64 N] w fun v w' => Ext w w' ∧ v = .bool true :=
  Right_ok [] (Tms.nil w none) (by omega) rfl (fun j t p h => by simp at h)
theorem qc_to {k : Nat} {w : World} {rx : RatR} {q : Rat} (h : CanQ H0 w rx q) (hf : FitQ k q) : QC k w rx q := ⟨h, hf⟩
theorem loadQs {T : TT} {w : World} {b e j sz ty : Nat} {rs : List RatR} {r : RatR} (hb : Blk w b e (qcs rs)) (hj : rs[j]? = some r) (hk : (known (tyAt T ty) && (tyAt T ty).agg && Nat.beq 4 (tyAt T ty).size) = true) (hs : sz = 4) : LoadAt T w ty (addrAt (some ⟨b, 0, none⟩) (j * sz)) r.v := by
  subst hs
  refine loadAgg (cs := r.cs) hk fun k u hu => ?_
  show w.cell? ((⟨b, 0 + j * 4, none⟩ : Addr).add k) = _
  rw [Addr.add_lit]
  exact hb.cell (i := 0 + j * 4 + k) (by rw [Nat.zero_add]; exact qcs_get hj hu)
/-- Fractions in a block of their own. -/
structure QR (k : Nat) (w : World) (b n : Nat) (rs : List RatR) (f : Nat → Rat) : Prop where
  blk : Blk w b 33 (qcs rs)
  len : rs.length = n
  row : ∀ j, j < n → QC k w (rs.getD j default) (f j)
theorem QR.ext {k : Nat} {rs : List RatR} {f : Nat → Rat} (h : QR k w b n rs f) (e : Ext w w') : QR k w' b n rs f := ⟨h.blk.ext e, h.len, fun j hj => (h.row j hj).ext e⟩
theorem QR.at {k : Nat} {rs : List RatR} {f : Nat → Rat} (h : QR k w b n rs f) {j : Nat} (hj : j < n) : LoadAt tt w 33 (addrAt (some ⟨b, 0, none⟩) (j * (tyAt tt 33).size)) (rs.getD j default).v := by
  refine loadQs h.blk ?_ rfl rfl
  rw [List.getD_eq_getElem?_getD, List.getElem?_eq_getElem (by rw [h.len]; exact hj)]; rfl
theorem dense_at {k l m : Nat} {r : SlR} (hx : VI k l w r xs) (hk : k ≤ 1073741824 ∧ l ≤ 21) (N n : Nat) (hN : 1 ≤ N ∧ N ≤ 4611686018427387904) (hn : n = min N 65536) (hf : ∀ j : Nat, FitQ m (getL xs (j : Int))) :
    CallS Try.prog 45 #[r.v, .int .i64 (N : Int)] w fun v w' => Ext w w' ∧ ∃ b rs, v = .slice (some ⟨b, 0, none⟩) n n ∧ QR m w' b n rs (fun j => getL xs (j : Int)) := by
  refine CallS.mono (Dense_ok hx hk hN hn) ?_
  rintro _ w2 ⟨hx2, b, rs, rfl, hB, hl, hr⟩
  exact ⟨hx2, b, rs, rfl, hB, hl, fun j hj => ⟨hr j hj, hf j⟩⟩
theorem VI.nil (k l : Nat) (w : World) : VI k l w ⟨none, 0, 0⟩ [] := ⟨InV.nil k H0 w, Nat.zero_le _, .inl (Nat.zero_le _)⟩
theorem rsign_at {k : Nat} {rx : RatR} {q : Rat} (h : QI k w rx q) : CallS Try.prog 11 #[rx.v] w fun v w' => Ext w w' ∧ v = .int .i64 (sgQ q) := RSign_ok (H0.hb w) h.inq.is
end
/-- The fraction 2/4, as it is written. -/
structure Raw24 (w : World) (r : RatR) : Prop where
  num : Words w r.num.a r.num.n [2]
  den : Words w r.den.a r.den.n [4]
  neg : r.num.neg = false ∧ r.den.neg = false
  cap : r.num.c = 1 ∧ r.den.c = 1
theorem Raw24.ext {w w' : World} {r : RatR} (h : Raw24 w r) (e : Ext w w') : Raw24 w' r := ⟨h.num.ext e, h.den.ext e, h.neg, h.cap⟩
theorem Raw24.qi {w : World} {r : RatR} (h : Raw24 w r) : QI 1 w r (Rat.divInt 1 2) := by
  have n1 := h.num.len
  have n2 := h.den.len
  have c1 := h.cap.1
  have c2 := h.cap.2
  simp only [List.length_cons, List.length_nil, Nat.zero_add] at n1 n2
  refine ⟨⟨⟨2, 4, ⟨⟨_, h.num, ?_⟩, by omega, by omega, by omega, H0.av _ _⟩, ⟨⟨_, h.den, ?_⟩, by omega, by omega, by omega, H0.av _ _⟩, ?_⟩, by omega, by omega⟩⟩
  · rw [h.neg.1]; rfl
  · rw [h.neg.2]; rfl
  · unfold denZ
    rw [if_neg (by omega)]
    kernel_rfl
theorem Raw24.formed_at {w : World} {r : RatR} (h : Raw24 w r) : CallS Try.prog 80 #[r.v] w fun v w' => Ext w w' ∧ v = .bool false := by
  refine CallS.mono (formed_ok h.num h.den h.qi.inq.is (fit1 (by kernel_rfl) |>.mono (by omega))) ?_
  rintro _ w2 ⟨hx2, rfl⟩
  refine ⟨hx2, ?_⟩
  congr 1
  refine decide_eq_false fun e => ?_
  have h1 := e.2.1.2
  have h2 : dig (Rat.divInt 1 2).num.natAbs = [1] := by kernel_rfl
  rw [h2] at h1
  cases h1
end Go.Proofs.Ytpgagepleffjlaa
/-
  Contracts of the layer matrix: rows of vectors; a matrix times a vector, and a vector times a matrix. Helpers; no statement of the program is proved here.
-/
set_option maxRecDepth 100000
set_option linter.unusedSimpArgs false
set_option linter.unusedVariables false
namespace Go.Proofs.Ytpgagepleffjlaa
open Go Go.Tw Go.RowKit
attribute [local irreducible] LoadAt StoreOk Stored rawVC

abbrev tV : Nat := 25
def svs (rs : List SlR) : List Value := rs.map SlR.v
theorem svs_length (rs : List SlR) : (svs rs).length = rs.length := by simp [svs]
theorem svs_get {rs : List SlR} {j : Nat} {r : SlR} (h : rs[j]? = some r) : (svs rs)[j]? = some r.v := by simp [svs, h]
theorem svs_set (rs : List SlR) (j : Nat) (r : SlR) : (svs rs).set j r.v = svs (rs.set j r) := by simp [svs, List.map_set]
theorem svs_append (rs ss : List SlR) : svs (rs ++ ss) = svs rs ++ svs ss := by simp [svs]
theorem svs_one (rs : List SlR) : ∀ v ∈ svs rs, v.oneCell' = true := by
  intro v hv
  obtain ⟨x, _, rfl⟩ := List.mem_map.1 hv
  rfl
/-- A row of vectors, each of which says what P asks. -/
structure Vs (P : World → SlR → VL → Prop) (w : World) (a : Option Addr) (n : Nat) (rs : List SlR) (xss : List VL) : Prop where
  ones : Ones w a n (svs rs)
  len : xss.length = n
  row : ∀ (j : Nat) r xs, rs[j]? = some r → xss[j]? = some xs → P w r xs
section
variable {P Q : World → SlR → VL → Prop} {w w' : World} {a : Option Addr} {n : Nat} {rs : List SlR} {xss : List VL}
theorem Vs.extP (hP : ∀ {w w' r xs}, P w r xs → Ext w w' → P w' r xs) (h : Vs P w a n rs xss) (e : Ext w w') : Vs P w' a n rs xss := ⟨h.ones.ext e, h.len, fun j r xs h1 h2 => hP (h.row j r xs h1 h2) e⟩
theorem Vs.map (hP : ∀ {r xs}, P w r xs → Q w r xs) (h : Vs P w a n rs xss) : Vs Q w a n rs xss := ⟨h.ones, h.len, fun j r xs h1 h2 => hP (h.row j r xs h1 h2)⟩
theorem Vs.get (h : Vs P w a n rs xss) {j : Nat} (hj : j < n) : ∃ r, rs[j]? = some r ∧ xss[j]? = some (xss.getD j []) ∧ P w r (xss.getD j []) := by
  have h1 := h.ones.len
  rw [svs_length] at h1
  have h2 := h.len
  have e1 : rs[j]? = some (rs[j]'(by omega)) := List.getElem?_eq_getElem (by omega)
  have e2 : xss[j]? = some (xss.getD j []) := by rw [List.getD_eq_getElem?_getD, List.getElem?_eq_getElem (by omega)]; rfl
  exact ⟨_, e1, e2, h.row j _ _ e1 e2⟩
end
theorem Vs.ext {k l : Nat} {w w' : World} {a : Option Addr} {n : Nat} {rs : List SlR} {xss : List VL} (h : Vs (VC k l) w a n rs xss) (e : Ext w w') : Vs (VC k l) w' a n rs xss := Vs.extP (fun h e => h.ext e) h e
theorem Vs.extI {k l : Nat} {w w' : World} {a : Option Addr} {n : Nat} {rs : List SlR} {xss : List VL} (h : Vs (VI k l) w a n rs xss) (e : Ext w w') : Vs (VI k l) w' a n rs xss := Vs.extP (fun h e => h.ext e) h e
/-- A matrix times a vector: as the program takes the terms, one after the other. -/
def timesN (xss : List VL) (zs : VL) (i : Nat) : VL :=
  match i with
  | 0 => []
  | i + 1 => if 0 ≤ pl zs i ∧ pl zs i < (xss.length : Int) then axp (timesN xss zs i) (xl zs i) (xss.getD (pl zs i).toNat []) else timesN xss zs i
theorem timesN_cn (xss : List VL) (zs : VL) (i : Nat) : Cn (timesN xss zs i) := by
  induction i with
  | zero => exact Cn.nil
  | succ i ih =>
    simp only [timesN]
    split
    · exact nrm_cn _
    · exact ih
/-- The bound of its numbers. -/
def tK (k kc : Nat) (i : Nat) : Nat := i * (nK kc + nK k + 8)
theorem tK_mono {k kc i j : Nat} (h : i ≤ j) : tK k kc i ≤ tK k kc j := Nat.mul_le_mul_right _ h
theorem Times_ok {k l kc lc : Nat} {w : World} {a : Option Addr} {n c : Nat} {rs : List SlR} {xss : List VL} {rx : SlR} {xs : VL} (hl : Vs (VI kc lc) w a n rs xss) (hn : n ≤ 1099511627776) (hx : VI k l w rx xs) (hk : k ≤ 16777216 ∧ kc ≤ 16777216 ∧ lc ≤ 21 ∧ l * lc ≤ 65536 ∧ l ≤ 65536 ∧ tK k kc l + nK kc + nK k ≤ 68719476736) :
    CallS Try.prog 40 #[.slice a n c, rx.v] w fun v w' => Ext w w' ∧ ∃ s : SlR, v = s.v ∧ VC (tK k kc l) (l * lc) w' s (timesN xss (nrm xs) (nrm xs).length) := by
  obtain ⟨hk1, hk2, hl2, hll, hl1, hKK⟩ := hk
  have hxl := hx.len
  have hlen := hl.len
  refine enter ttOk mixed (args := [.slice a n c, rx.v]) Try.func40 rfl (by kernel_rfl) (by kernel_rfl) rfl ?_
  refine CallS.mono (normR_at hx (by omega)) ?_
  rintro _ w1 ⟨hx1, s0, rfl, h0⟩
  have hnl := h0.can.len
  have hzl := h0.len
  refine ⟨Nat × SlR, fun x => [(0, .slice a n c), (5, x.2.v), (9, s0.v), (10, .int .i64 (s0.n : Int)), (11, .int .i64 (x.1 : Int))],
    fun x w' => Ext w1 w' ∧ x.1 ≤ s0.n ∧ CanV (tK k kc x.1) H0 w' x.2 (timesN xss (nrm xs) x.1) ∧ (timesN xss (nrm xs) x.1).length ≤ x.1 * lc, fun x _ => s0.n - x.1, ⟨(0, ⟨none, 0, 0⟩), ⟨rfl, rfl, rfl, rfl, rfl, trivial⟩, Ext.rfl w1, Nat.zero_le _, CanV.nil _ _ _, Nat.zero_le _⟩, ?_⟩
  rintro ⟨i, s⟩ w2 ⟨hx2, hi, hs, hsl⟩
  dsimp only at *
  refine And.intro (fun h1 => ?_) (fun h1 => ?_)
  · have hin := ltTo h1
    have hiz : i < (nrm xs).length := by omega
    obtain ⟨⟨ts, hT, hC⟩, _⟩ := h0.can
    obtain ⟨t, ht, hat, hqc, hqf⟩ := tsCan_get hC (vget hiz)
    refine ⟨i, ⟨rfl, hin, hT.base (by omega)⟩, t.v, (hT.ext hx2).load (ty := tT) ht rfl rfl, ?_⟩
    intro b7 w3 hb7
    refine ⟨(storeTmB (w' := w3) (t := t) hb7.toBlk rfl).1, fun w4 hs4 => ?_⟩
    have h4 := (storeTmB (t := t) hb7.toBlk rfl).2 hs4
    have hx24 : Ext w2 w4 := Ext.grownB hb7.ext h4.2 (hb7.ge (Ext.rfl w2))
    have hx14 := Ext.trans' hx2 hx24
    have hB := h4.1
    have hqi : QI (nK k) w4 t.x (xl (nrm xs) i) := ((QC.mk hqc hqf).ext hx14).qi (by unfold nK; omega)
    have skip : ¬ (0 ≤ pl (nrm xs) i ∧ pl (nrm xs) i < (xss.length : Int)) → ∃ x' : Nat × SlR, (x'.1 = i + 1 ∧ x'.2 = s) ∧ Ext w1 w4 ∧ x'.1 ≤ s0.n ∧ CanV (tK k kc x'.1) H0 w4 x'.2 (timesN xss (nrm xs) x'.1) ∧ (timesN xss (nrm xs) x'.1).length ≤ x'.1 * lc := by
      intro hno
      refine ⟨(i + 1, s), ⟨rfl, rfl⟩, hx14, hin, ?_, ?_⟩
      · simp only [timesN]; rw [if_neg hno]; exact (hs.ext hx24).mono (tK_mono (Nat.le_succ i))
      · simp only [timesN]; rw [if_neg hno, Nat.add_mul]; omega
    refine ⟨_, hB.one (off := 0) rfl rfl, ?_⟩
    refine And.intro (fun h2 => ?_) (fun h2 => ?_)
    · refine ⟨_, hB.one (off := 0) rfl rfl, ?_⟩
      refine And.intro (fun h3 => ?_) (fun h3 => ?_)
      · obtain ⟨m, hm⟩ : ∃ m : Nat, t.at' = (m : Int) := ⟨t.at'.toNat, by omega⟩
        have hmn : m < n := by omega
        obtain ⟨r, hr, hxs, hri⟩ := hl.get hmn
        have hlo := (hl.ones.ext (Ext.trans' hx1 hx14)).load (T := tt) (ty := tV) (sz := 1) (svs_get hr) rfl rfl
        have hat2 : (pl (nrm xs) i) = (m : Int) := hat.symm.trans hm
        have hcond : 0 ≤ pl (nrm xs) i ∧ pl (nrm xs) i < (xss.length : Int) := by omega
        refine ⟨sq 10, by kernel_rfl, t.x.v, hB.agg (sub := rcs t.x) rfl rfl, _, hB.one (off := 0) rfl rfl, m, ⟨hm, hmn, hl.ones.base (by omega)⟩, r.v, hlo, ?_⟩
        have hK : tK k kc i + nK kc + nK k ≤ 68719476736 := by
          have := tK_mono (k := k) (kc := kc) (show i ≤ l by omega)
          omega
        have hil : i * lc ≤ 65536 := Nat.le_trans (Nat.mul_le_mul_right _ (by omega)) hll
        refine dcallR (mk := SlR.v) (Q := fun r' w' => CanV (nK kc + tK k kc i + nK k + 8) H0 w' r' (axp (timesN xss (nrm xs) i) (xl (nrm xs) i) (xss.getD m []))) SlR.inj (fun _ _ _ h e => h.ext e) (fun w' hw hF =>
          AxpyF_ok (jx := nK kc) (jy := tK k kc i) (ka := nK k) (H0.hb w') (((hs.ext hx24).ext hw).inv (by omega)) (hqi.ext hw).inq ((hri.ext (Ext.trans' hx1 hx14)).ext hw).inv (by omega) (by have := hri.len; omega) (by omega)
            (.inl ⟨by have := hri.len; omega, by omega, Nat.le_refl _⟩) (.inr ⟨(timesN_cn _ _ _).ris, Nat.le_refl _⟩)) ?_
        intro s' w5 hx5 hF5
        have e : timesN xss (nrm xs) (i + 1) = axp (timesN xss (nrm xs) i) (xl (nrm xs) i) (xss.getD m []) := by
          simp only [timesN]; rw [if_pos hcond, hat2, Int.toNat_natCast]
        refine ⟨((i + 1 : Nat) : Int), sucI i (by omega), (i + 1, s'), ⟨rfl, rfl, rfl, rfl, rfl, trivial⟩, ⟨Ext.trans' hx14 hx5, hin, ?_, ?_⟩, Nat.sub_lt_sub_left hin (Nat.lt_succ_self i)⟩
        · show CanV (tK k kc (i + 1)) H0 w5 s' (timesN xss (nrm xs) (i + 1))
          rw [e]
          refine hF5.1.mono ?_
          unfold tK; rw [Nat.add_mul]; omega
        · show (timesN xss (nrm xs) (i + 1)).length ≤ (i + 1) * lc
          rw [e, Nat.add_mul]
          have := axp_len (timesN xss (nrm xs) i) (xl (nrm xs) i) (xss.getD m [])
          have := hri.len
          omega
      · obtain ⟨⟨i', s'⟩, ⟨h5, h6⟩, h7⟩ := skip (fun h => h3 (by omega))
        dsimp only at h5 h6
        subst h5 h6
        exact ⟨((i + 1 : Nat) : Int), sucI i (by omega), (i + 1, s'), ⟨rfl, rfl, rfl, rfl, rfl, trivial⟩, h7, Nat.sub_lt_sub_left hin (Nat.lt_succ_self i)⟩
    · obtain ⟨⟨i', s'⟩, ⟨h5, h6⟩, h7⟩ := skip (fun h => h2 (by omega))
      dsimp only at h5 h6
      subst h5 h6
      exact ⟨((i + 1 : Nat) : Int), sucI i (by omega), (i + 1, s'), ⟨rfl, rfl, rfl, rfl, rfl, trivial⟩, h7, Nat.sub_lt_sub_left hin (Nat.lt_succ_self i)⟩
  · have hi' : i = s0.n := Nat.le_antisymm hi (geTo h1)
    rw [hi', hnl] at hs hsl
    refine ⟨Ext.trans' hx1 hx2, s, rfl, hs.mono (tK_mono (by omega)), timesN_cn _ _ _, Nat.le_trans hsl (Nat.mul_le_mul_right _ (by omega))⟩
end Go.Proofs.Ytpgagepleffjlaa
/-
  Contracts of the layer matrix: a vector times a matrix; the watch's terms and columns. Helpers; no statement of the program is proved here.
-/
set_option maxRecDepth 100000
set_option linter.unusedSimpArgs false
set_option linter.unusedVariables false
namespace Go.Proofs.Ytpgagepleffjlaa
open Go Go.Tw Go.RowKit
attribute [local irreducible] LoadAt StoreOk Stored rawVC

/-- A vector times a matrix, its first i columns. -/
def leftN (ys : VL) (xss : List VL) (i : Nat) : VL :=
  match i with
  | 0 => []
  | i + 1 => putL (leftN ys xss i) (i : Int) (dotL ys (xss.getD i []))
theorem putL_cn {zs : VL} {p : Int} {q : Rat} (h : Cn zs) (hl : ∀ s ∈ zs, s.1 < p) : Cn (putL zs p q) := by
  unfold putL
  split
  · exact h
  · rename_i h0; exact h.snoc hl h0
theorem putL_lt {zs : VL} {p r : Int} {q : Rat} (hl : ∀ s ∈ zs, s.1 < p) (hp : p < r) : ∀ s ∈ putL zs p q, s.1 < r := by
  intro s hs
  unfold putL at hs
  split at hs
  · have := hl s hs; omega
  · rw [List.mem_append, List.mem_singleton] at hs
    rcases hs with hs | rfl
    · have := hl s hs; omega
    · exact hp
theorem putL_len (zs : VL) (p : Int) (q : Rat) : (putL zs p q).length ≤ zs.length + 1 := by
  unfold putL
  split
  · omega
  · simp
theorem leftN_cn (ys : VL) (xss : List VL) (i : Nat) : Cn (leftN ys xss i) ∧ (∀ s ∈ leftN ys xss i, s.1 < (i : Int)) ∧ (leftN ys xss i).length ≤ i := by
  induction i with
  | zero => exact ⟨Cn.nil, fun s h => by simp [leftN] at h, Nat.le_refl _⟩
  | succ i ih =>
    refine ⟨putL_cn ih.1 ih.2.1, putL_lt ih.2.1 (by omega), ?_⟩
    have := putL_len (leftN ys xss i) (i : Int) (dotL ys (xss.getD i []))
    simp only [leftN]; omega
theorem Left_ok {k l kc lc : Nat} {w : World} {a : Option Addr} {n c : Nat} {rs : List SlR} {xss : List VL} {ry : SlR} {ys : VL} (hl : Vs (VI kc lc) w a n rs xss) (hn : n ≤ 65536) (hy : VI k l w ry ys) (K : Nat) (hk : k ≤ K ∧ kc ≤ K ∧ K ≤ 16777216 ∧ l ≤ 65536 ∧ lc ≤ 65536 ∧ dK K l ≤ 68719476736) :
    CallS Try.prog 42 #[ry.v, .slice a n c] w fun v w' => Ext w w' ∧ ∃ s : SlR, v = s.v ∧ VC (dK K l) n w' s (leftN ys xss n) := by
  obtain ⟨hk1, hk2, hK, hl1, hl2, hD⟩ := hk
  have hyl := hy.len
  have hlen := hl.len
  refine enter ttOk mixed (args := [ry.v, .slice a n c]) Try.func42 rfl (by kernel_rfl) (by kernel_rfl) rfl ?_
  refine ⟨Nat × SlR, fun x => [(0, ry.v), (5, x.2.v), (9, .slice a n c), (10, .int .i64 (n : Int)), (11, .int .i64 (x.1 : Int))],
    fun x w' => Ext w w' ∧ x.1 ≤ n ∧ Acc (dK K l) H0 w.heap.size tT w' x.2 (leftN ys xss x.1), fun x _ => n - x.1, ⟨(0, ⟨none, 0, 0⟩), ⟨rfl, rfl, rfl, rfl, rfl, trivial⟩, Ext.rfl w, Nat.zero_le _, Acc.nil _ _ _ _ _⟩, ?_⟩
  rintro ⟨i, s⟩ w2 ⟨hx2, hi, hA⟩
  dsimp only at *
  refine And.intro (fun h1 => ?_) (fun h1 => ?_)
  · have hin := ltTo h1
    obtain ⟨r, hr, hxs, hri⟩ := hl.get hin
    have hlo := (hl.ones.ext hx2).load (T := tt) (ty := tV) (sz := 1) (svs_get hr) rfl rfl
    refine ⟨i, ⟨rfl, hin, hl.ones.base (by omega)⟩, r.v, hlo, ?_⟩
    have hown : ∀ b, s.v.ownBlock = some b → w.heap.size ≤ b := fun b hb => (hA.own_lt hb).2
    have hto : ∀ b, rowH H0 s.v b → H0 b ∨ w.heap.size ≤ b := fun b hb => hb.elim (fun h => h.elim) (fun h => .inr (hown b h))
    have hHB : HB (rowH H0 s.v) w2 := fun b hb => hb.elim (fun h => h.elim) (fun h => (hA.own_lt h).1)
    have hyi : InV K (rowH H0 s.v) w2 ry ys := ((hy.inv.mono hk1).to hto).ext hx2
    have hxi : InV K (rowH H0 s.v) w2 r (xss.getD i []) := ((hri.inv.mono hk2).to hto).ext hx2
    have hxl := hri.len
    refine CallS.mono (VDot_ok hHB hyi hxi hK (by omega) (by omega) hy.ok hri.ok (Nat.le_trans (dK_mono hyl) hD)) ?_
    rintro _ w3 ⟨hx3, rr, rfl, hq, hf⟩
    have hx03 := Ext.trans' hx2 hx3
    intro b8 w4 hb8
    have hH3 := HB.ext hHB hx3
    have hqu := hq.up hb8.ext
    have st := storeQ (r := rr) hb8.toBlk (hb8.extFrom hx03) (hb8.ge hx03) rfl
    refine ⟨st.1, fun w5 hs5 => ?_⟩
    obtain ⟨hB5, hg5, hx05⟩ := st.2 w5 hs5
    have hq5 : CanQ (rowH H0 s.v) w5 rr (dotL ys (xss.getD i [])) := (hqu.far hg5 (hb8.inUp (Ext.rfl _) (Ext.rfl _))).less
    have hx35 : Ext w3 w5 := Ext.grownB hb8.ext hg5 (hb8.ge (Ext.rfl _))
    have hA5 := (hA.ext hx3).ext hx35
    refine ⟨rr.v, loadQ hB5, ?_⟩
    refine CallS.mono (RSign_ok (HB.ext hH3 hx35) (hq5.is (hf.mono (Nat.le_trans (dK_mono hyl) (by omega))))) ?_
    rintro _ w6 ⟨hx6, rfl⟩
    have hx06 := Ext.trans' hx05 hx6
    refine And.intro (fun h2 => ?_) (fun h2 => ?_)
    · have hq0 : dotL ys (xss.getD i []) ≠ 0 := fun h => h2 (sgQ_zero.2 h)
      have e : leftN ys xss (i + 1) = leftN ys xss i ++ [((i : Int), dotL ys (xss.getD i []))] := by
        simp only [leftN, putL]; rw [if_neg hq0]
      refine ⟨rr.v, loadQ (hB5.ext hx6), ?_⟩
      intro b7 w7 hb7
      have hb7 : New w6 w7 b7 tT (tcs [⟨(i : Int), rr⟩]) := hb7
      have hx57 := Ext.trans' hx6 hb7.ext
      have hA7 := hA5.ext hx57
      have hx07 := Ext.trans' hx05 hx57
      have hzl := (leftN_cn ys xss i).2.2
      refine hA7.ts.elim fun ts0 d => ?_
      refine ⟨rfl, w.heap.size, (leftN ys xss i).length, tcs ts0, tcs [⟨(i : Int), rr⟩], ⟨d.1, rfl, ?_, tcs_mem_one _, fun _ => ⟨_, rfl, rfl⟩, by omega, by show ((leftN ys xss i).length + 1) * 72 ≤ _; omega, hx07.size⟩, ?_⟩
      · intro j v hj
        exact hb7.toBlk.cell (i := 0 + j) (v := v) (by rw [Nat.zero_add]; exact hj)
      intro v' w8 ho hg hn8
      have ho : w8.ownsRow w.heap.size tT 5 v' ((leftN ys xss i).length + 1) (tcs ts0 ++ (TmR.mk (i : Int) rr).cs) := by rw [tcs_one] at ho; exact ho
      refine (Acc.push (t := ⟨(i : Int), rr⟩) (p := ((i : Int), dotL ys (xss.getD i []))) d.1 d.2 ho hg hn8 rfl (hq5.ext hx57) (hf.mono (dK_mono hyl))).elim fun s' d' => ?_
      have hx08 : Ext w w8 := Ext.grown hx07 hg (fun b hb => hown b hb)
      refine ⟨((i + 1 : Nat) : Int), sucI i (by omega), (i + 1, s'), ⟨rfl, congrArg some d'.1, rfl, rfl, rfl, trivial⟩, ⟨hx08, hin, ?_⟩, Nat.sub_lt_sub_left hin (Nat.lt_succ_self i)⟩
      show Acc (dK K l) H0 w.heap.size tT w8 s' (leftN ys xss (i + 1))
      rw [e]; exact d'.2
    · have hq0 : dotL ys (xss.getD i []) = 0 := sgQ_zero.1 (Classical.not_not.1 h2)
      have e : leftN ys xss (i + 1) = leftN ys xss i := by
        simp only [leftN, putL]; rw [if_pos hq0]
      refine ⟨((i + 1 : Nat) : Int), sucI i (by omega), (i + 1, s), ⟨rfl, rfl, rfl, rfl, rfl, trivial⟩, ⟨hx06, hin, ?_⟩, Nat.sub_lt_sub_left hin (Nat.lt_succ_self i)⟩
      show Acc (dK K l) H0 w.heap.size tT w6 s (leftN ys xss (i + 1))
      rw [e]; exact hA5.ext hx6
  · have hi' : i = n := Nat.le_antisymm hi (geTo h1)
    subst hi'
    exact ⟨hx2, s, rfl, hA.out (fun b hb => hb.elim), (leftN_cn ys xss i).1, (leftN_cn ys xss i).2.2⟩
theorem term6_at {w : World} (i n : Int) (hn : n.natAbs < 65536) (hf : FitQ 1 (Rat.divInt n 1)) :
    CallS Try.prog 38 #[.int .i64 i, .int .i64 n] w fun v w' => Ext w w' ∧ ∃ t : TmR, v = t.v ∧ TC i (Rat.divInt n 1) w' t := by
  refine enter ttOk mixed (args := [.int .i64 i, .int .i64 n]) Try.func38 rfl (by kernel_rfl) (by kernel_rfl) rfl ?_
  intro b w1 hb
  refine CallS.mono (ROf_ok ((H0.hb w).up hb.ext) (by omega) (by omega) (by omega) (by omega)) ?_
  rintro _ w2 ⟨hx2, r, rfl, hr⟩
  have hB2 := hb.toBlk.ext hx2
  refine ⟨(storeTmB (w' := w2) (t := ⟨i, r⟩) hB2 rfl).1, fun w3 hs3 => ?_⟩
  have h3 := (storeTmB (t := ⟨i, r⟩) hB2 rfl).2 hs3
  have hr3 := (hr.far h3.2 (hb.inUp (Ext.rfl w) (Ext.rfl w1))).less
  refine ⟨(TmR.mk i r).v, h3.1.agg (sub := (TmR.mk i r).cs) rfl rfl, ?_⟩
  exact ⟨Ext.grownB (Ext.trans' hb.ext hx2) h3.2 (hb.ge (Ext.rfl w)), ⟨i, r⟩, rfl, rfl, hr3, hf⟩
end Go.Proofs.Ytpgagepleffjlaa
/-
  A row of rows of terms, each of which is being built. Helpers; no statement of the program is proved here.
-/
set_option maxRecDepth 100000
set_option linter.unusedSimpArgs false
set_option linter.unusedVariables false
namespace Go.Proofs.Ytpgagepleffjlaa
open Go Go.Tw Go.RowKit
attribute [local irreducible] LoadAt StoreOk Stored rawVC

def gridH (H : Hd) (ss : List SlR) : Hd := fun c => H c ∨ ∃ s ∈ ss, s.v.ownBlock = some c
structure Grid (K : Nat) (H : Hd) (base : Nat) (w : World) (ss : List SlR) (zss : List VL) : Prop where
  len : ss.length = zss.length
  own : ∀ (i : Nat) s zs, ss[i]? = some s → zss[i]? = some zs → Acc K (gridH H ss) base tT w s zs
  apart : ∀ (i j : Nat) s t c, ss[i]? = some s → ss[j]? = some t → s.v.ownBlock = some c → t.v.ownBlock = some c → i = j
section
variable {K base : Nat} {H : Hd} {w w' : World} {ss : List SlR} {zss : List VL}
theorem Grid.ext (h : Grid K H base w ss zss) (e : Ext w w') : Grid K H base w' ss zss := ⟨h.len, fun i s zs h1 h2 => (h.own i s zs h1 h2).ext e, h.apart⟩
theorem accGrow {k base e : Nat} {H : Hd} {w w' : World} {row : Option Nat} {s : SlR} {zs : VL} (h : Acc k H base e w s zs) (hg : w.grownBy w' row) (hb : ∀ b, row = some b → H b) (hne : ∀ b, row = some b → s.v.ownBlock ≠ some b) : Acc k H base e w' s zs := by
  obtain ⟨⟨ts, h1, h2⟩, h3⟩ := h
  refine ⟨⟨ts, h1.kept hg ?_, h2.map (Nat.le_refl _) fun h => h.grow hg (fun i hi => .inl (hb i hi))⟩, h3⟩
  cases hv : s.v.ownBlock with
  | none => exact .inl rfl
  | some b => exact .inr fun e => hne b e.symm hv
theorem Grid.grow {b : Nat} (h : Grid K H base w ss zss) (hg : w.grownBy w' (some b)) (hb : H b) (hlt : b < base) : Grid K H base w' ss zss :=
  ⟨h.len, fun i s zs h1 h2 => accGrow (h.own i s zs h1 h2) hg (fun c hc => by cases hc; exact .inl hb) (fun c hc e => by
    cases hc
    have := ((h.own i s zs h1 h2).own_lt e).2
    omega), h.apart⟩
theorem Grid.nil (n : Nat) : Grid K H base w (List.replicate n ⟨none, 0, 0⟩) (List.replicate n []) := by
  refine ⟨by simp, fun i s zs h1 h2 => ?_, fun i j s t c h1 h2 h3 h4 => ?_⟩
  · rw [List.getElem?_replicate] at h1 h2
    split at h1
    · cases h1
      rw [if_pos (by assumption)] at h2
      cases h2
      exact Acc.nil _ _ _ _ _
    · cases h1
  · rw [List.getElem?_replicate] at h1
    split at h1
    · cases h1; cases h3
    · cases h1
theorem Grid.at (h : Grid K H base w ss zss) {i : Nat} (hi : i < ss.length) : ∃ s, ss[i]? = some s ∧ zss[i]? = some (zss.getD i []) ∧ Acc K (gridH H ss) base tT w s (zss.getD i []) := by
  have h1 : ss[i]? = some ss[i] := List.getElem?_eq_getElem hi
  have h2 : zss[i]? = some (zss.getD i []) := by rw [List.getD_eq_getElem?_getD, List.getElem?_eq_getElem (by rw [← h.len]; exact hi)]; rfl
  exact ⟨_, h1, h2, h.own i _ _ h1 h2⟩
/-- A row grown by a term. -/
theorem Grid.push (h : Grid K H base w ss zss) {i : Nat} {s s' : SlR} {zs : VL} {p : Int × Rat} (hi : ss[i]? = some s) (hz : zss[i]? = some zs) (hA : Acc K (gridH H ss) base tT w' s' (zs ++ [p])) (hg : w.grownBy w' s.v.ownBlock) (hn : rowNew w s.v s'.v) : Grid K H base w' (ss.set i s') (zss.set i (zs ++ [p])) := by
  have hil : i < ss.length := by
    rcases Nat.lt_or_ge i ss.length with h' | h'
    · exact h'
    · rw [List.getElem?_eq_none h'] at hi; cases hi
  have hsub : ∀ b, gridH H (ss.set i s') b → gridH H ss b ∨ s'.v.ownBlock = some b := by
    intro b hb
    rcases hb with hb | ⟨t, ht, hb⟩
    · exact .inl (.inl hb)
    · rcases List.mem_or_eq_of_mem_set ht with ht | rfl
      · exact .inl (.inr ⟨t, ht, hb⟩)
      · exact .inr hb
  refine ⟨by rw [List.length_set, List.length_set]; exact h.len, fun j t zt h1 h2 => ?_, fun j q t u c h1 h2 h3 h4 => ?_⟩
  · by_cases hji : i = j
    · subst hji
      rw [List.getElem?_set_self hil] at h1
      rw [List.getElem?_set_self (by rw [← h.len]; exact hil)] at h2
      cases h1; cases h2
      obtain ⟨⟨ts, a1, a2⟩, a3⟩ := hA
      refine ⟨⟨ts, a1, a2.map (Nat.le_refl _) fun h => h.to fun b hb => .inl ?_⟩, a3⟩
      rcases hb with hb | hb
      · exact hsub b hb
      · exact .inr hb
    · rw [List.getElem?_set_ne hji] at h1 h2
      have hA0 := h.own j t zt h1 h2
      have hA1 : Acc K (fun b => gridH H ss b ∨ s'.v.ownBlock = some b) base tT w t zt := hA0.to fun b hb => by
        rcases hb with hb | hb
        · exact .inl hb
        · rcases hn with hn | hn
          · exact .inl (.inr ⟨s, List.mem_of_getElem? hi, by rw [← hn]; exact hb⟩)
          · exact .inr (hn b hb)
      have hA2 := accGrow hA1 hg (fun b hb => .inl (.inr ⟨s, List.mem_of_getElem? hi, hb⟩)) (fun b hb e => hji (h.apart i j s t b hi h1 hb e))
      exact hA2.to fun b hb => .inl (hsub b hb)
  · have key : ∀ (j : Nat) t c, j ≠ i → ss[j]? = some t → t.v.ownBlock = some c → s'.v.ownBlock = some c → False := by
      intro j t c hj h1 h3 h4
      rcases hn with hn | hn
      · exact hj (h.apart j i t s c h1 hi h3 (by rw [← hn]; exact h4))
      · have hjl : j < ss.length := by
          rcases Nat.lt_or_ge j ss.length with h' | h'
          · exact h'
          · rw [List.getElem?_eq_none h'] at h1; cases h1
        obtain ⟨t', e1, e2, e3⟩ := h.at hjl
        rw [h1] at e1; cases e1
        have := (e3.own_lt h3).1
        have := hn c h4
        omega
    by_cases hj : i = j
    · subst hj
      rw [List.getElem?_set_self hil] at h1; cases h1
      by_cases hq : i = q
      · exact hq
      · rw [List.getElem?_set_ne hq] at h2
        exact (key q u c (fun e => hq e.symm) h2 h4 h3).elim
    · rw [List.getElem?_set_ne hj] at h1
      by_cases hq : i = q
      · subst hq
        rw [List.getElem?_set_self hil] at h2; cases h2
        exact (key j t c (fun e => hj e.symm) h1 h3 h4).elim
      · rw [List.getElem?_set_ne hq] at h2
        exact h.apart j q t u c h1 h2 h3 h4
theorem Grid.vc (h : Grid K H base w ss zss) {i : Nat} {s : SlR} {zs : VL} (hi : ss[i]? = some s) (hz : zss[i]? = some zs) : CanV K H0 w s zs :=
  ((h.own i s zs hi hz).to (H' := H0) (fun b hb => hb.elim)).out (fun b hb => hb.elim)
end
/-- A row of the matrix turned: of the first k columns. -/
def turnN (xss : List VL) (i : Nat) (k : Nat) : VL :=
  match k with
  | 0 => []
  | k + 1 => putL (turnN xss i k) (k : Int) (getL (xss.getD k []) (i : Int))
theorem turnN_cn (xss : List VL) (i : Nat) (k : Nat) : Cn (turnN xss i k) ∧ (∀ s ∈ turnN xss i k, s.1 < (k : Int)) ∧ (turnN xss i k).length ≤ k := by
  induction k with
  | zero => exact ⟨Cn.nil, fun s h => by simp [turnN] at h, Nat.le_refl _⟩
  | succ k ih =>
    refine ⟨putL_cn ih.1 ih.2.1, putL_lt ih.2.1 (by omega), ?_⟩
    have := putL_len (turnN xss i k) (k : Int) (getL (xss.getD k []) (i : Int))
    simp only [turnN]; omega
def turnL (xss : List VL) (n k : Nat) : List VL := (List.range n).map fun i => turnN xss i k
/-- .. and of the first j terms of the next one. -/
def turnJ (xss : List VL) (zs : VL) (n k j : Nat) : List VL := (List.range n).map fun (i : Nat) => putL (turnN xss i k) (k : Int) (getL (zs.take j) (i : Int))
theorem turnJ_get {xss : List VL} {zs : VL} {n k j i : Nat} (h : i < n) : (turnJ xss zs n k j)[i]? = some (putL (turnN xss i k) (k : Int) (getL (zs.take j) (i : Int))) := by
  simp [turnJ, h]
theorem turnJ_zero (xss : List VL) (zs : VL) (n k : Nat) : turnJ xss zs n k 0 = turnL xss n k := by
  unfold turnJ turnL
  apply List.map_congr_left
  intro i _
  simp [putL, getL]
theorem turnJ_all {xss : List VL} {zs : VL} {n k : Nat} (h : ∀ p, getL zs p = getL (xss.getD k []) p) : turnJ xss zs n k zs.length = turnL xss n (k + 1) := by
  unfold turnJ turnL
  apply List.map_congr_left
  intro i _
  rw [List.take_length, h]; rfl
theorem turnJ_skip {xss : List VL} {zs : VL} {n k j : Nat} (hj : j < zs.length) (h : ∀ i : Nat, i < n → pl zs j ≠ (i : Int)) : turnJ xss zs n k (j + 1) = turnJ xss zs n k j := by
  unfold turnJ
  apply List.map_congr_left
  intro i hi
  rw [List.mem_range] at hi
  rw [getL_take_succ hj, if_neg (h i hi), Rat.add_zero]
theorem turnJ_push {xss : List VL} {zs : VL} {n k j p : Nat} (hc : Cn zs) (hj : j < zs.length) (hp : p < n) (h : pl zs j = (p : Int)) : (turnJ xss zs n k j)[p]? = some (turnN xss p k) ∧ turnJ xss zs n k (j + 1) = (turnJ xss zs n k j).set p (turnN xss p k ++ [((k : Int), xl zs j)]) := by
  have h0 : getL (zs.take j) (p : Int) = 0 := by rw [← h]; exact getL_take_self hc.ris hj
  have hne : xl zs j ≠ 0 := hc.2 _ (List.mem_of_getElem? (vget hj))
  refine ⟨by rw [turnJ_get hp, h0]; simp [putL], ?_⟩
  apply List.ext_getElem?
  intro i
  by_cases hi : i < n
  · rw [turnJ_get hi]
    by_cases hip : p = i
    · subst hip
      rw [List.getElem?_set_self (by simp [turnJ]; exact hi), getL_take_succ hj, if_pos h, h0, Rat.zero_add]
      simp [putL, hne]
    · rw [List.getElem?_set_ne hip, turnJ_get hi, getL_take_succ hj, if_neg (by rw [h]; omega), Rat.add_zero]
  · rw [List.getElem?_eq_none (by simp [turnJ]; omega), List.getElem?_eq_none (by simp [turnJ]; omega)]
end Go.Proofs.Ytpgagepleffjlaa
/-
  Contracts of the layer matrix: a matrix turned. Helpers; no statement of the program is proved here.
-/
set_option maxRecDepth 100000
set_option linter.unusedSimpArgs false
set_option linter.unusedVariables false
namespace Go.Proofs.Ytpgagepleffjlaa
open Go Go.Tw Go.RowKit
attribute [local irreducible] LoadAt StoreOk Stored rawVC

theorem TurnNo_ok {w : World} {a : Option Addr} {n c : Nat} {N : Int} (hN : N < 0 ∨ 65536 < N) :
    CallS Try.prog 36 #[.slice a n c, .int .i64 N] w fun v w' => Ext w w' ∧ v = .tuple #[.slice none 0 0, .int .i64 2] := by
  refine enter ttOk mixed (args := [.slice a n c, .int .i64 N]) Try.func36 rfl (by kernel_rfl) (by kernel_rfl) rfl ?_
  refine And.intro (fun h1 => ?_) (fun h1 => ?_)
  · exact ⟨Ext.rfl w, rfl⟩
  · refine And.intro (fun h2 => ?_) (fun h2 => ?_)
    · exact ⟨Ext.rfl w, rfl⟩
    · exfalso; omega
structure TurnI (K : Nat) (w : World) (b n : Nat) (w' : World) (ss : List SlR) (zss : List VL) : Prop where
  ext : Ext w w'
  blk : Blk w' b tV (svs ss ++ [])
  grid : Grid K (fun c => c = b) (b + 1) w' ss zss
  len : ss.length = n
  lt : b < w'.heap.size
theorem TurnI.go {K : Nat} {w : World} {b n : Nat} {w' w'' : World} {ss : List SlR} {zss : List VL} (h : TurnI K w b n w' ss zss) (e : Ext w' w'') : TurnI K w b n w'' ss zss :=
  ⟨Ext.trans' h.ext e, h.blk.ext e, h.grid.ext e, h.len, Nat.lt_of_lt_of_le h.lt e.size⟩
theorem Turn_ok {kc lc : Nat} {w : World} {a : Option Addr} {m c : Nat} {rs : List SlR} {xss : List VL} (hl : Vs (VI kc lc) w a m rs xss) (hm : m ≤ 65536) (n : Nat) (hn : n ≤ 65536) (hk : kc ≤ 16777216 ∧ lc ≤ 21) :
    CallS Try.prog 36 #[.slice a m c, .int .i64 (n : Int)] w fun v w' => Ext w w' ∧ ∃ b ss, v = .tuple #[.slice (some ⟨b, 0, none⟩) n n, .int .i64 0] ∧ Vs (VC (nK kc) m) w' (some ⟨b, 0, none⟩) n ss (turnL xss n m) := by
  obtain ⟨hk1, hl2⟩ := hk
  have hlen := hl.len
  have hnK : nK kc ≤ 1099511627776 := by unfold nK; omega
  refine enter ttOk mixed (args := [.slice a m c, .int .i64 (n : Int)]) Try.func36 rfl (by kernel_rfl) (by kernel_rfl) rfl ?_
  refine And.intro (fun h1 => ?_) (fun h1 => ?_)
  · exfalso; omega
  refine And.intro (fun h2 => ?_) (fun h2 => ?_)
  · exfalso; omega
  refine ⟨n, n, ⟨rfl, rfl, Nat.le_refl _, by show n * 24 ≤ _; omega, by omega⟩, fun b w1 hb => ?_⟩
  have hge := hb.ge (Ext.rfl w)
  have hI0 : TurnI (nK kc) w b n w1 (List.replicate n ⟨none, 0, 0⟩) (turnL xss n 0) := by
    refine ⟨hb.ext, ?_, ?_, List.length_replicate, hb.lt⟩
    · have e : svs (List.replicate n ⟨none, 0, 0⟩) ++ [] = rep n [.slice none 0 0] := by rw [rep_one, List.append_nil]; simp [svs, SlR.v]
      rw [e]; exact hb.toBlk
    · have e : turnL xss n 0 = List.replicate n [] := by
        unfold turnL
        apply List.ext_getElem?
        intro i
        simp [turnN, List.getElem?_replicate]
        by_cases h : i < n <;> simp [h]
      rw [e]; exact Grid.nil n
  refine ⟨Nat × List SlR, fun x => [(1, .int .i64 (n : Int)), (6, .slice (some ⟨b, 0, none⟩) n n), (19, .slice a m c), (20, .int .i64 (m : Int)), (21, .int .i64 (x.1 : Int))],
    fun x w' => x.1 ≤ m ∧ TurnI (nK kc) w b n w' x.2 (turnL xss n x.1), fun x _ => m - x.1, ⟨(0, List.replicate n ⟨none, 0, 0⟩), ⟨rfl, rfl, rfl, rfl, rfl, trivial⟩, Nat.zero_le _, hI0⟩, ?_⟩
  rintro ⟨k, ss⟩ w2 ⟨hkm, hI⟩
  dsimp only at *
  refine And.intro (fun h3 => ?_) (fun h3 => ?_)
  · have hkn := ltTo h3
    obtain ⟨r, hr, hxs, hri⟩ := hl.get hkn
    have hlo := (hl.ones.ext hI.ext).load (T := tt) (ty := tV) (sz := 1) (svs_get hr) rfl rfl
    refine ⟨k, ⟨rfl, hkn, hl.ones.base (by omega)⟩, r.v, hlo, ?_⟩
    have hgH : ∀ b', gridH (fun c => c = b) ss b' → w.heap.size ≤ b' ∧ b' < w2.heap.size := by
      intro b' hb'
      rcases hb' with hb' | ⟨s, hs, hb'⟩
      · rw [hb']; exact ⟨hge, hI.lt⟩
      · obtain ⟨i, hi, rfl⟩ := List.getElem_of_mem hs
        obtain ⟨s', e1, e2, e3⟩ := hI.grid.at hi
        rw [List.getElem?_eq_getElem hi] at e1
        cases e1
        have := e3.own_lt hb'
        omega
    have hxi : InV kc (gridH (fun c => c = b) ss) w2 r (xss.getD k []) := (hri.inv.to (fun b' hb' => .inr (hgH b' hb').1)).ext hI.ext
    have hxl := hri.len
    refine CallS.mono (VNorm_ok (fun b' hb' => (hgH b' hb').2) hxi (by omega) (by omega)) ?_
    rintro _ w3 ⟨hx3, s0, rfl, h0⟩
    have hnl := h0.len
    have hcn := nrm_cn (xss.getD k [])
    have hnl2 := nrm_len (xss.getD k [])
    have hzl : (nrm (xss.getD k [])).length ≤ 21 := by omega
    refine ⟨Nat × List SlR, fun x => [(1, .int .i64 (n : Int)), (6, .slice (some ⟨b, 0, none⟩) n n), (7, .int .i64 (k : Int)), (19, .slice a m c), (20, .int .i64 (m : Int)), (21, .int .i64 (k : Int)), (27, s0.v), (28, .int .i64 (s0.n : Int)), (29, .int .i64 (x.1 : Int))],
      fun x w' => x.1 ≤ s0.n ∧ TurnI (nK kc) w b n w' x.2 (turnJ xss (nrm (xss.getD k [])) n k x.1) ∧ CanV (nK kc) (gridH (fun c => c = b) x.2) w' s0 (nrm (xss.getD k [])), fun x _ => s0.n - x.1,
      ⟨(0, ss), ⟨rfl, rfl, rfl, rfl, rfl, rfl, rfl, rfl, rfl, trivial⟩, Nat.zero_le _, by rw [turnJ_zero]; exact hI.go hx3, h0⟩, ?_⟩
    clear hI hgH hxi hx3 h0 hlo
    rintro ⟨j, ss⟩ w4 ⟨hj, hI, h0⟩
    dsimp only at *
    refine And.intro (fun h4 => ?_) (fun h4 => ?_)
    · have hjn := ltTo h4
      have hjz : j < (nrm (xss.getD k [])).length := by omega
      obtain ⟨⟨ts, hT, hC⟩, hc1, hc2, hc3⟩ := h0
      obtain ⟨t, ht, hat, hqc, hqf⟩ := tsCan_get hC (vget hjz)
      refine ⟨j, ⟨rfl, hjn, hT.base (by omega)⟩, t.v, hT.load (ty := tT) ht rfl rfl, ?_⟩
      intro b7 w5 hb7
      refine ⟨(storeTmB (w' := w5) (t := t) hb7.toBlk rfl).1, fun w6 hs6 => ?_⟩
      have h6 := (storeTmB (t := t) hb7.toBlk rfl).2 hs6
      have hx46 : Ext w4 w6 := Ext.grownB hb7.ext h6.2 (hb7.ge (Ext.rfl w4))
      have hB := h6.1
      have hI6 := hI.go hx46
      have h06 : CanV (nK kc) (gridH (fun c => c = b) ss) w6 s0 (nrm (xss.getD k [])) := CanV.ext ⟨⟨ts, hT, hC⟩, hc1, hc2, hc3⟩ hx46
      have hq6 := hqc.ext hx46
      have skip : (∀ i : Nat, i < n → pl (nrm (xss.getD k [])) j ≠ (i : Int)) → TurnI (nK kc) w b n w6 ss (turnJ xss (nrm (xss.getD k [])) n k (j + 1)) := fun h => by rw [turnJ_skip hjz h]; exact hI6
      refine ⟨_, hB.one (off := 0) rfl rfl, ?_⟩
      refine And.intro (fun h5 => ?_) (fun h5 => ?_)
      · refine ⟨_, hB.one (off := 0) rfl rfl, ?_⟩
        refine And.intro (fun h7 => ?_) (fun h7 => ?_)
        · obtain ⟨p, hp⟩ : ∃ p : Nat, t.at' = (p : Int) := ⟨t.at'.toNat, by omega⟩
          have hpn : p < n := by omega
          obtain ⟨hz, hpush⟩ := turnJ_push (xss := xss) (k := k) hcn hjz hpn (hat.symm.trans hp)
          have hpl : p < ss.length := by rw [hI6.len]; exact hpn
          obtain ⟨s, hs, hz', hA⟩ := hI6.grid.at hpl
          have hzz : (turnJ xss (nrm (xss.getD k [])) n k j).getD p [] = turnN xss p k := by rw [List.getD_eq_getElem?_getD, hz]; rfl
          rw [hzz] at hz' hA
          have hso := Ones.blk hI6.blk
          rw [svs_length, hI6.len] at hso
          refine ⟨sqK 16 [2, 13], by kernel_rfl, ?_⟩
          refine ⟨_, fun w' hw _ => (hB.ext hw).one (off := 0) rfl rfl, ?_⟩
          refine ⟨_, hB.one (off := 0) rfl rfl, p, ⟨hp, hpn, ⟨_, rfl, rfl⟩⟩, s.v, hso.load (svs_get hs) rfl rfl, t.x.v, hB.agg (sub := rcs t.x) rfl rfl, ?_⟩
          intro b12 _
          intro w7 hx7 hF7
          have hA7 := hA.ext hx7
          have hkl := (turnN_cn xss p k).2.2
          refine hA7.ts.elim fun ts0 d => ?_
          have hB12 : Blk w7 b12 tT (tcs [⟨(k : Int), t.x⟩]) := hF7.1.1
          refine ⟨rfl, b + 1, (turnN xss p k).length, tcs ts0, tcs [⟨(k : Int), t.x⟩], ⟨d.1, rfl, ?_, tcs_mem_one _, fun _ => ⟨_, rfl, rfl⟩, by omega, by show ((turnN xss p k).length + 1) * 72 ≤ _; omega, Nat.le_trans hI6.lt hx7.size⟩, ?_⟩
          · intro q v hq
            exact hB12.cell (i := 0 + q) (v := v) (by rw [Nat.zero_add]; exact hq)
          intro v' w8 ho hg hn8
          have ho : w8.ownsRow (b + 1) tT 5 v' ((turnN xss p k).length + 1) (tcs ts0 ++ (TmR.mk (k : Int) t.x).cs) := by rw [tcs_one] at ho; exact ho
          have hown6 : ∀ c, s.v.ownBlock = some c → b + 1 ≤ c ∧ c < w6.heap.size := fun c hc => ⟨(hA.own_lt hc).2, (hA.own_lt hc).1⟩
          have hqH : CanQ (rowH (gridH (fun c => c = b) ss) s.v) w7 t.x (xl (nrm (xss.getD k [])) j) := (hq6.ext hx7).to fun c hc => .inl (by
            rcases hc with hc | hc
            · exact hc
            · exact .inr ⟨s, List.mem_of_getElem? hs, hc⟩)
          refine (Acc.push (t := ⟨(k : Int), t.x⟩) (p := ((k : Int), xl (nrm (xss.getD k [])) j)) d.1 d.2 ho hg hn8 rfl hqH hqf).elim fun s' d' => ?_
          have hne7 : some b7 ≠ s.v.ownBlock := by
            intro e
            have := hb7.isNew
            have h1 := (hI.grid.at (i := p) (by rw [hI.len]; exact hpn))
            obtain ⟨s2, e1, e2, e3⟩ := h1
            rw [hs] at e1; cases e1
            have := (e3.own_lt e.symm).1
            omega
          refine ⟨⟨⟨fun c hc hlt => hg.block c hlt (fun e => by have := (hown6 c e.symm).2; omega), hg.size⟩, ⟨?_, hF7.1.2⟩, (Blk.grown (hB.ext hx7) hg hne7).one (off := 0) rfl rfl, trivial⟩, ?_⟩
          · show w8.heap[b12]? = _
            have hl12 : b12 < w7.heap.size := hB12.lt
            rw [hg.block b12 hl12 (fun e => by
              have h1 := (hown6 b12 e.symm).2
              have h2 : w6.heap.size ≤ b12 := hF7.1.2
              omega)]
            exact hF7.1.1
          have hG8 := (hI6.grid.ext hx7).push hs hz' d'.2 hg (d'.1 ▸ hn8)
          have hB8 : Blk w8 b tV (svs ss ++ []) := Blk.grown (hI6.blk.ext hx7) hg (fun e => by have := (hown6 b e.symm).1; omega)
          have hx48 : Ext w w8 := Ext.grown (Ext.trans' hI6.ext hx7) hg (fun c hc => by have := (hown6 c hc).1; omega)
          have h08 : CanV (nK kc) (gridH (fun c => c = b) (ss.set p s')) w8 s0 (nrm (xss.getD k [])) := by
            have h1 : CanV (nK kc) (fun c => gridH (fun c => c = b) ss c ∨ s'.v.ownBlock = some c) w7 s0 (nrm (xss.getD k [])) := (h06.ext hx7).to fun c hc => by
              rcases hc with hc | hc
              · exact .inl hc
              · rw [d'.1] at hn8
                rcases hn8 with hn8 | hn8
                · exact .inl (.inr ⟨s, List.mem_of_getElem? hs, by rw [← hn8]; exact hc⟩)
                · exact .inr (hn8 c hc)
            refine (h1.grow hg (fun c hc => .inl (.inr ⟨s, List.mem_of_getElem? hs, hc⟩))).to fun c hc => .inl ?_
            rcases hc with hc | ⟨u, hu, hc⟩
            · exact .inl (.inl hc)
            · rcases List.mem_or_eq_of_mem_set hu with hu | rfl
              · exact .inl (.inr ⟨u, hu, hc⟩)
              · exact .inr hc
          have hlt8 : b < w8.heap.size := hB8.lt
          refine ⟨p, ⟨hp, hpn, ⟨_, rfl, rfl⟩⟩, ?_⟩
          intro w9 hx9 hF9
          rw [d'.1]
          refine ⟨storeOne (v := s'.v) rfl rfl (hB8.ext hx9) (by rw [svs_length]; omega), fun w10 hs10 => ?_⟩
          have hS := storedOne hs10 rfl rfl (hB8.ext hx9) (by rw [svs_length]; omega)
          rw [svs_set] at hS
          intro w11 hx11 _
          have hG10 := (hG8.ext hx9).grow hS.2 rfl (Nat.lt_succ_self b)
          have h010 := (h08.ext hx9).grow hS.2 (fun c hc => .inl (Option.some.inj hc).symm)
          refine ⟨((j + 1 : Nat) : Int), sucI j (by omega), (j + 1, ss.set p s'), ⟨rfl, rfl, rfl, rfl, rfl, rfl, rfl, rfl, rfl, trivial⟩, ⟨hjn, ?_, h010.ext hx11⟩, Nat.sub_lt_sub_left hjn (Nat.lt_succ_self j)⟩
          rw [hpush]
          have hx10 : Ext w w10 := Ext.grownB (Ext.trans' hx48 hx9) hS.2 hge
          exact TurnI.go ⟨hx10, hS.1, hG10, by rw [List.length_set]; exact hI6.len, hS.1.lt⟩ hx11
        · refine ⟨((j + 1 : Nat) : Int), sucI j (by omega), (j + 1, ss), ⟨rfl, rfl, rfl, rfl, rfl, rfl, rfl, rfl, rfl, trivial⟩, ⟨hjn, skip (fun i hi => by omega), h06⟩, Nat.sub_lt_sub_left hjn (Nat.lt_succ_self j)⟩
      · refine ⟨((j + 1 : Nat) : Int), sucI j (by omega), (j + 1, ss), ⟨rfl, rfl, rfl, rfl, rfl, rfl, rfl, rfl, rfl, trivial⟩, ⟨hjn, skip (fun i hi => by omega), h06⟩, Nat.sub_lt_sub_left hjn (Nat.lt_succ_self j)⟩
    · have hj' : j = s0.n := Nat.le_antisymm hj (geTo h4)
      rw [hj', hnl, turnJ_all (fun p => nrm_get _ p)] at hI
      exact ⟨((k + 1 : Nat) : Int), sucI k (by omega), (k + 1, ss), ⟨rfl, rfl, rfl, rfl, rfl, trivial⟩, ⟨hkn, hI⟩, Nat.sub_lt_sub_left hkn (Nat.lt_succ_self k)⟩
  · have hk' : k = m := Nat.le_antisymm hkm (geTo h3)
    rw [hk'] at hI
    have hso := Ones.blk hI.blk
    rw [svs_length, hI.len] at hso
    refine ⟨hI.ext, b, ss, rfl, hso, by simp [turnL], fun i s zs h1 h2 => ⟨hI.grid.vc h1 h2, ?_, ?_⟩⟩
    · have : zs = turnN xss i m := by
        unfold turnL at h2
        rw [List.getElem?_map] at h2
        cases hr : (List.range n)[i]? with
        | none => rw [hr] at h2; cases h2
        | some q =>
          rw [hr] at h2
          have : q = i := by
            have := List.getElem?_range (n := n) (i := i) (by
              rcases Nat.lt_or_ge i n with h | h
              · exact h
              · rw [List.getElem?_eq_none (by simp; exact h)] at hr; cases hr)
            rw [hr] at this; exact Option.some.inj this
          subst this
          exact (Option.some.inj h2).symm
      subst this
      exact (turnN_cn _ _ _).1
    · unfold turnL at h2
      rw [List.getElem?_map] at h2
      cases hr : (List.range n)[i]? with
      | none => rw [hr] at h2; cases h2
      | some q =>
        rw [hr] at h2
        cases h2
        exact (turnN_cn _ _ _).2.2
end Go.Proofs.Ytpgagepleffjlaa
/-
  Contracts of the layer matrix: whether all columns are right; rows of vectors compared, and held against a measure. Helpers; no statement of the program is proved here.
-/
set_option maxRecDepth 100000
set_option linter.unusedSimpArgs false
set_option linter.unusedVariables false
namespace Go.Proofs.Ytpgagepleffjlaa
open Go Go.Tw Go.RowKit
attribute [local irreducible] LoadAt StoreOk Stored rawVC

theorem rows_get {w : World} {a : Option Addr} {n : Nat} {rs : List SlR} (h : Ones w a n (svs rs)) {j : Nat} (hj : j < n) : ∃ r, rs[j]? = some r := by
  have := h.len
  rw [svs_length] at this
  exact ⟨_, List.getElem?_eq_getElem (by omega)⟩
theorem rows_lt {w : World} {a : Option Addr} {n : Nat} {rs : List SlR} (h : Ones w a n (svs rs)) {j : Nat} {r : SlR} (hj : rs[j]? = some r) : j < n := by
  have := h.len
  rw [svs_length] at this
  rcases Nat.lt_or_ge j n with h' | h'
  · exact h'
  · rw [List.getElem?_eq_none (by omega)] at hj; cases hj
abbrev rV (b : Nat) : Value := .func (.func 78) #[] #[.pointer (some ⟨b, 0, none⟩)]
theorem IndexV_ok {w : World} {a : Option Addr} {m c b : Nat} {rs : List SlR} (B : Nat → Bool) (hO : Ones w a m (svs rs)) (hm : m ≤ 1099511627776)
    (hB : ∀ (j : Nat) r, rs[j]? = some r → ∀ w', Ext w w' → CallS Try.prog 78 #[r.v, .pointer (some ⟨b, 0, none⟩)] w' fun v w'' => Ext w' w'' ∧ v = .bool (B j)) :
    CallS Try.prog 99 #[.slice a m c, rV b] w fun v w' => Ext w w' ∧ ∃ z : Int, v = .int .i64 z ∧ ((z = -1 ∧ ∀ j, j < m → B j = false) ∨ (0 ≤ z ∧ ∃ j, j < m ∧ B j = true)) := by
  refine enter ttOk mixed (args := [.slice a m c, rV b]) Try.func99 rfl (by kernel_rfl) (by kernel_rfl) rfl ?_
  refine ⟨Nat, fun x => [(0, .slice a m c), (1, rV b), (7, .int .i64 (m : Int)), (8, .int .i64 (x : Int))], fun x w' => Ext w w' ∧ x ≤ m ∧ ∀ j, j < x → B j = false, fun x _ => m - x, ⟨0, ⟨rfl, rfl, rfl, rfl, trivial⟩, Ext.rfl w, Nat.zero_le _, fun j h => absurd h (Nat.not_lt_zero _)⟩, ?_⟩
  rintro i w1 ⟨hx1, hi, hf⟩
  refine And.intro (fun h1 => ?_) (fun h1 => ?_)
  · have hin := ltTo h1
    obtain ⟨r, hr⟩ := rows_get hO hin
    refine ⟨i, ⟨rfl, hin, hO.base (by omega)⟩, r.v, (hO.ext hx1).load (T := tt) (ty := tV) (sz := 1) (svs_get hr) rfl rfl, ?_⟩
    refine CallS.mono (hB i r hr w1 hx1) ?_
    rintro _ w2 ⟨hx2, rfl⟩
    cases hb : B i with
    | true => exact ⟨Ext.trans' hx1 hx2, (i : Int), rfl, .inr ⟨by omega, i, hin, hb⟩⟩
    | false =>
      refine ⟨((i + 1 : Nat) : Int), sucI i (by omega), i + 1, ⟨rfl, rfl, rfl, rfl, trivial⟩, ⟨Ext.trans' hx1 hx2, hin, fun j hj => ?_⟩, Nat.sub_lt_sub_left hin (Nat.lt_succ_self i)⟩
      rcases Nat.lt_or_eq_of_le (Nat.le_of_lt_succ hj) with h | h
      · exact hf j h
      · rw [h]; exact hb
  · have e : i = m := Nat.le_antisymm hi (geTo h1)
    exact ⟨hx1, -1, rfl, .inl ⟨rfl, fun j hj => hf j (by omega)⟩⟩
theorem MRight_ok {w : World} {a : Option Addr} {m c : Nat} {rs : List SlR} {N : Int} (R : Nat → Bool) (hO : Ones w a m (svs rs)) (hm : m ≤ 1099511627776)
    (hR : ∀ (j : Nat) r, rs[j]? = some r → ∀ w', Ext w w' → CallS Try.prog 47 #[r.v, .int .i64 N] w' fun v w'' => Ext w' w'' ∧ v = .bool (R j)) :
    CallS Try.prog 39 #[.slice a m c, .int .i64 N] w fun v w' => Ext w w' ∧ ∃ b : Bool, v = .bool b ∧ (b = true ↔ 0 ≤ N ∧ ∀ j, j < m → R j = true) := by
  refine enter ttOk mixed (args := [.slice a m c, .int .i64 N]) Try.func39 rfl (by kernel_rfl) (by kernel_rfl) rfl ?_
  intro b3 w1 hb3
  have hB3 : Blk w1 b3 3 [.int .i64 N] := hb3.toBlk
  refine ⟨_, hB3.one (off := 0) rfl rfl, ?_⟩
  refine And.intro (fun h1 => ?_) (fun h1 => ?_)
  · have hc : ∀ (j : Nat) r, rs[j]? = some r → ∀ w', Ext w1 w' → CallS Try.prog 78 #[r.v, .pointer (some ⟨b3, 0, none⟩)] w' fun v w'' => Ext w' w'' ∧ v = .bool (!R j) := by
      intro j r hr w' hx'
      refine enter ttOk mixed (args := [r.v, .pointer (some ⟨b3, 0, none⟩)]) Try.func78 rfl (by kernel_rfl) (by kernel_rfl) rfl ?_
      refine ⟨_, (hB3.ext hx').one (off := 0) rfl rfl, ?_⟩
      refine CallS.mono (hR j r hr w' (Ext.trans' hb3.ext hx')) ?_
      rintro _ w2 ⟨hx2, rfl⟩
      exact ⟨hx2, rfl⟩
    have hcon : CallS Try.prog 77 #[.slice a m c, rV b3] w1 fun v w' => Ext w1 w' ∧ ∃ b : Bool, v = .bool b ∧ (b = true ↔ ∃ j, j < m ∧ R j = false) := by
      refine enter ttOk mixed (args := [.slice a m c, rV b3]) Try.func77 rfl (by kernel_rfl) (by kernel_rfl) rfl ?_
      refine CallS.mono (IndexV_ok (fun j => !R j) (hO.ext hb3.ext) hm hc) ?_
      rintro _ w2 ⟨hx2, z, rfl, hz⟩
      refine And.intro (fun h2 => ?_) (fun h2 => ?_)
      · refine ⟨hx2, true, rfl, ⟨fun _ => ?_, fun _ => rfl⟩⟩
        rcases hz with ⟨h3, _⟩ | ⟨_, j, h3, h4⟩
        · omega
        · exact ⟨j, h3, by simpa using h4⟩
      · refine ⟨hx2, false, rfl, ⟨fun h => (by cases h), fun ⟨j, h3, h4⟩ => ?_⟩⟩
        rcases hz with ⟨_, h5⟩ | ⟨h5, _⟩
        · have := h5 j h3
          rw [h4] at this; cases this
        · omega
    refine CallS.mono hcon ?_
    rintro _ w2 ⟨hx2, b, rfl, hb⟩
    refine ⟨Ext.trans' hb3.ext hx2, !b, rfl, ?_⟩
    constructor
    · intro h
      refine ⟨h1, fun j hj => ?_⟩
      cases hR : R j with
      | true => rfl
      | false => rw [hb.2 ⟨j, hj, hR⟩] at h; cases h
    · intro h
      cases hbb : b with
      | false => rfl
      | true =>
        obtain ⟨j, hj, h3⟩ := hb.1 hbb
        rw [h.2 j hj] at h3; cases h3
  · refine ⟨hb3.ext, false, rfl, ⟨fun h => (by cases h), fun h => absurd h.1 h1⟩⟩
theorem SameVecs_ok {k k' l l' : Nat} {w : World} {a b : Option Addr} {n c m d : Nat} {rs ss : List SlR} {xss yss : List VL} (hx : Vs (VC k l) w a n rs xss) (hy : Vs (VC k' l') w b m ss yss) (hn : n ≤ 1099511627776) (hk : k ≤ 1099511627776 ∧ l ≤ 1099511627776) :
    CallS Try.prog 43 #[.slice a n c, .slice b m d] w fun v w' => Ext w w' ∧ v = .bool (decide (xss = yss)) := by
  have hl := hx.len
  have hm := hy.len
  refine enter ttOk mixed (args := [.slice a n c, .slice b m d]) Try.func43 rfl (by kernel_rfl) (by kernel_rfl) rfl ?_
  refine And.intro (fun h1 => ?_) (fun h1 => ?_)
  · have : ¬ xss = yss := fun h => h1 (by rw [← hl, ← hm, h])
    exact ⟨Ext.rfl w, by rw [decide_eq_false this]; rfl⟩
  · have hnm : n = m := by omega
    refine ⟨Nat, fun x => [(0, .slice a n c), (1, .slice b m d), (5, .int .i64 (x : Int))], fun x w' => Ext w w' ∧ x ≤ n ∧ xss.take x = yss.take x, fun x _ => n - x, ⟨0, ⟨rfl, rfl, rfl, trivial⟩, Ext.rfl w, Nat.zero_le _, rfl⟩, ?_⟩
    rintro i w1 ⟨hx1, hi, he⟩
    dsimp only at *
    refine And.intro (fun h2 => ?_) (fun h2 => ?_)
    · have hin := ltTo h2
      obtain ⟨r, hr, hxr, hri⟩ := hx.get hin
      obtain ⟨s, hs, hys, hsi⟩ := hy.get (j := i) (by omega)
      refine ⟨sq 10, by kernel_rfl, i, ⟨rfl, hin, hx.ones.base (by omega)⟩, r.v, (hx.ones.ext hx1).load (T := tt) (ty := tV) (sz := 1) (svs_get hr) rfl rfl, i, ⟨rfl, by omega, hy.ones.base (by omega)⟩, s.v, (hy.ones.ext hx1).load (T := tt) (ty := tV) (sz := 1) (svs_get hs) rfl rfl, ?_⟩
      have hc : ∀ w', Ext w1 w' → True → CallS Try.prog 17 #[r.v, s.v] w' fun v w'' => Ext w' w'' ∧ v = .bool (decide (xss.getD i [] = yss.getD i [])) := fun w' hw _ => svec_at ((hri.ext hx1).ext hw) ((hsi.ext hx1).ext hw) hk
      by_cases h4 : xss.getD i [] = yss.getD i []
      · rw [decide_eq_true h4] at hc
        refine dcallV (.bool true) hc ?_
        intro w2 hx2 _
        exact ⟨((i + 1 : Nat) : Int), sucI i (by omega), i + 1, ⟨rfl, rfl, rfl, trivial⟩, ⟨Ext.trans' hx1 hx2, hin, take_same he (by rw [hxr, hys, h4])⟩, Nat.sub_lt_sub_left hin (Nat.lt_succ_self i)⟩
      · rw [decide_eq_false h4] at hc
        refine dcallV (.bool false) hc ?_
        intro w2 hx2 _
        have : ¬ xss = yss := fun h => h4 (by rw [h])
        exact ⟨Ext.trans' hx1 hx2, by rw [decide_eq_false this]; rfl⟩
    · have e : i = n := Nat.le_antisymm hi (geTo h2)
      have : xss = yss := by
        rw [List.take_of_length_le (by omega), List.take_of_length_le (by omega)] at he
        exact he
      exact ⟨hx1, by rw [decide_eq_true this]; rfl⟩
/-- A row of vectors that comes in, opened. -/
structure OpVs (w : World) (a : Option Addr) (n c : Nat) (rs : List SlR) (tss : List (List TmR)) : Prop where
  ones : Ones w a n (svs rs)
  len : tss.length = n
  row : ∀ (j : Nat) r ts, rs[j]? = some r → tss[j]? = some ts → OpV w r ts
  nc : n ≤ c
  cm : c ≤ 9223372036854775807
theorem OpVs.get {w : World} {a : Option Addr} {n c : Nat} {rs : List SlR} {tss : List (List TmR)} (h : OpVs w a n c rs tss) {j : Nat} (hj : j < n) : ∃ r, rs[j]? = some r ∧ tss[j]? = some (tss.getD j []) ∧ OpV w r (tss.getD j []) := by
  have h1 := h.ones.len
  rw [svs_length] at h1
  have h2 := h.len
  have e1 : rs[j]? = some (rs[j]'(by omega)) := List.getElem?_eq_getElem (by omega)
  have e2 : tss[j]? = some (tss.getD j []) := by rw [List.getD_eq_getElem?_getD, List.getElem?_eq_getElem (by omega)]; rfl
  exact ⟨_, e1, e2, h.row j _ _ e1 e2⟩
theorem OpV.ext {w w' : World} {r : SlR} {ts : List TmR} (h : OpV w r ts) (e : Ext w w') : OpV w' r ts := ⟨h.tms.ext e, fun t ht => by
  obtain ⟨⟨L, h1⟩, ⟨M, h2⟩, h3, h4, h5, h6⟩ := h.all t ht
  exact ⟨⟨L, h1.ext e⟩, ⟨M, h2.ext e⟩, h3, h4, h5, h6⟩, h.nc, h.cm⟩
theorem OpVs.ext {w w' : World} {a : Option Addr} {n c : Nat} {rs : List SlR} {tss : List (List TmR)} (h : OpVs w a n c rs tss) (e : Ext w w') : OpVs w' a n c rs tss := ⟨h.ones.ext e, h.len, fun j r ts h1 h2 => OpV.ext (h.row j r ts h1 h2) e, h.nc, h.cm⟩
def shVs (n : Nat) (tss : List (List TmR)) (cnt l d : Nat) : Prop := n ≤ cnt ∧ ∀ ts ∈ tss, shV ts.length ts l d
noncomputable instance (n : Nat) (tss : List (List TmR)) (cnt l d : Nat) : Decidable (shVs n tss cnt l d) := Classical.propDecidable _
theorem ShortVecs_ok {w : World} {a : Option Addr} {n c : Nat} {rs : List SlR} {tss : List (List TmR)} (h : OpVs w a n c rs tss) (cnt l d : Nat) (hc : cnt ≤ 1099511627776) (hl : l ≤ 1099511627776) :
    CallS Try.prog 41 #[.slice a n c, .int .i64 (cnt : Int), .int .i64 (l : Int), .int .i64 (d : Int)] w fun v w' => Ext w w' ∧ v = .bool (decide (shVs n tss cnt l d)) := by
  have hlen := h.len
  refine enter ttOk mixed (args := [.slice a n c, .int .i64 (cnt : Int), .int .i64 (l : Int), .int .i64 (d : Int)]) Try.func41 rfl (by kernel_rfl) (by kernel_rfl) rfl ?_
  refine And.intro (fun h1 => ?_) (fun h1 => ?_)
  · exact ⟨Ext.rfl w, by rw [decide_eq_false (show ¬ shVs n tss cnt l d from fun h => by have := h.1; omega)]; rfl⟩
  · refine ⟨Nat, fun x => [(0, .slice a n c), (2, .int .i64 (l : Int)), (3, .int .i64 (d : Int)), (9, .int .i64 (x : Int))], fun x w' => Ext w w' ∧ x ≤ n ∧ ∀ ts ∈ tss.take x, shV ts.length ts l d, fun x _ => n - x, ⟨0, ⟨rfl, rfl, rfl, rfl, trivial⟩, Ext.rfl w, Nat.zero_le _, fun t h => by simp at h⟩, ?_⟩
    rintro i w1 ⟨hx1, hi, hs⟩
    dsimp only at *
    refine And.intro (fun h2 => ?_) (fun h2 => ?_)
    · have hin := ltTo h2
      obtain ⟨r, hr, ht, ho⟩ := h.get hin
      refine ⟨i, ⟨rfl, hin, h.ones.base (by omega)⟩, r.v, (h.ones.ext hx1).load (T := tt) (ty := tV) (sz := 1) (svs_get hr) rfl rfl, ?_⟩
      refine CallS.mono (ShortVec_ok (ho.tms.ext hx1) l d hl) ?_
      rintro _ w2 ⟨hx2, rfl⟩
      rw [← ho.tms.len]
      by_cases hc : shV (tss.getD i []).length (tss.getD i []) l d
      · rw [decide_eq_true hc]
        refine ⟨((i + 1 : Nat) : Int), sucI i (by omega), i + 1, ⟨rfl, rfl, rfl, rfl, trivial⟩, ⟨Ext.trans' hx1 hx2, hin, fun t ht' => ?_⟩, Nat.sub_lt_sub_left hin (Nat.lt_succ_self i)⟩
        rw [List.take_add_one, ht, List.mem_append] at ht'
        rcases ht' with ht' | ht'
        · exact hs t ht'
        · simp at ht'; rw [ht']; simpa [List.getD_eq_getElem?_getD] using hc
      · rw [decide_eq_false hc]
        exact ⟨Ext.trans' hx1 hx2, by rw [decide_eq_false (show ¬ shVs n tss cnt l d from fun h => hc (h.2 _ (List.mem_of_getElem? ht)))]; rfl⟩
    · have e : i = n := Nat.le_antisymm hi (geTo h2)
      rw [List.take_of_length_le (by omega)] at hs
      exact ⟨hx1, by rw [decide_eq_true (show shVs n tss cnt l d from ⟨by omega, hs⟩)]; rfl⟩
end Go.Proofs.Ytpgagepleffjlaa
/-
  What comes in, opened: rows of numbers, rows of vectors. Helpers; no statement of the program is proved here.
-/
set_option maxRecDepth 100000
set_option linter.unusedSimpArgs false
set_option linter.unusedVariables false
namespace Go.Proofs.Ytpgagepleffjlaa
open Go Go.Tw Go.RowKit Go.ChangeShapes Go.WideShapes Go.Deep

section
variable {H : Type} {enc : TypeId × Value → H} {w : World} {base : Nat} {sp : Nat → Bool} {held : Bool} {fuel : Nat} {cs : List Value} {x : DataW H × List MemPlace}
/-- A row of numbers that comes in. -/
structure OpL (w : World) (a : Option Addr) (n c : Nat) (L : List Int) : Prop where
  ones : Ones w a n (ivs L)
  nc : n ≤ c
  cm : c ≤ 9223372036854775807
  rng : ∀ z ∈ L, -9223372036854775808 ≤ z ∧ z ≤ 9223372036854775807
theorem opInts {t : Nat} (ht : Try.prog.underlying t = some (.slice 3)) (h : DataW.trod enc Try.prog w base sp held fuel t cs = some x) : ∃ a n c L, cs = [.slice a n c] ∧ OpL w a n c L := by
  rcases open_slice ht h with ⟨rfl, _⟩ | ⟨a, len, cap, m, n, D, Pl, rfl, hb, hl, hm, hmm, hx, hi⟩
  · exact ⟨none, 0, 0, [], rfl, Ones.nil w none, Nat.le_refl _, by omega, fun z h => by simp at h⟩
  · have hlm : len ≤ m := by rw [hmm]; split <;> omega
    have hone : ∀ i, i < len → ∃ z : Int, (-9223372036854775808 ≤ z ∧ z ≤ 9223372036854775807) ∧ w.cell? (a.add i) = some (.int .i64 z) := by
      intro i hil
      obtain ⟨cs', hc, ht⟩ := hi i (by omega)
      obtain ⟨z, rfl, _, hw⟩ := DataW.trod_int (k := .i64) rfl ht
      have hb : -9223372036854775808 ≤ z ∧ z ≤ 9223372036854775807 := by
        simp [Lit.wf, IntKind.min, IntKind.max, IntKind.signed, IntKind.bits] at hw
        omega
      have hcc := (cells1 hc).2 0 (by decide)
      refine ⟨z, hb, ?_⟩
      have e : (a.add (i * Try.prog.cellsOf 3)).add 0 = a.add i := by
        have : Try.prog.cellsOf 3 = 1 := by kernel_rfl
        rw [this, Nat.mul_one, add_add', Nat.add_zero]
      rw [e] at hcc
      exact hcc
    obtain ⟨L, hL, hP⟩ := listOf len hone
    have hsp : 0 < len → a.spot = none := by
      intro h0
      obtain ⟨z, _, hz⟩ := hone 0 h0
      have := World.cell?_spot hz
      cases a; simpa [Addr.add] using this
    refine ⟨some a, len, cap, L, rfl, ⟨by rw [ivs_length]; exact hL, fun h0 => ⟨a, rfl, hsp h0⟩, fun j v hv => ?_⟩, hl, by unfold maxLen at hm; exact hm, fun z hz => ?_⟩
    · unfold ivs at hv
      rw [List.getElem?_map] at hv
      cases hz : L[j]? with
      | none => rw [hz] at hv; cases hv
      | some z =>
        rw [hz] at hv
        have hv : Value.int .i64 z = v := Option.some.inj hv
        have hj : j < len := by
          rcases Nat.lt_or_ge j len with h' | h'
          · exact h'
          · rw [List.getElem?_eq_none (by omega)] at hz; cases hz
        rw [← add_eq_addrAt (hsp (by omega)) j, ← hv]
        exact (hP j z hz).2
    · obtain ⟨j, hj, rfl⟩ := List.getElem_of_mem hz
      exact (hP j _ (List.getElem?_eq_getElem hj)).1
theorem opVecs {t : Nat} (ht : Try.prog.underlying t = some (.slice 25)) (h : DataW.trod enc Try.prog w base sp held fuel t cs = some x) : ∃ a n c rs tss, cs = [.slice a n c] ∧ OpVs w a n c rs tss := by
  rcases open_slice ht h with ⟨rfl, _⟩ | ⟨a, len, cap, m, n, D, Pl, rfl, hb, hl, hm, hmm, hx, hi⟩
  · exact ⟨none, 0, 0, [], [], rfl, Ones.nil w none, rfl, fun j r ts h => by simp at h, Nat.le_refl _, by omega⟩
  · have hlm : len ≤ m := by rw [hmm]; split <;> omega
    have hone : ∀ i, i < len → ∃ z : SlR × List TmR, OpV w z.1 z.2 ∧ w.cell? (a.add i) = some z.1.v := by
      intro i hil
      obtain ⟨cs', hc, ht⟩ := hi i (by omega)
      obtain ⟨r, ts, rfl, ho⟩ := opVec rfl ht
      have hcc := (cells1 hc).2 0 (by decide)
      refine ⟨(r, ts), ho, ?_⟩
      have e : (a.add (i * Try.prog.cellsOf 25)).add 0 = a.add i := by
        have : Try.prog.cellsOf 25 = 1 := by kernel_rfl
        rw [this, Nat.mul_one, add_add', Nat.add_zero]
      rw [e] at hcc
      exact hcc
    haveI : Inhabited (SlR × List TmR) := ⟨(⟨none, 0, 0⟩, [])⟩
    obtain ⟨L, hL, hP⟩ := listOf len hone
    have hsp : 0 < len → a.spot = none := by
      intro h0
      obtain ⟨z, _, hz⟩ := hone 0 h0
      have := World.cell?_spot hz
      cases a; simpa [Addr.add] using this
    refine ⟨some a, len, cap, L.map (·.1), L.map (·.2), rfl, ⟨by rw [svs_length, List.length_map]; exact hL, fun h0 => ⟨a, rfl, hsp h0⟩, fun j v hv => ?_⟩, by rw [List.length_map]; exact hL, fun j r ts h1 h2 => ?_, hl, by unfold maxLen at hm; exact hm⟩
    · unfold svs at hv
      rw [List.getElem?_map, List.getElem?_map] at hv
      cases hz : L[j]? with
      | none => rw [hz] at hv; cases hv
      | some z =>
        rw [hz] at hv
        have hv : z.1.v = v := Option.some.inj hv
        have hj : j < len := by
          rcases Nat.lt_or_ge j len with h' | h'
          · exact h'
          · rw [List.getElem?_eq_none (by omega)] at hz; cases hz
        rw [← add_eq_addrAt (hsp (by omega)) j, ← hv]
        exact (hP j z hz).2
    · rw [List.getElem?_map] at h1 h2
      cases hz : L[j]? with
      | none => rw [hz] at h1; cases h1
      | some z =>
        rw [hz] at h1 h2
        cases h1; cases h2
        exact (hP j z hz).1
end
section
variable {H : Type} {enc : TypeId × Value → H} {W : World} {base : Nat} {sp : Nat → Bool} {held : Bool} {r : Reach} {b0 : Nat} {v : Value} {d : DataW H} {p : List MemPlace}
theorem openV' {t : Nat} (ht : Try.prog.underlying t = some (.slice 77)) (hv : Value.okWide Try.prog W r b0 t v) (h : DataW.Trod enc Try.prog W base sp held t v d p) : ∃ (s : SlR) (ts : List TmR), v = s.v ∧ OpV W s ts := by
  obtain ⟨a, n, c, rfl⟩ := okWide_slice ht hv
  obtain ⟨fuel, hf⟩ := h
  obtain ⟨s, ts, e, ho⟩ := opVec ht hf
  exact ⟨s, ts, (List.cons.inj e).1, ho⟩
theorem openQ' (hv : Value.okWide Try.prog W r b0 33 v) (h : DataW.Trod enc Try.prog W base sp held 33 v d p) : ∃ s : RatR, v = s.v ∧ OpQ W s := by
  obtain ⟨cs, rfl, _⟩ := okWide_struct (t := 33) rfl hv
  obtain ⟨fuel, hf⟩ := h
  obtain ⟨s, e, ho⟩ := opRat hf
  refine ⟨s, ?_, ho⟩
  have e : cs.toList = rcs s := e
  show Value.agg cs = Value.agg (rcs s).toArray
  rw [← e]
theorem openL {t : Nat} (ht : Try.prog.underlying t = some (.slice 3)) (hv : Value.okWide Try.prog W r b0 t v) (h : DataW.Trod enc Try.prog W base sp held t v d p) : ∃ a n c L, v = .slice a n c ∧ OpL W a n c L := by
  obtain ⟨a, n, c, rfl⟩ := okWide_slice ht hv
  obtain ⟨fuel, hf⟩ := h
  obtain ⟨a', n', c', L, e, ho⟩ := opInts ht hf
  exact ⟨a', n', c', L, (List.cons.inj e).1, ho⟩
theorem openVs {t : Nat} (ht : Try.prog.underlying t = some (.slice 25)) (hv : Value.okWide Try.prog W r b0 t v) (h : DataW.Trod enc Try.prog W base sp held t v d p) : ∃ a n c rs tss, v = .slice a n c ∧ OpVs W a n c rs tss := by
  obtain ⟨a, n, c, rfl⟩ := okWide_slice ht hv
  obtain ⟨fuel, hf⟩ := h
  obtain ⟨a', n', c', rs, tss, e, ho⟩ := opVecs ht hf
  exact ⟨a', n', c', rs, tss, (List.cons.inj e).1, ho⟩
end
end Go.Proofs.Ytpgagepleffjlaa
