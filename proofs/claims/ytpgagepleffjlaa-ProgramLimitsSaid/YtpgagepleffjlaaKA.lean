/-
  A row of bytes made a text. Helpers; no statement of the program is proved here.
-/
import Derived.Test.YtpgagepleffjlaaK9
import Derived.Laws.BytesString
set_option maxRecDepth 100000
set_option linter.unusedSimpArgs false
set_option linter.unusedVariables false
namespace Go.Tw
open Go Go.RowKit
def txt (ns : List Int) : ByteArray := ns.foldl (fun r n => r.push (UInt8.ofNat n.toNat)) ByteArray.empty
theorem raw_bytes {P : Program} {T : TT} (hT : TOk P T) {o : Oper} {e : Env} {w : World} {K : Value → World → Prop} {s d el : Nat} {x : Operand} (ho : o.op = .convert s d x) (hs : (tyAt T s).d = .slice el) (he : (tyAt T el).d = .int .u8) (hd : (tyAt T d).d = .str)
    {a : Addr} {m n : Nat} (hx : ev e x = some (.slice (some a) m n)) {ns : List Int} (hl : ns.length = m) (hc : ∀ j v, (ns.map (Value.int .u8))[j]? = some v → w.cell? (a.add j) = some v) (hK : K (.string (txt ns)) w) : rawVC P o e w K := by
  intro r hr
  obtain ⟨dst, op, type, pos, after, guard⟩ := o
  simp only at ho
  subst ho
  have h1 : (loadCells a m).run P w = .ok (ns.map (Value.int .u8)).toArray w := by
    have := run_loadCells_list (P := P) w a (ns.map (Value.int .u8)) hc
    simpa [hl] using this
  have h2 := run_bytesToString (P := P) w a m n ns h1
  have h3 := run_convert_bytes_string (P := P) w s d el (some a) m n (hT.slice hs) (hT.int he) (hT.str hd)
  simp only [execOp, hr x _ hx, Sem.run_bind, h3, h2, Result.andThen, Sem.run_pure]
  exact hK
end Go.Tw
/-
  Contracts: the text of a small number. Helpers; no statement of the program is proved here.
-/
set_option maxRecDepth 100000
set_option linter.unusedSimpArgs false
set_option linter.unusedVariables false
namespace Go.Proofs.Ytpgagepleffjlaa
open Go Go.Tw Go.RowKit
attribute [local irreducible] LoadAt StoreOk Stored rawVC

abbrev tB : Nat := 5
theorem Rev1_ok {w : World} {a : Option Addr} {c : Nat} : CallS Try.prog 102 #[.slice a 1 c] w fun v w' => Ext w w' ∧ v = .tuple #[] := by
  refine enter ttOk mixed (args := [.slice a 1 c]) Try.func102 rfl (by kernel_rfl) (by kernel_rfl) rfl ?_
  refine ⟨0, by omega, ?_⟩
  refine ⟨Unit, fun _ => [(0, .slice a 1 c), (2, .int .i64 0), (3, .int .i64 0)], fun _ w' => Ext w w', fun _ _ => 0, ⟨(), ⟨rfl, rfl, rfl, trivial⟩, Ext.rfl w⟩, ?_⟩
  rintro u w1 hx1
  refine And.intro (fun h1 => ?_) (fun h1 => ?_)
  · exfalso; omega
  · exact ⟨hx1, rfl⟩
theorem Text1_ok {w : World} {rx : IntR} {z : Nat} (hx : CanI H0 w rx (z : Int)) (h1 : 1 ≤ z) (h9 : z ≤ 9) :
    CallS Try.prog 79 #[rx.v] w fun v w' => Ext w w' ∧ v = .string (txt [48 + (z : Int)]) := by
  have hw := hx.words
  rw [Int.natAbs_natCast] at hw
  have hdz : dig z = [z] := by
    rw [dig_pos (by omega), Nat.mod_eq_of_lt (by omega), Nat.div_eq_of_lt (by omega), dig_zero]
  rw [hdz] at hw
  have hn1 : rx.n = 1 := hw.len.symm
  have hneg : rx.neg = false := by rw [hx.neg]; exact decide_eq_false (by omega)
  refine enter ttOk mixed (args := [rx.v]) Try.func79 rfl (by kernel_rfl) (by kernel_rfl) rfl ?_
  intro b1 w1 hb1
  have hB : Blk w1 b1 31 [.bool rx.neg, .slice rx.a rx.n rx.c] := hb1.toBlk
  rw [hneg] at hB
  refine ⟨_, hB.one (off := 1) rfl rfl, ?_⟩
  refine CallS.mono (Trim_ok (hw.ext hb1.ext) hx.nc hx.cm (by omega)) ?_
  rintro v w2 ⟨hx2, a4, n4, c4, rfl, hW4, hc4, hm4⟩
  have hv : val [z] = z := by simp [val]
  rw [hv, hdz] at hW4
  have hx02 := Ext.trans' hb1.ext hx2
  refine ⟨SlR × SlR × Bool, fun x => [(1, .pointer (some ⟨b1, 0, none⟩)), (3, x.1.v), (4, x.2.1.v)], fun x w' => Ext w2 w' ∧ (if x.2.2 = true then (Words w' x.2.1.a x.2.1.n [] ∧ w'.ownsRow w2.heap.size tB 1 x.1.v 1 [.int .u8 (48 + (z : Int))]) else (x.2.1 = ⟨a4, n4, c4⟩ ∧ x.1 = ⟨none, 0, 0⟩)), fun x _ => if x.2.2 = true then 0 else 1,
    ⟨(⟨none, 0, 0⟩, ⟨a4, n4, c4⟩, false), ⟨rfl, rfl, rfl, trivial⟩, Ext.rfl w2, ⟨rfl, rfl⟩⟩, ?_⟩
  rintro ⟨s3, s4, d⟩ w3 ⟨hx3, hI⟩
  dsimp only at *
  cases d with
  | true =>
    have hI : Words w3 s4.a s4.n [] ∧ w3.ownsRow w2.heap.size tB 1 s3.v 1 [.int .u8 (48 + (z : Int))] := hI
    have h40 : s4.n = 0 := hI.1.len.symm
    refine And.intro (fun h2 => ?_) (fun h2 => ?_)
    · exfalso; omega
    · have hs3 : ∃ g cap, s3 = ⟨some ⟨g, 0, none⟩, 1, cap⟩ ∧ w3.cell? ⟨g, 0, none⟩ = some (.int .u8 (48 + (z : Int))) := by
        rcases hI.2.2 with ⟨_, h0⟩ | ⟨g, cap, cur, he, hg, hb, hnc, hcm, hcs, htk⟩
        · omega
        · refine ⟨g, cap, SlR.inj he, ?_⟩
          have h5 : cur.toList.take 1 = [Value.int .u8 (48 + (z : Int))] := htk
          have h6 : cur[0]? = some (.int .u8 (48 + (z : Int))) := by
            have := congrArg (fun l => l[0]?) h5
            simpa using this
          simp only [World.cell?, hb]
          simpa using h6
      obtain ⟨g, cap, rfl, hcell⟩ := hs3
      have hB3 := (hB.ext hx2).ext hx3
      refine And.intro (fun h3 => ?_) (fun h3 => ?_)
      · exfalso
        have h3 : ((1 : Nat) : Int) = 0 := h3
        omega
      · refine ⟨_, hB3.one (off := 0) rfl rfl, ?_⟩
        refine CallS.mono Rev1_ok ?_
        rintro _ w4 ⟨hx4, rfl⟩
        refine raw_bytes (ns := [48 + (z : Int)]) ttOk rfl rfl rfl rfl rfl rfl (fun j v hj => ?_) ⟨Ext.trans' (Ext.trans' hx02 hx3) hx4, rfl⟩
        cases j with
        | zero =>
          have hj : some (Value.int .u8 (48 + (z : Int))) = some v := hj
          cases hj
          exact hx4.cellEq hcell
        | succ j => simp at hj
  | false =>
    have hI : s4 = ⟨a4, n4, c4⟩ ∧ s3 = ⟨none, 0, 0⟩ := hI
    obtain ⟨rfl, rfl⟩ := hI
    have h41 : n4 = 1 := hW4.len.symm
    refine And.intro (fun h2 => ?_) (fun h2 => ?_)
    · intro b5 w4 hb5
      have hb5 : New w3 w4 b5 88 (wv [1000000000000000000]) := hb5
      have hW5 : Words w4 (some ⟨b5, 0, none⟩) 1 [1000000000000000000] := Words.blkAll (A := [1000000000000000000]) hb5.toBlk (fun x hx => by simp at hx; omega)
      refine CallS.mono (DivMod_ok ((hW4.ext hx3).ext hb5.ext) hc4 hm4 (show n4 ≤ 1099511627776 by omega) hW5 (Nat.le_refl _) (by omega) (by omega)) ?_
      rintro _ w5 ⟨hx5, q, r, rfl, hq, hr⟩
      have hv2 : val [1000000000000000000] = 1000000000000000000 := by simp [val]
      rw [hv, hv2, Nat.div_eq_of_lt (by omega), dig_zero] at hq
      have hmod : modN z 1000000000000000000 = z := by unfold modN; rw [if_neg (by omega)]; exact Nat.mod_eq_of_lt (by omega)
      rw [hv, hv2, hmod, hdz] at hr
      obtain ⟨aq, nq, cq, rfl, hWq, hcq, hmq⟩ := hq
      obtain ⟨ar, nr, cr, rfl, hWr, hcr, hmr⟩ := hr
      have hnq : nq = 0 := hWq.len.symm
      have hnr : nr = 1 := hWr.len.symm
      have hx45 := Ext.trans' hb5.ext hx5
      refine And.intro (fun h3 => ?_) (fun h3 => ?_)
      · refine ⟨0, ⟨rfl, by omega, hWr.base (by omega)⟩, _, hWr.load rfl rfl rfl, ?_⟩
        refine ⟨SlR × Bool, fun x => [(1, .pointer (some ⟨b1, 0, none⟩)), (3, x.1.v), (4, .slice aq nq cq), (6, .int .u64 (if x.2 = true then 0 else (z : Int))), (7, .int .i64 (if x.2 = true then 1 else 0))], fun x w' => Ext w5 w' ∧ (if x.2 = true then w'.ownsRow w2.heap.size tB 1 x.1.v 1 [.int .u8 (48 + (z : Int))] else x.1 = ⟨none, 0, 0⟩), fun x _ => if x.2 = true then 0 else 1,
          ⟨(⟨none, 0, 0⟩, false), ⟨rfl, rfl, rfl, rfl, rfl, trivial⟩, Ext.rfl w5, rfl⟩, ?_⟩
        rintro ⟨s3, d⟩ w6 ⟨hx6, hJ⟩
        cases d with
        | true =>
          have hJ : w6.ownsRow w2.heap.size tB 1 s3.v 1 [.int .u8 (48 + (z : Int))] := hJ
          refine And.intro (fun h4 => ?_) (fun h4 => ?_)
          · refine And.intro (fun h5 => ?_) (fun h5 => ?_)
            · exfalso; exact absurd (show (0 : Int) > 0 from h5) (by decide)
            · refine And.intro (fun h6 => ?_) (fun h6 => ?_)
              · exfalso
                have h6 : (0 : Int) < (nq : Int) := h6
                omega
              · exact ⟨(s3, ⟨aq, nq, cq⟩, true), ⟨rfl, rfl, rfl, trivial⟩, ⟨Ext.trans' hx3 (Ext.trans' hx45 hx6), hWq.ext hx6, hJ⟩, Nat.zero_lt_one⟩
          · exfalso; apply h4; show (1 : Int) < 18; decide
        | false =>
          have hJ : s3 = ⟨none, 0, 0⟩ := hJ
          subst hJ
          refine And.intro (fun h4 => ?_) (fun h4 => ?_)
          · refine And.intro (fun h5 => ?_) (fun h5 => ?_)
            · refine ⟨((z % 10 : Nat) : Int), ⟨remZ z 10, fun h => by omega⟩, 48 + (z : Int), by omega, 48 + (z : Int), by omega, ?_⟩
              intro b8 w7 hb8
              have hb8 : New w6 w7 b8 tB [.int .u8 (48 + (z : Int))] := hb8
              have h27 : Ext w2 w7 := Ext.trans' (Ext.trans' (Ext.trans' hx3 hx45) hx6) hb8.ext
              refine ⟨rfl, w2.heap.size, 0, [], [.int .u8 (48 + (z : Int))], ⟨World.ownsRow_nil _ _ _ _, rfl, ?_, ?_, fun _ => ⟨_, rfl, rfl⟩, by omega, by show 1 * 1 ≤ _; omega, h27.size⟩, ?_⟩
              · intro j v hj
                exact hb8.toBlk.cell (i := 0 + j) (v := v) (by rw [Nat.zero_add]; exact hj)
              · intro v hv
                rw [List.mem_singleton] at hv
                subst hv; rfl
              intro v' w8 ho hg hn
              have ho : w8.ownsRow w2.heap.size tB 1 v' 1 [.int .u8 (48 + (z : Int))] := ho
              have hx8 : Ext w2 w8 := Ext.grown h27 hg (fun b hb => by cases hb)
              have hx68 : Ext w6 w8 := Ext.grown hb8.ext hg (fun b hb => by cases hb)
              have hv : ∃ s : SlR, v' = s.v := by
                rcases ho.2 with ⟨rfl, h0⟩ | ⟨g, cap, cur, rfl, _⟩
                · omega
                · exact ⟨⟨_, _, _⟩, rfl⟩
              obtain ⟨s, rfl⟩ := hv
              have hq0 := quoZ z 10 (by omega)
              rw [Nat.div_eq_of_lt (by omega)] at hq0
              refine ⟨0, ⟨hq0, fun h => by omega⟩, 1, ⟨rfl, by decide⟩, ?_⟩
              exact ⟨(s, true), ⟨rfl, rfl, rfl, rfl, rfl, trivial⟩, ⟨Ext.trans' hx6 hx68, ho⟩, Nat.zero_lt_one⟩
            · exfalso; apply h5; show (0 : Int) < (z : Int); omega
          · exfalso; apply h4; show (0 : Int) < 18; decide
      · exfalso; apply h3; show (0 : Int) < (nr : Int); omega
    · exfalso; apply h2; show (0 : Int) < (n4 : Int); omega
theorem txt_size1 (n : Int) : (txt [n]).size = 1 := rfl
/-- The text of a fraction of one digit above and below. -/
theorem RText_ok {w : World} {rx : RatR} {q : Rat} {z : Nat} (hx : QI 1 w rx q) (hq : q.num = (z : Int)) (h1 : 1 ≤ z) (h9 : z ≤ 9) (hd : q.den ≤ 9) :
    CallS Try.prog 46 #[rx.v] w fun v w' => Ext w w' ∧ v = .string (if q.den = 1 then txt [48 + (z : Int)] else txt [48 + (z : Int)] ++ ⟨#[47]⟩ ++ txt [48 + (q.den : Int)]) := by
  refine enter ttOk mixed (args := [rx.v]) Try.func46 rfl (by kernel_rfl) (by kernel_rfl) rfl ?_
  intro b1 w1 hb1
  have hB1 : Blk w1 b1 33 (rcs rx) := hb1.toBlk
  refine ⟨rx.v, loadQ hB1, ?_⟩
  refine CallS.mono (Norm_ok ((H0.hb w).up hb1.ext) (hx.inq.is.up hb1.ext)) ?_
  rintro _ w2 ⟨hx2, r, rfl, hr⟩
  have st := storeQ (r := r) (hB1.ext hx2) (Ext.trans' hb1.ext hx2) (hb1.ge (Ext.rfl _)) rfl
  refine ⟨st.1, fun w3 hs3 => ?_⟩
  have hB3 := (st.2 w3 hs3).1
  have hx3 := (st.2 w3 hs3).2.2
  have hr3 := (hr.far (st.2 w3 hs3).2.1 (hb1.inUp (Ext.rfl w) (Ext.rfl w1))).less
  have hnum : CanI H0 w3 r.num (z : Int) := hq ▸ hr3.num
  refine ⟨_, hB3.one (off := 3) rfl rfl, ?_⟩
  by_cases h0 : q.den = 1
  · have hn0 : r.den.n = 0 := by
      rw [hr3.den.n0]; unfold denC; rw [if_pos h0]
    rw [if_pos h0]
    refine And.intro (fun h2 => ?_) (fun h2 => ?_)
    · refine ⟨r.num.v, loadQn hB3, ?_⟩
      refine CallS.mono (Text1_ok hnum h1 h9) ?_
      rintro _ w4 ⟨hx4, rfl⟩
      exact ⟨Ext.trans' hx3 hx4, rfl⟩
    · exfalso; apply h2; show (r.den.n : Int) = 0; omega
  · have hdn : CanI H0 w3 r.den ((q.den : Nat) : Int) := by
      have := hr3.den
      unfold denC at this
      rw [if_neg h0] at this
      exact this
    have hd0 := q.den_pos
    have hn0 : r.den.n ≠ 0 := by
      intro h
      have := hr3.den.n0.1 h
      unfold denC at this
      rw [if_neg h0] at this
      omega
    rw [if_neg h0]
    refine And.intro (fun h2 => ?_) (fun h2 => ?_)
    · exfalso
      have h2 : (r.den.n : Int) = 0 := h2
      omega
    · refine ⟨sq 9, by kernel_rfl, r.num.v, loadQn hB3, ?_⟩
      refine dcallV (.string (txt [48 + (z : Int)])) (fun w' hw hF => Text1_ok (hnum.ext hw) h1 h9) ?_
      refine ⟨show (txt [48 + (z : Int)]).size + 1 ≤ _ by rw [txt_size1]; omega, ?_⟩
      refine ⟨r.den.v, hB3.agg (sub := [.bool r.den.neg, .slice r.den.a r.den.n r.den.c]) rfl rfl, ?_⟩
      refine dcallV (.string (txt [48 + (q.den : Int)])) (fun w' hw hF => Text1_ok (hdn.ext hw) (by omega) hd) ?_
      refine ⟨show (txt [48 + (z : Int)] ++ ⟨#[47]⟩ : ByteArray).size + (txt [48 + (q.den : Int)]).size ≤ _ by rw [ByteArray.size_append, txt_size1, txt_size1]; show 1 + 1 + 1 ≤ _; omega, ?_⟩
      intro w4 hx4 _
      exact ⟨Ext.trans' hx3 hx4, rfl⟩
end Go.Proofs.Ytpgagepleffjlaa
/-
  The watch of the layer sparse: its terms. Helpers; no statement of the program is proved here.
-/
set_option maxRecDepth 100000
set_option linter.unusedSimpArgs false
set_option linter.unusedVariables false
namespace Go.Proofs.Ytpgagepleffjlaa
open Go Go.Tw Go.RowKit
attribute [local irreducible] LoadAt StoreOk Stored rawVC

theorem TmR.inj {x y : TmR} (h : x.v = y.v) : x = y := by
  obtain ⟨a, ⟨⟨b, c, d, e⟩, ⟨f, g, i, j⟩⟩⟩ := x
  obtain ⟨a', ⟨⟨b', c', d', e'⟩, ⟨f', g', i', j'⟩⟩⟩ := y
  simp only [TmR.v, Value.agg.injEq, Array.mk.injEq, List.cons.injEq, Value.int.injEq, Value.bool.injEq, Value.slice.injEq, true_and, and_true] at h
  obtain ⟨h1, h2, ⟨h3, h4, h5⟩, h6, h7, h8, h9⟩ := h
  subst h1 h2 h3 h4 h5 h6 h7 h8 h9
  rfl
structure TC (i : Int) (q : Rat) (w : World) (t : TmR) : Prop where
  at' : t.at' = i
  qc : QC 1 w t.x q
theorem TC.ext {i : Int} {q : Rat} {w w' : World} {t : TmR} (h : TC i q w t) (e : Ext w w') : TC i q w' t := ⟨h.at', h.qc.ext e⟩
theorem TC.stable {i : Int} {q : Rat} (t : TmR) : Stable (fun w => TC i q w t) := fun _ _ h e => h.ext e
theorem term_at {w : World} (i n d : Int) (hn : n.natAbs < 65536) (hd : d.natAbs < 65536) (hf : FitQ 1 (Rat.divInt n d)) :
    CallS Try.prog 44 #[.int .i64 i, .int .i64 n, .int .i64 d] w fun v w' => Ext w w' ∧ ∃ t : TmR, v = t.v ∧ TC i (Rat.divInt n d) w' t := by
  refine enter ttOk mixed (args := [.int .i64 i, .int .i64 n, .int .i64 d]) Try.func44 rfl (by kernel_rfl) (by kernel_rfl) rfl ?_
  intro b w1 hb
  refine CallS.mono (ROf_ok ((H0.hb w).up hb.ext) (by omega) (by omega) (by omega) (by omega)) ?_
  rintro _ w2 ⟨hx2, r, rfl, hr⟩
  have hB2 := hb.toBlk.ext hx2
  refine ⟨(storeTmB (w' := w2) (t := ⟨i, r⟩) hB2 rfl).1, fun w3 hs3 => ?_⟩
  have h3 := (storeTmB (t := ⟨i, r⟩) hB2 rfl).2 hs3
  have hr3 := (hr.far h3.2 (hb.inUp (Ext.rfl w) (Ext.rfl w1))).less
  refine ⟨(TmR.mk i r).v, h3.1.agg (sub := (TmR.mk i r).cs) rfl rfl, ?_⟩
  exact ⟨Ext.grownB (Ext.trans' hb.ext hx2) h3.2 (hb.ge (Ext.rfl w)), ⟨i, r⟩, rfl, rfl, hr3, hf⟩
theorem fit1 {q : Rat} (h : (Nat.blt q.num.natAbs 18446744073709551616 && Nat.blt q.den 18446744073709551616) = true) : FitQ 1 q := by
  simp only [Bool.and_eq_true, Nat.blt_eq] at h
  exact ⟨Fit_iff.2 (by rw [Nat.pow_one]; exact h.1), Fit_iff.2 (by rw [Nat.pow_one]; exact h.2)⟩
/-! ### rows of terms -/
inductive TCs (w : World) : List TmR → VL → Prop
  | nil : TCs w [] []
  | cons {i : Int} {q : Rat} {t : TmR} {ts : List TmR} {xs : VL} : TC i q w t → TCs w ts xs → TCs w (t :: ts) ((i, q) :: xs)
theorem TCs.ext {w w' : World} {ts : List TmR} {xs : VL} (h : TCs w ts xs) (e : Ext w w') : TCs w' ts xs := by
  induction h with
  | nil => exact .nil
  | cons h _ ih => exact .cons (h.ext e) ih
theorem TCs.can {w : World} {ts : List TmR} {xs : VL} (h : TCs w ts xs) : TsCan 1 H0 w ts xs := by
  induction h with
  | nil => exact .nil
  | cons h _ ih => exact .cons h.at' h.qc.can h.qc.fit ih
theorem TCs.vc {w : World} {ts : List TmR} {xs : VL} {b e : Nat} (n : Nat) (h : TCs w ts xs) (hb : Blk w b e (tcs ts)) (hn : ts.length = n) (hl : n ≤ 21) (hc : Cn xs) : VC 1 n w ⟨some ⟨b, 0, none⟩, n, n⟩ xs := by
  subst hn
  have hB : Blk w b e (tcs ts ++ []) := by rw [List.append_nil]; exact hb
  have hl' := h.can.length
  exact ⟨⟨⟨ts, Tms.blk hB, h.can⟩, Nat.le_refl _, by show ts.length ≤ _; omega, H0.av _ _⟩, hc, by omega⟩
theorem TCs.vi {w : World} {ts : List TmR} {xs : VL} {b e : Nat} (n : Nat) (h : TCs w ts xs) (hb : Blk w b e (tcs ts)) (hn : ts.length = n) (hl : n ≤ 21) : VI 1 n w ⟨some ⟨b, 0, none⟩, n, n⟩ xs := by
  subst hn
  have hB : Blk w b e (tcs ts ++ []) := by rw [List.append_nil]; exact hb
  have hl' := h.can.length
  exact ⟨⟨⟨ts, Tms.blk hB, h.can.inq (by omega)⟩, Nat.le_refl _, by show ts.length ≤ _; omega, H0.av _ _⟩, by omega, .inl (by omega)⟩
end Go.Proofs.Ytpgagepleffjlaa
/-
  The watch of the layer sparse: its own example. Helpers; no statement of the program is proved here.
-/
set_option maxRecDepth 100000
set_option linter.unusedSimpArgs false
set_option linter.unusedVariables false
namespace Go.Proofs.Ytpgagepleffjlaa
open Go Go.Tw Go.RowKit
attribute [local irreducible] LoadAt StoreOk Stored rawVC

def cnB (x : VL) : Bool :=
  match x with
  | [] => true
  | t :: x => !decide (t.2 = 0) && x.all (fun s => decide (t.1 < s.1)) && cnB x
theorem cnL {x : VL} (h : cnB x = true) : Cn x := by
  induction x with
  | nil => exact Cn.nil
  | cons t x ih =>
    simp only [cnB, Bool.and_eq_true, List.all_eq_true, decide_eq_true_eq, Bool.not_eq_true', decide_eq_false_iff_not] at h
    refine ⟨List.pairwise_cons.2 ⟨h.1.2, (ih h.2).1⟩, ?_⟩
    intro s hs
    rcases List.mem_cons.1 hs with rfl | hs
    · exact h.1.1
    · exact (ih h.2).2 s hs
theorem sratT_at {k1 k2 : Nat} {w : World} {x y : RatR} {p q : Rat} (hx : QC k1 w x p) (hy : QC k2 w y q) (h : k1 ≤ 1099511627776) (e : p = q) :
    CallS Try.prog 62 #[x.v, y.v] w fun v w' => Ext w w' ∧ v = .bool true := by
  have := srat_at hx hy h
  rw [decide_eq_true e] at this; exact this
theorem awake5_at (w0 : World) : CallS Try.prog 16 #[] w0 fun v w' => Ext w0 w' ∧ v = .bool true := by
  refine enter ttOk mixed (args := []) Try.func16 rfl (by kernel_rfl) (by kernel_rfl) rfl ?_
  refine CallS.mono (term_at (2) (1) (1) (by decide) (by decide) (fit1 (by kernel_rfl))) ?_
  rintro _ w1 ⟨x1, ta0, rfl, qta0⟩
  refine CallS.mono (term_at (0) (1) (2) (by decide) (by decide) (fit1 (by kernel_rfl))) ?_
  rintro _ w2 ⟨x2, ta1, rfl, qta1⟩
  refine CallS.mono (term_at (2) (-1) (1) (by decide) (by decide) (fit1 (by kernel_rfl))) ?_
  rintro _ w3 ⟨x3, ta2, rfl, qta2⟩
  intro a w4 ha
  have ha : New w3 w4 a tT (tcs [ta0, ta1, ta2]) := ha
  have x4 := ha.ext
  have va := TCs.vi 3 (.cons (qta0.ext (Ext.trans' (Ext.trans' x2 x3) x4)) (.cons (qta1.ext (Ext.trans' x3 x4)) (.cons (qta2.ext x4) (.nil)))) ha.toBlk rfl (by decide)
  refine CallS.mono (norm_at va (by decide)) ?_
  rintro _ w5 ⟨x5, s1, rfl, h1⟩
  refine CallS.mono (term_at (0) (1) (1) (by decide) (by decide) (fit1 (by kernel_rfl))) ?_
  rintro _ w6 ⟨x6, tb0, rfl, qtb0⟩
  refine CallS.mono (term_at (3) (2) (1) (by decide) (by decide) (fit1 (by kernel_rfl))) ?_
  rintro _ w7 ⟨x7, tb1, rfl, qtb1⟩
  intro b w8 hb
  have hb : New w7 w8 b tT (tcs [tb0, tb1]) := hb
  have x8 := hb.ext
  have vb := TCs.vi 2 (.cons (qtb0.ext (Ext.trans' x7 x8)) (.cons (qtb1.ext x8) (.nil))) hb.toBlk rfl (by decide)
  refine CallS.mono (term_at (3) (-2) (1) (by decide) (by decide) (fit1 (by kernel_rfl))) ?_
  rintro _ w9 ⟨x9, tc0, rfl, qtc0⟩
  refine CallS.mono (term_at (4) (1) (1) (by decide) (by decide) (fit1 (by kernel_rfl))) ?_
  rintro _ w10 ⟨x10, tc1, rfl, qtc1⟩
  intro c w11 hc
  have hc : New w10 w11 c tT (tcs [tc0, tc1]) := hc
  have x11 := hc.ext
  have vc := TCs.vi 2 (.cons (qtc0.ext (Ext.trans' x10 x11)) (.cons (qtc1.ext x11) (.nil))) hc.toBlk rfl (by decide)
  refine CallS.mono (add_at 1 (vb.ext (Ext.trans' (Ext.trans' x9 x10) x11)) vc (by decide)) ?_
  rintro _ w12 ⟨x12, s2, rfl, h2⟩
  refine CallS.mono (term_at (0) (1) (1) (by decide) (by decide) (fit1 (by kernel_rfl))) ?_
  rintro _ w13 ⟨x13, td0, rfl, qtd0⟩
  intro d w14 hd
  have hd : New w13 w14 d tT (tcs [td0]) := hd
  have x14 := hd.ext
  have vd := TCs.vi 1 (.cons (qtd0.ext x14) (.nil)) hd.toBlk rfl (by decide)
  refine CallS.mono (of_at (-2) 1 (by decide) (by decide) (fit1 (by kernel_rfl))) ?_
  rintro _ w15 ⟨x15, r3, rfl, hr3⟩
  refine CallS.mono (term_at (0) (1) (2) (by decide) (by decide) (fit1 (by kernel_rfl))) ?_
  rintro _ w16 ⟨x16, te0, rfl, qte0⟩
  refine CallS.mono (term_at (1) (1) (1) (by decide) (by decide) (fit1 (by kernel_rfl))) ?_
  rintro _ w17 ⟨x17, te1, rfl, qte1⟩
  intro e w18 he
  have he : New w17 w18 e tT (tcs [te0, te1]) := he
  have x18 := he.ext
  have ve := TCs.vi 2 (.cons (qte0.ext (Ext.trans' x17 x18)) (.cons (qte1.ext x18) (.nil))) he.toBlk rfl (by decide)
  refine CallS.mono (axpy_at 1 (vd.ext (Ext.trans' (Ext.trans' (Ext.trans' x15 x16) x17) x18)) ((hr3.ext (Ext.trans' (Ext.trans' x16 x17) x18)).qi (by decide)) ve (by decide)) ?_
  rintro _ w19 ⟨x19, s3, rfl, h3⟩
  refine CallS.mono (term_at (0) (1) (1) (by decide) (by decide) (fit1 (by kernel_rfl))) ?_
  rintro _ w20 ⟨x20, tf0, rfl, qtf0⟩
  refine CallS.mono (term_at (2) (3) (1) (by decide) (by decide) (fit1 (by kernel_rfl))) ?_
  rintro _ w21 ⟨x21, tf1, rfl, qtf1⟩
  intro f w22 hf
  have hf : New w21 w22 f tT (tcs [tf0, tf1]) := hf
  have x22 := hf.ext
  have vf := TCs.vi 2 (.cons (qtf0.ext (Ext.trans' x21 x22)) (.cons (qtf1.ext x22) (.nil))) hf.toBlk rfl (by decide)
  refine CallS.mono (term_at (2) (1) (3) (by decide) (by decide) (fit1 (by kernel_rfl))) ?_
  rintro _ w23 ⟨x23, tg0, rfl, qtg0⟩
  refine CallS.mono (term_at (5) (9) (1) (by decide) (by decide) (fit1 (by kernel_rfl))) ?_
  rintro _ w24 ⟨x24, tg1, rfl, qtg1⟩
  intro g w25 hg
  have hg : New w24 w25 g tT (tcs [tg0, tg1]) := hg
  have x25 := hg.ext
  have vg := TCs.vi 2 (.cons (qtg0.ext (Ext.trans' x24 x25)) (.cons (qtg1.ext x25) (.nil))) hg.toBlk rfl (by decide)
  refine CallS.mono (dot_at 1 (vf.ext (Ext.trans' (Ext.trans' x23 x24) x25)) vg (by decide)) ?_
  rintro _ w26 ⟨x26, r4, rfl, h4⟩
  intro b4 u4 hb4
  have st4 := storeQ (r := r4) hb4.toBlk hb4.ext (hb4.ge (Ext.rfl _)) rfl
  refine ⟨st4.1, fun w27 hs4 => ?_⟩
  have hB4 := (st4.2 w27 hs4).1
  have x27 := (st4.2 w27 hs4).2.2
  have h1 := (h1.ext (Ext.trans' (Ext.trans' (Ext.trans' (Ext.trans' (Ext.trans' (Ext.trans' (Ext.trans' (Ext.trans' (Ext.trans' (Ext.trans' (Ext.trans' (Ext.trans' (Ext.trans' (Ext.trans' (Ext.trans' (Ext.trans' (Ext.trans' (Ext.trans' (Ext.trans' (Ext.trans' (Ext.trans' x6 x7) x8) x9) x10) x11) x12) x13) x14) x15) x16) x17) x18) x19) x20) x21) x22) x23) x24) x25) x26) x27))
  have h2 := (h2.ext (Ext.trans' (Ext.trans' (Ext.trans' (Ext.trans' (Ext.trans' (Ext.trans' (Ext.trans' (Ext.trans' (Ext.trans' (Ext.trans' (Ext.trans' (Ext.trans' (Ext.trans' (Ext.trans' x13 x14) x15) x16) x17) x18) x19) x20) x21) x22) x23) x24) x25) x26) x27))
  have h3 := (h3.ext (Ext.trans' (Ext.trans' (Ext.trans' (Ext.trans' (Ext.trans' (Ext.trans' (Ext.trans' x20 x21) x22) x23) x24) x25) x26) x27))
  have h4 := (h4.ext x27)
  refine ⟨sq 26, by kernel_rfl, ?_⟩
  refine dcallR (mk := TmR.v) (Q := fun r w' => TC (0) (Rat.divInt (1) (2)) w' r) TmR.inj (fun _ => TC.stable _) (fun w' hw hF => term_at (0) (1) (2) (by decide) (by decide) (fit1 (by kernel_rfl))) ?_
  intro ti0
  intro i _
  refine dcallV (.bool true) (fun w' hw hF => svecT_at ((h1).ext hw) (TCs.vc 1 (ts := [ti0]) (.cons (hF.2.1) (.nil)) (show Blk w' i tT (tcs [ti0]) from (hF.1).1) rfl (by decide) (cnL (by kernel_rfl))) (by decide) (by kernel_rfl)) ?_
  refine dcallR (mk := TmR.v) (Q := fun r w' => TC (0) (Rat.divInt (1) (1)) w' r) TmR.inj (fun _ => TC.stable _) (fun w' hw hF => term_at (0) (1) (1) (by decide) (by decide) (fit1 (by kernel_rfl))) ?_
  intro tj0
  refine dcallR (mk := TmR.v) (Q := fun r w' => TC (4) (Rat.divInt (1) (1)) w' r) TmR.inj (fun _ => TC.stable _) (fun w' hw hF => term_at (4) (1) (1) (by decide) (by decide) (fit1 (by kernel_rfl))) ?_
  intro tj1
  intro j _
  refine dcallV (.bool true) (fun w' hw hF => svecT_at ((h2).ext hw) (TCs.vc 2 (ts := [tj0, tj1]) (.cons (hF.2.2.1) (.cons (hF.2.1) (.nil))) (show Blk w' j tT (tcs [tj0, tj1]) from (hF.1).1) rfl (by decide) (cnL (by kernel_rfl))) (by decide) (by kernel_rfl)) ?_
  refine dcallR (mk := TmR.v) (Q := fun r w' => TC (1) (Rat.divInt (-2) (1)) w' r) TmR.inj (fun _ => TC.stable _) (fun w' hw hF => term_at (1) (-2) (1) (by decide) (by decide) (fit1 (by kernel_rfl))) ?_
  intro tk0
  intro k _
  refine dcallV (.bool true) (fun w' hw hF => svecT_at ((h3).ext hw) (TCs.vc 1 (ts := [tk0]) (.cons (hF.2.1) (.nil)) (show Blk w' k tT (tcs [tk0]) from (hF.1).1) rfl (by decide) (cnL (by kernel_rfl))) (by decide) (by kernel_rfl)) ?_
  refine ⟨r4.v, loadQ hB4, ?_⟩
  refine dcallR (mk := RatR.v) (Q := fun r w' => QC 1 w' r (Rat.divInt 1 1)) RatR.inj (fun _ => QC.stable) (fun w' hw hF => of_at 1 1 (by decide) (by decide) (fit1 (by kernel_rfl))) ?_
  intro r5
  refine dcallV (.bool true) (fun w' hw hF => sratT_at ((h4).ext hw) (hF.1) (by decide) (by kernel_rfl)) ?_
  intro w28 x28 hF
  exact ⟨(Ext.trans' (Ext.trans' (Ext.trans' (Ext.trans' (Ext.trans' (Ext.trans' (Ext.trans' (Ext.trans' (Ext.trans' (Ext.trans' (Ext.trans' (Ext.trans' (Ext.trans' (Ext.trans' (Ext.trans' (Ext.trans' (Ext.trans' (Ext.trans' (Ext.trans' (Ext.trans' (Ext.trans' (Ext.trans' (Ext.trans' (Ext.trans' (Ext.trans' (Ext.trans' (Ext.trans' x1 x2) x3) x4) x5) x6) x7) x8) x9) x10) x11) x12) x13) x14) x15) x16) x17) x18) x19) x20) x21) x22) x23) x24) x25) x26) x27) x28), rfl⟩
end Go.Proofs.Ytpgagepleffjlaa
/-
  What the fixed examples of the layer sparse ask: rows of terms told whether right, rows of fractions read. Helpers; no statement of the program is proved here.
-/
set_option maxRecDepth 100000
set_option linter.unusedSimpArgs false
set_option linter.unusedVariables false
namespace Go.Proofs.Ytpgagepleffjlaa
open Go Go.Tw Go.RowKit
attribute [local irreducible] LoadAt StoreOk Stored rawVC

theorem formedC_at {k : Nat} {w : World} {rx : RatR} {q : Rat} (h : QC k w rx q) (hk : k ≤ 1099511627776) :
    CallS Try.prog 80 #[rx.v] w fun v w' => Ext w w' ∧ v = .bool (decide (q ≠ 0)) := by
  have := formed_ok h.can.num.words h.can.den.words (h.qi hk).inq.is (h.fit.mono hk)
  refine CallS.mono this ?_
  rintro _ w2 ⟨hx2, rfl⟩
  refine ⟨hx2, ?_⟩
  have e : (q ≠ 0 ∧ frmN q rx (dig q.num.natAbs) ∧ frmD q rx (dig (denC q).natAbs)) ↔ q ≠ 0 := ⟨fun h => h.1, fun h1 => ⟨h1, ⟨h.can.num.neg.symm, rfl⟩, ⟨h.can.den.neg.symm, rfl⟩⟩⟩
  rw [decide_eq_decide.2 e]
/-- Terms in a block of their own. -/
structure TR (w : World) (b n : Nat) (ts : List TmR) (xs : VL) : Prop where
  tcs : TCs w ts xs
  blk : Blk w b tT (Tw.tcs ts)
  len : ts.length = n
  n21 : n ≤ 21
section
variable {w w' : World} {b n : Nat} {ts : List TmR} {xs : VL}
theorem TR.ext (h : TR w b n ts xs) (e : Ext w w') : TR w' b n ts xs := ⟨h.tcs.ext e, h.blk.ext e, h.len, h.n21⟩
theorem TR.vi (h : TR w b n ts xs) : VI 1 n w ⟨some ⟨b, 0, none⟩, n, n⟩ xs := TCs.vi n h.tcs h.blk h.len h.n21
theorem TCs.at {w : World} {ts : List TmR} {xs : VL} (h : TCs w ts xs) {j : Nat} {t : TmR} (hj : ts[j]? = some t) : ∃ p, xs[j]? = some p ∧ t.at' = p.1 ∧ QC 1 w t.x p.2 := by
  induction h generalizing j with
  | nil => simp at hj
  | cons h1 _ ih =>
    cases j with
    | zero => simp at hj; subst hj; exact ⟨_, rfl, h1.at', h1.qc⟩
    | succ j => simpa using ih (by simpa using hj)
theorem TCs.length {w : World} {ts : List TmR} {xs : VL} (h : TCs w ts xs) : ts.length = xs.length := h.can.length
def prB (xs : VL) : List (Int × Bool) := xs.map fun p => (p.1, !decide (p.2 = 0))
theorem right_at (h : TR w b n ts xs) (N : Int) (r : Bool) (hr : rightL N (-1) (prB xs) = r) :
    CallS Try.prog 47 #[.slice (some ⟨b, 0, none⟩) n n, .int .i64 N] w fun v w' => Ext w w' ∧ v = .bool r := by
  subst hr
  have hB : Blk w b tT (tcs ts ++ []) := by rw [List.append_nil]; exact h.blk
  have hT := Tms.blk hB
  rw [h.len] at hT
  have h21 := h.n21
  refine Right_ok (prB xs) hT (by omega) (by unfold prB; rw [List.length_map, h.tcs.length]) ?_
  intro j t p hj hp
  obtain ⟨p', hp', hat, hq⟩ := h.tcs.at hj
  have e : p = (p'.1, !decide (p'.2 = 0)) := by
    unfold prB at hp
    rw [List.getElem?_map, hp'] at hp
    exact (Option.some.inj hp).symm
  subst e
  refine ⟨hat, fun w' hx => ?_⟩
  refine CallS.mono (formedC_at (hq.ext hx) (by omega)) ?_
  rintro _ w2 ⟨hx2, rfl⟩
  refine ⟨hx2, ?_⟩
  by_cases h0 : p'.2 = 0 <;> simp [h0]
theorem rightNil_at (w : World) (N : Int) : CallS Try.prog 47 #[.slice none 0 0, .int .i64 N] w fun v w' => Ext w w' ∧ v = .bool true :=
  Right_ok [] (Tms.nil w none) (by omega) rfl (fun j t p h => by simp at h)
theorem qc_to {k : Nat} {w : World} {rx : RatR} {q : Rat} (h : CanQ H0 w rx q) (hf : FitQ k q) : QC k w rx q := ⟨h, hf⟩
theorem loadQs {T : TT} {w : World} {b e j sz ty : Nat} {rs : List RatR} {r : RatR} (hb : Blk w b e (qcs rs)) (hj : rs[j]? = some r) (hk : (known (tyAt T ty) && (tyAt T ty).agg && Nat.beq 4 (tyAt T ty).size) = true) (hs : sz = 4) : LoadAt T w ty (addrAt (some ⟨b, 0, none⟩) (j * sz)) r.v := by
  subst hs
  refine loadAgg (cs := r.cs) hk fun k u hu => ?_
  show w.cell? ((⟨b, 0 + j * 4, none⟩ : Addr).add k) = _
  rw [Addr.add_lit]
  exact hb.cell (i := 0 + j * 4 + k) (by rw [Nat.zero_add]; exact qcs_get hj hu)
/-- Fractions in a block of their own. -/
structure QR (k : Nat) (w : World) (b n : Nat) (rs : List RatR) (f : Nat → Rat) : Prop where
  blk : Blk w b 33 (qcs rs)
  len : rs.length = n
  row : ∀ j, j < n → QC k w (rs.getD j default) (f j)
theorem QR.ext {k : Nat} {rs : List RatR} {f : Nat → Rat} (h : QR k w b n rs f) (e : Ext w w') : QR k w' b n rs f := ⟨h.blk.ext e, h.len, fun j hj => (h.row j hj).ext e⟩
theorem QR.at {k : Nat} {rs : List RatR} {f : Nat → Rat} (h : QR k w b n rs f) {j : Nat} (hj : j < n) : LoadAt tt w 33 (addrAt (some ⟨b, 0, none⟩) (j * (tyAt tt 33).size)) (rs.getD j default).v := by
  refine loadQs h.blk ?_ rfl rfl
  rw [List.getD_eq_getElem?_getD, List.getElem?_eq_getElem (by rw [h.len]; exact hj)]; rfl
theorem dense_at {k l m : Nat} {r : SlR} (hx : VI k l w r xs) (hk : k ≤ 1073741824 ∧ l ≤ 21) (N n : Nat) (hN : 1 ≤ N ∧ N ≤ 4611686018427387904) (hn : n = min N 65536) (hf : ∀ j : Nat, FitQ m (getL xs (j : Int))) :
    CallS Try.prog 45 #[r.v, .int .i64 (N : Int)] w fun v w' => Ext w w' ∧ ∃ b rs, v = .slice (some ⟨b, 0, none⟩) n n ∧ QR m w' b n rs (fun j => getL xs (j : Int)) := by
  refine CallS.mono (Dense_ok hx hk hN hn) ?_
  rintro _ w2 ⟨hx2, b, rs, rfl, hB, hl, hr⟩
  exact ⟨hx2, b, rs, rfl, hB, hl, fun j hj => ⟨hr j hj, hf j⟩⟩
theorem VI.nil (k l : Nat) (w : World) : VI k l w ⟨none, 0, 0⟩ [] := ⟨InV.nil k H0 w, Nat.zero_le _, .inl (Nat.zero_le _)⟩
theorem rsign_at {k : Nat} {rx : RatR} {q : Rat} (h : QI k w rx q) : CallS Try.prog 11 #[rx.v] w fun v w' => Ext w w' ∧ v = .int .i64 (sgQ q) := RSign_ok (H0.hb w) h.inq.is
end
/-- The fraction 2/4, as it is written. -/
structure Raw24 (w : World) (r : RatR) : Prop where
  num : Words w r.num.a r.num.n [2]
  den : Words w r.den.a r.den.n [4]
  neg : r.num.neg = false ∧ r.den.neg = false
  cap : r.num.c = 1 ∧ r.den.c = 1
theorem Raw24.ext {w w' : World} {r : RatR} (h : Raw24 w r) (e : Ext w w') : Raw24 w' r := ⟨h.num.ext e, h.den.ext e, h.neg, h.cap⟩
theorem Raw24.qi {w : World} {r : RatR} (h : Raw24 w r) : QI 1 w r (Rat.divInt 1 2) := by
  have n1 := h.num.len
  have n2 := h.den.len
  have c1 := h.cap.1
  have c2 := h.cap.2
  simp only [List.length_cons, List.length_nil, Nat.zero_add] at n1 n2
  refine ⟨⟨⟨2, 4, ⟨⟨_, h.num, ?_⟩, by omega, by omega, by omega, H0.av _ _⟩, ⟨⟨_, h.den, ?_⟩, by omega, by omega, by omega, H0.av _ _⟩, ?_⟩, by omega, by omega⟩⟩
  · rw [h.neg.1]; rfl
  · rw [h.neg.2]; rfl
  · unfold denZ
    rw [if_neg (by omega)]
    kernel_rfl
theorem Raw24.formed_at {w : World} {r : RatR} (h : Raw24 w r) : CallS Try.prog 80 #[r.v] w fun v w' => Ext w w' ∧ v = .bool false := by
  refine CallS.mono (formed_ok h.num h.den h.qi.inq.is (fit1 (by kernel_rfl) |>.mono (by omega))) ?_
  rintro _ w2 ⟨hx2, rfl⟩
  refine ⟨hx2, ?_⟩
  congr 1
  refine decide_eq_false fun e => ?_
  have h1 := e.2.1.2
  have h2 : dig (Rat.divInt 1 2).num.natAbs = [1] := by kernel_rfl
  rw [h2] at h1
  cases h1
end Go.Proofs.Ytpgagepleffjlaa
/-
  Contracts of the layer matrix: rows of vectors; a matrix times a vector, and a vector times a matrix. Helpers; no statement of the program is proved here.
-/
set_option maxRecDepth 100000
set_option linter.unusedSimpArgs false
set_option linter.unusedVariables false
namespace Go.Proofs.Ytpgagepleffjlaa
open Go Go.Tw Go.RowKit
attribute [local irreducible] LoadAt StoreOk Stored rawVC

abbrev tV : Nat := 25
def svs (rs : List SlR) : List Value := rs.map SlR.v
theorem svs_length (rs : List SlR) : (svs rs).length = rs.length := by simp [svs]
theorem svs_get {rs : List SlR} {j : Nat} {r : SlR} (h : rs[j]? = some r) : (svs rs)[j]? = some r.v := by simp [svs, h]
theorem svs_set (rs : List SlR) (j : Nat) (r : SlR) : (svs rs).set j r.v = svs (rs.set j r) := by simp [svs, List.map_set]
theorem svs_append (rs ss : List SlR) : svs (rs ++ ss) = svs rs ++ svs ss := by simp [svs]
theorem svs_one (rs : List SlR) : ∀ v ∈ svs rs, v.oneCell' = true := by
  intro v hv
  obtain ⟨x, _, rfl⟩ := List.mem_map.1 hv
  rfl
/-- A row of vectors, each of which says what P asks. -/
structure Vs (P : World → SlR → VL → Prop) (w : World) (a : Option Addr) (n : Nat) (rs : List SlR) (xss : List VL) : Prop where
  ones : Ones w a n (svs rs)
  len : xss.length = n
  row : ∀ (j : Nat) r xs, rs[j]? = some r → xss[j]? = some xs → P w r xs
section
variable {P Q : World → SlR → VL → Prop} {w w' : World} {a : Option Addr} {n : Nat} {rs : List SlR} {xss : List VL}
theorem Vs.extP (hP : ∀ {w w' r xs}, P w r xs → Ext w w' → P w' r xs) (h : Vs P w a n rs xss) (e : Ext w w') : Vs P w' a n rs xss := ⟨h.ones.ext e, h.len, fun j r xs h1 h2 => hP (h.row j r xs h1 h2) e⟩
theorem Vs.map (hP : ∀ {r xs}, P w r xs → Q w r xs) (h : Vs P w a n rs xss) : Vs Q w a n rs xss := ⟨h.ones, h.len, fun j r xs h1 h2 => hP (h.row j r xs h1 h2)⟩
theorem Vs.get (h : Vs P w a n rs xss) {j : Nat} (hj : j < n) : ∃ r, rs[j]? = some r ∧ xss[j]? = some (xss.getD j []) ∧ P w r (xss.getD j []) := by
  have h1 := h.ones.len
  rw [svs_length] at h1
  have h2 := h.len
  have e1 : rs[j]? = some (rs[j]'(by omega)) := List.getElem?_eq_getElem (by omega)
  have e2 : xss[j]? = some (xss.getD j []) := by rw [List.getD_eq_getElem?_getD, List.getElem?_eq_getElem (by omega)]; rfl
  exact ⟨_, e1, e2, h.row j _ _ e1 e2⟩
end
theorem Vs.ext {k l : Nat} {w w' : World} {a : Option Addr} {n : Nat} {rs : List SlR} {xss : List VL} (h : Vs (VC k l) w a n rs xss) (e : Ext w w') : Vs (VC k l) w' a n rs xss := Vs.extP (fun h e => h.ext e) h e
theorem Vs.extI {k l : Nat} {w w' : World} {a : Option Addr} {n : Nat} {rs : List SlR} {xss : List VL} (h : Vs (VI k l) w a n rs xss) (e : Ext w w') : Vs (VI k l) w' a n rs xss := Vs.extP (fun h e => h.ext e) h e
/-- A matrix times a vector: as the program takes the terms, one after the other. -/
def timesN (xss : List VL) (zs : VL) (i : Nat) : VL :=
  match i with
  | 0 => []
  | i + 1 => if 0 ≤ pl zs i ∧ pl zs i < (xss.length : Int) then axp (timesN xss zs i) (xl zs i) (xss.getD (pl zs i).toNat []) else timesN xss zs i
theorem timesN_cn (xss : List VL) (zs : VL) (i : Nat) : Cn (timesN xss zs i) := by
  induction i with
  | zero => exact Cn.nil
  | succ i ih =>
    simp only [timesN]
    split
    · exact nrm_cn _
    · exact ih
/-- The bound of its numbers. -/
def tK (k kc : Nat) (i : Nat) : Nat := i * (nK kc + nK k + 8)
theorem tK_mono {k kc i j : Nat} (h : i ≤ j) : tK k kc i ≤ tK k kc j := Nat.mul_le_mul_right _ h
theorem Times_ok {k l kc lc : Nat} {w : World} {a : Option Addr} {n c : Nat} {rs : List SlR} {xss : List VL} {rx : SlR} {xs : VL} (hl : Vs (VI kc lc) w a n rs xss) (hn : n ≤ 1099511627776) (hx : VI k l w rx xs) (hk : k ≤ 16777216 ∧ kc ≤ 16777216 ∧ lc ≤ 21 ∧ l * lc ≤ 65536 ∧ l ≤ 65536 ∧ tK k kc l + nK kc + nK k ≤ 68719476736) :
    CallS Try.prog 40 #[.slice a n c, rx.v] w fun v w' => Ext w w' ∧ ∃ s : SlR, v = s.v ∧ VC (tK k kc l) (l * lc) w' s (timesN xss (nrm xs) (nrm xs).length) := by
  obtain ⟨hk1, hk2, hl2, hll, hl1, hKK⟩ := hk
  have hxl := hx.len
  have hlen := hl.len
  refine enter ttOk mixed (args := [.slice a n c, rx.v]) Try.func40 rfl (by kernel_rfl) (by kernel_rfl) rfl ?_
  refine CallS.mono (normR_at hx (by omega)) ?_
  rintro _ w1 ⟨hx1, s0, rfl, h0⟩
  have hnl := h0.can.len
  have hzl := h0.len
  refine ⟨Nat × SlR, fun x => [(0, .slice a n c), (5, x.2.v), (9, s0.v), (10, .int .i64 (s0.n : Int)), (11, .int .i64 (x.1 : Int))],
    fun x w' => Ext w1 w' ∧ x.1 ≤ s0.n ∧ CanV (tK k kc x.1) H0 w' x.2 (timesN xss (nrm xs) x.1) ∧ (timesN xss (nrm xs) x.1).length ≤ x.1 * lc, fun x _ => s0.n - x.1, ⟨(0, ⟨none, 0, 0⟩), ⟨rfl, rfl, rfl, rfl, rfl, trivial⟩, Ext.rfl w1, Nat.zero_le _, CanV.nil _ _ _, Nat.zero_le _⟩, ?_⟩
  rintro ⟨i, s⟩ w2 ⟨hx2, hi, hs, hsl⟩
  dsimp only at *
  refine And.intro (fun h1 => ?_) (fun h1 => ?_)
  · have hin := ltTo h1
    have hiz : i < (nrm xs).length := by omega
    obtain ⟨⟨ts, hT, hC⟩, _⟩ := h0.can
    obtain ⟨t, ht, hat, hqc, hqf⟩ := tsCan_get hC (vget hiz)
    refine ⟨i, ⟨rfl, hin, hT.base (by omega)⟩, t.v, (hT.ext hx2).load (ty := tT) ht rfl rfl, ?_⟩
    intro b7 w3 hb7
    refine ⟨(storeTmB (w' := w3) (t := t) hb7.toBlk rfl).1, fun w4 hs4 => ?_⟩
    have h4 := (storeTmB (t := t) hb7.toBlk rfl).2 hs4
    have hx24 : Ext w2 w4 := Ext.grownB hb7.ext h4.2 (hb7.ge (Ext.rfl w2))
    have hx14 := Ext.trans' hx2 hx24
    have hB := h4.1
    have hqi : QI (nK k) w4 t.x (xl (nrm xs) i) := ((QC.mk hqc hqf).ext hx14).qi (by unfold nK; omega)
    have skip : ¬ (0 ≤ pl (nrm xs) i ∧ pl (nrm xs) i < (xss.length : Int)) → ∃ x' : Nat × SlR, (x'.1 = i + 1 ∧ x'.2 = s) ∧ Ext w1 w4 ∧ x'.1 ≤ s0.n ∧ CanV (tK k kc x'.1) H0 w4 x'.2 (timesN xss (nrm xs) x'.1) ∧ (timesN xss (nrm xs) x'.1).length ≤ x'.1 * lc := by
      intro hno
      refine ⟨(i + 1, s), ⟨rfl, rfl⟩, hx14, hin, ?_, ?_⟩
      · simp only [timesN]; rw [if_neg hno]; exact (hs.ext hx24).mono (tK_mono (Nat.le_succ i))
      · simp only [timesN]; rw [if_neg hno, Nat.add_mul]; omega
    refine ⟨_, hB.one (off := 0) rfl rfl, ?_⟩
    refine And.intro (fun h2 => ?_) (fun h2 => ?_)
    · refine ⟨_, hB.one (off := 0) rfl rfl, ?_⟩
      refine And.intro (fun h3 => ?_) (fun h3 => ?_)
      · obtain ⟨m, hm⟩ : ∃ m : Nat, t.at' = (m : Int) := ⟨t.at'.toNat, by omega⟩
        have hmn : m < n := by omega
        obtain ⟨r, hr, hxs, hri⟩ := hl.get hmn
        have hlo := (hl.ones.ext (Ext.trans' hx1 hx14)).load (T := tt) (ty := tV) (sz := 1) (svs_get hr) rfl rfl
        have hat2 : (pl (nrm xs) i) = (m : Int) := hat.symm.trans hm
        have hcond : 0 ≤ pl (nrm xs) i ∧ pl (nrm xs) i < (xss.length : Int) := by omega
        refine ⟨sq 10, by kernel_rfl, t.x.v, hB.agg (sub := rcs t.x) rfl rfl, _, hB.one (off := 0) rfl rfl, m, ⟨hm, hmn, hl.ones.base (by omega)⟩, r.v, hlo, ?_⟩
        have hK : tK k kc i + nK kc + nK k ≤ 68719476736 := by
          have := tK_mono (k := k) (kc := kc) (show i ≤ l by omega)
          omega
        have hil : i * lc ≤ 65536 := Nat.le_trans (Nat.mul_le_mul_right _ (by omega)) hll
        refine dcallR (mk := SlR.v) (Q := fun r' w' => CanV (nK kc + tK k kc i + nK k + 8) H0 w' r' (axp (timesN xss (nrm xs) i) (xl (nrm xs) i) (xss.getD m []))) SlR.inj (fun _ _ _ h e => h.ext e) (fun w' hw hF =>
          AxpyF_ok (jx := nK kc) (jy := tK k kc i) (ka := nK k) (H0.hb w') (((hs.ext hx24).ext hw).inv (by omega)) (hqi.ext hw).inq ((hri.ext (Ext.trans' hx1 hx14)).ext hw).inv (by omega) (by have := hri.len; omega) (by omega)
            (.inl ⟨by have := hri.len; omega, by omega, Nat.le_refl _⟩) (.inr ⟨(timesN_cn _ _ _).ris, Nat.le_refl _⟩)) ?_
        intro s' w5 hx5 hF5
        have e : timesN xss (nrm xs) (i + 1) = axp (timesN xss (nrm xs) i) (xl (nrm xs) i) (xss.getD m []) := by
          simp only [timesN]; rw [if_pos hcond, hat2, Int.toNat_natCast]
        refine ⟨((i + 1 : Nat) : Int), sucI i (by omega), (i + 1, s'), ⟨rfl, rfl, rfl, rfl, rfl, trivial⟩, ⟨Ext.trans' hx14 hx5, hin, ?_, ?_⟩, Nat.sub_lt_sub_left hin (Nat.lt_succ_self i)⟩
        · show CanV (tK k kc (i + 1)) H0 w5 s' (timesN xss (nrm xs) (i + 1))
          rw [e]
          refine hF5.1.mono ?_
          unfold tK; rw [Nat.add_mul]; omega
        · show (timesN xss (nrm xs) (i + 1)).length ≤ (i + 1) * lc
          rw [e, Nat.add_mul]
          have := axp_len (timesN xss (nrm xs) i) (xl (nrm xs) i) (xss.getD m [])
          have := hri.len
          omega
      · obtain ⟨⟨i', s'⟩, ⟨h5, h6⟩, h7⟩ := skip (fun h => h3 (by omega))
        dsimp only at h5 h6
        subst h5 h6
        exact ⟨((i + 1 : Nat) : Int), sucI i (by omega), (i + 1, s'), ⟨rfl, rfl, rfl, rfl, rfl, trivial⟩, h7, Nat.sub_lt_sub_left hin (Nat.lt_succ_self i)⟩
    · obtain ⟨⟨i', s'⟩, ⟨h5, h6⟩, h7⟩ := skip (fun h => h2 (by omega))
      dsimp only at h5 h6
      subst h5 h6
      exact ⟨((i + 1 : Nat) : Int), sucI i (by omega), (i + 1, s'), ⟨rfl, rfl, rfl, rfl, rfl, trivial⟩, h7, Nat.sub_lt_sub_left hin (Nat.lt_succ_self i)⟩
  · have hi' : i = s0.n := Nat.le_antisymm hi (geTo h1)
    rw [hi', hnl] at hs hsl
    refine ⟨Ext.trans' hx1 hx2, s, rfl, hs.mono (tK_mono (by omega)), timesN_cn _ _ _, Nat.le_trans hsl (Nat.mul_le_mul_right _ (by omega))⟩
end Go.Proofs.Ytpgagepleffjlaa
/-
  Contracts of the layer matrix: a vector times a matrix; the watch's terms and columns. Helpers; no statement of the program is proved here.
-/
set_option maxRecDepth 100000
set_option linter.unusedSimpArgs false
set_option linter.unusedVariables false
namespace Go.Proofs.Ytpgagepleffjlaa
open Go Go.Tw Go.RowKit
attribute [local irreducible] LoadAt StoreOk Stored rawVC

/-- A vector times a matrix, its first i columns. -/
def leftN (ys : VL) (xss : List VL) (i : Nat) : VL :=
  match i with
  | 0 => []
  | i + 1 => putL (leftN ys xss i) (i : Int) (dotL ys (xss.getD i []))
theorem putL_cn {zs : VL} {p : Int} {q : Rat} (h : Cn zs) (hl : ∀ s ∈ zs, s.1 < p) : Cn (putL zs p q) := by
  unfold putL
  split
  · exact h
  · rename_i h0; exact h.snoc hl h0
theorem putL_lt {zs : VL} {p r : Int} {q : Rat} (hl : ∀ s ∈ zs, s.1 < p) (hp : p < r) : ∀ s ∈ putL zs p q, s.1 < r := by
  intro s hs
  unfold putL at hs
  split at hs
  · have := hl s hs; omega
  · rw [List.mem_append, List.mem_singleton] at hs
    rcases hs with hs | rfl
    · have := hl s hs; omega
    · exact hp
theorem putL_len (zs : VL) (p : Int) (q : Rat) : (putL zs p q).length ≤ zs.length + 1 := by
  unfold putL
  split
  · omega
  · simp
theorem leftN_cn (ys : VL) (xss : List VL) (i : Nat) : Cn (leftN ys xss i) ∧ (∀ s ∈ leftN ys xss i, s.1 < (i : Int)) ∧ (leftN ys xss i).length ≤ i := by
  induction i with
  | zero => exact ⟨Cn.nil, fun s h => by simp [leftN] at h, Nat.le_refl _⟩
  | succ i ih =>
    refine ⟨putL_cn ih.1 ih.2.1, putL_lt ih.2.1 (by omega), ?_⟩
    have := putL_len (leftN ys xss i) (i : Int) (dotL ys (xss.getD i []))
    simp only [leftN]; omega
theorem Left_ok {k l kc lc : Nat} {w : World} {a : Option Addr} {n c : Nat} {rs : List SlR} {xss : List VL} {ry : SlR} {ys : VL} (hl : Vs (VI kc lc) w a n rs xss) (hn : n ≤ 65536) (hy : VI k l w ry ys) (K : Nat) (hk : k ≤ K ∧ kc ≤ K ∧ K ≤ 16777216 ∧ l ≤ 65536 ∧ lc ≤ 65536 ∧ dK K l ≤ 68719476736) :
    CallS Try.prog 42 #[ry.v, .slice a n c] w fun v w' => Ext w w' ∧ ∃ s : SlR, v = s.v ∧ VC (dK K l) n w' s (leftN ys xss n) := by
  obtain ⟨hk1, hk2, hK, hl1, hl2, hD⟩ := hk
  have hyl := hy.len
  have hlen := hl.len
  refine enter ttOk mixed (args := [ry.v, .slice a n c]) Try.func42 rfl (by kernel_rfl) (by kernel_rfl) rfl ?_
  refine ⟨Nat × SlR, fun x => [(0, ry.v), (5, x.2.v), (9, .slice a n c), (10, .int .i64 (n : Int)), (11, .int .i64 (x.1 : Int))],
    fun x w' => Ext w w' ∧ x.1 ≤ n ∧ Acc (dK K l) H0 w.heap.size tT w' x.2 (leftN ys xss x.1), fun x _ => n - x.1, ⟨(0, ⟨none, 0, 0⟩), ⟨rfl, rfl, rfl, rfl, rfl, trivial⟩, Ext.rfl w, Nat.zero_le _, Acc.nil _ _ _ _ _⟩, ?_⟩
  rintro ⟨i, s⟩ w2 ⟨hx2, hi, hA⟩
  dsimp only at *
  refine And.intro (fun h1 => ?_) (fun h1 => ?_)
  · have hin := ltTo h1
    obtain ⟨r, hr, hxs, hri⟩ := hl.get hin
    have hlo := (hl.ones.ext hx2).load (T := tt) (ty := tV) (sz := 1) (svs_get hr) rfl rfl
    refine ⟨i, ⟨rfl, hin, hl.ones.base (by omega)⟩, r.v, hlo, ?_⟩
    have hown : ∀ b, s.v.ownBlock = some b → w.heap.size ≤ b := fun b hb => (hA.own_lt hb).2
    have hto : ∀ b, rowH H0 s.v b → H0 b ∨ w.heap.size ≤ b := fun b hb => hb.elim (fun h => h.elim) (fun h => .inr (hown b h))
    have hHB : HB (rowH H0 s.v) w2 := fun b hb => hb.elim (fun h => h.elim) (fun h => (hA.own_lt h).1)
    have hyi : InV K (rowH H0 s.v) w2 ry ys := ((hy.inv.mono hk1).to hto).ext hx2
    have hxi : InV K (rowH H0 s.v) w2 r (xss.getD i []) := ((hri.inv.mono hk2).to hto).ext hx2
    have hxl := hri.len
    refine CallS.mono (VDot_ok hHB hyi hxi hK (by omega) (by omega) hy.ok hri.ok (Nat.le_trans (dK_mono hyl) hD)) ?_
    rintro _ w3 ⟨hx3, rr, rfl, hq, hf⟩
    have hx03 := Ext.trans' hx2 hx3
    intro b8 w4 hb8
    have hH3 := HB.ext hHB hx3
    have hqu := hq.up hb8.ext
    have st := storeQ (r := rr) hb8.toBlk (hb8.extFrom hx03) (hb8.ge hx03) rfl
    refine ⟨st.1, fun w5 hs5 => ?_⟩
    obtain ⟨hB5, hg5, hx05⟩ := st.2 w5 hs5
    have hq5 : CanQ (rowH H0 s.v) w5 rr (dotL ys (xss.getD i [])) := (hqu.far hg5 (hb8.inUp (Ext.rfl _) (Ext.rfl _))).less
    have hx35 : Ext w3 w5 := Ext.grownB hb8.ext hg5 (hb8.ge (Ext.rfl _))
    have hA5 := (hA.ext hx3).ext hx35
    refine ⟨rr.v, loadQ hB5, ?_⟩
    refine CallS.mono (RSign_ok (HB.ext hH3 hx35) (hq5.is (hf.mono (Nat.le_trans (dK_mono hyl) (by omega))))) ?_
    rintro _ w6 ⟨hx6, rfl⟩
    have hx06 := Ext.trans' hx05 hx6
    refine And.intro (fun h2 => ?_) (fun h2 => ?_)
    · have hq0 : dotL ys (xss.getD i []) ≠ 0 := fun h => h2 (sgQ_zero.2 h)
      have e : leftN ys xss (i + 1) = leftN ys xss i ++ [((i : Int), dotL ys (xss.getD i []))] := by
        simp only [leftN, putL]; rw [if_neg hq0]
      refine ⟨rr.v, loadQ (hB5.ext hx6), ?_⟩
      intro b7 w7 hb7
      have hb7 : New w6 w7 b7 tT (tcs [⟨(i : Int), rr⟩]) := hb7
      have hx57 := Ext.trans' hx6 hb7.ext
      have hA7 := hA5.ext hx57
      have hx07 := Ext.trans' hx05 hx57
      have hzl := (leftN_cn ys xss i).2.2
      refine hA7.ts.elim fun ts0 d => ?_
      refine ⟨rfl, w.heap.size, (leftN ys xss i).length, tcs ts0, tcs [⟨(i : Int), rr⟩], ⟨d.1, rfl, ?_, tcs_mem_one _, fun _ => ⟨_, rfl, rfl⟩, by omega, by show ((leftN ys xss i).length + 1) * 72 ≤ _; omega, hx07.size⟩, ?_⟩
      · intro j v hj
        exact hb7.toBlk.cell (i := 0 + j) (v := v) (by rw [Nat.zero_add]; exact hj)
      intro v' w8 ho hg hn8
      have ho : w8.ownsRow w.heap.size tT 5 v' ((leftN ys xss i).length + 1) (tcs ts0 ++ (TmR.mk (i : Int) rr).cs) := by rw [tcs_one] at ho; exact ho
      refine (Acc.push (t := ⟨(i : Int), rr⟩) (p := ((i : Int), dotL ys (xss.getD i []))) d.1 d.2 ho hg hn8 rfl (hq5.ext hx57) (hf.mono (dK_mono hyl))).elim fun s' d' => ?_
      have hx08 : Ext w w8 := Ext.grown hx07 hg (fun b hb => hown b hb)
      refine ⟨((i + 1 : Nat) : Int), sucI i (by omega), (i + 1, s'), ⟨rfl, congrArg some d'.1, rfl, rfl, rfl, trivial⟩, ⟨hx08, hin, ?_⟩, Nat.sub_lt_sub_left hin (Nat.lt_succ_self i)⟩
      show Acc (dK K l) H0 w.heap.size tT w8 s' (leftN ys xss (i + 1))
      rw [e]; exact d'.2
    · have hq0 : dotL ys (xss.getD i []) = 0 := sgQ_zero.1 (Classical.not_not.1 h2)
      have e : leftN ys xss (i + 1) = leftN ys xss i := by
        simp only [leftN, putL]; rw [if_pos hq0]
      refine ⟨((i + 1 : Nat) : Int), sucI i (by omega), (i + 1, s), ⟨rfl, rfl, rfl, rfl, rfl, trivial⟩, ⟨hx06, hin, ?_⟩, Nat.sub_lt_sub_left hin (Nat.lt_succ_self i)⟩
      show Acc (dK K l) H0 w.heap.size tT w6 s (leftN ys xss (i + 1))
      rw [e]; exact hA5.ext hx6
  · have hi' : i = n := Nat.le_antisymm hi (geTo h1)
    subst hi'
    exact ⟨hx2, s, rfl, hA.out (fun b hb => hb.elim), (leftN_cn ys xss i).1, (leftN_cn ys xss i).2.2⟩
theorem term6_at {w : World} (i n : Int) (hn : n.natAbs < 65536) (hf : FitQ 1 (Rat.divInt n 1)) :
    CallS Try.prog 38 #[.int .i64 i, .int .i64 n] w fun v w' => Ext w w' ∧ ∃ t : TmR, v = t.v ∧ TC i (Rat.divInt n 1) w' t := by
  refine enter ttOk mixed (args := [.int .i64 i, .int .i64 n]) Try.func38 rfl (by kernel_rfl) (by kernel_rfl) rfl ?_
  intro b w1 hb
  refine CallS.mono (ROf_ok ((H0.hb w).up hb.ext) (by omega) (by omega) (by omega) (by omega)) ?_
  rintro _ w2 ⟨hx2, r, rfl, hr⟩
  have hB2 := hb.toBlk.ext hx2
  refine ⟨(storeTmB (w' := w2) (t := ⟨i, r⟩) hB2 rfl).1, fun w3 hs3 => ?_⟩
  have h3 := (storeTmB (t := ⟨i, r⟩) hB2 rfl).2 hs3
  have hr3 := (hr.far h3.2 (hb.inUp (Ext.rfl w) (Ext.rfl w1))).less
  refine ⟨(TmR.mk i r).v, h3.1.agg (sub := (TmR.mk i r).cs) rfl rfl, ?_⟩
  exact ⟨Ext.grownB (Ext.trans' hb.ext hx2) h3.2 (hb.ge (Ext.rfl w)), ⟨i, r⟩, rfl, rfl, hr3, hf⟩
end Go.Proofs.Ytpgagepleffjlaa
/-
  A row of rows of terms, each of which is being built. Helpers; no statement of the program is proved here.
-/
set_option maxRecDepth 100000
set_option linter.unusedSimpArgs false
set_option linter.unusedVariables false
namespace Go.Proofs.Ytpgagepleffjlaa
open Go Go.Tw Go.RowKit
attribute [local irreducible] LoadAt StoreOk Stored rawVC

def gridH (H : Hd) (ss : List SlR) : Hd := fun c => H c ∨ ∃ s ∈ ss, s.v.ownBlock = some c
structure Grid (K : Nat) (H : Hd) (base : Nat) (w : World) (ss : List SlR) (zss : List VL) : Prop where
  len : ss.length = zss.length
  own : ∀ (i : Nat) s zs, ss[i]? = some s → zss[i]? = some zs → Acc K (gridH H ss) base tT w s zs
  apart : ∀ (i j : Nat) s t c, ss[i]? = some s → ss[j]? = some t → s.v.ownBlock = some c → t.v.ownBlock = some c → i = j
section
variable {K base : Nat} {H : Hd} {w w' : World} {ss : List SlR} {zss : List VL}
theorem Grid.ext (h : Grid K H base w ss zss) (e : Ext w w') : Grid K H base w' ss zss := ⟨h.len, fun i s zs h1 h2 => (h.own i s zs h1 h2).ext e, h.apart⟩
theorem accGrow {k base e : Nat} {H : Hd} {w w' : World} {row : Option Nat} {s : SlR} {zs : VL} (h : Acc k H base e w s zs) (hg : w.grownBy w' row) (hb : ∀ b, row = some b → H b) (hne : ∀ b, row = some b → s.v.ownBlock ≠ some b) : Acc k H base e w' s zs := by
  obtain ⟨⟨ts, h1, h2⟩, h3⟩ := h
  refine ⟨⟨ts, h1.kept hg ?_, h2.map (Nat.le_refl _) fun h => h.grow hg (fun i hi => .inl (hb i hi))⟩, h3⟩
  cases hv : s.v.ownBlock with
  | none => exact .inl rfl
  | some b => exact .inr fun e => hne b e.symm hv
theorem Grid.grow {b : Nat} (h : Grid K H base w ss zss) (hg : w.grownBy w' (some b)) (hb : H b) (hlt : b < base) : Grid K H base w' ss zss :=
  ⟨h.len, fun i s zs h1 h2 => accGrow (h.own i s zs h1 h2) hg (fun c hc => by cases hc; exact .inl hb) (fun c hc e => by
    cases hc
    have := ((h.own i s zs h1 h2).own_lt e).2
    omega), h.apart⟩
theorem Grid.nil (n : Nat) : Grid K H base w (List.replicate n ⟨none, 0, 0⟩) (List.replicate n []) := by
  refine ⟨by simp, fun i s zs h1 h2 => ?_, fun i j s t c h1 h2 h3 h4 => ?_⟩
  · rw [List.getElem?_replicate] at h1 h2
    split at h1
    · cases h1
      rw [if_pos (by assumption)] at h2
      cases h2
      exact Acc.nil _ _ _ _ _
    · cases h1
  · rw [List.getElem?_replicate] at h1
    split at h1
    · cases h1; cases h3
    · cases h1
theorem Grid.at (h : Grid K H base w ss zss) {i : Nat} (hi : i < ss.length) : ∃ s, ss[i]? = some s ∧ zss[i]? = some (zss.getD i []) ∧ Acc K (gridH H ss) base tT w s (zss.getD i []) := by
  have h1 : ss[i]? = some ss[i] := List.getElem?_eq_getElem hi
  have h2 : zss[i]? = some (zss.getD i []) := by rw [List.getD_eq_getElem?_getD, List.getElem?_eq_getElem (by rw [← h.len]; exact hi)]; rfl
  exact ⟨_, h1, h2, h.own i _ _ h1 h2⟩
/-- A row grown by a term. -/
theorem Grid.push (h : Grid K H base w ss zss) {i : Nat} {s s' : SlR} {zs : VL} {p : Int × Rat} (hi : ss[i]? = some s) (hz : zss[i]? = some zs) (hA : Acc K (gridH H ss) base tT w' s' (zs ++ [p])) (hg : w.grownBy w' s.v.ownBlock) (hn : rowNew w s.v s'.v) : Grid K H base w' (ss.set i s') (zss.set i (zs ++ [p])) := by
  have hil : i < ss.length := by
    rcases Nat.lt_or_ge i ss.length with h' | h'
    · exact h'
    · rw [List.getElem?_eq_none h'] at hi; cases hi
  have hsub : ∀ b, gridH H (ss.set i s') b → gridH H ss b ∨ s'.v.ownBlock = some b := by
    intro b hb
    rcases hb with hb | ⟨t, ht, hb⟩
    · exact .inl (.inl hb)
    · rcases List.mem_or_eq_of_mem_set ht with ht | rfl
      · exact .inl (.inr ⟨t, ht, hb⟩)
      · exact .inr hb
  refine ⟨by rw [List.length_set, List.length_set]; exact h.len, fun j t zt h1 h2 => ?_, fun j q t u c h1 h2 h3 h4 => ?_⟩
  · by_cases hji : i = j
    · subst hji
      rw [List.getElem?_set_self hil] at h1
      rw [List.getElem?_set_self (by rw [← h.len]; exact hil)] at h2
      cases h1; cases h2
      obtain ⟨⟨ts, a1, a2⟩, a3⟩ := hA
      refine ⟨⟨ts, a1, a2.map (Nat.le_refl _) fun h => h.to fun b hb => .inl ?_⟩, a3⟩
      rcases hb with hb | hb
      · exact hsub b hb
      · exact .inr hb
    · rw [List.getElem?_set_ne hji] at h1 h2
      have hA0 := h.own j t zt h1 h2
      have hA1 : Acc K (fun b => gridH H ss b ∨ s'.v.ownBlock = some b) base tT w t zt := hA0.to fun b hb => by
        rcases hb with hb | hb
        · exact .inl hb
        · rcases hn with hn | hn
          · exact .inl (.inr ⟨s, List.mem_of_getElem? hi, by rw [← hn]; exact hb⟩)
          · exact .inr (hn b hb)
      have hA2 := accGrow hA1 hg (fun b hb => .inl (.inr ⟨s, List.mem_of_getElem? hi, hb⟩)) (fun b hb e => hji (h.apart i j s t b hi h1 hb e))
      exact hA2.to fun b hb => .inl (hsub b hb)
  · have key : ∀ (j : Nat) t c, j ≠ i → ss[j]? = some t → t.v.ownBlock = some c → s'.v.ownBlock = some c → False := by
      intro j t c hj h1 h3 h4
      rcases hn with hn | hn
      · exact hj (h.apart j i t s c h1 hi h3 (by rw [← hn]; exact h4))
      · have hjl : j < ss.length := by
          rcases Nat.lt_or_ge j ss.length with h' | h'
          · exact h'
          · rw [List.getElem?_eq_none h'] at h1; cases h1
        obtain ⟨t', e1, e2, e3⟩ := h.at hjl
        rw [h1] at e1; cases e1
        have := (e3.own_lt h3).1
        have := hn c h4
        omega
    by_cases hj : i = j
    · subst hj
      rw [List.getElem?_set_self hil] at h1; cases h1
      by_cases hq : i = q
      · exact hq
      · rw [List.getElem?_set_ne hq] at h2
        exact (key q u c (fun e => hq e.symm) h2 h4 h3).elim
    · rw [List.getElem?_set_ne hj] at h1
      by_cases hq : i = q
      · subst hq
        rw [List.getElem?_set_self hil] at h2; cases h2
        exact (key j t c (fun e => hj e.symm) h1 h3 h4).elim
      · rw [List.getElem?_set_ne hq] at h2
        exact h.apart j q t u c h1 h2 h3 h4
theorem Grid.vc (h : Grid K H base w ss zss) {i : Nat} {s : SlR} {zs : VL} (hi : ss[i]? = some s) (hz : zss[i]? = some zs) : CanV K H0 w s zs :=
  ((h.own i s zs hi hz).to (H' := H0) (fun b hb => hb.elim)).out (fun b hb => hb.elim)
end
/-- A row of the matrix turned: of the first k columns. -/
def turnN (xss : List VL) (i : Nat) (k : Nat) : VL :=
  match k with
  | 0 => []
  | k + 1 => putL (turnN xss i k) (k : Int) (getL (xss.getD k []) (i : Int))
theorem turnN_cn (xss : List VL) (i : Nat) (k : Nat) : Cn (turnN xss i k) ∧ (∀ s ∈ turnN xss i k, s.1 < (k : Int)) ∧ (turnN xss i k).length ≤ k := by
  induction k with
  | zero => exact ⟨Cn.nil, fun s h => by simp [turnN] at h, Nat.le_refl _⟩
  | succ k ih =>
    refine ⟨putL_cn ih.1 ih.2.1, putL_lt ih.2.1 (by omega), ?_⟩
    have := putL_len (turnN xss i k) (k : Int) (getL (xss.getD k []) (i : Int))
    simp only [turnN]; omega
def turnL (xss : List VL) (n k : Nat) : List VL := (List.range n).map fun i => turnN xss i k
/-- .. and of the first j terms of the next one. -/
def turnJ (xss : List VL) (zs : VL) (n k j : Nat) : List VL := (List.range n).map fun (i : Nat) => putL (turnN xss i k) (k : Int) (getL (zs.take j) (i : Int))
theorem turnJ_get {xss : List VL} {zs : VL} {n k j i : Nat} (h : i < n) : (turnJ xss zs n k j)[i]? = some (putL (turnN xss i k) (k : Int) (getL (zs.take j) (i : Int))) := by
  simp [turnJ, h]
theorem turnJ_zero (xss : List VL) (zs : VL) (n k : Nat) : turnJ xss zs n k 0 = turnL xss n k := by
  unfold turnJ turnL
  apply List.map_congr_left
  intro i _
  simp [putL, getL]
theorem turnJ_all {xss : List VL} {zs : VL} {n k : Nat} (h : ∀ p, getL zs p = getL (xss.getD k []) p) : turnJ xss zs n k zs.length = turnL xss n (k + 1) := by
  unfold turnJ turnL
  apply List.map_congr_left
  intro i _
  rw [List.take_length, h]; rfl
theorem turnJ_skip {xss : List VL} {zs : VL} {n k j : Nat} (hj : j < zs.length) (h : ∀ i : Nat, i < n → pl zs j ≠ (i : Int)) : turnJ xss zs n k (j + 1) = turnJ xss zs n k j := by
  unfold turnJ
  apply List.map_congr_left
  intro i hi
  rw [List.mem_range] at hi
  rw [getL_take_succ hj, if_neg (h i hi), Rat.add_zero]
theorem turnJ_push {xss : List VL} {zs : VL} {n k j p : Nat} (hc : Cn zs) (hj : j < zs.length) (hp : p < n) (h : pl zs j = (p : Int)) : (turnJ xss zs n k j)[p]? = some (turnN xss p k) ∧ turnJ xss zs n k (j + 1) = (turnJ xss zs n k j).set p (turnN xss p k ++ [((k : Int), xl zs j)]) := by
  have h0 : getL (zs.take j) (p : Int) = 0 := by rw [← h]; exact getL_take_self hc.ris hj
  have hne : xl zs j ≠ 0 := hc.2 _ (List.mem_of_getElem? (vget hj))
  refine ⟨by rw [turnJ_get hp, h0]; simp [putL], ?_⟩
  apply List.ext_getElem?
  intro i
  by_cases hi : i < n
  · rw [turnJ_get hi]
    by_cases hip : p = i
    · subst hip
      rw [List.getElem?_set_self (by simp [turnJ]; exact hi), getL_take_succ hj, if_pos h, h0, Rat.zero_add]
      simp [putL, hne]
    · rw [List.getElem?_set_ne hip, turnJ_get hi, getL_take_succ hj, if_neg (by rw [h]; omega), Rat.add_zero]
  · rw [List.getElem?_eq_none (by simp [turnJ]; omega), List.getElem?_eq_none (by simp [turnJ]; omega)]
end Go.Proofs.Ytpgagepleffjlaa
/-
  Rows of structs, of whatever shape; rows that are being built side by side. Helpers; no statement of the program is proved here.
-/
set_option maxRecDepth 100000
set_option linter.unusedSimpArgs false
set_option linter.unusedVariables false
namespace Go.Tw
open Go Go.RowKit

/-- How an element lies in cells. -/
class Enc (α : Type) where
  cs : α → List Value
  k : Nat
  len : ∀ x, (cs x).length = k
  pos : 0 < k
  one : ∀ x, ∀ v ∈ cs x, v.oneCell' = true
section
variable {α : Type} [Enc α]
def gcs (xs : List α) : List Value :=
  match xs with
  | [] => []
  | x :: xs => Enc.cs x ++ gcs xs
theorem gcs_append (a b : List α) : gcs (a ++ b) = gcs a ++ gcs b := by
  induction a with
  | nil => rfl
  | cons t a ih => simp only [List.cons_append, gcs, ih, List.append_assoc]
theorem gcs_one (t : α) : gcs [t] = Enc.cs t := by simp [gcs]
theorem gcs_length (xs : List α) : (gcs xs).length = xs.length * Enc.k α := by
  induction xs with
  | nil => simp [gcs]
  | cons t xs ih => simp only [gcs, List.length_append, ih, List.length_cons, Enc.len]; rw [Nat.add_mul]; omega
theorem enc_lt {t : α} {k : Nat} {v : Value} (hk : (Enc.cs t)[k]? = some v) : k < Enc.k α := by
  rcases Nat.lt_or_ge k (Enc.k α) with h | h
  · exact h
  · rw [List.getElem?_eq_none (by rw [Enc.len]; exact h)] at hk; cases hk
theorem gcs_get {xs : List α} {j k : Nat} {t : α} {v : Value} (hj : xs[j]? = some t) (hk : (Enc.cs t)[k]? = some v) : (gcs xs)[j * Enc.k α + k]? = some v := by
  have hlt := enc_lt hk
  induction xs generalizing j with
  | nil => simp at hj
  | cons s xs ih =>
    cases j with
    | zero =>
      simp at hj; subst hj
      simp only [gcs]
      rw [Nat.zero_mul, Nat.zero_add, List.getElem?_append_left (by rw [Enc.len]; exact hlt)]
      exact hk
    | succ j =>
      simp only [gcs]
      rw [Nat.succ_mul, List.getElem?_append_right (by rw [Enc.len]; omega), Enc.len]
      have e : j * Enc.k α + Enc.k α + k - Enc.k α = j * Enc.k α + k := by omega
      rw [e]
      exact ih (by simpa using hj)
theorem gcs_mem_one (xs : List α) : ∀ v ∈ gcs xs, v.oneCell' = true := by
  induction xs with
  | nil => intro v hv; simp [gcs] at hv
  | cons t xs ih =>
    intro v hv
    simp only [gcs, List.mem_append] at hv
    rcases hv with hv | hv
    · exact Enc.one t v hv
    · exact ih v hv
theorem gcs_at {xs : List α} {i : Nat} {v : Value} (h : (gcs xs)[i]? = some v) : ∃ t, xs[i / Enc.k α]? = some t ∧ (Enc.cs t)[i % Enc.k α]? = some v := by
  have hp := Enc.pos (α := α)
  induction xs generalizing i with
  | nil => simp [gcs] at h
  | cons s xs ih =>
    simp only [gcs] at h
    by_cases hi : i < Enc.k α
    · rw [List.getElem?_append_left (by rw [Enc.len]; exact hi)] at h
      exact ⟨s, by rw [Nat.div_eq_of_lt hi]; rfl, by rw [Nat.mod_eq_of_lt hi]; exact h⟩
    · rw [List.getElem?_append_right (by rw [Enc.len]; omega), Enc.len] at h
      obtain ⟨t, h1, h2⟩ := ih h
      refine ⟨t, ?_, ?_⟩
      · rw [Nat.div_eq_sub_div hp (by omega)]; exact h1
      · rw [Nat.mod_eq_sub_mod (by omega)]; exact h2
/-- Elements lie in a row. -/
structure Gr (w : World) (a : Option Addr) (n : Nat) (xs : List α) : Prop where
  len : xs.length = n
  base : 0 < n → okB a
  get : ∀ (i : Nat) (v : Value), (gcs xs)[i]? = some v → w.cell? (addrAt a i) = some v
variable {T : TT} {w w' : World} {a : Option Addr} {n : Nat} {xs : List α}
theorem Gr.ext (h : Gr w a n xs) (k : Ext w w') : Gr w' a n xs := ⟨h.len, h.base, fun i v hv => k.cellEq (h.get i v hv)⟩
theorem Gr.nil (w : World) (a : Option Addr) : Gr w a 0 ([] : List α) := ⟨rfl, fun h => by omega, fun i v h => by simp [gcs] at h⟩
theorem Gr.lt_size (h : Gr w a n xs) (hn : 0 < n) : Tw.blk a < w.heap.size := by
  have hl := h.len
  have hl2 := gcs_length xs
  have hp := Enc.pos (α := α)
  have hlt : 0 < (gcs xs).length := by rw [hl2, hl]; exact Nat.mul_pos hn hp
  have h0 : (gcs xs)[0]? = some ((gcs xs)[0]'hlt) := List.getElem?_eq_getElem hlt
  exact World.block_lt_of_cell? w _ (h.get 0 _ h0)
theorem Gr.blk {g e : Nat} {R : List Value} (h : Blk w g e (gcs xs ++ R)) : Gr w (some ⟨g, 0, none⟩) xs.length xs := by
  refine ⟨rfl, fun _ => ⟨_, rfl, rfl⟩, fun i v hi => ?_⟩
  have hlt : i < (gcs xs).length := by
    rcases Nat.lt_or_ge i (gcs xs).length with h' | h'
    · exact h'
    · rw [List.getElem?_eq_none h'] at hi; cases hi
  refine h.cell (i := 0 + i) ?_
  rw [Nat.zero_add, List.getElem?_append_left hlt]; exact hi
theorem Gr.load {j sz ty : Nat} {t : α} (h : Gr w a n xs) (hj : xs[j]? = some t) (hk : (known (tyAt T ty) && (tyAt T ty).agg && Nat.beq (Enc.k α) (tyAt T ty).size) = true) (hs : sz = Enc.k α) : LoadAt T w ty (addrAt a (j * sz)) (.agg (Enc.cs t).toArray) := by
  subst hs
  refine loadAgg (cs := Enc.cs t) (by rw [Enc.len]; exact hk) fun k u hu => ?_
  show w.cell? ((⟨Tw.blk a, ofs a + j * Enc.k α, none⟩ : Addr).add k) = _
  rw [Addr.add_lit]
  have := h.get (j * Enc.k α + k) u (gcs_get hj hu)
  rw [← this]
  show _ = w.cell? ⟨Tw.blk a, ofs a + (j * Enc.k α + k), none⟩
  rw [Nat.add_assoc]
theorem Gr.grow {row : Option Nat} {H : Hd} (h : Gr w a n xs) (k : w.grownBy w' row) (hr : ∀ b, row = some b → H b) (hv : Av H a n) : Gr w' a n xs := by
  refine ⟨h.len, h.base, fun i v hi => ?_⟩
  have hc := h.get i v hi
  have hlt := World.block_lt_of_cell? w _ hc
  have hn : 0 < n := by
    have := h.len
    rcases Nat.eq_zero_or_pos n with h0 | h0
    · rw [h0] at this; rw [List.eq_nil_of_length_eq_zero this] at hi; simp [gcs] at hi
    · exact h0
  rw [World.cell?_of_block (k.block _ hlt (fun e => hv hn (hr _ e.symm)))]
  exact hc
theorem owns_gr {base e : Nat} {s : SlR} (h : w.ownsRow base e (Enc.k α) s.v n (gcs xs)) : s.n = n ∧ Gr w s.a s.n xs ∧ s.n ≤ s.c ∧ s.c ≤ 9223372036854775807 := by
  obtain ⟨hl, h⟩ := h
  rw [gcs_length] at hl
  have hp := Enc.pos (α := α)
  have hln : xs.length = n := Nat.eq_of_mul_eq_mul_right hp hl
  rcases h with ⟨he, hn⟩ | ⟨g, cap, cur, he, hg, hb, hnc, hcm, hcs, htk⟩
  · have : s = ⟨none, 0, 0⟩ := SlR.inj he
    subst this
    rw [hn] at hln
    have : xs = [] := List.eq_nil_of_length_eq_zero hln
    subst this
    exact ⟨hn.symm, Gr.nil _ _, Nat.le_refl _, by show 0 ≤ _; omega⟩
  · have : s = ⟨some ⟨g, 0, none⟩, n, cap⟩ := SlR.inj he
    subst this
    refine ⟨rfl, ?_, hnc, by unfold maxLen at hcm; exact hcm⟩
    have hB : Blk w g e (gcs xs ++ cur.toList.drop (n * Enc.k α)) := by
      unfold Blk
      rw [← htk, List.take_append_drop]
      simpa using hb
    have := Gr.blk hB
    rw [hln] at this
    exact this
end
/-! ### rows that are being built, side by side -/
/-- What a row holds: its elements' type, their size, how many, the cells. -/
structure Ro where
  e : Nat
  sz : Nat
  n : Nat
  cs : List Value
def gH (H : Hd) (ss : List SlR) : Hd := fun c => H c ∨ ∃ s ∈ ss, s.v.ownBlock = some c
structure Gd (H : Hd) (base : Nat) (w : World) (ss : List SlR) (rs : List Ro) : Prop where
  len : ss.length = rs.length
  own : ∀ (i : Nat) s r, ss[i]? = some s → rs[i]? = some r → w.ownsRow base r.e r.sz s.v r.n r.cs
  apart : ∀ (i j : Nat) s t c, ss[i]? = some s → ss[j]? = some t → s.v.ownBlock = some c → t.v.ownBlock = some c → i = j
section
variable {H : Hd} {base : Nat} {w w' : World} {ss : List SlR} {rs : List Ro}
theorem owns_ext' {e sz n : Nat} {v : Value} {xs : List Value} (h1 : w.ownsRow base e sz v n xs) (x : Ext w w') : w'.ownsRow base e sz v n xs := by
  refine ⟨h1.1, ?_⟩
  rcases h1.2 with h | ⟨g, cap, cur, he, hg, hb, h⟩
  · exact .inl h
  · refine .inr ⟨g, cap, cur, he, hg, ?_, h⟩
    have hlt : g < w.heap.size := by
      rcases Nat.lt_or_ge g w.heap.size with h' | h'
      · exact h'
      · rw [Array.getElem?_eq_none h'] at hb; cases hb
    rw [x.block g hlt]; exact hb
theorem Gd.ext (h : Gd H base w ss rs) (x : Ext w w') : Gd H base w' ss rs := ⟨h.len, fun i s r h1 h2 => owns_ext' (h.own i s r h1 h2) x, h.apart⟩
theorem Gd.lt (h : Gd H base w ss rs) {i : Nat} {s : SlR} {c : Nat} (hi : ss[i]? = some s) (hc : s.v.ownBlock = some c) : base ≤ c ∧ c < w.heap.size := by
  have hil : i < ss.length := by
    rcases Nat.lt_or_ge i ss.length with h' | h'
    · exact h'
    · rw [List.getElem?_eq_none h'] at hi; cases hi
  have hr : rs[i]? = some (rs[i]'(by rw [← h.len]; exact hil)) := List.getElem?_eq_getElem _
  exact (h.own i s _ hi hr).lt c hc
theorem Gd.hb (h : Gd H base w ss rs) (hH : HB H w) : HB (gH H ss) w := by
  intro b hb
  rcases hb with hb | ⟨s, hs, hb⟩
  · exact hH b hb
  · obtain ⟨i, hi, rfl⟩ := List.getElem_of_mem hs
    exact (h.lt (List.getElem?_eq_getElem hi) hb).2
theorem Gd.keep {row : Option Nat} (h : Gd H base w ss rs) (hg : w.grownBy w' row) (hr : ∀ b, row = some b → b < base) : Gd H base w' ss rs :=
  ⟨h.len, fun i s r h1 h2 => (h.own i s r h1 h2).kept hg (by
    cases hv : s.v.ownBlock with
    | none => exact .inl rfl
    | some b => exact .inr fun e => by have := hr b e.symm; have := (h.lt h1 hv).1; omega), h.apart⟩
/-- A row exchanged for what it has become. -/
theorem Gd.set (h : Gd H base w ss rs) {i : Nat} {s s' : SlR} {r' : Ro} (hi : ss[i]? = some s) (ho : w'.ownsRow base r'.e r'.sz s'.v r'.n r'.cs) (hg : w.grownBy w' s.v.ownBlock) (hn : rowNew w s.v s'.v) : Gd H base w' (ss.set i s') (rs.set i r') := by
  have hil : i < ss.length := by
    rcases Nat.lt_or_ge i ss.length with h' | h'
    · exact h'
    · rw [List.getElem?_eq_none h'] at hi; cases hi
  refine ⟨by rw [List.length_set, List.length_set]; exact h.len, fun j t r h1 h2 => ?_, fun j q t u c h1 h2 h3 h4 => ?_⟩
  · by_cases hji : i = j
    · subst hji
      rw [List.getElem?_set_self hil] at h1
      rw [List.getElem?_set_self (by rw [← h.len]; exact hil)] at h2
      cases h1; cases h2
      exact ho
    · rw [List.getElem?_set_ne hji] at h1 h2
      refine (h.own j t r h1 h2).kept hg ?_
      cases hv : t.v.ownBlock with
      | none => exact .inl rfl
      | some b => exact .inr fun e => hji (h.apart i j s t b hi h1 e.symm hv)
  · have key : ∀ (j : Nat) t c, j ≠ i → ss[j]? = some t → t.v.ownBlock = some c → s'.v.ownBlock = some c → False := by
      intro j t c hj h1 h3 h4
      rcases hn with hn | hn
      · exact hj (h.apart j i t s c h1 hi h3 (by rw [← hn]; exact h4))
      · have := (h.lt h1 h3).2
        have := hn c h4
        omega
    by_cases hj : i = j
    · subst hj
      rw [List.getElem?_set_self hil] at h1; cases h1
      by_cases hq : i = q
      · exact hq
      · rw [List.getElem?_set_ne hq] at h2
        exact (key q u c (fun e => hq e.symm) h2 h4 h3).elim
    · rw [List.getElem?_set_ne hj] at h1
      by_cases hq : i = q
      · subst hq
        rw [List.getElem?_set_self hil] at h2; cases h2
        exact (key j t c (fun e => hj e.symm) h1 h3 h4).elim
      · rw [List.getElem?_set_ne hq] at h2
        exact h.apart j q t u c h1 h2 h3 h4
/-- A new row beside the others. -/
theorem Gd.push (h : Gd H base w ss rs) {s : SlR} {r : Ro} (ho : w'.ownsRow base r.e r.sz s.v r.n r.cs) (hx : Ext w w') (hn : ∀ c, s.v.ownBlock = some c → w.heap.size ≤ c) : Gd H base w' (ss ++ [s]) (rs ++ [r]) := by
  refine ⟨by simp [h.len], fun i t u h1 h2 => ?_, fun i j t u c h1 h2 h3 h4 => ?_⟩
  · rcases Nat.lt_or_ge i ss.length with hi | hi
    · rw [List.getElem?_append_left hi] at h1
      rw [List.getElem?_append_left (by rw [← h.len]; exact hi)] at h2
      exact owns_ext' (h.own i t u h1 h2) hx
    · rw [List.getElem?_append_right hi] at h1
      rw [List.getElem?_append_right (by rw [← h.len]; exact hi), ← h.len] at h2
      have h0 : i - ss.length = 0 := by
        rcases Nat.eq_zero_or_pos (i - ss.length) with h' | h'
        · exact h'
        · rw [List.getElem?_eq_none (by simp; omega)] at h1; cases h1
      rw [h0] at h1 h2
      cases h1; cases h2
      exact ho
  · have key : ∀ (i : Nat) t c, (ss ++ [s])[i]? = some t → t.v.ownBlock = some c → (i < ss.length ∧ ss[i]? = some t ∧ c < w.heap.size) ∨ (i = ss.length ∧ t = s ∧ w.heap.size ≤ c) := by
      intro i t c h1 h3
      rcases Nat.lt_or_ge i ss.length with hi | hi
      · rw [List.getElem?_append_left hi] at h1
        exact .inl ⟨hi, h1, (h.lt h1 h3).2⟩
      · rw [List.getElem?_append_right hi] at h1
        have h0 : i - ss.length = 0 := by
          rcases Nat.eq_zero_or_pos (i - ss.length) with h' | h'
          · exact h'
          · rw [List.getElem?_eq_none (by simp; omega)] at h1; cases h1
        rw [h0] at h1
        cases h1
        exact .inr ⟨by omega, rfl, hn c h3⟩
    rcases key i t c h1 h3 with ⟨a1, a2, a3⟩ | ⟨a1, a2, a3⟩
    · rcases key j u c h2 h4 with ⟨b1, b2, b3⟩ | ⟨b1, b2, b3⟩
      · exact h.apart i j t u c a2 b2 h3 h4
      · omega
    · rcases key j u c h2 h4 with ⟨b1, b2, b3⟩ | ⟨b1, b2, b3⟩
      · omega
      · omega
theorem gH_set {i : Nat} {s s' : SlR} (hi : ss[i]? = some s) (hn : rowNew w s.v s'.v) : ∀ b, gH H (ss.set i s') b → gH H ss b ∨ w.heap.size ≤ b := by
  intro b hb
  rcases hb with hb | ⟨t, ht, hb⟩
  · exact .inl (.inl hb)
  · rcases List.mem_or_eq_of_mem_set ht with ht | rfl
    · exact .inl (.inr ⟨t, ht, hb⟩)
    · rcases hn with hn | hn
      · exact .inl (.inr ⟨s, List.mem_of_getElem? hi, by rw [← hn]; exact hb⟩)
      · exact .inr (hn b hb)
/-- A fraction that stays out of all rows stays so when one of them grows. -/
theorem canQ_set {i : Nat} {s s' : SlR} (hi : ss[i]? = some s) (hg : w.grownBy w' s.v.ownBlock) (hn : rowNew w s.v s'.v) {r : RatR} {q : Rat} (h : CanQ (gH H ss) w r q) : CanQ (gH H (ss.set i s')) w' r q := by
  have h1 : CanQ (fun b => gH H ss b ∨ gH H (ss.set i s') b) w r q := h.to fun b hb => hb.elim .inl (gH_set hi hn b)
  exact (h1.grow hg (fun b hb => .inl (.inr ⟨s, List.mem_of_getElem? hi, hb⟩))).to fun b hb => .inl (.inr hb)
theorem inQ_set {k i : Nat} {s s' : SlR} (hi : ss[i]? = some s) (hg : w.grownBy w' s.v.ownBlock) (hn : rowNew w s.v s'.v) {r : RatR} {q : Rat} (h : InQ k (gH H ss) w r q) : InQ k (gH H (ss.set i s')) w' r q := by
  have h1 : InQ k (fun b => gH H ss b ∨ gH H (ss.set i s') b) w r q := h.to fun b hb => hb.elim .inl (gH_set hi hn b)
  exact (h1.grow hg (fun b hb => .inl (.inr ⟨s, List.mem_of_getElem? hi, hb⟩))).to fun b hb => .inl (.inr hb)
theorem gH_push {s : SlR} (hn : ∀ c, s.v.ownBlock = some c → w.heap.size ≤ c) : ∀ b, gH H (ss ++ [s]) b → gH H ss b ∨ w.heap.size ≤ b := by
  intro b hb
  rcases hb with hb | ⟨t, ht, hb⟩
  · exact .inl (.inl hb)
  · rw [List.mem_append, List.mem_singleton] at ht
    rcases ht with ht | rfl
    · exact .inl (.inr ⟨t, ht, hb⟩)
    · exact .inr (hn b hb)
end
end Go.Tw
/-
  Programs as the model's values have them. Contracts of the layer program: a vector times a point. Helpers; no statement of the program is proved here.
-/
set_option maxRecDepth 100000
set_option linter.unusedSimpArgs false
set_option linter.unusedVariables false
namespace Go.Tw
open Go Go.RowKit
instance : Enc RatR where
  cs := RatR.cs
  k := 4
  len := fun _ => rfl
  pos := by decide
  one := fun x v hv => by
    simp only [RatR.cs, List.mem_cons, List.not_mem_nil, or_false] at hv
    rcases hv with rfl | rfl | rfl | rfl <;> rfl
structure VarR where
  lo : RatR
  hi : RatR
  int : Bool
def VarR.cs (v : VarR) : List Value := [.bool v.lo.num.neg, .slice v.lo.num.a v.lo.num.n v.lo.num.c, .bool v.lo.den.neg, .slice v.lo.den.a v.lo.den.n v.lo.den.c, .bool v.hi.num.neg, .slice v.hi.num.a v.hi.num.n v.hi.num.c, .bool v.hi.den.neg, .slice v.hi.den.a v.hi.den.n v.hi.den.c, .bool v.int]
def VarR.v (v : VarR) : Value := .agg v.cs.toArray
instance : Enc VarR where
  cs := VarR.cs
  k := 9
  len := fun _ => rfl
  pos := by decide
  one := fun x v hv => by
    simp only [VarR.cs, List.mem_cons, List.not_mem_nil, or_false] at hv
    rcases hv with rfl | rfl | rfl | rfl | rfl | rfl | rfl | rfl | rfl <;> rfl
instance : Inhabited VarR := ⟨⟨RatR.zero, RatR.zero, false⟩⟩
structure RowR where
  a : SlR
  kind : Int
  b : RatR
def RowR.cs (r : RowR) : List Value := [r.a.v, .int .u8 r.kind, .bool r.b.num.neg, .slice r.b.num.a r.b.num.n r.b.num.c, .bool r.b.den.neg, .slice r.b.den.a r.b.den.n r.b.den.c]
def RowR.v (r : RowR) : Value := .agg r.cs.toArray
instance : Enc RowR where
  cs := RowR.cs
  k := 6
  len := fun _ => rfl
  pos := by decide
  one := fun x v hv => by
    simp only [RowR.cs, List.mem_cons, List.not_mem_nil, or_false] at hv
    rcases hv with rfl | rfl | rfl | rfl | rfl | rfl <;> rfl
instance : Inhabited RowR := ⟨⟨⟨none, 0, 0⟩, 0, RatR.zero⟩⟩
structure PrgR where
  vars : SlR
  rows : SlR
  cost : SlR
def PrgR.cs (p : PrgR) : List Value := [p.vars.v, p.rows.v, p.cost.v]
def PrgR.v (p : PrgR) : Value := .agg p.cs.toArray
structure FormR where
  m : Int
  cols : SlR
  lo : SlR
  hi : SlR
  cost : SlR
  b : SlR
def FormR.cs (f : FormR) : List Value := [.int .i64 f.m, f.cols.v, f.lo.v, f.hi.v, f.cost.v, f.b.v]
def FormR.v (f : FormR) : Value := .agg f.cs.toArray
theorem gr_getD {α : Type} [Enc α] [Inhabited α] {w : World} {a : Option Addr} {n : Nat} {xs : List α} (h : Gr w a n xs) {j : Nat} (hj : j < n) : xs[j]? = some (xs.getD j default) := by
  rw [List.getD_eq_getElem?_getD, List.getElem?_eq_getElem (by rw [h.len]; exact hj)]; rfl
end Go.Tw
namespace Go.Proofs.Ytpgagepleffjlaa
open Go Go.Tw Go.RowKit
attribute [local irreducible] LoadAt StoreOk Stored rawVC

abbrev VS := List (Rat × Rat × Bool)
abbrev RWS := List (VL × Int × Rat)
/-- A program that comes in: its numbers by parts of at most k digits, its vectors of at most l terms. -/
structure PrgI (k l : Nat) (w : World) (p : PrgR) (vr : List VarR) (rr : List RowR) (vs : VS) (rws : RWS) (cost : VL) : Prop where
  vars : Gr w p.vars.a p.vars.n vr
  vlen : vr.length = vs.length
  var : ∀ (j : Nat) v x, vr[j]? = some v → vs[j]? = some x → InQ k H0 w v.lo x.1 ∧ InQ k H0 w v.hi x.2.1 ∧ v.int = x.2.2
  rows : Gr w p.rows.a p.rows.n rr
  rlen : rr.length = rws.length
  row : ∀ (j : Nat) r x, rr[j]? = some r → rws[j]? = some x → VI k l w r.a x.1 ∧ r.kind = x.2.1 ∧ InQ k H0 w r.b x.2.2
  cost : VI k l w p.cost cost
theorem PrgI.ext {k l : Nat} {w w' : World} {p : PrgR} {vr : List VarR} {rr : List RowR} {vs : VS} {rws : RWS} {cost : VL} (h : PrgI k l w p vr rr vs rws cost) (e : Ext w w') : PrgI k l w' p vr rr vs rws cost :=
  ⟨h.vars.ext e, h.vlen, fun j v x h1 h2 => ⟨(h.var j v x h1 h2).1.ext e, (h.var j v x h1 h2).2.1.ext e, (h.var j v x h1 h2).2.2⟩, h.rows.ext e, h.rlen, fun j r x h1 h2 => ⟨(h.row j r x h1 h2).1.ext e, (h.row j r x h1 h2).2.1, (h.row j r x h1 h2).2.2.ext e⟩, h.cost.ext e⟩
/-- A point: a row of fractions. -/
structure PtI (k : Nat) (H : Hd) (w : World) (r : SlR) (rs : List RatR) (qs : List Rat) : Prop where
  row : Gr w r.a r.n rs
  len : rs.length = qs.length
  at' : ∀ (j : Nat) x q, rs[j]? = some x → qs[j]? = some q → InQ k H w x q
theorem PtI.to {k : Nat} {H H' : Hd} {w : World} {r : SlR} {rs : List RatR} {qs : List Rat} (h : PtI k H w r rs qs) (hH : ∀ b, H' b → H b ∨ w.heap.size ≤ b) : PtI k H' w r rs qs := ⟨h.row, h.len, fun j x q h1 h2 => (h.at' j x q h1 h2).to hH⟩
theorem PtI.ext {k : Nat} {H : Hd} {w w' : World} {r : SlR} {rs : List RatR} {qs : List Rat} (h : PtI k H w r rs qs) (e : Ext w w') : PtI k H w' r rs qs := ⟨h.row.ext e, h.len, fun j x q h1 h2 => (h.at' j x q h1 h2).ext e⟩
theorem num_at {w : World} (n : Int) (hn : n.natAbs < 65536) (hf : FitQ 1 (Rat.divInt n 1)) :
    CallS Try.prog 61 #[.int .i64 n] w fun v w' => Ext w w' ∧ ∃ s : RatR, v = s.v ∧ QC 1 w' s (Rat.divInt n 1) := by
  refine enter ttOk mixed (args := [.int .i64 n]) Try.func61 rfl (by kernel_rfl) (by kernel_rfl) rfl ?_
  intro b w1 hb
  refine CallS.mono (ROf_ok ((H0.hb w).up hb.ext) (by omega) (by omega) (by omega) (by omega)) ?_
  rintro _ w2 ⟨hx2, r, rfl, hr⟩
  have st := storeQ (r := r) (hb.toBlk.ext hx2) (hb.extFrom (Ext.rfl w) |>.trans' hx2) (hb.ge (Ext.rfl w)) rfl
  refine ⟨st.1, fun w3 hs3 => ?_⟩
  obtain ⟨hB3, hg3, hx3⟩ := st.2 w3 hs3
  refine ⟨r.v, loadQ hB3, ?_⟩
  exact ⟨hx3, r, rfl, (hr.far hg3 (hb.inUp (Ext.rfl w) (Ext.rfl w1))).less, hf⟩
/-- A vector times a point: the first i terms. -/
def timesQ (xs : VL) (qs : List Rat) (i : Nat) : Rat :=
  match i with
  | 0 => 0
  | i + 1 => if 0 ≤ pl xs i ∧ pl xs i < (qs.length : Int) then timesQ xs qs i + xl xs i * qs.getD (pl xs i).toNat 0 else timesQ xs qs i
def pK (k : Nat) (i : Nat) : Nat := 1 + i * (2 * k + 5)
theorem pK_mono {k i j : Nat} (h : i ≤ j) : pK k i ≤ pK k j := Nat.add_le_add_left (Nat.mul_le_mul_right _ h) _
theorem ptimes_ok {k l : Nat} {H : Hd} {w : World} {rx rp : SlR} {xs : VL} {rs : List RatR} {qs : List Rat} (hH : HB H w) (hx : InV k H w rx xs) (hp : PtI k H w rp rs qs) (hl : xs.length ≤ l) (hk : k ≤ 16777216 ∧ l ≤ 65536 ∧ pK k l ≤ 34359738368 ∧ rp.n ≤ 1099511627776) :
    CallS Try.prog 58 #[rx.v, rp.v] w fun v w' => Ext w w' ∧ ∃ s : RatR, v = s.v ∧ CanQ H w' s (timesQ xs qs xs.length) ∧ FitQ (pK k l) (timesQ xs qs xs.length) := by
  obtain ⟨hk1, hl1, hK, hn40⟩ := hk
  have hlen := hx.len
  have hpl := hp.row.len
  have hql := hp.len
  obtain ⟨⟨ts, hT, hI⟩, _, _, _⟩ := hx
  refine enter ttOk mixed (args := [rx.v, rp.v]) Try.func58 rfl (by kernel_rfl) (by kernel_rfl) rfl ?_
  intro b4 w1 hb4 b5 w2 hb5
  have hx2 := hb5.extFrom hb4.ext
  have hne : b4 ≠ b5 := by have := hb4.lt; have := hb5.isNew; omega
  have hB5 : Blk w2 b5 33 (rcs RatR.zero) := hb5.toBlk
  have hB4 : Blk w2 b4 33 (rcs RatR.zero) := hb4.toBlk.ext hb5.ext
  have hup4 : upH H w w2 b4 := hb4.inUp (Ext.rfl w) hb5.ext
  have hup5 : upH H w w2 b5 := hb5.inUp hb4.ext (Ext.rfl w2)
  have hge4 := hb4.ge (Ext.rfl w)
  have hge5 := hb5.ge hb4.ext
  refine ⟨Nat × RatR, fun x => [(1, rp.v), (4, .pointer (some ⟨b4, 0, none⟩)), (5, .pointer (some ⟨b5, 0, none⟩)), (8, rx.v), (9, .int .i64 (rx.n : Int)), (10, .int .i64 (x.1 : Int))],
    fun x w' => Ext w w' ∧ x.1 ≤ rx.n ∧ Blk w' b4 33 (rcs RatR.zero) ∧ Blk w' b5 33 (rcs x.2) ∧ w2.heap.size ≤ w'.heap.size ∧ CanQ (upH H w w2) w' x.2 (timesQ xs qs x.1) ∧ FitQ (pK k x.1) (timesQ xs qs x.1), fun x _ => rx.n - x.1,
    ⟨(0, RatR.zero), ⟨rfl, rfl, rfl, rfl, rfl, rfl, trivial⟩, hx2, Nat.zero_le _, hB4, hB5, Nat.le_refl _, CanQ.zero _ _, FitQ.zero (Nat.le_add_right _ _)⟩, ?_⟩
  rintro ⟨i, r⟩ w3 ⟨hx3, hi, hB43, hB53, hsz, hc, hf⟩
  dsimp only at *
  have hHB : HB (upH H w w2) w3 := fun b hb => hb.elim (fun h => Nat.lt_of_lt_of_le (hH b h) hx3.size) (fun h => Nat.lt_of_lt_of_le h.2 hsz)
  refine And.intro (fun h1 => ?_) (fun h1 => ?_)
  · have hin := ltTo h1
    obtain ⟨t, ht, hat, hq⟩ := hI.get (vget (ys := xs) (j := i) (by omega))
    refine ⟨i, ⟨rfl, hin, hT.base (by omega)⟩, t.v, (hT.ext hx3).load (ty := tT) ht rfl rfl, ?_⟩
    intro b7 w4 hb7
    have hs := storeTmB (w' := w4) (t := t) hb7.toBlk rfl
    refine ⟨hs.1, fun w5 hs5 => ?_⟩
    have h5 := (storeTmB (t := t) hb7.toBlk rfl).2 hs5
    have hx35 : Ext w3 w5 := Ext.grownB hb7.ext h5.2 (hb7.ge (Ext.rfl w3))
    have hx5 := Ext.trans' hx3 hx35
    have hB := h5.1
    have skip : ¬ (0 ≤ pl xs i ∧ pl xs i < (qs.length : Int)) → (Ext w w5 ∧ i + 1 ≤ rx.n ∧ Blk w5 b4 33 (rcs RatR.zero) ∧ Blk w5 b5 33 (rcs r) ∧ w2.heap.size ≤ w5.heap.size ∧ CanQ (upH H w w2) w5 r (timesQ xs qs (i + 1)) ∧ FitQ (pK k (i + 1)) (timesQ xs qs (i + 1))) := by
      intro hno
      have e : timesQ xs qs (i + 1) = timesQ xs qs i := by simp only [timesQ]; rw [if_neg hno]
      rw [e]
      exact ⟨hx5, hin, hB43.ext hx35, hB53.ext hx35, Nat.le_trans hsz hx35.size, hc.ext hx35, hf.mono (pK_mono (Nat.le_succ i))⟩
    refine ⟨_, hB.one (off := 0) rfl rfl, ?_⟩
    refine And.intro (fun h2 => ?_) (fun h2 => ?_)
    · refine ⟨_, hB.one (off := 0) rfl rfl, ?_⟩
      refine And.intro (fun h3 => ?_) (fun h3 => ?_)
      · obtain ⟨p, hp'⟩ : ∃ p : Nat, t.at' = (p : Int) := ⟨t.at'.toNat, by omega⟩
        have hat2 : pl xs i = (p : Int) := hat.symm.trans hp'
        have hpn : p < rp.n := by omega
        have hpr := gr_getD hp.row hpn
        have hqp : qs[p]? = some (qs.getD p 0) := by rw [List.getD_eq_getElem?_getD, List.getElem?_eq_getElem (by omega)]; rfl
        have hxq := hp.at' p _ _ hpr hqp
        have hupTo : ∀ b, upH H w w2 b → H b ∨ w.heap.size ≤ b := fun b hb => hb.elim .inl (fun h => .inr h.1)
        have hxq5 := (hxq.to hupTo).ext hx5
        have hq5 := (hq.to hupTo).ext hx5
        have hcond : 0 ≤ pl xs i ∧ pl xs i < (qs.length : Int) := by omega
        have hHB5 := HB.ext hHB hx35
        have hKi : pK k i ≤ pK k l := pK_mono (by omega)
        have hxp := hp.row.ext hx5
        refine ⟨sq 11, by kernel_rfl, r.v, loadQ (hB53.ext hx35), t.x.v, hB.agg (sub := rcs t.x) rfl rfl, _, hB.one (off := 0) rfl rfl, p, ⟨hp', hpn, hxp.base (by omega)⟩, (rs.getD p default).v, hxp.load hpr rfl rfl, ?_⟩
        refine dcallR (mk := RatR.v) (Q := fun r' w' => CanQ (upH H w w2) w' r' (xl xs i * qs.getD p 0)) RatR.inj (fun _ => CanQ.stable) (fun w' hw hF => RMul_ok (HB.ext hHB5 hw) ((hq5.ext hw).mono (by omega)) ((hxq5.ext hw).mono (by omega))) ?_
        intro rm
        have hfm : FitQ (k + 1 + (k + 1)) (xl xs i * qs.getD p 0) := FitQ.mul hq5.fit hxq5.fit (by omega)
        refine dcallR (mk := RatR.v) (Q := fun r' w' => CanQ (upH H w w2) w' r' (timesQ xs qs i + xl xs i * qs.getD p 0)) RatR.inj (fun _ => CanQ.stable) (fun w' hw hF => RAdd_ok (HB.ext hHB5 hw) (((hc.ext hx35).ext hw).inq (hf.mono (show pK k i ≤ 137438953472 by omega)) (by omega)) (hF.1.inq (hfm.mono (by omega)) (by omega))) ?_
        intro ra w6 hx6 hF6
        have st := storeQ (r := ra) ((hB53.ext hx35).ext hx6) (Ext.trans' hx5 hx6) hge5 rfl
        refine ⟨st.1, fun w7 hs7 => ?_⟩
        obtain ⟨hB7, hg7, hx7⟩ := st.2 w7 hs7
        intro w8 hx8 _
        have e : timesQ xs qs (i + 1) = timesQ xs qs i + xl xs i * qs.getD p 0 := by
          simp only [timesQ]; rw [if_pos hcond, hat2, Int.toNat_natCast]
        refine ⟨((i + 1 : Nat) : Int), sucI i (by omega), (i + 1, ra), ⟨rfl, rfl, rfl, rfl, rfl, rfl, trivial⟩, ⟨Ext.trans' hx7 hx8, hin, ?_, hB7.ext hx8, ?_, ?_, ?_⟩, Nat.sub_lt_sub_left hin (Nat.lt_succ_self i)⟩
        · exact (Blk.grownN ((hB43.ext hx35).ext hx6) hg7 hne).ext hx8
        · exact Nat.le_trans hsz (Nat.le_trans hx35.size (Nat.le_trans hx6.size (Nat.le_trans hg7.size hx8.size)))
        · show CanQ (upH H w w2) w8 ra (timesQ xs qs (i + 1))
          rw [e]; exact (hF6.1.far hg7 hup5).ext hx8
        · show FitQ (pK k (i + 1)) (timesQ xs qs (i + 1))
          rw [e]
          refine (FitQ.add hf hfm).mono ?_
          unfold pK; rw [Nat.add_mul]; omega
      · exact ⟨((i + 1 : Nat) : Int), sucI i (by omega), (i + 1, r), ⟨rfl, rfl, rfl, rfl, rfl, rfl, trivial⟩, skip (fun h => h3 (by omega)), Nat.sub_lt_sub_left hin (Nat.lt_succ_self i)⟩
    · exact ⟨((i + 1 : Nat) : Int), sucI i (by omega), (i + 1, r), ⟨rfl, rfl, rfl, rfl, rfl, rfl, trivial⟩, skip (fun h => h2 (by omega)), Nat.sub_lt_sub_left hin (Nat.lt_succ_self i)⟩
  · have hi' : i = rx.n := Nat.le_antisymm hi (geTo h1)
    rw [hi', hlen] at hc hf
    refine ⟨r.v, loadQ hB53, ?_⟩
    have st := storeQ (r := r) hB43 hx3 hge4 rfl
    refine ⟨st.1, fun w4 hs4 => ?_⟩
    obtain ⟨hB4', hg4, hx4⟩ := st.2 w4 hs4
    refine ⟨r.v, loadQ hB4', ?_⟩
    exact ⟨hx4, r, rfl, (hc.far hg4 hup4).less, hf.mono (pK_mono hl)⟩
end Go.Proofs.Ytpgagepleffjlaa
/-
  Contracts of the layer program: what a point costs; whether a program may be. Helpers; no statement of the program is proved here.
-/
set_option maxRecDepth 100000
set_option linter.unusedSimpArgs false
set_option linter.unusedVariables false
namespace Go.Tw
open Go Go.RowKit
theorem over_all : ∀ {cs vs : List Value}, cs.length = vs.length → over cs vs = vs
  | [], [], _ => rfl
  | c :: cs, v :: vs, h => by simp only [over]; rw [over_all (by simpa using h)]
/-- An element stored in a block of its own. -/
theorem storeE {α : Type} [Enc α] {T : TT} {w : World} {b t ty : Nat} {cs : List Value} (x : α) (hb : Blk w b t cs) (hk : (known (tyAt T ty) && Nat.beq (Enc.k α) (tyAt T ty).size && Nat.beq cs.length (Enc.k α)) = true) :
    StoreOk T w ty ⟨b, 0, none⟩ (.agg (Enc.cs x).toArray) ∧ ∀ w', Stored w w' ⟨b, 0, none⟩ (Value.agg (Enc.cs x).toArray).cells.toList → Blk w' b t (Enc.cs x) ∧ w.grownBy w' (some b) := by
  simp only [Bool.and_eq_true] at hk
  obtain ⟨⟨h1, h2⟩, h3⟩ := hk
  have h2 := (beq_iff _ _).1 h2
  have h3 := (beq_iff _ _).1 h3
  have hcells : (Value.agg (Enc.cs x).toArray).cells.toList = Enc.cs x := rfl
  refine ⟨storeOk (i := 0) rfl ?_ hb (by omega), fun w' hs => ?_⟩
  · rw [hcells, h1, Enc.len, ← h2, Nat.beq_refl]
    simp only [Bool.true_and]
    exact List.all_eq_true.2 (Enc.one x)
  · have h4 := Stored.blk hs hb
    have h5 : splice cs 0 (Enc.cs x) = Enc.cs x := by
      rw [show splice cs 0 (Enc.cs x) = over cs (Enc.cs x) by simp [splice]]
      exact over_all (by rw [Enc.len]; exact h3)
    rw [hcells, h5] at h4
    exact ⟨h4, (Stored.grown hs).1⟩
end Go.Tw
namespace Go.Proofs.Ytpgagepleffjlaa
open Go Go.Tw Go.RowKit
attribute [local irreducible] LoadAt StoreOk Stored rawVC

abbrev tPrg : Nat := 27
abbrev tVar : Nat := 44
abbrev tRow : Nat := 35
section
variable {k l : Nat} {w : World} {p : PrgR} {vr : List VarR} {rr : List RowR} {vs : VS} {rws : RWS} {cost : VL}
theorem Value_ok {rp : SlR} {rs : List RatR} {qs : List Rat} (hP : PrgI k l w p vr rr vs rws cost) (hp : PtI k H0 w rp rs qs) (hk : k ≤ 16777216 ∧ l ≤ 65536 ∧ pK k l ≤ 34359738368 ∧ rp.n ≤ 1099511627776) :
    CallS Try.prog 12 #[p.v, rp.v] w fun v w' => Ext w w' ∧ ∃ s : RatR, v = s.v ∧ QC (pK k l) w' s (timesQ cost qs cost.length) := by
  refine enter ttOk mixed (args := [p.v, rp.v]) Try.func12 rfl (by kernel_rfl) (by kernel_rfl) rfl ?_
  intro b2 w1 hb2 b4 w2 hb4
  have hx2 := hb4.extFrom hb2.ext
  have hB2 : Blk w2 b2 tPrg p.cs := hb2.toBlk.ext hb4.ext
  refine ⟨_, hB2.one (off := 2) rfl rfl, ?_⟩
  have hup : upH H0 w w2 b4 := hb4.inUp hb2.ext (Ext.rfl w2)
  have hto : ∀ b, upH H0 w w2 b → H0 b ∨ w.heap.size ≤ b := fun b hb => hb.imp_right fun h => h.1
  refine CallS.mono (ptimes_ok ((H0.hb w).up hx2) ((hP.cost.inv.to hto).ext hx2) ((hp.to hto).ext hx2) hP.cost.len hk) ?_
  rintro _ w3 ⟨hx3, r, rfl, hr, hf⟩
  have st := storeQ (r := r) (hb4.toBlk.ext hx3) (Ext.trans' hx2 hx3) (hb4.ge hb2.ext) rfl
  refine ⟨st.1, fun w4 hs4 => ?_⟩
  obtain ⟨hB4, hg4, hx4⟩ := st.2 w4 hs4
  refine ⟨r.v, loadQ hB4, ?_⟩
  exact ⟨hx4, r, rfl, (hr.far hg4 hup).less, hf⟩
/-- May it be a program? -/
structure Good (vs : VS) (rws : RWS) (RC : Bool) (RR : Nat → Bool) : Prop where
  nv : vs.length ≤ 600
  nr : rws.length ≤ 600
  rc : RC = true
  le : ∀ (j : Nat) x, vs[j]? = some x → x.1 ≤ x.2.1
  row : ∀ (j : Nat) x, rws[j]? = some x → 1 ≤ x.2.1 ∧ x.2.1 ≤ 3 ∧ RR j = true
theorem PRight_ok {RC : Bool} {RR : Nat → Bool} (hP : PrgI k l w p vr rr vs rws cost) (hk : k ≤ 137438953472 ∧ p.vars.n ≤ 1099511627776 ∧ p.rows.n ≤ 1099511627776)
    (hRC : ∀ w', Ext w w' → CallS Try.prog 47 #[p.cost.v, .int .i64 (vs.length : Int)] w' fun v w'' => Ext w' w'' ∧ v = .bool RC)
    (hRR : ∀ (j : Nat) r, rr[j]? = some r → ∀ w', Ext w w' → CallS Try.prog 47 #[r.a.v, .int .i64 (vs.length : Int)] w' fun v w'' => Ext w' w'' ∧ v = .bool (RR j)) :
    CallS Try.prog 10 #[p.v] w fun v w' => Ext w w' ∧ ∃ e : Int, v = .int .i64 e ∧ ((Good vs rws RC RR ∧ e = 0) ∨ (¬ Good vs rws RC RR ∧ e = 100)) := by
  obtain ⟨hk1, hn1, hn2⟩ := hk
  have hvn := hP.vars.len
  have hvl := hP.vlen
  have hrn := hP.rows.len
  have hrl := hP.rlen
  refine enter ttOk mixed (args := [p.v]) Try.func10 rfl (by kernel_rfl) (by kernel_rfl) rfl ?_
  intro b1 w1 hb1
  have hx1 := hb1.ext
  have hB1 : Blk w1 b1 tPrg p.cs := hb1.toBlk
  have clo : ∀ (r : SlR) (B : Bool), (∀ w', Ext w w' → CallS Try.prog 47 #[r.v, .int .i64 (vs.length : Int)] w' fun v w'' => Ext w' w'' ∧ v = .bool B) → ∀ w', Ext w1 w' → CallS Try.prog 54 #[r.v, .pointer (some ⟨b1, 0, none⟩)] w' fun v w'' => Ext w' w'' ∧ v = .bool B := by
    intro r B hB w' hx'
    refine enter ttOk mixed (args := [r.v, .pointer (some ⟨b1, 0, none⟩)]) Try.func54 rfl (by kernel_rfl) (by kernel_rfl) rfl ?_
    refine ⟨_, (hB1.ext hx').one (off := 0) rfl rfl, ?_⟩
    have e : ((p.vars.n : Nat) : Int) = (vs.length : Int) := by omega
    have hc := hB w' (Ext.trans' hx1 hx')
    rw [← e] at hc
    refine CallS.mono hc ?_
    rintro _ w2 ⟨hx2, rfl⟩
    exact ⟨hx2, rfl⟩
  refine ⟨_, hB1.one (off := 0) rfl rfl, ?_⟩
  refine And.intro (fun h1 => ?_) (fun h1 => ?_)
  · exact ⟨hx1, 100, rfl, .inr ⟨fun h => by have := h.nv; omega, rfl⟩⟩
  refine ⟨_, hB1.one (off := 1) rfl rfl, ?_⟩
  refine And.intro (fun h2 => ?_) (fun h2 => ?_)
  · exact ⟨hx1, 100, rfl, .inr ⟨fun h => by have := h.nr; omega, rfl⟩⟩
  refine ⟨_, hB1.one (off := 2) rfl rfl, ?_⟩
  refine CallS.mono (clo p.cost RC hRC w1 (Ext.rfl w1)) ?_
  rintro _ w2 ⟨hx2, rfl⟩
  cases hrc : RC with
  | false => exact ⟨Ext.trans' hx1 hx2, 100, rfl, .inr ⟨fun h => (by cases h.rc), rfl⟩⟩
  | true =>
    have hx02 := Ext.trans' hx1 hx2
    have hB2 := hB1.ext hx2
    refine ⟨_, hB2.one (off := 0) rfl rfl, ?_⟩
    refine ⟨Nat, fun x => [(1, .pointer (some ⟨b1, 0, none⟩)), (3, .func (.func 54) #[] #[.pointer (some ⟨b1, 0, none⟩)]), (27, p.vars.v), (28, .int .i64 (p.vars.n : Int)), (29, .int .i64 (x : Int))],
      fun x w' => Ext w1 w' ∧ x ≤ p.vars.n ∧ ∀ (j : Nat) y, j < x → vs[j]? = some y → y.1 ≤ y.2.1, fun x _ => p.vars.n - x, ⟨0, ⟨rfl, rfl, rfl, rfl, rfl, trivial⟩, hx2, Nat.zero_le _, fun j y h => absurd h (Nat.not_lt_zero _)⟩, ?_⟩
    rintro i w3 ⟨hx3, hi, hle⟩
    have hx03 := Ext.trans' hx1 hx3
    refine And.intro (fun h3 => ?_) (fun h3 => ?_)
    · have hin := ltTo h3
      have hg := gr_getD hP.vars hin
      have hgx : vs[i]? = some (vs[i]'(by omega)) := List.getElem?_eq_getElem (by omega)
      generalize vr.getD i default = v at hg
      generalize vs[i]'(by omega) = y at hgx
      obtain ⟨hlo, hhi, _⟩ := hP.var i v y hg hgx
      refine ⟨i, ⟨rfl, hin, hP.vars.base (by omega)⟩, v.v, (hP.vars.ext hx03).load hg rfl rfl, ?_⟩
      intro b5 w4 hb5
      have st := storeE (T := tt) (ty := tVar) v hb5.toBlk rfl
      refine ⟨st.1, fun w5 hs5 => ?_⟩
      obtain ⟨hB5, hg5⟩ := st.2 w5 hs5
      have hx35 : Ext w3 w5 := Ext.grownB hb5.ext hg5 (hb5.ge (Ext.rfl w3))
      have hx05 := Ext.trans' hx03 hx35
      refine ⟨v.lo.v, hB5.agg (sub := rcs v.lo) rfl rfl, v.hi.v, hB5.agg (sub := rcs v.hi) rfl rfl, ?_⟩
      refine CallS.mono (RCmp_ok (H0.hb w5) ((hlo.ext hx05).mono (by omega)) ((hhi.ext hx05).mono (by omega))) ?_
      rintro _ w6 ⟨hx6, rfl⟩
      refine And.intro (fun h4 => ?_) (fun h4 => ?_)
      · refine ⟨Ext.trans' hx05 hx6, 100, rfl, .inr ⟨fun h => ?_, rfl⟩⟩
        have h5 := h.le i y hgx
        have h6 := cmpQ_pos.1 h4
        exact absurd h5 (Rat.not_le.2 h6)
      · refine ⟨((i + 1 : Nat) : Int), sucI i (by omega), i + 1, ⟨rfl, rfl, rfl, rfl, rfl, trivial⟩, ⟨Ext.trans' (Ext.trans' hx3 hx35) hx6, hin, fun j z hj hz => ?_⟩, Nat.sub_lt_sub_left hin (Nat.lt_succ_self i)⟩
        rcases Nat.lt_or_eq_of_le (Nat.le_of_lt_succ hj) with h | h
        · exact hle j z h hz
        · subst h
          rw [hgx] at hz; cases hz
          exact Rat.not_lt.1 (fun h => h4 (cmpQ_pos.2 h))
    · have hi' : i = p.vars.n := Nat.le_antisymm hi (geTo h3)
      have hleA : ∀ (j : Nat) y, vs[j]? = some y → y.1 ≤ y.2.1 := fun j y hy => hle j y (by
        rcases Nat.lt_or_ge j vs.length with h | h
        · omega
        · rw [List.getElem?_eq_none h] at hy; cases hy) hy
      refine ⟨_, (hB1.ext hx3).one (off := 1) rfl rfl, ?_⟩
      refine ⟨Nat, fun x => [(1, .pointer (some ⟨b1, 0, none⟩)), (3, .func (.func 54) #[] #[.pointer (some ⟨b1, 0, none⟩)]), (41, p.rows.v), (42, .int .i64 (p.rows.n : Int)), (43, .int .i64 (x : Int))],
        fun x w' => Ext w1 w' ∧ x ≤ p.rows.n ∧ ∀ (j : Nat) y, j < x → rws[j]? = some y → 1 ≤ y.2.1 ∧ y.2.1 ≤ 3 ∧ RR j = true, fun x _ => p.rows.n - x, ⟨0, ⟨rfl, rfl, rfl, rfl, rfl, trivial⟩, hx3, Nat.zero_le _, fun j y h => absurd h (Nat.not_lt_zero _)⟩, ?_⟩
      rintro q w4 ⟨hx4, hq, hrow⟩
      have hx04 := Ext.trans' hx1 hx4
      refine And.intro (fun h4 => ?_) (fun h4 => ?_)
      · have hqn := ltTo h4
        have hg := gr_getD hP.rows hqn
        have hgx : rws[q]? = some (rws[q]'(by omega)) := List.getElem?_eq_getElem (by omega)
        generalize rr.getD q default = r at hg
        generalize rws[q]'(by omega) = y at hgx
        obtain ⟨hra, hrk, hrb⟩ := hP.row q r y hg hgx
        refine ⟨q, ⟨rfl, hqn, hP.rows.base (by omega)⟩, r.v, (hP.rows.ext hx04).load hg rfl rfl, ?_⟩
        intro b7 w5 hb7
        have st := storeE (T := tt) (ty := tRow) r hb7.toBlk rfl
        refine ⟨st.1, fun w6 hs6 => ?_⟩
        obtain ⟨hB6, hg6⟩ := st.2 w6 hs6
        have hx46 : Ext w4 w6 := Ext.grownB hb7.ext hg6 (hb7.ge (Ext.rfl w4))
        have hx06 := Ext.trans' hx04 hx46
        have bad : ¬ (1 ≤ y.2.1 ∧ y.2.1 ≤ 3 ∧ RR q = true) → ∀ w', Ext w6 w' → (Ext w w' ∧ ∃ e : Int, Value.int .i64 100 = .int .i64 e ∧ ((Good vs rws true RR ∧ e = 0) ∨ (¬ Good vs rws true RR ∧ e = 100))) := fun hno w' hx' => ⟨Ext.trans' hx06 hx', 100, rfl, .inr ⟨fun h => hno (h.row q y hgx), rfl⟩⟩
        refine ⟨_, hB6.one (off := 1) rfl rfl, ?_⟩
        refine And.intro (fun h5 => ?_) (fun h5 => ?_)
        · exact bad (fun h => by omega) w6 (Ext.rfl w6)
        refine ⟨_, hB6.one (off := 1) rfl rfl, ?_⟩
        refine And.intro (fun h6 => ?_) (fun h6 => ?_)
        · exact bad (fun h => by omega) w6 (Ext.rfl w6)
        refine ⟨_, hB6.one (off := 0) rfl rfl, ?_⟩
        refine CallS.mono (clo r.a (RR q) (fun w' hx' => hRR q r hg w' hx') w6 (Ext.trans' hx4 hx46)) ?_
        rintro _ w7 ⟨hx7, rfl⟩
        cases hrr : RR q with
        | false => exact bad (fun h => by rw [hrr] at h; cases h.2.2) w7 hx7
        | true =>
          refine ⟨((q + 1 : Nat) : Int), sucI q (by omega), q + 1, ⟨rfl, rfl, rfl, rfl, rfl, trivial⟩, ⟨Ext.trans' (Ext.trans' hx4 hx46) hx7, hqn, fun j z hj hz => ?_⟩, Nat.sub_lt_sub_left hqn (Nat.lt_succ_self q)⟩
          rcases Nat.lt_or_eq_of_le (Nat.le_of_lt_succ hj) with h | h
          · exact hrow j z h hz
          · subst h
            rw [hgx] at hz; cases hz
            exact ⟨by omega, by omega, hrr⟩
      · have hq' : q = p.rows.n := Nat.le_antisymm hq (geTo h4)
        refine ⟨Ext.trans' hx1 hx4, 0, rfl, .inl ⟨⟨by omega, by omega, rfl, hleA, fun j y hy => hrow j y (by
          rcases Nat.lt_or_ge j rws.length with h | h
          · omega
          · rw [List.getElem?_eq_none h] at hy; cases hy) hy⟩, rfl⟩⟩
end
end Go.Proofs.Ytpgagepleffjlaa
