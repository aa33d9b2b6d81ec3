/-
  A form that is being built: its rows side by side. Helpers; no statement of the program is proved here.
-/
import Derived.Test.YtlfdobjdlgebbaaKB
set_option maxRecDepth 100000
set_option linter.unusedSimpArgs false
set_option linter.unusedVariables false
namespace Go.Proofs.Ytlfdobjdlgebbaa
open Go Go.Tw Go.RowKit
attribute [local irreducible] LoadAt StoreOk Stored rawVC

abbrev tRat : Nat := 33
abbrev tFrm : Nat := 39
abbrev tRats : Nat := 37
theorem nil_own {w : World} {base e sz : Nat} : w.ownsRow base e sz (SlR.v ⟨none, 0, 0⟩) 0 [] := ⟨by simp, .inl ⟨rfl, rfl⟩⟩
/-- What has been built of a form. -/
structure FS where
  lo : SlR
  hi : SlR
  cost : SlR
  b : SlR
  cols : SlR
  cs : List SlR
  cv : List SlR
  los : List RatR
  his : List RatR
  costs : List RatR
  bs : List RatR
  ts : List (List TmR)
def rq (rs : List RatR) : Ro := ⟨tRat, 4, rs.length, gcs rs⟩
def rt (ts : List TmR) : Ro := ⟨tT, 5, ts.length, tcs ts⟩
def rv (cs : List SlR) : Ro := ⟨tV, 1, cs.length, svs cs⟩
def FS.ss (s : FS) : List SlR := s.lo :: s.hi :: s.cost :: s.b :: s.cols :: s.cs
def FS.rs (s : FS) : List Ro := rq s.los :: rq s.his :: rq s.costs :: rq s.bs :: rv s.cv :: s.ts.map rt
def FS.form (s : FS) (m : Int) : FormR := ⟨m, s.cols, s.lo, s.hi, s.cost, s.b⟩
/-- Fractions say numbers. -/
structure Vals (HH : Hd) (w : World) (rs : List RatR) (qs : List Rat) : Prop where
  len : rs.length = qs.length
  at' : ∀ (j : Nat) r q, rs[j]? = some r → qs[j]? = some q → CanQ HH w r q
theorem Vals.map {HH HH' : Hd} {w w' : World} {rs : List RatR} {qs : List Rat} (h : Vals HH w rs qs) (f : ∀ {r q}, CanQ HH w r q → CanQ HH' w' r q) : Vals HH' w' rs qs := ⟨h.len, fun j r q h1 h2 => f (h.at' j r q h1 h2)⟩
theorem Vals.nil (HH : Hd) (w : World) : Vals HH w [] [] := ⟨rfl, fun j r q h => by simp at h⟩
theorem Vals.push {HH : Hd} {w : World} {rs : List RatR} {qs : List Rat} (h : Vals HH w rs qs) {r : RatR} {q : Rat} (hq : CanQ HH w r q) : Vals HH w (rs ++ [r]) (qs ++ [q]) := by
  have hl := h.len
  refine ⟨by simp [hl], fun j s p h1 h2 => ?_⟩
  rcases Nat.lt_or_ge j rs.length with hj | hj
  · rw [List.getElem?_append_left hj] at h1
    rw [List.getElem?_append_left (by omega)] at h2
    exact h.at' j s p h1 h2
  · rw [List.getElem?_append_right hj] at h1
    rw [List.getElem?_append_right (by omega), ← hl] at h2
    rcases Nat.eq_zero_or_pos (j - rs.length) with h0 | h0
    · rw [h0] at h1 h2
      cases h1; cases h2; exact hq
    · rw [List.getElem?_eq_none (by simp; omega)] at h1; cases h1
structure FI (k : Nat) (H : Hd) (base : Nat) (w : World) (s : FS) (L U C B : List Rat) (X : List VL) : Prop where
  hb : HB H w
  gd : Gd H base w s.ss s.rs
  no : ∀ c, H c → ∀ t ∈ s.ss, t.v.ownBlock ≠ some c
  vl : Vals (gH H s.ss) w s.los L
  vu : Vals (gH H s.ss) w s.his U
  vc : Vals (gH H s.ss) w s.costs C
  vb : Vals (gH H s.ss) w s.bs B
  xl : s.ts.length = X.length
  vx : ∀ (j : Nat) t z, s.ts[j]? = some t → X[j]? = some z → TsCan k (gH H s.ss) w t z
/-- What is kept while the rows grow and the form's cell is written. -/
structure KH (base : Nat) (H : Hd) (b5 : Nat) (w w' : World) : Prop where
  os : w'.os = w.os
  tape : w'.tape = w.tape
  output : w'.output = w.output
  blk : ∀ c, c < w.heap.size → (c < base ∨ H c) → c ≠ b5 → w'.heap[c]? = w.heap[c]?
  size : w.heap.size ≤ w'.heap.size
section
variable {k base b5 : Nat} {H H' : Hd} {w w' w'' : World} {s : FS} {L U C B : List Rat} {X : List VL}
theorem KH.rfl (w : World) : KH base H b5 w w := ⟨Eq.refl _, Eq.refl _, Eq.refl _, fun _ _ _ _ => Eq.refl _, Nat.le_refl _⟩
theorem KH.ofExt (x : Ext w w') : KH base H b5 w w' := ⟨x.os, x.tape, x.output, fun c hc _ _ => x.block c hc, x.size⟩
theorem KH.trans (h : KH base H b5 w w') (h' : KH base H b5 w' w'') : KH base H b5 w w'' := ⟨h'.os.trans h.os, h'.tape.trans h.tape, h'.output.trans h.output, fun c hc h1 h2 => by rw [h'.blk c (Nat.lt_of_lt_of_le hc h.size) h1 h2, h.blk c hc h1 h2], Nat.le_trans h.size h'.size⟩
theorem KH.mono (h : KH base H b5 w w') (hH : ∀ c, H' c → H c) : KH base H' b5 w w' := ⟨h.os, h.tape, h.output, fun c hc h1 h2 => h.blk c hc (h1.imp_right (hH c)) h2, h.size⟩
/-- .. also of what was made since. -/
theorem KH.monoN (h : KH base H b5 w w') (hH : ∀ c, H' c → H c ∨ w.heap.size ≤ c) : KH base H' b5 w w' := ⟨h.os, h.tape, h.output, fun c hc h1 h2 => h.blk c hc (h1.imp_right fun h' => (hH c h').elim id fun h' => absurd hc (Nat.not_lt.2 h')) h2, h.size⟩
theorem KH.at5 (hg : w.grownBy w' (some b5)) : KH base H b5 w w' := ⟨hg.os, hg.tape, hg.output, fun c hc _ h2 => hg.block c hc (fun e => h2 (Option.some.inj e)), hg.size⟩
theorem KH.ext {w0 : World} (hx : Ext w0 w) (hb : w0.heap.size ≤ base) (h5 : w0.heap.size ≤ b5) (h : KH base H b5 w w') : Ext w0 w' :=
  ⟨h.os.trans hx.os, h.tape.trans hx.tape, h.output.trans hx.output, Nat.le_trans hx.size h.size, fun c hc => by rw [h.blk c (Nat.lt_of_lt_of_le hc hx.size) (.inl (Nat.lt_of_lt_of_le hc hb)) (by omega)]; exact hx.block c hc⟩
theorem _root_.Go.Tw.Blk.kh {c t : Nat} {cs : List Value} (hb : Blk w c t cs) (h : KH base H b5 w w') (hc : c < base ∨ H c) (h5 : c ≠ b5) : Blk w' c t cs := by
  have := hb.lt
  unfold Blk at *
  rw [h.blk c this hc h5]; exact hb
theorem FI.ext (h : FI k H base w s L U C B X) (x : Ext w w') : FI k H base w' s L U C B X :=
  ⟨h.hb.ext x, h.gd.ext x, h.no, h.vl.map fun h => h.ext x, h.vu.map fun h => h.ext x, h.vc.map fun h => h.ext x, h.vb.map fun h => h.ext x, h.xl, fun j t z h1 h2 => (h.vx j t z h1 h2).map (Nat.le_refl _) fun h => h.ext x⟩
theorem gH_to (hH : ∀ b, H' b → H b ∨ w.heap.size ≤ b) : ∀ b, gH H' s.ss b → gH H s.ss b ∨ w.heap.size ≤ b := fun b hb => hb.elim (fun h => (hH b h).imp_left .inl) fun h => .inl (.inr h)
/-- More blocks, or fewer, that are kept apart. -/
theorem FI.to (h : FI k H base w s L U C B X) (hB : HB H' w') (hH : ∀ b, H' b → H b ∨ w.heap.size ≤ b) (x : Ext w w') : FI k H' base w' s L U C B X := by
  have f : ∀ {r q}, CanQ (gH H s.ss) w r q → CanQ (gH H' s.ss) w' r q := fun h => (h.to (gH_to hH)).ext x
  have hg : Gd H' base w s.ss s.rs := ⟨h.gd.len, h.gd.own, h.gd.apart⟩
  refine ⟨hB, hg.ext x, ?_, h.vl.map f, h.vu.map f, h.vc.map f, h.vb.map f, h.xl, fun j t z h1 h2 => (h.vx j t z h1 h2).map (Nat.le_refl _) f⟩
  intro c hc t ht e
  rcases hH c hc with h1 | h1
  · exact h.no c h1 t ht e
  · obtain ⟨i, hi, rfl⟩ := List.getElem_of_mem ht
    have := (h.gd.lt (List.getElem?_eq_getElem hi) e).2
    omega
theorem FI.hbs (h : FI k H base w s L U C B X) : HB (gH H s.ss) w := h.gd.hb h.hb
theorem no_set (h : FI k H base w s L U C B X) {i : Nat} {t s' : SlR} (hi : s.ss[i]? = some t) (hn : rowNew w t.v s'.v) : ∀ c, H c → ∀ u ∈ s.ss.set i s', u.v.ownBlock ≠ some c := by
  intro c hc u hu e
  rcases List.mem_or_eq_of_mem_set hu with hu | rfl
  · exact h.no c hc u hu e
  · rcases hn with hn | hn
    · exact h.no c hc t (List.mem_of_getElem? hi) (by rw [← hn]; exact e)
    · have := hn c e; have := h.hb c hc; omega
theorem KH.row (h : FI k H base w s L U C B X) {i : Nat} {t : SlR} (hi : s.ss[i]? = some t) (hg : w.grownBy w' t.v.ownBlock) : KH base H b5 w w' :=
  ⟨hg.os, hg.tape, hg.output, fun c hc h1 _ => hg.block c hc fun e => h1.elim (fun h2 => by have := (h.gd.lt hi e.symm).1; omega) (fun h2 => h.no c h2 t (List.mem_of_getElem? hi) e.symm), hg.size⟩
theorem slOf {e sz n : Nat} {v : Value} {xs : List Value} (h : w.ownsRow base e sz v n xs) : ∃ s' : SlR, v = s'.v := by
  rcases h.2 with ⟨rfl, _⟩ | ⟨g, cap, cur, rfl, _⟩
  · exact ⟨⟨none, 0, 0⟩, Eq.refl _⟩
  · exact ⟨⟨_, _, _⟩, Eq.refl _⟩
theorem hbGrow (h : HB H w) (hs : w.heap.size ≤ w'.heap.size) : HB H w' := fun b hb => Nat.lt_of_lt_of_le (h b hb) hs
theorem FI.pushLo (h : FI k H base w s L U C B X) {v' : Value} {r : RatR} {q : Rat} (ho : w'.ownsRow base tRat 4 v' (s.los.length + 1) (gcs s.los ++ rcs r)) (hg : w.grownBy w' s.lo.v.ownBlock) (hn : rowNew w s.lo.v v') (hq : CanQ (gH H s.ss) w r q) :
    ∃ s' : SlR, v' = s'.v ∧ FI k H base w' { s with lo := s', los := s.los ++ [r] } (L ++ [q]) U C B X := by
  obtain ⟨s', rfl⟩ := slOf ho
  have hi : s.ss[0]? = some s.lo := Eq.refl _
  have f : ∀ {r q}, CanQ (gH H s.ss) w r q → CanQ (gH H (s.ss.set 0 s')) w' r q := fun h => canQ_set hi hg hn h
  have ho' : w'.ownsRow base (rq (s.los ++ [r])).e (rq (s.los ++ [r])).sz s'.v (rq (s.los ++ [r])).n (rq (s.los ++ [r])).cs := by
    show w'.ownsRow base tRat 4 s'.v (s.los ++ [r]).length (gcs (s.los ++ [r]))
    rw [gcs_append, gcs_one, List.length_append]; exact ho
  exact ⟨s', Eq.refl _, ⟨hbGrow h.hb hg.size, h.gd.set hi ho' hg hn, no_set h hi hn, (h.vl.map f).push (f hq), h.vu.map f, h.vc.map f, h.vb.map f, h.xl, fun j t z h1 h2 => (h.vx j t z h1 h2).map (Nat.le_refl _) f⟩⟩
theorem FI.pushHi (h : FI k H base w s L U C B X) {v' : Value} {r : RatR} {q : Rat} (ho : w'.ownsRow base tRat 4 v' (s.his.length + 1) (gcs s.his ++ rcs r)) (hg : w.grownBy w' s.hi.v.ownBlock) (hn : rowNew w s.hi.v v') (hq : CanQ (gH H s.ss) w r q) :
    ∃ s' : SlR, v' = s'.v ∧ FI k H base w' { s with hi := s', his := s.his ++ [r] } L (U ++ [q]) C B X := by
  obtain ⟨s', rfl⟩ := slOf ho
  have hi : s.ss[1]? = some s.hi := Eq.refl _
  have f : ∀ {r q}, CanQ (gH H s.ss) w r q → CanQ (gH H (s.ss.set 1 s')) w' r q := fun h => canQ_set hi hg hn h
  have ho' : w'.ownsRow base (rq (s.his ++ [r])).e (rq (s.his ++ [r])).sz s'.v (rq (s.his ++ [r])).n (rq (s.his ++ [r])).cs := by
    show w'.ownsRow base tRat 4 s'.v (s.his ++ [r]).length (gcs (s.his ++ [r]))
    rw [gcs_append, gcs_one, List.length_append]; exact ho
  exact ⟨s', Eq.refl _, ⟨hbGrow h.hb hg.size, h.gd.set hi ho' hg hn, no_set h hi hn, h.vl.map f, (h.vu.map f).push (f hq), h.vc.map f, h.vb.map f, h.xl, fun j t z h1 h2 => (h.vx j t z h1 h2).map (Nat.le_refl _) f⟩⟩
theorem FI.pushCost (h : FI k H base w s L U C B X) {v' : Value} {r : RatR} {q : Rat} (ho : w'.ownsRow base tRat 4 v' (s.costs.length + 1) (gcs s.costs ++ rcs r)) (hg : w.grownBy w' s.cost.v.ownBlock) (hn : rowNew w s.cost.v v') (hq : CanQ (gH H s.ss) w r q) :
    ∃ s' : SlR, v' = s'.v ∧ FI k H base w' { s with cost := s', costs := s.costs ++ [r] } L U (C ++ [q]) B X := by
  obtain ⟨s', rfl⟩ := slOf ho
  have hi : s.ss[2]? = some s.cost := Eq.refl _
  have f : ∀ {r q}, CanQ (gH H s.ss) w r q → CanQ (gH H (s.ss.set 2 s')) w' r q := fun h => canQ_set hi hg hn h
  have ho' : w'.ownsRow base (rq (s.costs ++ [r])).e (rq (s.costs ++ [r])).sz s'.v (rq (s.costs ++ [r])).n (rq (s.costs ++ [r])).cs := by
    show w'.ownsRow base tRat 4 s'.v (s.costs ++ [r]).length (gcs (s.costs ++ [r]))
    rw [gcs_append, gcs_one, List.length_append]; exact ho
  exact ⟨s', Eq.refl _, ⟨hbGrow h.hb hg.size, h.gd.set hi ho' hg hn, no_set h hi hn, h.vl.map f, h.vu.map f, (h.vc.map f).push (f hq), h.vb.map f, h.xl, fun j t z h1 h2 => (h.vx j t z h1 h2).map (Nat.le_refl _) f⟩⟩
theorem FI.pushB (h : FI k H base w s L U C B X) {v' : Value} {r : RatR} {q : Rat} (ho : w'.ownsRow base tRat 4 v' (s.bs.length + 1) (gcs s.bs ++ rcs r)) (hg : w.grownBy w' s.b.v.ownBlock) (hn : rowNew w s.b.v v') (hq : CanQ (gH H s.ss) w r q) :
    ∃ s' : SlR, v' = s'.v ∧ FI k H base w' { s with b := s', bs := s.bs ++ [r] } L U C (B ++ [q]) X := by
  obtain ⟨s', rfl⟩ := slOf ho
  have hi : s.ss[3]? = some s.b := Eq.refl _
  have f : ∀ {r q}, CanQ (gH H s.ss) w r q → CanQ (gH H (s.ss.set 3 s')) w' r q := fun h => canQ_set hi hg hn h
  have ho' : w'.ownsRow base (rq (s.bs ++ [r])).e (rq (s.bs ++ [r])).sz s'.v (rq (s.bs ++ [r])).n (rq (s.bs ++ [r])).cs := by
    show w'.ownsRow base tRat 4 s'.v (s.bs ++ [r]).length (gcs (s.bs ++ [r]))
    rw [gcs_append, gcs_one, List.length_append]; exact ho
  exact ⟨s', Eq.refl _, ⟨hbGrow h.hb hg.size, h.gd.set hi ho' hg hn, no_set h hi hn, h.vl.map f, h.vu.map f, h.vc.map f, (h.vb.map f).push (f hq), h.xl, fun j t z h1 h2 => (h.vx j t z h1 h2).map (Nat.le_refl _) f⟩⟩
/-- A cell that the rows keep away from is written. -/
theorem FI.at' {c : Nat} (h : FI k H base w s L U C B X) (hg : w.grownBy w' (some c)) (hc : H c) : FI k H base w' s L U C B X := by
  have f : ∀ {r q}, CanQ (gH H s.ss) w r q → CanQ (gH H s.ss) w' r q := fun h => h.grow hg (fun b e => by cases e; exact .inl hc)
  refine ⟨hbGrow h.hb hg.size, ⟨h.gd.len, fun i t r h1 h2 => (h.gd.own i t r h1 h2).kept hg ?_, h.gd.apart⟩, h.no, h.vl.map f, h.vu.map f, h.vc.map f, h.vb.map f, h.xl, fun j t z h1 h2 => (h.vx j t z h1 h2).map (Nat.le_refl _) f⟩
  have := h.no c hc t (List.mem_of_getElem? h1)
  cases hv : t.v.ownBlock with
  | none => exact .inl (Eq.refl _)
  | some b => exact .inr fun e => this (by rw [hv]; exact e)
/-- What a row's growing keeps. -/
theorem FI.blk {c t : Nat} {cs : List Value} (h : FI k H base w s L U C B X) {i : Nat} {u : SlR} (hi : s.ss[i]? = some u) (hg : w.grownBy w' u.v.ownBlock) (hb : Blk w c t cs) (hc : c < base ∨ H c) : Blk w' c t cs :=
  Blk.kh (b5 := w.heap.size) hb (KH.row h hi hg) hc (Nat.ne_of_lt hb.lt)
/-- What was made behind a world that has the row is kept. -/
theorem FI.new {w0 : World} (h0 : Gd H base w0 s.ss s.rs) {i : Nat} {u : SlR} (hi : s.ss[i]? = some u) (hg : w.grownBy w' u.v.ownBlock) : KeptNew w0 w w' :=
  ⟨fun c h1 h2 => hg.block c h2 (fun e => by have := (h0.lt hi e.symm).2; omega), hg.size⟩
/-- A slice stored in the form's cell. -/
theorem storeF {b : Nat} {f : FormR} {i : Nat} {v : SlR} (hb : Blk w b tFrm f.cs) (hi : i + 1 < 6) :
    StoreOk tt w tRats ⟨b, i + 1, none⟩ v.v ∧ ∀ w', Stored w w' ⟨b, i + 1, none⟩ v.v.cells.toList → Blk w' b tFrm (f.cs.set (i + 1) v.v) ∧ w.grownBy w' (some b) := by
  refine ⟨storeOk (Eq.refl _) (Eq.refl _) hb (by show i + 1 + 1 ≤ 6; omega), fun w' hs => ⟨?_, (Stored.grown hs).1⟩⟩
  have := Stored.blk hs hb
  rw [show v.v.cells.toList = [v.v] from Eq.refl _, splice_one] at this
  exact this
/-- A term more in a column. -/
theorem FI.pushTerm (h : FI k H base w s L U C B X) {p : Nat} {u : SlR} {ts0 : List TmR} {z : VL} (hu : s.cs[p]? = some u) (ht : s.ts[p]? = some ts0) (hz : X[p]? = some z) {v' : Value} {tm : TmR} {q : Int × Rat}
    (ho : w'.ownsRow base tT 5 v' (ts0.length + 1) (tcs ts0 ++ tm.cs)) (hg : w.grownBy w' u.v.ownBlock) (hn : rowNew w u.v v') (hat : tm.at' = q.1) (hq : CanQ (gH H s.ss) w tm.x q.2) (hf : FitQ k q.2) :
    ∃ s' : SlR, v' = s'.v ∧ FI k H base w' { s with cs := s.cs.set p s', ts := s.ts.set p (ts0 ++ [tm]) } L U C B (X.set p (z ++ [q])) := by
  obtain ⟨s', rfl⟩ := slOf ho
  have hi : s.ss[p + 5]? = some u := hu
  have f : ∀ {r q}, CanQ (gH H s.ss) w r q → CanQ (gH H (s.ss.set (p + 5) s')) w' r q := fun h => canQ_set hi hg hn h
  have ho' : w'.ownsRow base (rt (ts0 ++ [tm])).e (rt (ts0 ++ [tm])).sz s'.v (rt (ts0 ++ [tm])).n (rt (ts0 ++ [tm])).cs := by
    show w'.ownsRow base tT 5 s'.v (ts0 ++ [tm]).length (tcs (ts0 ++ [tm]))
    rw [tcs_append, tcs_one, List.length_append]; exact ho
  have hgd := h.gd.set hi ho' hg hn
  have e : s.rs.set (p + 5) (rt (ts0 ++ [tm])) = (FS.rs { s with cs := s.cs.set p s', ts := s.ts.set p (ts0 ++ [tm]) }) := by
    show rq s.los :: rq s.his :: rq s.costs :: rq s.bs :: rv s.cv :: (s.ts.map rt).set p (rt (ts0 ++ [tm])) = rq s.los :: rq s.his :: rq s.costs :: rq s.bs :: rv s.cv :: (s.ts.set p (ts0 ++ [tm])).map rt
    rw [List.map_set]
  rw [e] at hgd
  refine ⟨s', Eq.refl _, ⟨hbGrow h.hb hg.size, hgd, no_set h hi hn, h.vl.map f, h.vu.map f, h.vc.map f, h.vb.map f, ?_, ?_⟩⟩
  · show (s.ts.set p (ts0 ++ [tm])).length = (X.set p (z ++ [q])).length
    rw [List.length_set, List.length_set]; exact h.xl
  · intro j t y h1 h2
    have h1 : (s.ts.set p (ts0 ++ [tm]))[j]? = some t := h1
    have hpt : p < s.ts.length := (List.getElem?_eq_some_iff.1 ht).1
    have hpx : p < X.length := (List.getElem?_eq_some_iff.1 hz).1
    by_cases hj : p = j
    · subst hj
      rw [List.getElem?_set_self hpt] at h1
      rw [List.getElem?_set_self hpx] at h2
      cases h1; cases h2
      exact ((h.vx p _ _ ht hz).map (Nat.le_refl _) f).snoc hat (f hq) hf
    · rw [List.getElem?_set_ne hj] at h1 h2
      exact (h.vx j t y h1 h2).map (Nat.le_refl _) f
/-- A column more, not in the matrix yet. -/
theorem FI.newCol (h : FI k H base w s L U C B X) {u : SlR} {tm : TmR} {q : Int × Rat} (ho : w'.ownsRow base tT 5 u.v 1 (tcs [tm])) (hx : Ext w w') (hn : ∀ c, u.v.ownBlock = some c → w.heap.size ≤ c) (hat : tm.at' = q.1) (hq : CanQ (gH H (s.ss ++ [u])) w' tm.x q.2) (hf : FitQ k q.2) :
    FI k H base w' { s with cs := s.cs ++ [u], ts := s.ts ++ [[tm]] } L U C B (X ++ [[q]]) := by
  have f : ∀ {r q}, CanQ (gH H s.ss) w r q → CanQ (gH H (s.ss ++ [u])) w' r q := fun h => (h.to (gH_push hn)).ext hx
  have hgd := h.gd.push (r := rt [tm]) ho hx hn
  have e : s.rs ++ [rt [tm]] = (FS.rs { s with cs := s.cs ++ [u], ts := s.ts ++ [[tm]] }) := by
    show rq s.los :: rq s.his :: rq s.costs :: rq s.bs :: rv s.cv :: (s.ts.map rt ++ [rt [tm]]) = rq s.los :: rq s.his :: rq s.costs :: rq s.bs :: rv s.cv :: (s.ts ++ [[tm]]).map rt
    rw [List.map_append]; rfl
  rw [e] at hgd
  have hl := h.xl
  refine ⟨h.hb.ext hx, hgd, ?_, h.vl.map f, h.vu.map f, h.vc.map f, h.vb.map f, ?_, ?_⟩
  · intro c hc t ht e2
    have ht : t ∈ s.ss ++ [u] := ht
    rw [List.mem_append, List.mem_singleton] at ht
    rcases ht with ht | ht
    · exact h.no c hc t ht e2
    · subst ht
      have := hn c e2; have := h.hb c hc; omega
  · show (s.ts ++ [[tm]]).length = (X ++ [[q]]).length
    simp [hl]
  · intro j t y h1 h2
    have h1 : (s.ts ++ [[tm]])[j]? = some t := h1
    rcases Nat.lt_or_ge j s.ts.length with hj | hj
    · rw [List.getElem?_append_left hj] at h1
      rw [List.getElem?_append_left (by omega)] at h2
      exact (h.vx j t y h1 h2).map (Nat.le_refl _) f
    · rw [List.getElem?_append_right hj] at h1
      rw [List.getElem?_append_right (by omega), ← hl] at h2
      rcases Nat.eq_zero_or_pos (j - s.ts.length) with h0 | h0
      · rw [h0] at h1 h2
        cases h1; cases h2
        exact .cons hat hq hf .nil
      · rw [List.getElem?_eq_none (by simp; omega)] at h1; cases h1
/-- .. and put into the matrix. -/
theorem FI.pushCv (h : FI k H base w s L U C B X) {v' : Value} {u : SlR} (ho : w'.ownsRow base tV 1 v' (s.cv.length + 1) (svs s.cv ++ [u.v])) (hg : w.grownBy w' s.cols.v.ownBlock) (hn : rowNew w s.cols.v v') :
    ∃ s' : SlR, v' = s'.v ∧ FI k H base w' { s with cols := s', cv := s.cv ++ [u] } L U C B X := by
  obtain ⟨s', rfl⟩ := slOf ho
  have hi : s.ss[4]? = some s.cols := Eq.refl _
  have f : ∀ {r q}, CanQ (gH H s.ss) w r q → CanQ (gH H (s.ss.set 4 s')) w' r q := fun h => canQ_set hi hg hn h
  have ho' : w'.ownsRow base (rv (s.cv ++ [u])).e (rv (s.cv ++ [u])).sz s'.v (rv (s.cv ++ [u])).n (rv (s.cv ++ [u])).cs := by
    show w'.ownsRow base tV 1 s'.v (s.cv ++ [u]).length (svs (s.cv ++ [u]))
    rw [svs_append, List.length_append]; exact ho
  exact ⟨s', Eq.refl _, ⟨hbGrow h.hb hg.size, h.gd.set hi ho' hg hn, no_set h hi hn, h.vl.map f, h.vu.map f, h.vc.map f, h.vb.map f, h.xl, fun j t z h1 h2 => (h.vx j t z h1 h2).map (Nat.le_refl _) f⟩⟩
/-- A column written in the matrix. -/
theorem FI.setCv (h : FI k H base w s L U C B X) {p : Nat} (hp : p < s.cv.length) (v : SlR) :
    StoreOk tt w tV (addrAt s.cols.a (p * 1)) v.v ∧ ∀ w', Stored w w' (addrAt s.cols.a (p * 1)) v.v.cells.toList → w.grownBy w' s.cols.v.ownBlock ∧ FI k H base w' { s with cv := s.cv.set p v } L U C B X := by
  have ho : w.ownsRow base tV 1 s.cols.v s.cv.length (svs s.cv) := h.gd.own 4 _ _ (Eq.refl _) (Eq.refl _)
  obtain ⟨g, cap, R, e, hb, hB, hnc, hcm, hl, hl2⟩ := owns_blk1 ho (Nat.lt_of_le_of_lt (Nat.zero_le _) hp)
  have e' : s.cols = ⟨some ⟨g, 0, none⟩, s.cv.length, cap⟩ := SlR.inj e
  have hp' : p < (svs s.cv).length := by rw [hl]; exact hp
  have hob : s.cols.v.ownBlock = some g := by rw [e]; rfl
  have ea : s.cols.a = some ⟨g, 0, none⟩ := by rw [e']
  rw [ea]
  refine ⟨storeOne (Eq.refl _) (Eq.refl _) hB hp', fun w' hs => ?_⟩
  obtain ⟨hB', hg⟩ := storedOne hs (Eq.refl _) (Eq.refl _) hB hp'
  have hg2 : w.grownBy w' s.cols.v.ownBlock := by rw [hob]; exact hg
  refine ⟨hg2, ?_⟩
  have hi : s.ss[4]? = some s.cols := Eq.refl _
  have hn : rowNew w s.cols.v s.cols.v := .inl (Eq.refl _)
  have f : ∀ {r q}, CanQ (gH H s.ss) w r q → CanQ (gH H (s.ss.set 4 s.cols)) w' r q := fun h => canQ_set hi hg2 hn h
  have ho' : w'.ownsRow base (rv (s.cv.set p v)).e (rv (s.cv.set p v)).sz s.cols.v (rv (s.cv.set p v)).n (rv (s.cv.set p v)).cs := by
    show w'.ownsRow base tV 1 s.cols.v (s.cv.set p v).length (svs (s.cv.set p v))
    rw [e, List.length_set, ← svs_set]
    exact owns_of_blk1 hB' hb (by rw [List.length_set]; exact hl) hnc hcm (by rw [List.length_append, List.length_set, ← List.length_append]; exact hl2)
  exact ⟨hbGrow h.hb hg.size, h.gd.set hi ho' hg2 hn, no_set h hi hn, h.vl.map f, h.vu.map f, h.vc.map f, h.vb.map f, h.xl, fun j t z h1 h2 => (h.vx j t z h1 h2).map (Nat.le_refl _) f⟩
theorem FI.getCv (h : FI k H base w s L U C B X) : s.cols.n = s.cv.length ∧ Ones w s.cols.a s.cv.length (svs s.cv) := by
  obtain ⟨a, c, e, ho, _⟩ := owns_ones (h.gd.own 4 s.cols (rv s.cv) (Eq.refl _) (Eq.refl _))
  have e' : s.cols = ⟨a, s.cv.length, c⟩ := SlR.inj e
  have ea : s.cols.a = a := by rw [e']
  rw [ea]
  exact ⟨by rw [e'], ho⟩
end
end Go.Proofs.Ytlfdobjdlgebbaa
/-
  ProgramSpans: the plain law. Helpers; no statement of the program is proved here.
-/
set_option linter.unusedSimpArgs false
set_option linter.unusedVariables false
namespace Go.Proofs.Ytlfdobjdlgebbaa
open Go Go.Tw

/-- A vector times what stands at places. -/
def dotF (x : VL) (f : Int → Rat) : Rat :=
  match x with
  | [] => 0
  | t :: x => t.2 * f t.1 + dotF x f
theorem dotL_F (x y : VL) : dotL x y = dotF x (getL y) := by
  induction x with
  | nil => rfl
  | cons t x ih => simp only [dotL, dotF, ih]
theorem dotF_append (x y : VL) (f : Int → Rat) : dotF (x ++ y) f = dotF x f + dotF y f := by
  induction x with
  | nil => simp only [List.nil_append, dotF]; grind
  | cons t x ih => simp only [List.cons_append, dotF, ih]; grind
theorem dotF_take {x : VL} {i : Nat} (h : i < x.length) (f : Int → Rat) : dotF (x.take (i + 1)) f = dotF (x.take i) f + xl x i * f (pl x i) := by
  rw [List.take_succ_eq_append_getElem h, dotF_append]
  have e : x[i] = (pl x i, xl x i) := Option.some.inj ((List.getElem?_eq_getElem h).symm.trans (vget h))
  rw [e]
  simp only [dotF]; grind
theorem dotF_congr {x : VL} {f g : Int → Rat} (h : ∀ t ∈ x, f t.1 = g t.1) : dotF x f = dotF x g := by
  induction x with
  | nil => rfl
  | cons t x ih =>
    simp only [dotF]
    rw [h t (by simp), ih fun s hs => h s (by simp [hs])]
theorem mulR {a p q : Rat} (ha : 0 ≤ a) (h : p ≤ q) : a * p ≤ a * q := by
  have h1 : 0 ≤ q - p := by grind
  have h2 := Rat.mul_nonneg ha h1
  grind
theorem mulN {a p q : Rat} (ha : a < 0) (h : p ≤ q) : a * q ≤ a * p := by
  have h1 : 0 ≤ q - p := by grind
  have h3 : 0 ≤ -a := by grind
  have h2 := Rat.mul_nonneg h3 h1
  grind
theorem min_mul {a lo hi f : Rat} (h1 : lo ≤ f) (h2 : f ≤ hi) : minQ (a * lo) (a * hi) ≤ a * f ∧ a * f ≤ maxQ (a * lo) (a * hi) := by
  unfold minQ maxQ
  by_cases ha : a < 0
  · have h3 := mulN ha h1
    have h4 := mulN ha h2
    constructor <;> split <;> grind
  · have h3 := mulR (Rat.not_lt.1 ha) h1
    have h4 := mulR (Rat.not_lt.1 ha) h2
    constructor <;> split <;> grind
theorem min_end {a lo hi : Rat} (h : lo ≤ hi) : minQ (a * lo) (a * hi) = a * (if a < 0 then hi else lo) ∧ maxQ (a * lo) (a * hi) = a * (if a < 0 then lo else hi) := by
  unfold minQ maxQ
  by_cases ha : a < 0
  · have h3 := mulN ha h
    rw [if_pos ha, if_pos ha]
    constructor <;> split <;> grind
  · have h3 := mulR (Rat.not_lt.1 ha) h
    rw [if_neg ha, if_neg ha]
    constructor <;> split <;> grind
/-- Places of a vector lie below n. -/
def Within (x : VL) (n : Nat) : Prop := ∀ i, i < x.length → 0 ≤ pl x i ∧ pl x i < (n : Int)
def loA (vs : VS) (j : Int) : Rat := (vs.getD j.toNat default).1
def hiA (vs : VS) (j : Int) : Rat := (vs.getD j.toNat default).2.1
theorem span_step {vs : VS} {x : VL} {i : Nat} (h : 0 ≤ pl x i ∧ pl x i < (vs.length : Int)) : spanQ vs x (i + 1) = ((spanQ vs x i).1 + minQ (xl x i * loA vs (pl x i)) (xl x i * hiA vs (pl x i)), (spanQ vs x i).2 + maxQ (xl x i * loA vs (pl x i)) (xl x i * hiA vs (pl x i))) := by
  simp only [spanQ]; rw [if_pos h]; rfl
/-- What lies between the bounds tells what lies in the span. -/
theorem span_within {vs : VS} {x : VL} {f : Int → Rat} (hw : Within x vs.length) (hf : ∀ j : Nat, j < vs.length → loA vs j ≤ f j ∧ f j ≤ hiA vs j) : ∀ i, i ≤ x.length → (spanQ vs x i).1 ≤ dotF (x.take i) f ∧ dotF (x.take i) f ≤ (spanQ vs x i).2 := by
  intro i
  induction i with
  | zero => intro _; simp [spanQ, dotF]
  | succ i ih =>
    intro hi
    have hp := hw i hi
    obtain ⟨i1, i2⟩ := ih (Nat.le_of_succ_le hi)
    rw [span_step hp, dotF_take hi]
    have hj := hf (pl x i).toNat (by omega)
    rw [Int.toNat_of_nonneg hp.1] at hj
    obtain ⟨m1, m2⟩ := min_mul (a := xl x i) hj.1 hj.2
    exact ⟨by show (spanQ vs x i).1 + _ ≤ _; grind, by show _ ≤ (spanQ vs x i).2 + _; grind⟩
/-- Both ends are met. -/
theorem span_ends {vs : VS} {x : VL} {f g : Int → Rat} (hw : Within x vs.length) (hv : ∀ j : Nat, j < vs.length → loA vs j ≤ hiA vs j)
    (hf : ∀ i, i < x.length → f (pl x i) = if xl x i < 0 then hiA vs (pl x i) else loA vs (pl x i)) (hg : ∀ i, i < x.length → g (pl x i) = if xl x i < 0 then loA vs (pl x i) else hiA vs (pl x i)) :
    ∀ i, i ≤ x.length → (spanQ vs x i).1 = dotF (x.take i) f ∧ (spanQ vs x i).2 = dotF (x.take i) g := by
  intro i
  induction i with
  | zero => intro _; exact ⟨rfl, rfl⟩
  | succ i ih =>
    intro hi
    have hp := hw i hi
    obtain ⟨i1, i2⟩ := ih (Nat.le_of_succ_le hi)
    rw [span_step hp, dotF_take hi, dotF_take hi]
    have hj := hv (pl x i).toNat (by omega)
    rw [Int.toNat_of_nonneg hp.1] at hj
    obtain ⟨m1, m2⟩ := min_end (a := xl x i) hj
    rw [m1, m2, i1, i2, hf i hi, hg i hi]
    exact ⟨rfl, rfl⟩
end Go.Proofs.Ytlfdobjdlgebbaa
/-
  Rows of fractions side by side; numbers as a vector. Helpers; no statement of the program is proved here.
-/
set_option maxRecDepth 100000
set_option linter.unusedSimpArgs false
set_option linter.unusedVariables false
namespace Go.Proofs.Ytlfdobjdlgebbaa
open Go Go.Tw Go.RowKit
attribute [local irreducible] LoadAt StoreOk Stored rawVC

/-- Rows of fractions that are being built, side by side. -/
structure QRows (k base : Nat) (w : World) (ss : List SlR) (rss : List (List RatR)) (qss : List (List Rat)) : Prop where
  gd : Gd H0 base w ss (rss.map rq)
  len : rss.length = qss.length
  at' : ∀ (i : Nat) rs qs, rss[i]? = some rs → qss[i]? = some qs → rs.length = qs.length ∧ ∀ (j : Nat) r q, rs[j]? = some r → qs[j]? = some q → InQ k (gH H0 ss) w r q
section
variable {k base : Nat} {w w' : World} {ss : List SlR} {rss : List (List RatR)} {qss : List (List Rat)}
theorem QRows.ext (h : QRows k base w ss rss qss) (x : Ext w w') : QRows k base w' ss rss qss :=
  ⟨h.gd.ext x, h.len, fun i rs qs h1 h2 => ⟨(h.at' i rs qs h1 h2).1, fun j r q h3 h4 => ((h.at' i rs qs h1 h2).2 j r q h3 h4).ext x⟩⟩
theorem QRows.hb (h : QRows k base w ss rss qss) : HB (gH H0 ss) w := h.gd.hb (H0.hb w)
theorem QRows.toB (h : QRows k base w ss rss qss) : ∀ b, gH H0 ss b → H0 b ∨ base ≤ b := by
  rintro b (hb | ⟨t, ht, hb⟩)
  · exact .inl hb
  · obtain ⟨i, hi, rfl⟩ := List.getElem_of_mem ht
    exact .inr (h.gd.lt (List.getElem?_eq_getElem hi) hb).1
theorem QRows.nils (n : Nat) (k base : Nat) (w : World) : QRows k base w (List.replicate n ⟨none, 0, 0⟩) (List.replicate n []) (List.replicate n []) := by
  refine ⟨⟨by simp, fun i s r h1 h2 => ?_, fun i j s t c h1 h2 h3 h4 => ?_⟩, by simp, fun i rs qs h1 h2 => ?_⟩
  · rw [List.getElem?_replicate] at h1
    rw [List.getElem?_map, List.getElem?_replicate] at h2
    split at h1
    · rename_i hi
      rw [if_pos hi] at h2
      cases h1; cases h2
      exact nil_own
    · cases h1
  · rw [List.getElem?_replicate] at h1
    split at h1
    · cases h1; cases h3
    · cases h1
  · rw [List.getElem?_replicate] at h1 h2
    split at h1
    · rename_i hi
      rw [if_pos hi] at h2
      cases h1; cases h2
      exact ⟨rfl, fun j r q h => by simp at h⟩
    · cases h1
/-- A fraction more in one of the rows. -/
theorem QRows.push (h : QRows k base w ss rss qss) {i : Nat} {s : SlR} {rs : List RatR} {qs : List Rat} (hs : ss[i]? = some s) (hr : rss[i]? = some rs) (hq : qss[i]? = some qs) {v' : Value} {r : RatR} {q : Rat}
    (ho : w'.ownsRow base tRat 4 v' (rs.length + 1) (gcs rs ++ rcs r)) (hg : w.grownBy w' s.v.ownBlock) (hn : rowNew w s.v v') (hin : InQ k (gH H0 ss) w r q) :
    ∃ s' : SlR, v' = s'.v ∧ QRows k base w' (ss.set i s') (rss.set i (rs ++ [r])) (qss.set i (qs ++ [q])) := by
  obtain ⟨s', rfl⟩ := slOf ho
  have f : ∀ {r q}, InQ k (gH H0 ss) w r q → InQ k (gH H0 (ss.set i s')) w' r q := fun h => inQ_set hs hg hn h
  have ho' : w'.ownsRow base (rq (rs ++ [r])).e (rq (rs ++ [r])).sz s'.v (rq (rs ++ [r])).n (rq (rs ++ [r])).cs := by
    show w'.ownsRow base tRat 4 s'.v (rs ++ [r]).length (gcs (rs ++ [r]))
    rw [gcs_append, gcs_one, List.length_append]; exact ho
  have hgd := h.gd.set hs ho' hg hn
  rw [← List.map_set] at hgd
  have hil : i < rss.length := (List.getElem?_eq_some_iff.1 hr).1
  have hiq : i < qss.length := (List.getElem?_eq_some_iff.1 hq).1
  obtain ⟨hl, hall⟩ := h.at' i rs qs hr hq
  refine ⟨s', Eq.refl _, hgd, by rw [List.length_set, List.length_set]; exact h.len, fun j rs1 qs1 h1 h2 => ?_⟩
  by_cases hj : i = j
  · subst hj
    rw [List.getElem?_set_self hil] at h1
    rw [List.getElem?_set_self hiq] at h2
    cases h1; cases h2
    refine ⟨by rw [List.length_append, List.length_append, hl]; rfl, fun m r1 q1 h3 h4 => ?_⟩
    rcases Nat.lt_or_ge m rs.length with hm | hm
    · rw [List.getElem?_append_left hm] at h3
      rw [List.getElem?_append_left (by omega)] at h4
      exact f (hall m r1 q1 h3 h4)
    · rw [List.getElem?_append_right hm] at h3
      rw [List.getElem?_append_right (by omega), ← hl] at h4
      rcases Nat.eq_zero_or_pos (m - rs.length) with h0 | h0
      · rw [h0] at h3 h4
        cases h3; cases h4
        exact f hin
      · rw [List.getElem?_eq_none (by simp; omega)] at h3; cases h3
  · rw [List.getElem?_set_ne hj] at h1 h2
    exact ⟨(h.at' j rs1 qs1 h1 h2).1, fun m r1 q1 h3 h4 => f ((h.at' j rs1 qs1 h1 h2).2 m r1 q1 h3 h4)⟩
/-- One of the rows, read. -/
theorem QRows.pt (h : QRows k base w ss rss qss) {i : Nat} {s : SlR} {rs : List RatR} {qs : List Rat} (hs : ss[i]? = some s) (hr : rss[i]? = some rs) (hq : qss[i]? = some qs) : PtI k H0 w s rs qs ∧ s.n = qs.length ∧ s.n ≤ s.c ∧ s.c ≤ 9223372036854775807 := by
  have ho := h.gd.own i s (rq rs) hs (by rw [List.getElem?_map, hr]; rfl)
  obtain ⟨n1, g1, c1, c2⟩ := owns_gr (s := s) (xs := rs) ho
  obtain ⟨hl, hall⟩ := h.at' i rs qs hr hq
  exact ⟨⟨g1, hl, fun j r q h1 h2 => (hall j r q h1 h2).to (fun b hb => hb.elim)⟩, by rw [n1]; exact hl, c1, c2⟩
/-- What lies ahead of the rows is kept when one grows. -/
theorem QRows.grown_ext {w0 : World} (h : QRows k base w ss rss qss) {i : Nat} {s : SlR} (hs : ss[i]? = some s) (hg : w.grownBy w' s.v.ownBlock) (hx : Ext w0 w) (hb : w0.heap.size ≤ base) : Ext w0 w' := by
  refine ⟨hg.os.trans hx.os, hg.tape.trans hx.tape, hg.output.trans hx.output, Nat.le_trans hx.size hg.size, fun c hc => ?_⟩
  rw [hg.block c (Nat.lt_of_lt_of_le hc hx.size) (fun e => by have := (h.gd.lt hs e.symm).1; omega)]
  exact hx.block c hc
end
/-- Numbers at 0, 1, 2 .. -/
def ofV (qs : List Rat) : VL := (List.range qs.length).map fun j : Nat => ((j : Int), qs.getD j 0)
theorem getL_range (f : Nat → Rat) (n : Nat) (j : Int) : getL ((List.range n).map fun i : Nat => ((i : Int), f i)) j = if 0 ≤ j ∧ j < (n : Int) then f j.toNat else 0 := by
  induction n with
  | zero => rw [if_neg (by omega)]; rfl
  | succ n ih =>
    rw [List.range_succ, List.map_append, getL_append, ih]
    simp only [List.map_cons, List.map_nil, getL]
    by_cases h1 : (n : Int) = j
    · rw [if_neg (by omega), if_pos h1, if_pos (by omega), ← h1, Int.toNat_natCast]; grind
    · rw [if_neg h1]
      by_cases h2 : 0 ≤ j ∧ j < (n : Int)
      · rw [if_pos h2, if_pos (by omega)]; grind
      · rw [if_neg h2, if_neg (by omega)]; grind
theorem getL_ofV {qs : List Rat} {j : Int} (h : 0 ≤ j ∧ j < (qs.length : Int)) : getL (ofV qs) j = qs.getD j.toNat 0 := by
  unfold ofV; rw [getL_range, if_pos h]
theorem ofV_length (qs : List Rat) : (ofV qs).length = qs.length := by simp [ofV]
theorem dotL_of {x : VL} {qs : List Rat} (h : Within x qs.length) : dotL x (nrm (ofV qs)) = dotF x (fun j => qs.getD j.toNat 0) := by
  rw [dotL_F]
  refine dotF_congr fun t ht => ?_
  obtain ⟨i, hi, rfl⟩ := List.getElem_of_mem ht
  have hw := h i hi
  have e : x[i] = (pl x i, xl x i) := Option.some.inj ((List.getElem?_eq_getElem hi).symm.trans (vget hi))
  rw [nrm_get, e]
  exact getL_ofV hw
end Go.Proofs.Ytlfdobjdlgebbaa
/-
  Contracts of the watch's helpers: what is long; numbers as a vector. Helpers; no statement of the program is proved here.
-/
set_option maxRecDepth 100000
set_option linter.unusedSimpArgs false
set_option linter.unusedVariables false
namespace Go.Proofs.Ytlfdobjdlgebbaa
open Go Go.Tw Go.RowKit
attribute [local irreducible] LoadAt StoreOk Stored rawVC

/-- A field of a row's element: several cells, or one. -/
theorem _root_.Go.Tw.Gr.loadF {α : Type} [Enc α] {T : TT} {w : World} {a : Option Addr} {n : Nat} {xs : List α} {j k sz ty : Nat} {t : α} {sub : List Value} (h : Gr w a n xs) (hj : xs[j]? = some t) (hs : sz = Enc.k α) (hsub : ∀ (i : Nat) v, sub[i]? = some v → (Enc.cs t)[k + i]? = some v)
    (hk : (known (tyAt T ty) && (tyAt T ty).agg && Nat.beq sub.length (tyAt T ty).size) = true) : LoadAt T w ty ⟨Tw.blk a, ofs a + j * sz + k, none⟩ (.agg sub.toArray) := by
  subst hs
  refine loadAgg (cs := sub) hk fun i u hu => ?_
  rw [Addr.add_lit]
  have := h.get (j * Enc.k α + (k + i)) u (gcs_get hj (hsub i u hu))
  rw [← this]
  show w.cell? ⟨Tw.blk a, ofs a + j * Enc.k α + k + i, none⟩ = w.cell? ⟨Tw.blk a, ofs a + (j * Enc.k α + (k + i)), none⟩
  rw [Nat.add_assoc, Nat.add_assoc]
theorem _root_.Go.Tw.Gr.loadF1 {α : Type} [Enc α] {T : TT} {w : World} {a : Option Addr} {n : Nat} {xs : List α} {j k sz ty : Nat} {t : α} {v : Value} (h : Gr w a n xs) (hj : xs[j]? = some t) (hs : sz = Enc.k α) (hv : (Enc.cs t)[k]? = some v) (hk : (known (tyAt T ty) && !(tyAt T ty).agg) = true) : LoadAt T w ty ⟨Tw.blk a, ofs a + j * sz + k, none⟩ v := by
  subst hs
  refine loadScalar hk ?_
  have := h.get (j * Enc.k α + k) v (gcs_get hj hv)
  rw [← this]
  show w.cell? ⟨Tw.blk a, ofs a + j * Enc.k α + k, none⟩ = w.cell? ⟨Tw.blk a, ofs a + (j * Enc.k α + k), none⟩
  rw [Nat.add_assoc]
theorem sub_of {cs pre sub post : List Value} (h : cs = pre ++ (sub ++ post)) : ∀ (i : Nat) v, sub[i]? = some v → cs[pre.length + i]? = some v := by
  intro i v hi
  have hlt : i < sub.length := by
    rcases Nat.lt_or_ge i sub.length with h' | h'
    · exact h'
    · rw [List.getElem?_eq_none h'] at hi; cases hi
  rw [h, List.getElem?_append_right (by omega), Nat.add_sub_cancel_left, List.getElem?_append_left hlt]
  exact hi
/-- Short numbers in all terms. -/
def shs (ts : List TmR) (m : Nat) : Prop := ∀ t ∈ ts, shQ t.x m
instance (ts : List TmR) (m : Nat) : Decidable (shs ts m) := inferInstanceAs (Decidable (∀ t ∈ ts, _))
theorem LongRat_ok {w : World} (r : RatR) (m : Nat) :
    CallS Try.prog 124 #[r.v, .int .i64 (m : Int)] w fun v w' => Ext w w' ∧ v = .bool (!decide (shQ r m)) := by
  refine enter ttOk mixed (args := [r.v, .int .i64 (m : Int)]) Try.func124 rfl (by kernel_rfl) (by kernel_rfl) rfl ?_
  intro b w1 hb1
  have hB : Blk w1 b 33 [.bool r.num.neg, .slice r.num.a r.num.n r.num.c, .bool r.den.neg, .slice r.den.a r.den.n r.den.c] := hb1.toBlk
  refine ⟨_, hB.one (off := 1) rfl rfl, ?_⟩
  refine And.intro (fun h1 => ?_) (fun h1 => ?_)
  · exact ⟨hb1.ext, by rw [decide_eq_false (show ¬ shQ r m from fun h => by have := h.1; omega)]; rfl⟩
  refine ⟨_, hB.one (off := 3) rfl rfl, ?_⟩
  refine And.intro (fun h2 => ?_) (fun h2 => ?_)
  · exact ⟨hb1.ext, by rw [decide_eq_false (show ¬ shQ r m from fun h => by have := h.2; omega)]; rfl⟩
  · exact ⟨hb1.ext, by rw [decide_eq_true (show shQ r m from ⟨by omega, by omega⟩)]; rfl⟩
theorem longVec_ok {w : World} {r : SlR} {ts : List TmR} (hT : Tms w r.a r.n ts) (hn : r.n ≤ 1099511627776) (m : Nat) :
    CallS Try.prog 123 #[r.v, .int .i64 (m : Int)] w fun v w' => Ext w w' ∧ v = .bool (!decide (shs ts m)) := by
  have htl := hT.len
  refine enter ttOk mixed (args := [r.v, .int .i64 (m : Int)]) Try.func123 rfl (by kernel_rfl) (by kernel_rfl) rfl ?_
  refine ⟨Nat × Bool, fun x => [(0, r.v), (1, .int .i64 (m : Int)), (5, .bool x.2), (6, .int .i64 (x.1 : Int))],
    fun x w' => Ext w w' ∧ x.1 ≤ r.n ∧ x.2 = !decide (shs (ts.take x.1) m), fun x _ => r.n - x.1, ⟨(0, false), ⟨rfl, rfl, rfl, rfl, trivial⟩, Ext.rfl w, Nat.zero_le _, by rw [decide_eq_true (show shs (ts.take 0) m from fun t ht => by simp at ht)]; rfl⟩, ?_⟩
  rintro ⟨i, b⟩ w1 ⟨hx1, hi, hb⟩
  dsimp only at *
  refine And.intro (fun h1 => ?_) (fun h1 => ?_)
  · have hin := ltTo h1
    have hg : ts[i]? = some (ts.getD i default) := by rw [List.getD_eq_getElem?_getD, List.getElem?_eq_getElem (by omega)]; rfl
    have step : ∀ c : Bool, (b = true → c = true) → (b = false → c = !decide (shQ (ts.getD i default).x m)) → c = !decide (shs (ts.take (i + 1)) m) := by
      intro c h1 h2
      rw [take_succD (show i < ts.length by omega)]
      cases hbb : b with
      | true =>
        rw [h1 hbb]
        have : ¬ shs (ts.take i) m := by
          intro h; rw [decide_eq_true h] at hb; rw [hbb] at hb; cases hb
        rw [decide_eq_false (fun h => this fun t ht => h t (List.mem_append_left _ ht))]; rfl
      | false =>
        rw [h2 hbb]
        have hall : shs (ts.take i) m := by
          by_cases h : shs (ts.take i) m
          · exact h
          · rw [decide_eq_false h] at hb; rw [hbb] at hb; cases hb
        congr 1
        refine decide_eq_decide.2 ⟨fun h t ht => ?_, fun h => h _ (List.mem_append_right _ (List.mem_singleton.2 rfl))⟩
        rcases List.mem_append.1 ht with ht | ht
        · exact hall t ht
        · rw [List.mem_singleton.1 ht]; exact h
    cases hbb : b with
    | true =>
      exact ⟨((i + 1 : Nat) : Int), sucI i (by omega), (i + 1, true), ⟨rfl, rfl, rfl, rfl, trivial⟩, ⟨hx1, hin, step true (fun _ => rfl) (fun h => by rw [hbb] at h; cases h)⟩, Nat.sub_lt_sub_left hin (Nat.lt_succ_self i)⟩
    | false =>
      refine ⟨i, ⟨rfl, hin, hT.base (by omega)⟩, _, (hT.ext hx1).loadX (T := tt) (ty := 33) (sz := 5) hg rfl rfl, ?_⟩
      refine CallS.mono (LongRat_ok _ m) ?_
      rintro _ w2 ⟨hx2, rfl⟩
      exact ⟨((i + 1 : Nat) : Int), sucI i (by omega), (i + 1, !decide (shQ (ts.getD i default).x m)), ⟨rfl, rfl, rfl, rfl, trivial⟩, ⟨Ext.trans' hx1 hx2, hin, step _ (fun h => by rw [hbb] at h; cases h) (fun _ => rfl)⟩, Nat.sub_lt_sub_left hin (Nat.lt_succ_self i)⟩
  · have e : i = r.n := Nat.le_antisymm hi (geTo h1)
    rw [List.take_of_length_le (by omega)] at hb
    exact ⟨hx1, by rw [← hb]; rfl⟩
theorem Long_ok {w : World} {p : PrgR} {vr : List VarR} {rr : List RowR} {ct : List TmR} {rts : List (List TmR)} (hv : Gr w p.vars.a p.vars.n vr) (hr : Gr w p.rows.a p.rows.n rr) (hc : Tms w p.cost.a p.cost.n ct)
    (hrt : ∀ (j : Nat) r ts, rr[j]? = some r → rts[j]? = some ts → Tms w r.a.a r.a.n ts ∧ r.a.n ≤ 1099511627776) (hl : rts.length = rr.length) (hn : p.vars.n ≤ 1099511627776 ∧ p.rows.n ≤ 1099511627776 ∧ p.cost.n ≤ 1099511627776) (m : Nat) :
    CallS Try.prog 92 #[p.v, .int .i64 (m : Int)] w fun v w' => Ext w w' ∧ ∃ b : Bool, v = .bool b ∧ (b = false → (shs ct m) ∧ (∀ (j : Nat) v, vr[j]? = some v → shQ v.lo m ∧ shQ v.hi m) ∧ ∀ (j : Nat) r ts, rr[j]? = some r → rts[j]? = some ts → (shs ts m) ∧ shQ r.b m) := by
  obtain ⟨hn1, hn2, hn3⟩ := hn
  have hvn := hv.len
  have hrn := hr.len
  refine enter ttOk mixed (args := [p.v, .int .i64 (m : Int)]) Try.func92 rfl (by kernel_rfl) (by kernel_rfl) rfl ?_
  intro b2 w1 hb2
  have x1 := hb2.ext
  have hB1 : Blk w1 b2 tPrg p.cs := hb2.toBlk
  refine ⟨_, hB1.one (off := 2) rfl rfl, ?_⟩
  have hcx : Tms w1 p.cost.a p.cost.n ct := hc.ext x1
  refine CallS.mono (longVec_ok hcx hn3 m) ?_
  rintro _ w2 ⟨hx2, rfl⟩
  have x2 := Ext.trans' x1 hx2
  refine ⟨Nat × Bool, fun x => [(1, .int .i64 (m : Int)), (2, .pointer (some ⟨b2, 0, none⟩)), (5, .bool x.2), (6, .int .i64 (x.1 : Int))],
    fun x w' => Ext w1 w' ∧ x.1 ≤ p.vars.n ∧ (x.2 = false → (shs ct m) ∧ ∀ (j : Nat) v, j < x.1 → vr[j]? = some v → shQ v.lo m ∧ shQ v.hi m), fun x _ => p.vars.n - x.1,
    ⟨(0, !decide (shs ct m)), ⟨rfl, rfl, rfl, rfl, trivial⟩, hx2, Nat.zero_le _, fun h => ⟨by simpa using h, fun j v hj => absurd hj (Nat.not_lt_zero _)⟩⟩, ?_⟩
  rintro ⟨i, b⟩ w3 ⟨hx3, hi, hb⟩
  dsimp only at *
  have hx03 := Ext.trans' x1 hx3
  refine ⟨_, (hB1.ext hx3).one (off := 0) rfl rfl, ?_⟩
  refine And.intro (fun h1 => ?_) (fun h1 => ?_)
  · have hin := ltTo h1
    have hg := gr_getD hv hin
    have hvx := hv.ext hx03
    generalize vr.getD i default = v at hg
    cases hbb : b with
    | true =>
      exact ⟨((i + 1 : Nat) : Int), sucI i (by omega), (i + 1, true), ⟨rfl, rfl, rfl, rfl, trivial⟩, ⟨hx3, hin, fun h => by cases h⟩, Nat.sub_lt_sub_left hin (Nat.lt_succ_self i)⟩
    | false =>
      obtain ⟨hb1, hb2'⟩ := hb hbb
      refine ⟨_, (hB1.ext hx3).one (off := 0) rfl rfl, ?_⟩
      refine ⟨i, ⟨rfl, hin, hvx.base (by omega)⟩, v.lo.v, hvx.loadF (T := tt) (k := 0) (sub := rcs v.lo) hg rfl (sub_of (pre := []) rfl) rfl, ?_⟩
      refine CallS.mono (LongRat_ok v.lo m) ?_
      rintro _ w4 ⟨hx4, rfl⟩
      by_cases hs1 : shQ v.lo m
      · rw [decide_eq_true hs1]
        refine ⟨_, (hB1.ext (Ext.trans' hx3 hx4)).one (off := 0) rfl rfl, ?_⟩
        refine ⟨i, ⟨rfl, hin, hvx.base (by omega)⟩, v.hi.v, (hvx.ext hx4).loadF (T := tt) (k := 4) (sub := rcs v.hi) hg rfl (sub_of (pre := rcs v.lo) (post := [.bool v.int]) rfl) rfl, ?_⟩
        refine CallS.mono (LongRat_ok v.hi m) ?_
        rintro _ w5 ⟨hx5, rfl⟩
        refine ⟨((i + 1 : Nat) : Int), sucI i (by omega), (i + 1, !decide (shQ v.hi m)), ⟨rfl, rfl, rfl, rfl, trivial⟩, ⟨Ext.trans' hx3 (Ext.trans' hx4 hx5), hin, fun h => ⟨hb1, fun j v' hj hjv => ?_⟩⟩, Nat.sub_lt_sub_left hin (Nat.lt_succ_self i)⟩
        rcases Nat.lt_or_eq_of_le (Nat.le_of_lt_succ hj) with h' | h'
        · exact hb2' j v' h' hjv
        · subst h'
          rw [hg] at hjv; cases hjv
          exact ⟨hs1, by simpa using h⟩
      · rw [decide_eq_false hs1]
        exact ⟨((i + 1 : Nat) : Int), sucI i (by omega), (i + 1, true), ⟨rfl, rfl, rfl, rfl, trivial⟩, ⟨Ext.trans' hx3 hx4, hin, fun h => by cases h⟩, Nat.sub_lt_sub_left hin (Nat.lt_succ_self i)⟩
  · have hi' : i = p.vars.n := Nat.le_antisymm hi (geTo h1)
    refine ⟨Nat × Bool, fun x => [(1, .int .i64 (m : Int)), (2, .pointer (some ⟨b2, 0, none⟩)), (5, .bool x.2), (7, .int .i64 (x.1 : Int))],
      fun x w' => Ext w1 w' ∧ x.1 ≤ p.rows.n ∧ (x.2 = false → b = false ∧ ∀ (j : Nat) r ts, j < x.1 → rr[j]? = some r → rts[j]? = some ts → (shs ts m) ∧ shQ r.b m), fun x _ => p.rows.n - x.1,
      ⟨(0, b), ⟨rfl, rfl, rfl, rfl, trivial⟩, hx3, Nat.zero_le _, fun h => ⟨h, fun j v ts hj => absurd hj (Nat.not_lt_zero _)⟩⟩, ?_⟩
    rintro ⟨q, c⟩ w4 ⟨hx4, hq, hc2⟩
    dsimp only at *
    have hx04 := Ext.trans' x1 hx4
    refine ⟨_, (hB1.ext hx4).one (off := 1) rfl rfl, ?_⟩
    refine And.intro (fun h2 => ?_) (fun h2 => ?_)
    · have hqn := ltTo h2
      have hg := gr_getD hr hqn
      have hrx := hr.ext hx04
      have hgt : rts[q]? = some (rts.getD q []) := by rw [List.getD_eq_getElem?_getD, List.getElem?_eq_getElem (by omega)]; rfl
      generalize rr.getD q default = r at hg
      generalize rts.getD q [] = ts at hgt
      obtain ⟨hT, hTn⟩ := hrt q r ts hg hgt
      cases hcc : c with
      | true =>
        exact ⟨((q + 1 : Nat) : Int), sucI q (by omega), (q + 1, true), ⟨rfl, rfl, rfl, rfl, trivial⟩, ⟨hx4, hqn, fun h => by cases h⟩, Nat.sub_lt_sub_left hqn (Nat.lt_succ_self q)⟩
      | false =>
        obtain ⟨hb1, hb2'⟩ := hc2 hcc
        refine ⟨_, (hB1.ext hx4).one (off := 1) rfl rfl, ?_⟩
        refine ⟨q, ⟨rfl, hqn, hrx.base (by omega)⟩, r.a.v, hrx.loadF1 (T := tt) (k := 0) (v := r.a.v) hg rfl rfl rfl, ?_⟩
        refine CallS.mono (longVec_ok (hT.ext hx04) hTn m) ?_
        rintro _ w5 ⟨hx5, rfl⟩
        by_cases hs1 : shs ts m
        · rw [decide_eq_true hs1]
          refine ⟨_, (hB1.ext (Ext.trans' hx4 hx5)).one (off := 1) rfl rfl, ?_⟩
          refine ⟨q, ⟨rfl, hqn, hrx.base (by omega)⟩, r.b.v, (hrx.ext hx5).loadF (T := tt) (k := 2) (sub := rcs r.b) hg rfl (sub_of (pre := [r.a.v, .int .u8 r.kind]) (post := []) rfl) rfl, ?_⟩
          refine CallS.mono (LongRat_ok r.b m) ?_
          rintro _ w6 ⟨hx6, rfl⟩
          refine ⟨((q + 1 : Nat) : Int), sucI q (by omega), (q + 1, !decide (shQ r.b m)), ⟨rfl, rfl, rfl, rfl, trivial⟩, ⟨Ext.trans' hx4 (Ext.trans' hx5 hx6), hqn, fun h => ⟨hb1, fun j r' ts' hj hjr hjt => ?_⟩⟩, Nat.sub_lt_sub_left hqn (Nat.lt_succ_self q)⟩
          rcases Nat.lt_or_eq_of_le (Nat.le_of_lt_succ hj) with h' | h'
          · exact hb2' j r' ts' h' hjr hjt
          · subst h'
            rw [hg] at hjr; cases hjr
            rw [hgt] at hjt; cases hjt
            exact ⟨hs1, by simpa using h⟩
        · rw [decide_eq_false hs1]
          exact ⟨((q + 1 : Nat) : Int), sucI q (by omega), (q + 1, true), ⟨rfl, rfl, rfl, rfl, trivial⟩, ⟨Ext.trans' hx4 hx5, hqn, fun h => by cases h⟩, Nat.sub_lt_sub_left hqn (Nat.lt_succ_self q)⟩
    · have hq' : q = p.rows.n := Nat.le_antisymm hq (geTo h2)
      refine ⟨Ext.trans' x1 hx4, c, rfl, fun h => ?_⟩
      obtain ⟨h3, h4⟩ := hc2 h
      obtain ⟨h5, h6⟩ := hb h3
      have lt {α : Type} {l : List α} {j : Nat} {x : α} (h : l[j]? = some x) : j < l.length := (List.getElem?_eq_some_iff.1 h).1
      exact ⟨h5, fun j v hv' => h6 j v (by have := lt hv'; omega) hv', fun j r ts hr' ht' => h4 j r ts (by have := lt hr'; omega) hr' ht'⟩
theorem great15_ok {w : World} {p : PrgR} {vr : List VarR} {rr : List RowR} {ct : List TmR} {rts : List (List TmR)} (hv : Gr w p.vars.a p.vars.n vr) (hr : Gr w p.rows.a p.rows.n rr) (hc : Tms w p.cost.a p.cost.n ct)
    (hrt : ∀ (j : Nat) r ts, rr[j]? = some r → rts[j]? = some ts → Tms w r.a.a r.a.n ts ∧ r.a.n ≤ 1099511627776) (hl : rts.length = rr.length) (hn : p.vars.n ≤ 1099511627776 ∧ p.rows.n ≤ 1099511627776 ∧ p.cost.n ≤ 1099511627776) :
    CallS Try.prog 51 #[p.v] w fun v w' => Ext w w' ∧ ∃ b : Bool, v = .bool b ∧ (b = false → p.vars.n ≤ 12 ∧ p.rows.n ≤ 12 ∧ (shs ct 8) ∧ (∀ (j : Nat) v, vr[j]? = some v → shQ v.lo 8 ∧ shQ v.hi 8) ∧ ∀ (j : Nat) r ts, rr[j]? = some r → rts[j]? = some ts → (shs ts 8) ∧ shQ r.b 8) := by
  refine enter ttOk mixed (args := [p.v]) Try.func51 rfl (by kernel_rfl) (by kernel_rfl) rfl ?_
  intro b2 w1 hb2
  have x1 := hb2.ext
  have hB1 : Blk w1 b2 tPrg p.cs := hb2.toBlk
  refine ⟨_, hB1.one (off := 0) rfl rfl, ?_⟩
  refine And.intro (fun h1 => ?_) (fun h1 => ?_)
  · exact ⟨x1, true, rfl, fun h => by cases h⟩
  refine ⟨_, hB1.one (off := 1) rfl rfl, ?_⟩
  refine And.intro (fun h2 => ?_) (fun h2 => ?_)
  · exact ⟨x1, true, rfl, fun h => by cases h⟩
  refine ⟨p.v, hB1.agg (sub := p.cs) rfl rfl, ?_⟩
  refine CallS.mono (Long_ok (hv.ext x1) (hr.ext x1) (hc.ext x1) (fun j r ts h1 h2 => ⟨(hrt j r ts h1 h2).1.ext x1, (hrt j r ts h1 h2).2⟩) hl hn 8) ?_
  rintro _ w2 ⟨hx2, b, rfl, hb⟩
  exact ⟨Ext.trans' x1 hx2, b, rfl, fun h => ⟨by omega, by omega, hb h⟩⟩
/-! ### numbers as a vector -/
def ofT (rs : List RatR) (i : Nat) : List TmR := (List.range i).map fun j : Nat => ⟨(j : Int), rs.getD j default⟩
theorem ofT_succ (rs : List RatR) (i : Nat) : ofT rs (i + 1) = ofT rs i ++ [⟨(i : Int), rs.getD i default⟩] := by
  unfold ofT; rw [List.range_succ, List.map_append]; rfl
theorem OfH_ok {k : Nat} {H : Hd} {w : World} {rp : SlR} {rs : List RatR} {qs : List Rat} (hH : HB H w) (hp : PtI k H w rp rs qs) (hk : k ≤ 1073741824) (hn : qs.length ≤ 21) :
    CallS Try.prog 54 #[rp.v] w fun v w' => Ext w w' ∧ ∃ s : SlR, v = s.v ∧ CanV (nK k) H w' s (nrm (ofV qs)) := by
  have hpl := hp.row.len
  have hql := hp.len
  refine enter ttOk mixed (args := [rp.v]) Try.func54 rfl (by kernel_rfl) (by kernel_rfl) rfl ?_
  refine ⟨Nat × SlR, fun x => [(3, x.2.v), (6, rp.v), (7, .int .i64 (rp.n : Int)), (8, .int .i64 (x.1 : Int))],
    fun x w' => Ext w w' ∧ x.1 ≤ rp.n ∧ w'.ownsRow w.heap.size tT 5 x.2.v x.1 (tcs (ofT rs x.1)), fun x _ => rp.n - x.1, ⟨(0, ⟨none, 0, 0⟩), ⟨rfl, rfl, rfl, rfl, trivial⟩, Ext.rfl w, Nat.zero_le _, nil_own⟩, ?_⟩
  rintro ⟨i, s⟩ w1 ⟨hx1, hi, ho⟩
  dsimp only at *
  refine And.intro (fun h1 => ?_) (fun h1 => ?_)
  · have hin := ltTo h1
    have hg := gr_getD hp.row hin
    refine ⟨i, ⟨rfl, hin, hp.row.base (by omega)⟩, _, (hp.row.ext hx1).load hg rfl rfl, ?_⟩
    intro b5 w2 hb5
    have st := storeE (T := tt) (ty := tRat) (rs.getD i default) hb5.toBlk rfl
    refine ⟨st.1, fun w3 hs3 => ?_⟩
    obtain ⟨hB5, hg3⟩ := st.2 w3 hs3
    have hx13 : Ext w1 w3 := Ext.grownB hb5.ext hg3 (hb5.ge (Ext.rfl w1))
    refine ⟨(rs.getD i default).v, hB5.agg (sub := rcs (rs.getD i default)) rfl rfl, ?_⟩
    intro b6 w4 hb6
    have hb6 : New w3 w4 b6 tT (tcs [⟨(i : Int), rs.getD i default⟩]) := hb6
    have hx14 := Ext.trans' hx13 hb6.ext
    have hB6 := hb6.toBlk
    have ho4 := owns_ext' ho hx14
    refine ⟨rfl, w.heap.size, i, tcs (ofT rs i), tcs [⟨(i : Int), rs.getD i default⟩], ⟨ho4, rfl, ?_, tcs_mem_one _, fun _ => ⟨_, rfl, rfl⟩, by omega, by show (i + 1) * 72 ≤ _; omega, Nat.le_trans hx1.size hx14.size⟩, ?_⟩
    · intro e v he
      exact hB6.cell (i := 0 + e) (v := v) (by rw [Nat.zero_add]; exact he)
    intro v5 w5 ho5 hg5 hn5
    obtain ⟨s', rfl⟩ := slOf ho5
    refine ⟨((i + 1 : Nat) : Int), sucI i (by omega), (i + 1, s'), ⟨rfl, rfl, rfl, rfl, trivial⟩, ⟨?_, hin, ?_⟩, Nat.sub_lt_sub_left hin (Nat.lt_succ_self i)⟩
    · refine ⟨hg5.os.trans (Ext.trans' hx1 hx14).os, hg5.tape.trans (Ext.trans' hx1 hx14).tape, hg5.output.trans (Ext.trans' hx1 hx14).output, Nat.le_trans (Ext.trans' hx1 hx14).size hg5.size, fun c hc => ?_⟩
      rw [hg5.block c (Nat.lt_of_lt_of_le hc (Ext.trans' hx1 hx14).size) (fun e => by have := (owns_in ho4 e.symm).1; omega)]
      exact (Ext.trans' hx1 hx14).block c hc
    · rw [ofT_succ, tcs_append]; exact ho5
  · have hi' : i = rp.n := Nat.le_antisymm hi (geTo h1)
    have hln : (ofT rs i).length = i := by simp [ofT]
    have ho' : w1.ownsRow w.heap.size tT 5 s.v i (tcs (ofT rs i)) := ho
    have hsn : s.n = i := by
      rcases ho'.2 with ⟨he, h0⟩ | ⟨g, cap, cur, he, _⟩
      · have := SlR.inj (y := ⟨none, 0, 0⟩) he; rw [this]; exact h0.symm
      · have := SlR.inj (y := ⟨some ⟨g, 0, none⟩, i, cap⟩) he; rw [this]
    obtain ⟨hT, hc1, hc2, hbk⟩ := owns_tms ho' hsn
    have hIn : ∀ n, n ≤ i → TsIn k H w1 (ofT rs n) ((List.range n).map fun j : Nat => ((j : Int), qs.getD j 0)) := by
      intro n
      induction n with
      | zero => intro _; exact .nil
      | succ n ih =>
        intro hn'
        rw [ofT_succ, List.range_succ, List.map_append]
        refine TsIn.append (ih (by omega)) (.cons rfl ?_ .nil)
        have hgn := gr_getD hp.row (j := n) (by omega)
        exact (hp.at' n _ _ hgn (show qs[n]? = some (qs.getD n 0) by rw [List.getD_eq_getElem?_getD, List.getElem?_eq_getElem (by omega)]; rfl)).ext hx1
    have hV : InV k H w1 s (ofV qs) := by
      refine ⟨⟨ofT rs i, hT, ?_⟩, hc1, hc2, fun h0 hb => ?_⟩
      · have := hIn i (Nat.le_refl _)
        unfold ofV
        rw [show qs.length = i by omega]; exact this
      · have h1 := hbk h0
        have h2 := hH _ hb
        omega
    refine CallS.mono (VNorm_ok (HB.ext hH hx1) hV hk (by rw [ofV_length]; exact hn)) ?_
    rintro _ w2 ⟨hx2, s', rfl, hs'⟩
    exact ⟨Ext.trans' hx1 hx2, s', rfl, hs'⟩
theorem Of_ok {k : Nat} {w : World} {rp : SlR} {rs : List RatR} {qs : List Rat} (hp : PtI k H0 w rp rs qs) (hk : k ≤ 1073741824) (hn : qs.length ≤ 21) :
    CallS Try.prog 54 #[rp.v] w fun v w' => Ext w w' ∧ ∃ s : SlR, v = s.v ∧ VC (nK k) qs.length w' s (nrm (ofV qs)) := by
  refine CallS.mono (OfH_ok (H0.hb w) hp hk hn) ?_
  rintro _ w2 ⟨hx2, s', rfl, hs'⟩
  exact ⟨hx2, s', rfl, hs', nrm_cn _, by have := nrm_len (ofV qs); rw [ofV_length] at this; exact this⟩
end Go.Proofs.Ytlfdobjdlgebbaa
/-
  Contracts of the layer matrix: a matrix turned. Helpers; no statement of the program is proved here.
-/
set_option maxRecDepth 100000
set_option linter.unusedSimpArgs false
set_option linter.unusedVariables false
namespace Go.Proofs.Ytlfdobjdlgebbaa
open Go Go.Tw Go.RowKit
attribute [local irreducible] LoadAt StoreOk Stored rawVC

theorem TurnNo_ok {w : World} {a : Option Addr} {n c : Nat} {N : Int} (hN : N < 0 ∨ 65536 < N) :
    CallS Try.prog 39 #[.slice a n c, .int .i64 N] w fun v w' => Ext w w' ∧ v = .tuple #[.slice none 0 0, .int .i64 2] := by
  refine enter ttOk mixed (args := [.slice a n c, .int .i64 N]) Try.func39 rfl (by kernel_rfl) (by kernel_rfl) rfl ?_
  refine And.intro (fun h1 => ?_) (fun h1 => ?_)
  · exact ⟨Ext.rfl w, rfl⟩
  · refine And.intro (fun h2 => ?_) (fun h2 => ?_)
    · exact ⟨Ext.rfl w, rfl⟩
    · exfalso; omega
structure TurnI (K : Nat) (w : World) (b n : Nat) (w' : World) (ss : List SlR) (zss : List VL) : Prop where
  ext : Ext w w'
  blk : Blk w' b tV (svs ss ++ [])
  grid : Grid K (fun c => c = b) (b + 1) w' ss zss
  len : ss.length = n
  lt : b < w'.heap.size
theorem TurnI.go {K : Nat} {w : World} {b n : Nat} {w' w'' : World} {ss : List SlR} {zss : List VL} (h : TurnI K w b n w' ss zss) (e : Ext w' w'') : TurnI K w b n w'' ss zss :=
  ⟨Ext.trans' h.ext e, h.blk.ext e, h.grid.ext e, h.len, Nat.lt_of_lt_of_le h.lt e.size⟩
theorem Turn_ok {kc lc : Nat} {w : World} {a : Option Addr} {m c : Nat} {rs : List SlR} {xss : List VL} (hl : Vs (VI kc lc) w a m rs xss) (hm : m ≤ 65536) (n : Nat) (hn : n ≤ 65536) (hk : kc ≤ 16777216 ∧ lc ≤ 21) :
    CallS Try.prog 39 #[.slice a m c, .int .i64 (n : Int)] w fun v w' => Ext w w' ∧ ∃ b ss, v = .tuple #[.slice (some ⟨b, 0, none⟩) n n, .int .i64 0] ∧ Vs (VC (nK kc) m) w' (some ⟨b, 0, none⟩) n ss (turnL xss n m) := by
  obtain ⟨hk1, hl2⟩ := hk
  have hlen := hl.len
  have hnK : nK kc ≤ 1099511627776 := by unfold nK; omega
  refine enter ttOk mixed (args := [.slice a m c, .int .i64 (n : Int)]) Try.func39 rfl (by kernel_rfl) (by kernel_rfl) rfl ?_
  refine And.intro (fun h1 => ?_) (fun h1 => ?_)
  · exfalso; omega
  refine And.intro (fun h2 => ?_) (fun h2 => ?_)
  · exfalso; omega
  refine ⟨n, n, ⟨rfl, rfl, Nat.le_refl _, by show n * 24 ≤ _; omega, by omega⟩, fun b w1 hb => ?_⟩
  have hge := hb.ge (Ext.rfl w)
  have hI0 : TurnI (nK kc) w b n w1 (List.replicate n ⟨none, 0, 0⟩) (turnL xss n 0) := by
    refine ⟨hb.ext, ?_, ?_, List.length_replicate, hb.lt⟩
    · have e : svs (List.replicate n ⟨none, 0, 0⟩) ++ [] = rep n [.slice none 0 0] := by rw [rep_one, List.append_nil]; simp [svs, SlR.v]
      rw [e]; exact hb.toBlk
    · have e : turnL xss n 0 = List.replicate n [] := by
        unfold turnL
        apply List.ext_getElem?
        intro i
        simp [turnN, List.getElem?_replicate]
        by_cases h : i < n <;> simp [h]
      rw [e]; exact Grid.nil n
  refine ⟨Nat × List SlR, fun x => [(1, .int .i64 (n : Int)), (6, .slice (some ⟨b, 0, none⟩) n n), (19, .slice a m c), (20, .int .i64 (m : Int)), (21, .int .i64 (x.1 : Int))],
    fun x w' => x.1 ≤ m ∧ TurnI (nK kc) w b n w' x.2 (turnL xss n x.1), fun x _ => m - x.1, ⟨(0, List.replicate n ⟨none, 0, 0⟩), ⟨rfl, rfl, rfl, rfl, rfl, trivial⟩, Nat.zero_le _, hI0⟩, ?_⟩
  rintro ⟨k, ss⟩ w2 ⟨hkm, hI⟩
  dsimp only at *
  refine And.intro (fun h3 => ?_) (fun h3 => ?_)
  · have hkn := ltTo h3
    obtain ⟨r, hr, hxs, hri⟩ := hl.get hkn
    have hlo := (hl.ones.ext hI.ext).load (T := tt) (ty := tV) (sz := 1) (svs_get hr) rfl rfl
    refine ⟨k, ⟨rfl, hkn, hl.ones.base (by omega)⟩, r.v, hlo, ?_⟩
    have hgH : ∀ b', gridH (fun c => c = b) ss b' → w.heap.size ≤ b' ∧ b' < w2.heap.size := by
      intro b' hb'
      rcases hb' with hb' | ⟨s, hs, hb'⟩
      · rw [hb']; exact ⟨hge, hI.lt⟩
      · obtain ⟨i, hi, rfl⟩ := List.getElem_of_mem hs
        obtain ⟨s', e1, e2, e3⟩ := hI.grid.at hi
        rw [List.getElem?_eq_getElem hi] at e1
        cases e1
        have := e3.own_lt hb'
        omega
    have hxi : InV kc (gridH (fun c => c = b) ss) w2 r (xss.getD k []) := (hri.inv.to (fun b' hb' => .inr (hgH b' hb').1)).ext hI.ext
    have hxl := hri.len
    refine CallS.mono (VNorm_ok (fun b' hb' => (hgH b' hb').2) hxi (by omega) (by omega)) ?_
    rintro _ w3 ⟨hx3, s0, rfl, h0⟩
    have hnl := h0.len
    have hcn := nrm_cn (xss.getD k [])
    have hnl2 := nrm_len (xss.getD k [])
    have hzl : (nrm (xss.getD k [])).length ≤ 21 := by omega
    refine ⟨Nat × List SlR, fun x => [(1, .int .i64 (n : Int)), (6, .slice (some ⟨b, 0, none⟩) n n), (7, .int .i64 (k : Int)), (19, .slice a m c), (20, .int .i64 (m : Int)), (21, .int .i64 (k : Int)), (27, s0.v), (28, .int .i64 (s0.n : Int)), (29, .int .i64 (x.1 : Int))],
      fun x w' => x.1 ≤ s0.n ∧ TurnI (nK kc) w b n w' x.2 (turnJ xss (nrm (xss.getD k [])) n k x.1) ∧ CanV (nK kc) (gridH (fun c => c = b) x.2) w' s0 (nrm (xss.getD k [])), fun x _ => s0.n - x.1,
      ⟨(0, ss), ⟨rfl, rfl, rfl, rfl, rfl, rfl, rfl, rfl, rfl, trivial⟩, Nat.zero_le _, by rw [turnJ_zero]; exact hI.go hx3, h0⟩, ?_⟩
    clear hI hgH hxi hx3 h0 hlo
    rintro ⟨j, ss⟩ w4 ⟨hj, hI, h0⟩
    dsimp only at *
    refine And.intro (fun h4 => ?_) (fun h4 => ?_)
    · have hjn := ltTo h4
      have hjz : j < (nrm (xss.getD k [])).length := by omega
      obtain ⟨⟨ts, hT, hC⟩, hc1, hc2, hc3⟩ := h0
      obtain ⟨t, ht, hat, hqc, hqf⟩ := tsCan_get hC (vget hjz)
      refine ⟨j, ⟨rfl, hjn, hT.base (by omega)⟩, t.v, hT.load (ty := tT) ht rfl rfl, ?_⟩
      intro b7 w5 hb7
      refine ⟨(storeTmB (w' := w5) (t := t) hb7.toBlk rfl).1, fun w6 hs6 => ?_⟩
      have h6 := (storeTmB (t := t) hb7.toBlk rfl).2 hs6
      have hx46 : Ext w4 w6 := Ext.grownB hb7.ext h6.2 (hb7.ge (Ext.rfl w4))
      have hB := h6.1
      have hI6 := hI.go hx46
      have h06 : CanV (nK kc) (gridH (fun c => c = b) ss) w6 s0 (nrm (xss.getD k [])) := CanV.ext ⟨⟨ts, hT, hC⟩, hc1, hc2, hc3⟩ hx46
      have hq6 := hqc.ext hx46
      have skip : (∀ i : Nat, i < n → pl (nrm (xss.getD k [])) j ≠ (i : Int)) → TurnI (nK kc) w b n w6 ss (turnJ xss (nrm (xss.getD k [])) n k (j + 1)) := fun h => by rw [turnJ_skip hjz h]; exact hI6
      refine ⟨_, hB.one (off := 0) rfl rfl, ?_⟩
      refine And.intro (fun h5 => ?_) (fun h5 => ?_)
      · refine ⟨_, hB.one (off := 0) rfl rfl, ?_⟩
        refine And.intro (fun h7 => ?_) (fun h7 => ?_)
        · obtain ⟨p, hp⟩ : ∃ p : Nat, t.at' = (p : Int) := ⟨t.at'.toNat, by omega⟩
          have hpn : p < n := by omega
          obtain ⟨hz, hpush⟩ := turnJ_push (xss := xss) (k := k) hcn hjz hpn (hat.symm.trans hp)
          have hpl : p < ss.length := by rw [hI6.len]; exact hpn
          obtain ⟨s, hs, hz', hA⟩ := hI6.grid.at hpl
          have hzz : (turnJ xss (nrm (xss.getD k [])) n k j).getD p [] = turnN xss p k := by rw [List.getD_eq_getElem?_getD, hz]; rfl
          rw [hzz] at hz' hA
          have hso := Ones.blk hI6.blk
          rw [svs_length, hI6.len] at hso
          refine ⟨sqK 16 [2, 13], by kernel_rfl, ?_⟩
          refine ⟨_, fun w' hw _ => (hB.ext hw).one (off := 0) rfl rfl, ?_⟩
          refine ⟨_, hB.one (off := 0) rfl rfl, p, ⟨hp, hpn, ⟨_, rfl, rfl⟩⟩, s.v, hso.load (svs_get hs) rfl rfl, t.x.v, hB.agg (sub := rcs t.x) rfl rfl, ?_⟩
          intro b12 _
          intro w7 hx7 hF7
          have hA7 := hA.ext hx7
          have hkl := (turnN_cn xss p k).2.2
          refine hA7.ts.elim fun ts0 d => ?_
          have hB12 : Blk w7 b12 tT (tcs [⟨(k : Int), t.x⟩]) := hF7.1.1
          refine ⟨rfl, b + 1, (turnN xss p k).length, tcs ts0, tcs [⟨(k : Int), t.x⟩], ⟨d.1, rfl, ?_, tcs_mem_one _, fun _ => ⟨_, rfl, rfl⟩, by omega, by show ((turnN xss p k).length + 1) * 72 ≤ _; omega, Nat.le_trans hI6.lt hx7.size⟩, ?_⟩
          · intro q v hq
            exact hB12.cell (i := 0 + q) (v := v) (by rw [Nat.zero_add]; exact hq)
          intro v' w8 ho hg hn8
          have ho : w8.ownsRow (b + 1) tT 5 v' ((turnN xss p k).length + 1) (tcs ts0 ++ (TmR.mk (k : Int) t.x).cs) := by rw [tcs_one] at ho; exact ho
          have hown6 : ∀ c, s.v.ownBlock = some c → b + 1 ≤ c ∧ c < w6.heap.size := fun c hc => ⟨(hA.own_lt hc).2, (hA.own_lt hc).1⟩
          have hqH : CanQ (rowH (gridH (fun c => c = b) ss) s.v) w7 t.x (xl (nrm (xss.getD k [])) j) := (hq6.ext hx7).to fun c hc => .inl (by
            rcases hc with hc | hc
            · exact hc
            · exact .inr ⟨s, List.mem_of_getElem? hs, hc⟩)
          refine (Acc.push (t := ⟨(k : Int), t.x⟩) (p := ((k : Int), xl (nrm (xss.getD k [])) j)) d.1 d.2 ho hg hn8 rfl hqH hqf).elim fun s' d' => ?_
          have hne7 : some b7 ≠ s.v.ownBlock := by
            intro e
            have := hb7.isNew
            have h1 := (hI.grid.at (i := p) (by rw [hI.len]; exact hpn))
            obtain ⟨s2, e1, e2, e3⟩ := h1
            rw [hs] at e1; cases e1
            have := (e3.own_lt e.symm).1
            omega
          refine ⟨⟨⟨fun c hc hlt => hg.block c hlt (fun e => Nat.lt_irrefl c (Nat.lt_of_lt_of_le (hown6 c e.symm).2 hc)), hg.size⟩, ⟨?_, hF7.1.2⟩, (Blk.grown (hB.ext hx7) hg hne7).one (off := 0) rfl rfl, trivial⟩, ?_⟩
          · show w8.heap[b12]? = _
            have hl12 : b12 < w7.heap.size := hB12.lt
            rw [hg.block b12 hl12 (fun e => by
              have h1 := (hown6 b12 e.symm).2
              have h2 : w6.heap.size ≤ b12 := hF7.1.2
              omega)]
            exact hF7.1.1
          have hG8 := (hI6.grid.ext hx7).push hs hz' d'.2 hg (d'.1 ▸ hn8)
          have hB8 : Blk w8 b tV (svs ss ++ []) := Blk.grown (hI6.blk.ext hx7) hg (fun e => by have := (hown6 b e.symm).1; omega)
          have hx48 : Ext w w8 := Ext.grown (Ext.trans' hI6.ext hx7) hg (fun c hc => by have := (hown6 c hc).1; omega)
          have h08 : CanV (nK kc) (gridH (fun c => c = b) (ss.set p s')) w8 s0 (nrm (xss.getD k [])) := by
            have h1 : CanV (nK kc) (fun c => gridH (fun c => c = b) ss c ∨ s'.v.ownBlock = some c) w7 s0 (nrm (xss.getD k [])) := (h06.ext hx7).to fun c hc => by
              rcases hc with hc | hc
              · exact .inl hc
              · rw [d'.1] at hn8
                rcases hn8 with hn8 | hn8
                · exact .inl (.inr ⟨s, List.mem_of_getElem? hs, by rw [← hn8]; exact hc⟩)
                · exact .inr (hn8 c hc)
            refine (h1.grow hg (fun c hc => .inl (.inr ⟨s, List.mem_of_getElem? hs, hc⟩))).to fun c hc => .inl ?_
            rcases hc with hc | ⟨u, hu, hc⟩
            · exact .inl (.inl hc)
            · rcases List.mem_or_eq_of_mem_set hu with hu | rfl
              · exact .inl (.inr ⟨u, hu, hc⟩)
              · exact .inr hc
          have hlt8 : b < w8.heap.size := hB8.lt
          refine ⟨p, ⟨hp, hpn, ⟨_, rfl, rfl⟩⟩, ?_⟩
          intro w9 hx9 hF9
          rw [d'.1]
          refine ⟨storeOne (v := s'.v) rfl rfl (hB8.ext hx9) (by rw [svs_length]; omega), fun w10 hs10 => ?_⟩
          have hS := storedOne hs10 rfl rfl (hB8.ext hx9) (by rw [svs_length]; omega)
          rw [svs_set] at hS
          intro w11 hx11 _
          have hG10 := (hG8.ext hx9).grow hS.2 rfl (Nat.lt_succ_self b)
          have h010 := (h08.ext hx9).grow hS.2 (fun c hc => .inl (Option.some.inj hc).symm)
          refine ⟨((j + 1 : Nat) : Int), sucI j (by omega), (j + 1, ss.set p s'), ⟨rfl, rfl, rfl, rfl, rfl, rfl, rfl, rfl, rfl, trivial⟩, ⟨hjn, ?_, h010.ext hx11⟩, Nat.sub_lt_sub_left hjn (Nat.lt_succ_self j)⟩
          rw [hpush]
          have hx10 : Ext w w10 := Ext.grownB (Ext.trans' hx48 hx9) hS.2 hge
          exact TurnI.go ⟨hx10, hS.1, hG10, by rw [List.length_set]; exact hI6.len, hS.1.lt⟩ hx11
        · refine ⟨((j + 1 : Nat) : Int), sucI j (by omega), (j + 1, ss), ⟨rfl, rfl, rfl, rfl, rfl, rfl, rfl, rfl, rfl, trivial⟩, ⟨hjn, skip (fun i hi => by omega), h06⟩, Nat.sub_lt_sub_left hjn (Nat.lt_succ_self j)⟩
      · refine ⟨((j + 1 : Nat) : Int), sucI j (by omega), (j + 1, ss), ⟨rfl, rfl, rfl, rfl, rfl, rfl, rfl, rfl, rfl, trivial⟩, ⟨hjn, skip (fun i hi => by omega), h06⟩, Nat.sub_lt_sub_left hjn (Nat.lt_succ_self j)⟩
    · have hj' : j = s0.n := Nat.le_antisymm hj (geTo h4)
      rw [hj', hnl, turnJ_all (fun p => nrm_get _ p)] at hI
      exact ⟨((k + 1 : Nat) : Int), sucI k (by omega), (k + 1, ss), ⟨rfl, rfl, rfl, rfl, rfl, trivial⟩, ⟨hkn, hI⟩, Nat.sub_lt_sub_left hkn (Nat.lt_succ_self k)⟩
  · have hk' : k = m := Nat.le_antisymm hkm (geTo h3)
    rw [hk'] at hI
    have hso := Ones.blk hI.blk
    rw [svs_length, hI.len] at hso
    refine ⟨hI.ext, b, ss, rfl, hso, by simp [turnL], fun i s zs h1 h2 => ⟨hI.grid.vc h1 h2, ?_, ?_⟩⟩
    · have : zs = turnN xss i m := by
        unfold turnL at h2
        rw [List.getElem?_map] at h2
        cases hr : (List.range n)[i]? with
        | none => rw [hr] at h2; cases h2
        | some q =>
          rw [hr] at h2
          have : q = i := by
            have := List.getElem?_range (n := n) (i := i) (by
              rcases Nat.lt_or_ge i n with h | h
              · exact h
              · rw [List.getElem?_eq_none (by simp; exact h)] at hr; cases hr)
            rw [hr] at this; exact Option.some.inj this
          subst this
          exact (Option.some.inj h2).symm
      subst this
      exact (turnN_cn _ _ _).1
    · unfold turnL at h2
      rw [List.getElem?_map] at h2
      cases hr : (List.range n)[i]? with
      | none => rw [hr] at h2; cases h2
      | some q =>
        rw [hr] at h2
        cases h2
        exact (turnN_cn _ _ _).2.2
end Go.Proofs.Ytlfdobjdlgebbaa
/-
  Contracts of the layer matrix: whether all columns are right; rows of vectors compared, and held against a measure. Helpers; no statement of the program is proved here.
-/
set_option maxRecDepth 100000
set_option linter.unusedSimpArgs false
set_option linter.unusedVariables false
namespace Go.Proofs.Ytlfdobjdlgebbaa
open Go Go.Tw Go.RowKit
attribute [local irreducible] LoadAt StoreOk Stored rawVC

theorem rows_get {w : World} {a : Option Addr} {n : Nat} {rs : List SlR} (h : Ones w a n (svs rs)) {j : Nat} (hj : j < n) : ∃ r, rs[j]? = some r := by
  have := h.len
  rw [svs_length] at this
  exact ⟨_, List.getElem?_eq_getElem (by omega)⟩
theorem rows_lt {w : World} {a : Option Addr} {n : Nat} {rs : List SlR} (h : Ones w a n (svs rs)) {j : Nat} {r : SlR} (hj : rs[j]? = some r) : j < n := by
  have := h.len
  rw [svs_length] at this
  rcases Nat.lt_or_ge j n with h' | h'
  · exact h'
  · rw [List.getElem?_eq_none (by omega)] at hj; cases hj
abbrev rV (b : Nat) : Value := .func (.func 89) #[] #[.pointer (some ⟨b, 0, none⟩)]
theorem IndexV_ok {w : World} {a : Option Addr} {m c b : Nat} {rs : List SlR} (B : Nat → Bool) (hO : Ones w a m (svs rs)) (hm : m ≤ 1099511627776)
    (hB : ∀ (j : Nat) r, rs[j]? = some r → ∀ w', Ext w w' → CallS Try.prog 89 #[r.v, .pointer (some ⟨b, 0, none⟩)] w' fun v w'' => Ext w' w'' ∧ v = .bool (B j)) :
    CallS Try.prog 117 #[.slice a m c, rV b] w fun v w' => Ext w w' ∧ ∃ z : Int, v = .int .i64 z ∧ ((z = -1 ∧ ∀ j, j < m → B j = false) ∨ (0 ≤ z ∧ ∃ j, j < m ∧ B j = true)) := by
  refine enter ttOk mixed (args := [.slice a m c, rV b]) Try.func117 rfl (by kernel_rfl) (by kernel_rfl) rfl ?_
  refine ⟨Nat, fun x => [(0, .slice a m c), (1, rV b), (7, .int .i64 (m : Int)), (8, .int .i64 (x : Int))], fun x w' => Ext w w' ∧ x ≤ m ∧ ∀ j, j < x → B j = false, fun x _ => m - x, ⟨0, ⟨rfl, rfl, rfl, rfl, trivial⟩, Ext.rfl w, Nat.zero_le _, fun j h => absurd h (Nat.not_lt_zero _)⟩, ?_⟩
  rintro i w1 ⟨hx1, hi, hf⟩
  refine And.intro (fun h1 => ?_) (fun h1 => ?_)
  · have hin := ltTo h1
    obtain ⟨r, hr⟩ := rows_get hO hin
    refine ⟨i, ⟨rfl, hin, hO.base (by omega)⟩, r.v, (hO.ext hx1).load (T := tt) (ty := tV) (sz := 1) (svs_get hr) rfl rfl, ?_⟩
    refine CallS.mono (hB i r hr w1 hx1) ?_
    rintro _ w2 ⟨hx2, rfl⟩
    cases hb : B i with
    | true => exact ⟨Ext.trans' hx1 hx2, (i : Int), rfl, .inr ⟨by omega, i, hin, hb⟩⟩
    | false =>
      refine ⟨((i + 1 : Nat) : Int), sucI i (by omega), i + 1, ⟨rfl, rfl, rfl, rfl, trivial⟩, ⟨Ext.trans' hx1 hx2, hin, fun j hj => ?_⟩, Nat.sub_lt_sub_left hin (Nat.lt_succ_self i)⟩
      rcases Nat.lt_or_eq_of_le (Nat.le_of_lt_succ hj) with h | h
      · exact hf j h
      · rw [h]; exact hb
  · have e : i = m := Nat.le_antisymm hi (geTo h1)
    exact ⟨hx1, -1, rfl, .inl ⟨rfl, fun j hj => hf j (by omega)⟩⟩
theorem MRight_ok {w : World} {a : Option Addr} {m c : Nat} {rs : List SlR} {N : Int} (R : Nat → Bool) (hO : Ones w a m (svs rs)) (hm : m ≤ 1099511627776)
    (hR : ∀ (j : Nat) r, rs[j]? = some r → ∀ w', Ext w w' → CallS Try.prog 50 #[r.v, .int .i64 N] w' fun v w'' => Ext w' w'' ∧ v = .bool (R j)) :
    CallS Try.prog 42 #[.slice a m c, .int .i64 N] w fun v w' => Ext w w' ∧ ∃ b : Bool, v = .bool b ∧ (b = true ↔ 0 ≤ N ∧ ∀ j, j < m → R j = true) := by
  refine enter ttOk mixed (args := [.slice a m c, .int .i64 N]) Try.func42 rfl (by kernel_rfl) (by kernel_rfl) rfl ?_
  intro b3 w1 hb3
  have hB3 : Blk w1 b3 3 [.int .i64 N] := hb3.toBlk
  refine ⟨_, hB3.one (off := 0) rfl rfl, ?_⟩
  refine And.intro (fun h1 => ?_) (fun h1 => ?_)
  · have hc : ∀ (j : Nat) r, rs[j]? = some r → ∀ w', Ext w1 w' → CallS Try.prog 89 #[r.v, .pointer (some ⟨b3, 0, none⟩)] w' fun v w'' => Ext w' w'' ∧ v = .bool (!R j) := by
      intro j r hr w' hx'
      refine enter ttOk mixed (args := [r.v, .pointer (some ⟨b3, 0, none⟩)]) Try.func89 rfl (by kernel_rfl) (by kernel_rfl) rfl ?_
      refine ⟨_, (hB3.ext hx').one (off := 0) rfl rfl, ?_⟩
      refine CallS.mono (hR j r hr w' (Ext.trans' hb3.ext hx')) ?_
      rintro _ w2 ⟨hx2, rfl⟩
      exact ⟨hx2, rfl⟩
    have hcon : CallS Try.prog 88 #[.slice a m c, rV b3] w1 fun v w' => Ext w1 w' ∧ ∃ b : Bool, v = .bool b ∧ (b = true ↔ ∃ j, j < m ∧ R j = false) := by
      refine enter ttOk mixed (args := [.slice a m c, rV b3]) Try.func88 rfl (by kernel_rfl) (by kernel_rfl) rfl ?_
      refine CallS.mono (IndexV_ok (fun j => !R j) (hO.ext hb3.ext) hm hc) ?_
      rintro _ w2 ⟨hx2, z, rfl, hz⟩
      refine And.intro (fun h2 => ?_) (fun h2 => ?_)
      · refine ⟨hx2, true, rfl, ⟨fun _ => ?_, fun _ => rfl⟩⟩
        rcases hz with ⟨h3, _⟩ | ⟨_, j, h3, h4⟩
        · omega
        · exact ⟨j, h3, by simpa using h4⟩
      · refine ⟨hx2, false, rfl, ⟨fun h => (by cases h), fun ⟨j, h3, h4⟩ => ?_⟩⟩
        rcases hz with ⟨_, h5⟩ | ⟨h5, _⟩
        · have := h5 j h3
          rw [h4] at this; cases this
        · omega
    refine CallS.mono hcon ?_
    rintro _ w2 ⟨hx2, b, rfl, hb⟩
    refine ⟨Ext.trans' hb3.ext hx2, !b, rfl, ?_⟩
    constructor
    · intro h
      refine ⟨h1, fun j hj => ?_⟩
      cases hR : R j with
      | true => rfl
      | false => rw [hb.2 ⟨j, hj, hR⟩] at h; cases h
    · intro h
      cases hbb : b with
      | false => rfl
      | true =>
        obtain ⟨j, hj, h3⟩ := hb.1 hbb
        rw [h.2 j hj] at h3; cases h3
  · refine ⟨hb3.ext, false, rfl, ⟨fun h => (by cases h), fun h => absurd h.1 h1⟩⟩
theorem SameVecs_ok {k k' l l' : Nat} {w : World} {a b : Option Addr} {n c m d : Nat} {rs ss : List SlR} {xss yss : List VL} (hx : Vs (VC k l) w a n rs xss) (hy : Vs (VC k' l') w b m ss yss) (hn : n ≤ 1099511627776) (hk : k ≤ 1099511627776 ∧ l ≤ 1099511627776) :
    CallS Try.prog 46 #[.slice a n c, .slice b m d] w fun v w' => Ext w w' ∧ v = .bool (decide (xss = yss)) := by
  have hl := hx.len
  have hm := hy.len
  refine enter ttOk mixed (args := [.slice a n c, .slice b m d]) Try.func46 rfl (by kernel_rfl) (by kernel_rfl) rfl ?_
  refine And.intro (fun h1 => ?_) (fun h1 => ?_)
  · have : ¬ xss = yss := fun h => h1 (by rw [← hl, ← hm, h])
    exact ⟨Ext.rfl w, by rw [decide_eq_false this]; rfl⟩
  · have hnm : n = m := by omega
    refine ⟨Nat, fun x => [(0, .slice a n c), (1, .slice b m d), (5, .int .i64 (x : Int))], fun x w' => Ext w w' ∧ x ≤ n ∧ xss.take x = yss.take x, fun x _ => n - x, ⟨0, ⟨rfl, rfl, rfl, trivial⟩, Ext.rfl w, Nat.zero_le _, rfl⟩, ?_⟩
    rintro i w1 ⟨hx1, hi, he⟩
    dsimp only at *
    refine And.intro (fun h2 => ?_) (fun h2 => ?_)
    · have hin := ltTo h2
      obtain ⟨r, hr, hxr, hri⟩ := hx.get hin
      obtain ⟨s, hs, hys, hsi⟩ := hy.get (j := i) (by omega)
      refine ⟨sq 10, by kernel_rfl, i, ⟨rfl, hin, hx.ones.base (by omega)⟩, r.v, (hx.ones.ext hx1).load (T := tt) (ty := tV) (sz := 1) (svs_get hr) rfl rfl, i, ⟨rfl, by omega, hy.ones.base (by omega)⟩, s.v, (hy.ones.ext hx1).load (T := tt) (ty := tV) (sz := 1) (svs_get hs) rfl rfl, ?_⟩
      have hc : ∀ w', Ext w1 w' → True → CallS Try.prog 20 #[r.v, s.v] w' fun v w'' => Ext w' w'' ∧ v = .bool (decide (xss.getD i [] = yss.getD i [])) := fun w' hw _ => svec_at ((hri.ext hx1).ext hw) ((hsi.ext hx1).ext hw) hk
      by_cases h4 : xss.getD i [] = yss.getD i []
      · rw [decide_eq_true h4] at hc
        refine dcallV (.bool true) hc ?_
        intro w2 hx2 _
        exact ⟨((i + 1 : Nat) : Int), sucI i (by omega), i + 1, ⟨rfl, rfl, rfl, trivial⟩, ⟨Ext.trans' hx1 hx2, hin, take_same he (by rw [hxr, hys, h4])⟩, Nat.sub_lt_sub_left hin (Nat.lt_succ_self i)⟩
      · rw [decide_eq_false h4] at hc
        refine dcallV (.bool false) hc ?_
        intro w2 hx2 _
        have : ¬ xss = yss := fun h => h4 (by rw [h])
        exact ⟨Ext.trans' hx1 hx2, by rw [decide_eq_false this]; rfl⟩
    · have e : i = n := Nat.le_antisymm hi (geTo h2)
      have : xss = yss := by
        rw [List.take_of_length_le (by omega), List.take_of_length_le (by omega)] at he
        exact he
      exact ⟨hx1, by rw [decide_eq_true this]; rfl⟩
/-- A row of vectors that comes in, opened. -/
structure OpVs (w : World) (a : Option Addr) (n c : Nat) (rs : List SlR) (tss : List (List TmR)) : Prop where
  ones : Ones w a n (svs rs)
  len : tss.length = n
  row : ∀ (j : Nat) r ts, rs[j]? = some r → tss[j]? = some ts → OpV w r ts
  nc : n ≤ c
  cm : c ≤ 9223372036854775807
theorem OpVs.get {w : World} {a : Option Addr} {n c : Nat} {rs : List SlR} {tss : List (List TmR)} (h : OpVs w a n c rs tss) {j : Nat} (hj : j < n) : ∃ r, rs[j]? = some r ∧ tss[j]? = some (tss.getD j []) ∧ OpV w r (tss.getD j []) := by
  have h1 := h.ones.len
  rw [svs_length] at h1
  have h2 := h.len
  have e1 : rs[j]? = some (rs[j]'(by omega)) := List.getElem?_eq_getElem (by omega)
  have e2 : tss[j]? = some (tss.getD j []) := by rw [List.getD_eq_getElem?_getD, List.getElem?_eq_getElem (by omega)]; rfl
  exact ⟨_, e1, e2, h.row j _ _ e1 e2⟩
theorem OpV.ext {w w' : World} {r : SlR} {ts : List TmR} (h : OpV w r ts) (e : Ext w w') : OpV w' r ts := ⟨h.tms.ext e, fun t ht => by
  obtain ⟨⟨L, h1⟩, ⟨M, h2⟩, h3, h4, h5, h6⟩ := h.all t ht
  exact ⟨⟨L, h1.ext e⟩, ⟨M, h2.ext e⟩, h3, h4, h5, h6⟩, h.nc, h.cm⟩
theorem OpVs.ext {w w' : World} {a : Option Addr} {n c : Nat} {rs : List SlR} {tss : List (List TmR)} (h : OpVs w a n c rs tss) (e : Ext w w') : OpVs w' a n c rs tss := ⟨h.ones.ext e, h.len, fun j r ts h1 h2 => OpV.ext (h.row j r ts h1 h2) e, h.nc, h.cm⟩
def shVs (n : Nat) (tss : List (List TmR)) (cnt l d : Nat) : Prop := n ≤ cnt ∧ ∀ ts ∈ tss, shV ts.length ts l d
noncomputable instance (n : Nat) (tss : List (List TmR)) (cnt l d : Nat) : Decidable (shVs n tss cnt l d) := Classical.propDecidable _
theorem ShortVecs_ok {w : World} {a : Option Addr} {n c : Nat} {rs : List SlR} {tss : List (List TmR)} (h : OpVs w a n c rs tss) (cnt l d : Nat) (hc : cnt ≤ 1099511627776) (hl : l ≤ 1099511627776) :
    CallS Try.prog 44 #[.slice a n c, .int .i64 (cnt : Int), .int .i64 (l : Int), .int .i64 (d : Int)] w fun v w' => Ext w w' ∧ v = .bool (decide (shVs n tss cnt l d)) := by
  have hlen := h.len
  refine enter ttOk mixed (args := [.slice a n c, .int .i64 (cnt : Int), .int .i64 (l : Int), .int .i64 (d : Int)]) Try.func44 rfl (by kernel_rfl) (by kernel_rfl) rfl ?_
  refine And.intro (fun h1 => ?_) (fun h1 => ?_)
  · exact ⟨Ext.rfl w, by rw [decide_eq_false (show ¬ shVs n tss cnt l d from fun h => by have := h.1; omega)]; rfl⟩
  · refine ⟨Nat, fun x => [(0, .slice a n c), (2, .int .i64 (l : Int)), (3, .int .i64 (d : Int)), (9, .int .i64 (x : Int))], fun x w' => Ext w w' ∧ x ≤ n ∧ ∀ ts ∈ tss.take x, shV ts.length ts l d, fun x _ => n - x, ⟨0, ⟨rfl, rfl, rfl, rfl, trivial⟩, Ext.rfl w, Nat.zero_le _, fun t h => by simp at h⟩, ?_⟩
    rintro i w1 ⟨hx1, hi, hs⟩
    dsimp only at *
    refine And.intro (fun h2 => ?_) (fun h2 => ?_)
    · have hin := ltTo h2
      obtain ⟨r, hr, ht, ho⟩ := h.get hin
      refine ⟨i, ⟨rfl, hin, h.ones.base (by omega)⟩, r.v, (h.ones.ext hx1).load (T := tt) (ty := tV) (sz := 1) (svs_get hr) rfl rfl, ?_⟩
      refine CallS.mono (ShortVec_ok (ho.tms.ext hx1) l d hl) ?_
      rintro _ w2 ⟨hx2, rfl⟩
      rw [← ho.tms.len]
      by_cases hc : shV (tss.getD i []).length (tss.getD i []) l d
      · rw [decide_eq_true hc]
        refine ⟨((i + 1 : Nat) : Int), sucI i (by omega), i + 1, ⟨rfl, rfl, rfl, rfl, trivial⟩, ⟨Ext.trans' hx1 hx2, hin, fun t ht' => ?_⟩, Nat.sub_lt_sub_left hin (Nat.lt_succ_self i)⟩
        rw [List.take_add_one, ht, List.mem_append] at ht'
        rcases ht' with ht' | ht'
        · exact hs t ht'
        · simp at ht'; rw [ht']; simpa [List.getD_eq_getElem?_getD] using hc
      · rw [decide_eq_false hc]
        exact ⟨Ext.trans' hx1 hx2, by rw [decide_eq_false (show ¬ shVs n tss cnt l d from fun h => hc (h.2 _ (List.mem_of_getElem? ht)))]; rfl⟩
    · have e : i = n := Nat.le_antisymm hi (geTo h2)
      rw [List.take_of_length_le (by omega)] at hs
      exact ⟨hx1, by rw [decide_eq_true (show shVs n tss cnt l d from ⟨by omega, hs⟩)]; rfl⟩
end Go.Proofs.Ytlfdobjdlgebbaa
/-
  What comes in, opened: rows of numbers, rows of vectors. Helpers; no statement of the program is proved here.
-/
set_option maxRecDepth 100000
set_option linter.unusedSimpArgs false
set_option linter.unusedVariables false
namespace Go.Proofs.Ytlfdobjdlgebbaa
open Go Go.Tw Go.RowKit Go.ChangeShapes Go.WideShapes Go.Deep

section
variable {H : Type} {enc : TypeId × Value → H} {w : World} {base : Nat} {sp : Nat → Bool} {held : Bool} {fuel : Nat} {cs : List Value} {x : DataW H × List MemPlace}
/-- A row of numbers that comes in. -/
structure OpL (w : World) (a : Option Addr) (n c : Nat) (L : List Int) : Prop where
  ones : Ones w a n (ivs L)
  nc : n ≤ c
  cm : c ≤ 9223372036854775807
  rng : ∀ z ∈ L, -9223372036854775808 ≤ z ∧ z ≤ 9223372036854775807
theorem opInts {t : Nat} (ht : Try.prog.underlying t = some (.slice 3)) (h : DataW.trod enc Try.prog w base sp held fuel t cs = some x) : ∃ a n c L, cs = [.slice a n c] ∧ OpL w a n c L := by
  rcases open_slice ht h with ⟨rfl, _⟩ | ⟨a, len, cap, m, n, D, Pl, rfl, hb, hl, hm, hmm, hx, hi⟩
  · exact ⟨none, 0, 0, [], rfl, Ones.nil w none, Nat.le_refl _, by omega, fun z h => by simp at h⟩
  · have hlm : len ≤ m := by rw [hmm]; split <;> omega
    have hone : ∀ i, i < len → ∃ z : Int, (-9223372036854775808 ≤ z ∧ z ≤ 9223372036854775807) ∧ w.cell? (a.add i) = some (.int .i64 z) := by
      intro i hil
      obtain ⟨cs', hc, ht⟩ := hi i (by omega)
      obtain ⟨z, rfl, _, hw⟩ := DataW.trod_int (k := .i64) rfl ht
      have hb : -9223372036854775808 ≤ z ∧ z ≤ 9223372036854775807 := by
        simp [Lit.wf, IntKind.min, IntKind.max, IntKind.signed, IntKind.bits] at hw
        omega
      have hcc := (cells1 hc).2 0 (by decide)
      refine ⟨z, hb, ?_⟩
      have e : (a.add (i * Try.prog.cellsOf 3)).add 0 = a.add i := by
        have : Try.prog.cellsOf 3 = 1 := by kernel_rfl
        rw [this, Nat.mul_one, add_add', Nat.add_zero]
      rw [e] at hcc
      exact hcc
    obtain ⟨L, hL, hP⟩ := listOf len hone
    have hsp : 0 < len → a.spot = none := by
      intro h0
      obtain ⟨z, _, hz⟩ := hone 0 h0
      have := World.cell?_spot hz
      cases a; simpa [Addr.add] using this
    refine ⟨some a, len, cap, L, rfl, ⟨by rw [ivs_length]; exact hL, fun h0 => ⟨a, rfl, hsp h0⟩, fun j v hv => ?_⟩, hl, by unfold maxLen at hm; exact hm, fun z hz => ?_⟩
    · unfold ivs at hv
      rw [List.getElem?_map] at hv
      cases hz : L[j]? with
      | none => rw [hz] at hv; cases hv
      | some z =>
        rw [hz] at hv
        have hv : Value.int .i64 z = v := Option.some.inj hv
        have hj : j < len := by
          rcases Nat.lt_or_ge j len with h' | h'
          · exact h'
          · rw [List.getElem?_eq_none (by omega)] at hz; cases hz
        rw [← add_eq_addrAt (hsp (by omega)) j, ← hv]
        exact (hP j z hz).2
    · obtain ⟨j, hj, rfl⟩ := List.getElem_of_mem hz
      exact (hP j _ (List.getElem?_eq_getElem hj)).1
theorem opVecs {t : Nat} (ht : Try.prog.underlying t = some (.slice 25)) (h : DataW.trod enc Try.prog w base sp held fuel t cs = some x) : ∃ a n c rs tss, cs = [.slice a n c] ∧ OpVs w a n c rs tss := by
  rcases open_slice ht h with ⟨rfl, _⟩ | ⟨a, len, cap, m, n, D, Pl, rfl, hb, hl, hm, hmm, hx, hi⟩
  · exact ⟨none, 0, 0, [], [], rfl, Ones.nil w none, rfl, fun j r ts h => by simp at h, Nat.le_refl _, by omega⟩
  · have hlm : len ≤ m := by rw [hmm]; split <;> omega
    have hone : ∀ i, i < len → ∃ z : SlR × List TmR, OpV w z.1 z.2 ∧ w.cell? (a.add i) = some z.1.v := by
      intro i hil
      obtain ⟨cs', hc, ht⟩ := hi i (by omega)
      obtain ⟨r, ts, rfl, ho⟩ := opVec rfl ht
      have hcc := (cells1 hc).2 0 (by decide)
      refine ⟨(r, ts), ho, ?_⟩
      have e : (a.add (i * Try.prog.cellsOf 25)).add 0 = a.add i := by
        have : Try.prog.cellsOf 25 = 1 := by kernel_rfl
        rw [this, Nat.mul_one, add_add', Nat.add_zero]
      rw [e] at hcc
      exact hcc
    haveI : Inhabited (SlR × List TmR) := ⟨(⟨none, 0, 0⟩, [])⟩
    obtain ⟨L, hL, hP⟩ := listOf len hone
    have hsp : 0 < len → a.spot = none := by
      intro h0
      obtain ⟨z, _, hz⟩ := hone 0 h0
      have := World.cell?_spot hz
      cases a; simpa [Addr.add] using this
    refine ⟨some a, len, cap, L.map (·.1), L.map (·.2), rfl, ⟨by rw [svs_length, List.length_map]; exact hL, fun h0 => ⟨a, rfl, hsp h0⟩, fun j v hv => ?_⟩, by rw [List.length_map]; exact hL, fun j r ts h1 h2 => ?_, hl, by unfold maxLen at hm; exact hm⟩
    · unfold svs at hv
      rw [List.getElem?_map, List.getElem?_map] at hv
      cases hz : L[j]? with
      | none => rw [hz] at hv; cases hv
      | some z =>
        rw [hz] at hv
        have hv : z.1.v = v := Option.some.inj hv
        have hj : j < len := by
          rcases Nat.lt_or_ge j len with h' | h'
          · exact h'
          · rw [List.getElem?_eq_none (by omega)] at hz; cases hz
        rw [← add_eq_addrAt (hsp (by omega)) j, ← hv]
        exact (hP j z hz).2
    · rw [List.getElem?_map] at h1 h2
      cases hz : L[j]? with
      | none => rw [hz] at h1; cases h1
      | some z =>
        rw [hz] at h1 h2
        cases h1; cases h2
        exact (hP j z hz).1
end
section
variable {H : Type} {enc : TypeId × Value → H} {W : World} {base : Nat} {sp : Nat → Bool} {held : Bool} {r : Reach} {b0 : Nat} {v : Value} {d : DataW H} {p : List MemPlace}
theorem openV' {t : Nat} (ht : Try.prog.underlying t = some (.slice 77)) (hv : Value.okWide Try.prog W r b0 t v) (h : DataW.Trod enc Try.prog W base sp held t v d p) : ∃ (s : SlR) (ts : List TmR), v = s.v ∧ OpV W s ts := by
  obtain ⟨a, n, c, rfl⟩ := okWide_slice ht hv
  obtain ⟨fuel, hf⟩ := h
  obtain ⟨s, ts, e, ho⟩ := opVec ht hf
  exact ⟨s, ts, (List.cons.inj e).1, ho⟩
theorem openQ' (hv : Value.okWide Try.prog W r b0 33 v) (h : DataW.Trod enc Try.prog W base sp held 33 v d p) : ∃ s : RatR, v = s.v ∧ OpQ W s := by
  obtain ⟨cs, rfl, _⟩ := okWide_struct (t := 33) rfl hv
  obtain ⟨fuel, hf⟩ := h
  obtain ⟨s, e, ho⟩ := opRat hf
  refine ⟨s, ?_, ho⟩
  have e : cs.toList = rcs s := e
  show Value.agg cs = Value.agg (rcs s).toArray
  rw [← e]
theorem openL {t : Nat} (ht : Try.prog.underlying t = some (.slice 3)) (hv : Value.okWide Try.prog W r b0 t v) (h : DataW.Trod enc Try.prog W base sp held t v d p) : ∃ a n c L, v = .slice a n c ∧ OpL W a n c L := by
  obtain ⟨a, n, c, rfl⟩ := okWide_slice ht hv
  obtain ⟨fuel, hf⟩ := h
  obtain ⟨a', n', c', L, e, ho⟩ := opInts ht hf
  exact ⟨a', n', c', L, (List.cons.inj e).1, ho⟩
theorem openVs {t : Nat} (ht : Try.prog.underlying t = some (.slice 25)) (hv : Value.okWide Try.prog W r b0 t v) (h : DataW.Trod enc Try.prog W base sp held t v d p) : ∃ a n c rs tss, v = .slice a n c ∧ OpVs W a n c rs tss := by
  obtain ⟨a, n, c, rfl⟩ := okWide_slice ht hv
  obtain ⟨fuel, hf⟩ := h
  obtain ⟨a', n', c', rs, tss, e, ho⟩ := opVecs ht hf
  exact ⟨a', n', c', rs, tss, (List.cons.inj e).1, ho⟩
end
end Go.Proofs.Ytlfdobjdlgebbaa
