/-
  A small calculus of conditions, part E: statements in the text's order, and statements whose order the model draws: one condition, in one order, serves for every order that the edges allow. Helpers; no statement of the program is proved here.
-/
import Derived.Test.YtlfdobjdlgebbaaK1
set_option linter.unusedSimpArgs false
set_option linter.unusedVariables false
namespace Go.Tw
open Go Go.RowKit

def guardOf (all : List Oper) (o : Oper) (e : Env) : Option Bool :=
  match o.guard with
  | none => some true
  | some (j, want) =>
    match all[j]? with
    | some g =>
      match g.dst with
      | some d =>
        match e d with
        | some (.bool b) => some (bif b then want else !want)
        | some (.tuple _) => some false
        | _ => none
      | none => none
    | none => none

theorem wanted_of_guard {all : List Oper} {o : Oper} {e : Env} {a : Act} {t : Bool} (hag : Agrees a e) (h : guardOf all o e = some t) : Region.wanted o (yielded all.toArray a.tmps) = t := by
  unfold guardOf at h
  unfold Region.wanted
  split at h
  · rename_i hg
    simp only [Option.some.injEq] at h; subst h; simp [hg]
  · rename_i j want hg
    split at h
    · rename_i g hj
      split at h
      · rename_i d hd
        split at h
        · rename_i b hb
          simp only [Option.some.injEq] at h
          have := hag d _ hb
          simp only [hg, yielded, List.getElem?_toArray, hj, Option.bind_some, hd, this]
          subst h
          cases b <;> cases want <;> rfl
        · rename_i vs hb
          simp only [Option.some.injEq] at h
          have := hag d _ hb
          simp only [hg, yielded, List.getElem?_toArray, hj, Option.bind_some, hd, this]
          subst h
          cases want <;> rfl
        · cases h
      · cases h
    · cases h

/-! ### in the text's order -/
def stepVC (P : Program) (T : TT) (all : List Oper) (o : Oper) (e : Env) (w : World) (K : Value → World → Prop) : Prop :=
  match guardOf all o e with
  | some true => opVC P T o e w K
  | some false => K undef w
  | none => False
noncomputable def sVC (P : Program) (T : TT) (all : List Oper) (ops : List Oper) (e : Env) (w : World) (K : Env → World → Prop) : Prop :=
  List.rec (motive := fun _ => Env → World → Prop) (fun e w => K e w) (fun o _ ih e w => stepVC P T all o e w fun v w' => ih (putO o.dst v e) w') ops e w

theorem upon_mono {P : Program} {o : Oper} {a : Act} {K K' : Act → World → Prop} {Q Q' : Exit → Act → World → Prop} {r : Result Next} (hk : ∀ a w, K a w → K' a w) (hq : ∀ x a w, Q x a w → Q' x a w)
    (h : o.upon P a K Q r) : o.upon P a K' Q' r := by
  cases r with
  | ok n w' =>
    cases n <;> simp only [Oper.upon] at h ⊢ <;>
      first
        | exact hk _ _ h
        | exact Calls.mono h (fun e w'' he => by cases e <;> first | exact hk _ _ he | exact hq _ _ _ he | (obtain ⟨a, w, hh⟩ := he; exact ⟨a, w, hq _ _ _ hh⟩))
        | exact Rows.mono h (fun _ _ he => hk _ _ he)
  | halt x w' => cases x <;> simp only [Oper.upon] at h ⊢ <;> first | exact hq _ _ _ h | exact h

section
variable {P : Program} {T : TT}
theorem sVC_sound (hT : TOk P T) {n : Nat} {all : List Oper} {Q : Exit → Act → World → Prop} {K : Env → World → Prop} (hK : ∀ e w a, Fits n a e → K e w → Q .normal a w) :
    ∀ (ops : List Oper), (∀ o ∈ ops, ∀ d, o.dst = some d → d < n) → ∀ {e : Env} {w : World} {a : Act}, Fits n a e → sVC P T all ops e w K → wpList P all.toArray Q ops a w
  | [], _, e, w, a, hf, h => hK _ _ _ hf h
  | o :: ops, hd, e, w, a, hf, h => by
    have ih : ∀ {e : Env} {w : World} {a : Act}, Fits n a e → sVC P T all ops e w K → wpList P all.toArray Q ops a w := fun hf h => sVC_sound hT hK ops (fun o' ho' => hd o' (by simp [ho'])) hf h
    have h' : stepVC P T all o e w fun v w' => sVC P T all ops (putO o.dst v e) w' K := h
    unfold stepVC at h'
    unfold wpList
    split at h'
    · rename_i hg
      rw [if_pos (wanted_of_guard hf.get hg)]
      refine .inl ?_
      refine upon_mono ?_ ?_ (opVC_sound hT o hf.get h')
      · rintro a' w' ⟨v, rfl, hv⟩
        exact ih (hf.put (hd o (by simp)) v) hv
      · intro x a w hx; exact hx.elim
    · rename_i hg
      rw [if_neg (by rw [wanted_of_guard hf.get hg]; simp)]
      exact ih (hf.put (hd o (by simp)) undef) h'
    · exact h'.elim
end

/-! ### in an order that is drawn -/
inductive Eff where
  | bad
  | ret (r : PR)
  | load (t : Nat) (p : Addr) (late : Bool)
  | al (t : Nat) (cs : List Value) (mk : Nat → Value)
  | call (f : FuncId) (args : Array Value)
  | raw
  | rawK
  | alc (c : Prop) (t : Nat) (cs : List Value) (mk : Nat → Value)
/-- An operation that writes; flagged: it keeps what is known. -/
def rawF (flag : Bool) : Eff :=
  match flag with
  | true => .rawK
  | false => .raw

/-- flag: a load that leans on what calls of this statement left; a call that writes. -/
def effOf (T : TT) (all : List Oper) (o : Oper) (flag : Bool) (e : Env) : Eff :=
  match guardOf all o e with
  | none => .bad
  | some false => .ret (.val undef)
  | some true =>
    match o.op with
    | .load t x =>
      match ev e x with
      | some (.pointer (some p)) => .load t p flag
      | _ => .bad
    | .alloc t => bif known (tyAt T t) then .al t (tyAt T t).zero (fun b => .pointer (some ⟨b, 0, none⟩)) else .bad
    | .box t x =>
      match ev e x with
      | some v => .al t v.cells.toList (fun b => .pointer (some ⟨b, 0, none⟩))
      | none => .bad
    | .buildSlice t n parts =>
      match (tyAt T t).d, evp e parts.toList with
      | .slice el, some ps =>
        bif known (tyAt T el) && Nat.blt 0 (tyAt T el).size && Nat.beq (tyAt T el).zero.length (tyAt T el).size && Nat.ble (n * (tyAt T el).size) 16777216 then
          (match fillL (fun i => some (i * (tyAt T el).size, (tyAt T el).size)) (rep n (tyAt T el).zero) ps with
          | some cs => .al el cs (fun b => .slice (some ⟨b, 0, none⟩) n n)
          | none => .bad)
        else .bad
      | _, _ => .bad
    | .call c =>
      match c.callee with
      | .value f =>
        match flag with
        | true => .raw
        | false =>
          match ev e f, evs e c.args.toList with
          | some (.func (.func g) first caps), some vs => .call g ((first.toList ++ vs ++ caps.toList).toArray)
          | _, _ => .bad
      | .builtin .append => rawF flag
      | .builtin .copy => .raw
      | .builtin .clear => .raw
      | .builtin .delete => .raw
      | .builtin _ => .ret (pureOp T o.op e)
      | .invoke _ _ => .raw
    | .store _ _ _ => rawF flag
    | .makeSlice t l c =>
      match (tyAt T t).d, ev e l, ev e c with
      | .slice el, some (.int _ l), some (.int _ c) =>
        bif known (tyAt T el) && Nat.blt 0 (tyAt T el).size && Nat.beq (tyAt T el).zero.length (tyAt T el).size then
          .alc (0 ≤ l ∧ l ≤ c ∧ c.toNat * (tyAt T el).bytes ≤ 281474976710656 ∧ c.toNat ≤ 9223372036854775807) el (rep c.toNat (tyAt T el).zero) (fun b => .slice (some ⟨b, 0, none⟩) l.toNat c.toNat)
        else .bad
      | _, _, _ => .bad
    | .makeMap _ _ | .lookup _ _ _ _ | .mapUpdate _ _ _ _ | .insert _ _ _ _ | .range _ _ | .next _ _ | .entry _ | .typeAssert _ _ _ _ | .panic _ | .nilCheck _ | .mapEntry _ _ _ | .entryStore _ _ _ _ | .index _ _ _ | .defer _ => .raw
    | _ => .ret (pureOp T o.op e)

def Sat (base : World) (F : World → Prop) : Prop := ∃ w, Ext base w ∧ F w
def HasBlk (base : World) (b t : Nat) (cs : List Value) (w : World) : Prop := w.heap[b]? = some (.cells cs.toArray t) ∧ base.heap.size ≤ b
def Stable (F : World → Prop) : Prop := ∀ w w', F w → Ext w w' → F w'

/-- What has been made since a world is kept. -/
structure KeptNew (org w w' : World) : Prop where
  blk : ∀ b, org.heap.size ≤ b → b < w.heap.size → w'.heap[b]? = w.heap[b]?
  size : w.heap.size ≤ w'.heap.size
/-- Where a statement began, and what it has made since. -/
structure DOrg where
  w : World
  ns : Nat → Prop
def DOrg.of (w : World) : DOrg := ⟨w, fun _ => False⟩
def DOrg.add (o : DOrg) (b : Nat) : DOrg := ⟨o.w, fun c => c = b ∨ o.ns c⟩
theorem DOrg.comm (o : DOrg) (b c : Nat) : (o.add b).add c = (o.add c).add b := by
  unfold DOrg.add
  congr 1
  funext x
  exact propext ⟨fun h => h.elim (fun h => .inr (.inl h)) (fun h => h.elim .inl (fun h => .inr (.inr h))), fun h => h.elim (fun h => .inr (.inl h)) (fun h => h.elim .inl (fun h => .inr (.inr h)))⟩
structure OrgOk (org : DOrg) (base : World) (F : World → Prop) : Prop where
  size : org.w.heap.size ≤ base.heap.size
  new : ∀ w, Ext base w → F w → ∀ c, org.ns c → c < w.heap.size
abbrev DK := DOrg → World → (World → Prop) → Env → Prop
def dStep (P : Program) (T : TT) (all : List Oper) (o : Oper) (flag : Bool) (org : DOrg) (base : World) (F : World → Prop) (e : Env) (ih : DK) : Prop :=
  match effOf T all o flag e with
  | .bad => False
  | .ret r => r.vc fun v => ih org base F (putO o.dst v e)
  | .load t p false => ∃ v, LoadAt T base t p v ∧ ih org base F (putO o.dst v e)
  | .load t p true => ∃ v, (∀ w, Ext base w → F w → LoadAt T w t p v) ∧ ih org base (fun w => LoadAt T w t p v ∧ F w) (putO o.dst v e)
  | .al t cs mk => ∀ b, (¬ org.ns b ∧ Sat base (fun w => HasBlk org.w b t cs w ∧ F w)) → ih (org.add b) base (fun w => HasBlk org.w b t cs w ∧ F w) (putO o.dst (mk b) e)
  | .alc c t cs mk => c ∧ ∀ b, (¬ org.ns b ∧ Sat base (fun w => HasBlk org.w b t cs w ∧ F w)) → ih (org.add b) base (fun w => HasBlk org.w b t cs w ∧ F w) (putO o.dst (mk b) e)
  | .call f args => ∃ Post : Value → World → Prop, (∀ v, Stable (Post v)) ∧ (∀ w, Ext base w → F w → CallS P f args w fun v w' => Ext w w' ∧ Post v w') ∧
      ∀ v, Sat base (fun w => Post v w ∧ F w) → ih org base (fun w => Post v w ∧ F w) (putO o.dst v e)
  | .raw => ∀ w, Ext base w → F w → opVC P T o e w fun v w' => ih (DOrg.of w') w' (fun _ => True) (putO o.dst v e)
  | .rawK => ∀ w, Ext base w → F w → opVC P T o e w fun v w' => (KeptNew org.w w w' ∧ F w') ∧ ih org w' F (putO o.dst v e)

noncomputable def dVCo (P : Program) (T : TT) (all : List Oper) (sch : List (Nat × Bool)) (org : DOrg) (base : World) (F : World → Prop) (e : Env) (K : Env → World → Prop) : Prop :=
  List.rec (motive := fun _ => DOrg → World → (World → Prop) → Env → Prop) (fun _ base F e => ∀ w, Ext base w → F w → K e w)
    (fun s _ ih org base F e =>
      match all[s.1]? with
      | some o => dStep P T all o s.2 org base F e ih
      | none => False) sch org base F e
noncomputable def dVC (P : Program) (T : TT) (all : List Oper) (sch : List (Nat × Bool)) (base : World) (F : World → Prop) (e : Env) (K : Env → World → Prop) : Prop := dVCo P T all sch (DOrg.of base) base F e K

/-! ### what swaps with what -/
inductive K6 where
  | p | lb | lf | a | c | e | kp
  deriving DecidableEq
def kindOf (o : Oper) (flag : Bool) : K6 :=
  match o.op with
  | .load _ _ => bif flag then .lf else .lb
  | .alloc _ | .box _ _ | .buildSlice _ _ _ | .makeSlice _ _ _ => .a
  | .call c =>
    match c.callee with
    | .value _ => bif flag then .e else .c
    | .builtin .append => bif flag then .kp else .e
    | .builtin .copy | .builtin .clear | .builtin .delete => .e
    | .builtin _ => .p
    | .invoke _ _ => .e
  | .store _ _ _ => bif flag then .kp else .e
  | .makeMap _ _ | .lookup _ _ _ _ | .mapUpdate _ _ _ _ | .insert _ _ _ _ | .range _ _ | .next _ _ | .entry _ | .typeAssert _ _ _ _ | .panic _ | .nilCheck _ | .mapEntry _ _ _ | .entryStore _ _ _ _ | .index _ _ _ | .defer _ => .e
  | .select _ _ => .e
  | _ => .p
def isSel (o : Oper) : Bool :=
  match o.op with
  | .select _ _ => true
  | _ => false
/-- x stands ahead of o in the condition: may o be run ahead of x? -/
def compat (x o : K6) : Bool :=
  match x, o with
  | .e, _ => false
  | .kp, .a | .kp, .p => true
  | .kp, _ => false
  | _, .p => true
  | _, .lb => true
  | _, .a => true
  | .p, _ => true
  | .lb, .lf | .lf, .lf | .lb, .c | .lf, .c | .lf, .kp => true
  | _, _ => false
def swapOk (all : List Oper) (x : Oper) (fx : Bool) (o : Oper) (fo : Bool) : Bool := x.apart all.toArray o && compat (kindOf x fx) (kindOf o fo) && !isSel x && !isSel o

section
variable {P : Program} {T : TT} {all : List Oper}

theorem ev_putO_looks {x o : Oper} {u : Value} {e : Env} (h : ∀ d, x.dst = some d → d ∉ o.looksAt all.toArray) {y : Operand} (hy : y ∈ o.op.operands.toList) : ev (putO x.dst u e) y = ev e y := by
  refine ev_putO u e ?_
  intro t ht hyt
  subst hyt
  exact h t ht (List.mem_append_left _ (List.mem_filterMap.2 ⟨.tmp t, hy, rfl⟩))

theorem guardOf_putO {x o : Oper} {u : Value} {e : Env} (h : ∀ d, x.dst = some d → d ∉ o.looksAt all.toArray) : guardOf all o (putO x.dst u e) = guardOf all o e := by
  unfold guardOf
  cases hg : o.guard with
  | none => rfl
  | some jw =>
    obtain ⟨j, want⟩ := jw
    simp only
    cases hj : all[j]? with
    | none => rfl
    | some g =>
      simp only
      cases hd : g.dst with
      | none => rfl
      | some d =>
        simp only
        have : putO x.dst u e d = e d := by
          cases hx : x.dst with
          | none => rfl
          | some dx =>
            refine put_other u e ?_
            intro he; subst he
            refine h d hx (List.mem_append_right _ ?_)
            simp [hg, hj, hd]
        rw [this]

theorem evs_congr {e e' : Env} : ∀ {l : List Operand}, (∀ y ∈ l, ev e y = ev e' y) → evs e l = evs e' l
  | [], _ => rfl
  | x :: l, h => by
    simp only [evs]
    rw [h x (by simp), evs_congr (l := l) fun y hy => h y (by simp [hy])]
theorem evp_congr {e e' : Env} : ∀ {l : List (Nat × Operand)}, (∀ y ∈ l, ev e y.2 = ev e' y.2) → evp e l = evp e' l
  | [], _ => rfl
  | (i, x) :: l, h => by
    simp only [evp]
    have := h (i, x) (by simp)
    simp only at this
    rw [this, evp_congr (l := l) fun y hy => h y (by simp [hy])]

theorem pureOp_congr {op : Op} {e e' : Env} (h : ∀ y ∈ op.operands.toList, ev e y = ev e' y) : pureOp T op e = pureOp T op e' := by
  cases op with
  | build t ps =>
    have : evp e ps.toList = evp e' ps.toList := evp_congr fun y hy => h y.2 (by simp [Op.operands]; exact ⟨y.1, by simpa using hy⟩)
    simp only [pureOp, this]
  | makeFunc fn first captured =>
    have h1 : evs e first.toList = evs e' first.toList := evs_congr fun y hy => h y (by simp [Op.operands] at hy ⊢; exact .inl hy)
    have h2 : evs e captured.toList = evs e' captured.toList := evs_congr fun y hy => h y (by simp [Op.operands] at hy ⊢; exact .inr hy)
    simp only [pureOp, h1, h2]
  | call c =>
    have h1 : evs e c.args.toList = evs e' c.args.toList := evs_congr fun y hy => h y (by simp [Op.operands, Call.operands] at hy ⊢; exact .inr hy)
    simp only [pureOp, h1]
  | slice t x lo hi mx =>
    have hx : ev e x = ev e' x := h x (by simp [Op.operands])
    have hl : evO e lo = evO e' lo := by
      cases lo with
      | none => rfl
      | some y => simp only [evO]; rw [h y (by simp [Op.operands])]
    have hh : evO e hi = evO e' hi := by
      cases hi with
      | none => rfl
      | some y => simp only [evO]; rw [h y (by simp [Op.operands])]
    simp only [pureOp, hx, hl, hh]
  | move x => simp only [pureOp]; rw [h x (by simp [Op.operands])]
  | assign x => simp only [pureOp]; rw [h x (by simp [Op.operands])]
  | pick c x y => simp only [pureOp]; rw [h c (by simp [Op.operands]), h x (by simp [Op.operands]), h y (by simp [Op.operands])]
  | binOp op t x y yt => simp only [pureOp]; rw [h x (by simp [Op.operands]), h y (by simp [Op.operands])]
  | unOp op t x => simp only [pureOp]; rw [h x (by simp [Op.operands])]
  | convert s d x => simp only [pureOp]; rw [h x (by simp [Op.operands])]
  | extract x i => simp only [pureOp]; rw [h x (by simp [Op.operands])]
  | fieldAddr t x f => simp only [pureOp]; rw [h x (by simp [Op.operands])]
  | field t x f => simp only [pureOp]; rw [h x (by simp [Op.operands])]
  | indexAddr t x i => simp only [pureOp]; rw [h x (by simp [Op.operands]), h i (by simp [Op.operands])]
  | makeInterface t x => simp only [pureOp]; rw [h x (by simp [Op.operands])]
  | _ => rfl

def overR (x : Option Tmp) (u : Value) (r : Operand → Value) (y : Operand) : Value :=
  match y with
  | .tmp t => if x = some t then u else r (.tmp t)
  | y => r y
theorem rawVC_congr {o : Oper} (hs : isSel o = false) {e e' : Env} {w : World} {K : Value → World → Prop} {x : Option Tmp} {u : Value} (he : e' = putO x u e) (h : ∀ d, x = some d → d ∉ o.looksAt all.toArray)
    (hr : rawVC P o e' w K) : rawVC P o e w K := by
  subst he
  intro r hrr
  have h1 : ∀ y ∈ o.op.operands, overR x u r y = r y := by
    intro y hy
    cases y with
    | tmp t =>
      simp only [overR]
      rw [if_neg]
      intro hx
      exact h t hx (List.mem_append_left _ (List.mem_filterMap.2 ⟨.tmp t, by simpa using hy, rfl⟩))
    | _ => rfl
  rw [← execOp_congr o (by intro cs b hc; simp [isSel, hc] at hs) h1]
  refine hr _ ?_
  intro y v hy
  cases y with
  | tmp t =>
    simp only [overR]
    cases x with
    | none => rw [if_neg (by simp)]; exact hrr (.tmp t) v hy
    | some d =>
      by_cases htd : t = d
      · subst htd
        rw [if_pos rfl]
        simp only [ev, putO, put_same, Option.some.injEq] at hy
        exact hy
      · rw [if_neg (by intro hh; exact htd (Option.some.inj hh).symm)]
        simp only [ev, putO, put_other _ _ htd] at hy
        exact hrr (.tmp t) v hy
  | const c => exact hrr (.const c) v hy
  | global g => exact hrr (.global g) v hy
  | func f => exact hrr (.func f) v hy

theorem callRes_mono {K K' : Value → World → Prop} (hk : ∀ v w, K v w → K' v w) {r : Result Next} (h : callRes P K r) : callRes P K' r := by
  cases r with
  | halt x w' => exact h
  | ok n w' =>
    cases n <;> try exact h
    case value v => exact hk _ _ h
    case enter g as => exact Calls.mono h fun e w' ⟨v, he, hv⟩ => ⟨v, he, hk _ _ hv⟩
theorem rawRes_mono {K K' : Value → World → Prop} (hk : ∀ v w, K v w → K' v w) {r : Result Next} (h : rawRes P K r) : rawRes P K' r := by
  cases r with
  | halt x w' => exact h
  | ok n w' =>
    cases n <;> try exact h
    case value v => exact hk _ _ h
    case skip => exact hk _ _ h
    case enter g as => exact Calls.mono h fun e w' ⟨v, he, hv⟩ => ⟨v, he, hk _ _ hv⟩
    case row row as => exact Rows.mono h fun v w'' hv => hk _ _ hv
theorem PR.vc_mono {K K' : Value → Prop} (hk : ∀ v, K v → K' v) {r : PR} (h : r.vc K) : r.vc K' := by
  rw [PR.vc_iff] at *
  exact ⟨h.1, hk _ h.2⟩

theorem opVC_mono {o : Oper} {e : Env} {w : World} {K K' : Value → World → Prop} (hk : ∀ v w, K v w → K' v w) (h : opVC P T o e w K) : opVC P T o e w K' := by
  obtain ⟨dst, op, type, pos, after, guard⟩ := o
  have raw : rawVC P ⟨dst, op, type, pos, after, guard⟩ e w K → rawVC P ⟨dst, op, type, pos, after, guard⟩ e w K' := fun h r hr => rawRes_mono hk (h r hr)
  have pure : (pureOp T op e).vc (fun v => K v w) → (pureOp T op e).vc (fun v => K' v w) := PR.vc_mono fun v => hk v w
  cases op with
  | load t x =>
    simp only [opVC] at h ⊢
    split at h
    · obtain ⟨v, hl, h⟩ := h; exact ⟨v, hl, hk _ _ h⟩
    · exact h
  | store t x y =>
    simp only [opVC] at h ⊢
    split at h
    · exact ⟨h.1, fun w' hw => hk _ _ (h.2 w' hw)⟩
    · exact h
  | alloc t =>
    simp only [opVC] at h ⊢
    cases hkn : known (tyAt T t) with
    | false => rw [hkn] at h; exact h.elim
    | true => rw [hkn] at h; exact fun b w' hn => hk _ _ (h b w' hn)
  | box t x =>
    simp only [opVC] at h ⊢
    split at h
    · exact fun b w' hn => hk _ _ (h b w' hn)
    · exact h
  | buildSlice t n parts =>
    simp only [opVC] at h ⊢
    split at h
    · rename_i el ps _ _
      cases hb : (known (tyAt T el) && Nat.blt 0 (tyAt T el).size && Nat.beq (tyAt T el).zero.length (tyAt T el).size && Nat.ble (n * (tyAt T el).size) 16777216) with
      | false => rw [hb] at h; exact h.elim
      | true =>
        rw [hb] at h
        simp only [cond_true] at h ⊢
        split at h
        · exact fun b w' hn => hk _ _ (h b w' hn)
        · exact h
    · exact h
  | makeSlice t l c =>
    simp only [opVC] at h ⊢
    split at h
    · rename_i el kl l' kc c' _ _ _
      cases hb : (known (tyAt T el) && Nat.blt 0 (tyAt T el).size && Nat.beq (tyAt T el).zero.length (tyAt T el).size) with
      | false => rw [hb] at h; exact h.elim
      | true =>
        rw [hb] at h
        obtain ⟨n, k, hc, h⟩ := h
        exact ⟨n, k, hc, fun b w' hn => hk _ _ (h b w' hn)⟩
    · exact h
  | call c =>
    simp only [opVC] at h ⊢
    split at h
    · split at h
      · exact CallS.mono h hk
      · exact h
    · split at h
      · unfold appVC at h ⊢
        split at h
        · obtain ⟨hb, base, n, xs, news, hc, h⟩ := h
          exact ⟨hb, base, n, xs, news, hc, fun v' w' h1 h2 h3 => hk _ _ (h v' w' h1 h2 h3)⟩
        · exact h
      · exact h
    · exact raw h
    · exact raw h
    · exact raw h
    · exact pure h
    · exact raw h
  | convert s d x =>
    simp only [opVC] at h ⊢
    split at h
    · exact raw h
    · exact pure h
  | makeMap _ _ => exact raw h
  | lookup _ _ _ _ => exact raw h
  | mapUpdate _ _ _ _ => exact raw h
  | insert _ _ _ _ => exact raw h
  | range _ _ => exact raw h
  | next _ _ => exact raw h
  | entry _ => exact raw h
  | typeAssert _ _ _ _ => exact raw h
  | panic _ => exact raw h
  | nilCheck _ => exact raw h
  | mapEntry _ _ _ => exact raw h
  | entryStore _ _ _ _ => exact raw h
  | index _ _ _ => exact raw h
  | «defer» _ => exact raw h
  | _ => exact pure h

theorem opVC_congr {o : Oper} (hs : isSel o = false) {e : Env} {w : World} {K : Value → World → Prop} {x : Option Tmp} {u : Value} (h : ∀ d, x = some d → d ∉ o.looksAt all.toArray)
    (hr : opVC P T o (putO x u e) w K) : opVC P T o e w K := by
  have hev : ∀ y ∈ o.op.operands.toList, ev (putO x u e) y = ev e y := by
    intro y hy
    refine ev_putO u e ?_
    intro t ht hyt
    subst hyt
    exact h t ht (List.mem_append_left _ (List.mem_filterMap.2 ⟨.tmp t, hy, rfl⟩))
  have raw : rawVC P o (putO x u e) w K → rawVC P o e w K := rawVC_congr hs rfl h
  have hp := pureOp_congr (T := T) (op := o.op) hev
  obtain ⟨dst, op, type, pos, after, guard⟩ := o
  simp only at hev hp
  cases op with
  | load t y => simp only [opVC] at hr ⊢; rwa [hev y (by simp [Op.operands])] at hr
  | store t y z => simp only [opVC] at hr ⊢; rwa [hev y (by simp [Op.operands]), hev z (by simp [Op.operands])] at hr
  | alloc t => exact hr
  | box t y => simp only [opVC] at hr ⊢; rwa [hev y (by simp [Op.operands])] at hr
  | buildSlice t n ps =>
    have : evp (putO x u e) ps.toList = evp e ps.toList := evp_congr fun y hy => hev y.2 (by simp [Op.operands]; exact ⟨y.1, by simpa using hy⟩)
    simp only [opVC, this] at hr ⊢; exact hr
  | makeSlice t l c => simp only [opVC] at hr ⊢; rwa [hev l (by simp [Op.operands]), hev c (by simp [Op.operands])] at hr
  | call c =>
    have h1 : evs (putO x u e) c.args.toList = evs e c.args.toList := evs_congr fun y hy => hev y (by simp [Op.operands, Call.operands] at hy ⊢; exact .inr hy)
    simp only [opVC] at hr ⊢
    split at hr
    · rename_i f hf
      have h2 : ev (putO x u e) f = ev e f := hev f (by simp [Op.operands, Call.operands, hf])
      rw [h1, h2] at hr; exact hr
    · rw [h1] at hr; exact hr
    · exact raw hr
    · exact raw hr
    · exact raw hr
    · rw [hp] at hr; exact hr
    · exact raw hr
  | convert s d y =>
    have he : ev (putO x u e) y = ev e y := hev y (by simp [Op.operands])
    simp only [opVC] at hr ⊢
    rw [he] at hr
    split at hr
    · exact raw hr
    · rw [hp] at hr; exact hr
  | makeMap _ _ => exact raw hr
  | lookup _ _ _ _ => exact raw hr
  | mapUpdate _ _ _ _ => exact raw hr
  | insert _ _ _ _ => exact raw hr
  | range _ _ => exact raw hr
  | next _ _ => exact raw hr
  | entry _ => exact raw hr
  | typeAssert _ _ _ _ => exact raw hr
  | panic _ => exact raw hr
  | nilCheck _ => exact raw hr
  | mapEntry _ _ _ => exact raw hr
  | entryStore _ _ _ _ => exact raw hr
  | index _ _ _ => exact raw hr
  | «defer» _ => exact raw hr
  | _ => simp only [opVC] at hr ⊢; rw [hp] at hr; exact hr

/-- An append or a store looks at its operands alone. -/
theorem opVC_k {o : Oper} {fl : Bool} (hk : kindOf o fl = .kp) {e : Env} {w : World} {K : Value → World → Prop} {x : Option Tmp} {u : Value} (h : ∀ d, x = some d → d ∉ o.looksAt all.toArray) (hr : opVC P T o e w K) : opVC P T o (putO x u e) w K := by
  have hev : ∀ y ∈ o.op.operands.toList, ev (putO x u e) y = ev e y := by
    intro y hy
    refine ev_putO u e ?_
    intro t ht hyt
    subst hyt
    exact h t ht (List.mem_append_left _ (List.mem_filterMap.2 ⟨.tmp t, hy, rfl⟩))
  obtain ⟨dst, op, type, pos, after, guard⟩ := o
  simp only at hev
  cases op with
  | store t y z =>
    simp only [opVC] at hr ⊢
    rw [hev y (by simp [Op.operands]), hev z (by simp [Op.operands])]
    exact hr
  | call c =>
    have h1 : evs (putO x u e) c.args.toList = evs e c.args.toList := evs_congr fun y hy => hev y (by simp [Op.operands, Call.operands] at hy ⊢; exact .inr hy)
    simp only [kindOf] at hk
    cases hc : c.callee with
    | value f => rw [hc] at hk; cases fl <;> cases hk
    | builtin b =>
      cases b with
      | append =>
        simp only [opVC, hc] at hr ⊢
        rw [h1]; exact hr
      | _ => rw [hc] at hk; cases hk
    | invoke a b => rw [hc] at hk; cases hk
  | load _ _ => cases fl <;> cases hk
  | _ => cases hk
/-- .. and leads on. -/
theorem opVC_k_some {o : Oper} {fl : Bool} (hk : kindOf o fl = .kp) {e : Env} {w : World} {C : Prop} (hr : opVC P T o e w fun _ _ => C) : C := by
  obtain ⟨dst, op, type, pos, after, guard⟩ := o
  cases op with
  | store t y z =>
    simp only [opVC] at hr
    split at hr
    · exact hr.2 _ rfl
    · exact hr.elim
  | call c =>
    simp only [kindOf] at hk
    cases hc : c.callee with
    | value f => rw [hc] at hk; cases fl <;> cases hk
    | builtin b =>
      cases b with
      | append =>
        simp only [opVC, hc] at hr
        split at hr
        · rename_i t u s x _ _
          unfold appVC at hr
          split at hr
          · rename_i el _ _ m _ _ _ _
            obtain ⟨_, base, n, xs, news, ⟨h1, h2, h3, h4, h5, h6, h7, h8⟩, hK⟩ := hr
            refine hK (.slice (some ⟨w.heap.size, 0, none⟩) (n + m) (n + m)) (w.alloc (.cells (xs ++ news).toArray el)) ⟨?_, .inr ⟨w.heap.size, n + m, (xs ++ news).toArray, rfl, h8, heap_alloc_new w _, Nat.le_refl _, by unfold maxLen; exact h6, ?_, ?_⟩⟩ (World.grownBy_alloc _ _ _) (.inr ?_)
            · rw [List.length_append, h1.1, h2, Nat.add_mul]
            · simp [h1.1, h2, Nat.add_mul]
            · rw [List.toList_toArray, List.take_of_length_le]
              rw [List.length_append, h1.1, h2, Nat.add_mul]; exact Nat.le_refl _
            · intro g hg
              cases hg
              exact Nat.le_refl _
          · exact hr.elim
        · exact hr.elim
      | _ => rw [hc] at hk; cases hk
    | invoke a b => rw [hc] at hk; cases hk
  | load _ _ => cases fl <;> cases hk
  | _ => cases hk
theorem effOf_congr {o : Oper} {fl : Bool} {e : Env} {x : Option Tmp} {u : Value} (h : ∀ d, x = some d → d ∉ o.looksAt all.toArray) : effOf T all o fl (putO x u e) = effOf T all o fl e := by
  have hev : ∀ y ∈ o.op.operands.toList, ev (putO x u e) y = ev e y := by
    intro y hy
    refine ev_putO u e ?_
    intro t ht hyt
    subst hyt
    exact h t ht (List.mem_append_left _ (List.mem_filterMap.2 ⟨.tmp t, hy, rfl⟩))
  have hp := pureOp_congr (T := T) (op := o.op) hev
  have hg : guardOf all o (putO x u e) = guardOf all o e := by
    have := @guardOf_putO all ⟨x, .alloc 0, 0, default, #[], none⟩ o u e h
    exact this
  unfold effOf
  rw [hg]
  obtain ⟨dst, op, type, pos, after, guard⟩ := o
  simp only at hev hp
  cases op with
  | load t y => simp only; rw [hev y (by simp [Op.operands])]
  | box t y => simp only; rw [hev y (by simp [Op.operands])]
  | buildSlice t n ps =>
    have : evp (putO x u e) ps.toList = evp e ps.toList := evp_congr fun y hy => hev y.2 (by simp [Op.operands]; exact ⟨y.1, by simpa using hy⟩)
    simp only [this]
  | call c =>
    have h1 : evs (putO x u e) c.args.toList = evs e c.args.toList := evs_congr fun y hy => hev y (by simp [Op.operands, Call.operands] at hy ⊢; exact .inr hy)
    cases hc : c.callee with
    | value f =>
      have h2 : ev (putO x u e) f = ev e f := hev f (by simp [Op.operands, Call.operands, hc])
      simp only [hc, h1, h2]
    | builtin b => cases b <;> simp only [hc, hp]
    | invoke a b => simp only [hc]
  | alloc t => rfl
  | store _ _ _ => rfl
  | makeSlice t l c => simp only; rw [hev l (by simp [Op.operands]), hev c (by simp [Op.operands])]
  | makeMap _ _ => rfl
  | lookup _ _ _ _ => rfl
  | mapUpdate _ _ _ _ => rfl
  | insert _ _ _ _ => rfl
  | range _ _ => rfl
  | next _ _ => rfl
  | entry _ => rfl
  | typeAssert _ _ _ _ => rfl
  | panic _ => rfl
  | nilCheck _ => rfl
  | mapEntry _ _ _ => rfl
  | entryStore _ _ _ _ => rfl
  | index _ _ _ => rfl
  | «defer» _ => rfl
  | _ => simp only; rw [hp]

end
end Go.Tw
/-
  A small calculus of conditions, part F: a statement whose order the model draws: the condition in one order serves for every order. Helpers; no statement of the program is proved here.
-/
set_option linter.unusedSimpArgs false
set_option linter.unusedVariables false
namespace Go.Tw
open Go Go.RowKit

section
variable {P : Program} {T : TT} {all : List Oper}

def Eff.yl (T : TT) (E : Eff) (base : World) (u : Value) : Prop :=
  match E with
  | .ret r => r.ok ∧ u = r.value
  | .load t p false => LoadAt T base t p u
  | _ => False
def Eff.isY (E : Eff) : Bool :=
  match E with
  | .ret _ => true
  | .load _ _ late => !late
  | _ => false

theorem LoadAt.unique {w : World} {t : Nat} {p : Addr} {u v : Value} (h : LoadAt T w t p u) (k : LoadAt T w t p v) : u = v := by
  obtain ⟨_, h⟩ := h
  obtain ⟨_, k⟩ := k
  cases hg : (tyAt T t).agg with
  | true =>
    rw [hg] at h k
    obtain ⟨cs, rfl, hl, hc⟩ := h
    obtain ⟨ds, rfl, kl, kc⟩ := k
    congr 2
    apply List.ext_getElem?
    intro j
    by_cases hj : j < (tyAt T t).size
    · have h1 : cs[j]? = some cs[j] := List.getElem?_eq_getElem (by omega)
      have h2 : ds[j]? = some ds[j] := List.getElem?_eq_getElem (by omega)
      have := hc j _ h1
      rw [kc j _ h2] at this
      rw [h1, h2, this]
    · rw [List.getElem?_eq_none (by omega), List.getElem?_eq_none (by omega)]
  | false =>
    rw [hg] at h k
    simp only [cond_false] at h k
    rw [h] at k; exact Option.some.inj k

theorem LoadAt.ext {w w' : World} {t : Nat} {p : Addr} {u : Value} (h : LoadAt T w t p u) (k : Ext w w') : LoadAt T w' t p u := by
  obtain ⟨hk, h⟩ := h
  refine ⟨hk, ?_⟩
  cases hg : (tyAt T t).agg with
  | true =>
    rw [hg] at h
    obtain ⟨cs, rfl, hl, hc⟩ := h
    exact ⟨cs, rfl, hl, fun j u hj => k.cellEq (hc j u hj)⟩
  | false =>
    rw [hg] at h
    exact k.cellEq h

theorem Eff.yl_unique {E : Eff} {base : World} {u v : Value} (h : E.yl T base u) (k : E.yl T base v) : u = v := by
  unfold Eff.yl at h k
  split at h
  · rw [h.2, k.2]
  · exact LoadAt.unique h k
  · exact h.elim

def dI (P : Program) (T : TT) (all : List Oper) (o : Oper) (E : Eff) (org : DOrg) (base : World) (F : World → Prop) (e : Env) (ih : DK) : Prop :=
  match E with
  | .bad => False
  | .ret r => r.vc fun v => ih org base F (putO o.dst v e)
  | .load t p false => ∃ v, LoadAt T base t p v ∧ ih org base F (putO o.dst v e)
  | .load t p true => ∃ v, (∀ w, Ext base w → F w → LoadAt T w t p v) ∧ ih org base (fun w => LoadAt T w t p v ∧ F w) (putO o.dst v e)
  | .al t cs mk => ∀ b, (¬ org.ns b ∧ Sat base (fun w => HasBlk org.w b t cs w ∧ F w)) → ih (org.add b) base (fun w => HasBlk org.w b t cs w ∧ F w) (putO o.dst (mk b) e)
  | .alc c t cs mk => c ∧ ∀ b, (¬ org.ns b ∧ Sat base (fun w => HasBlk org.w b t cs w ∧ F w)) → ih (org.add b) base (fun w => HasBlk org.w b t cs w ∧ F w) (putO o.dst (mk b) e)
  | .call f args => ∃ Post : Value → World → Prop, (∀ v, Stable (Post v)) ∧ (∀ w, Ext base w → F w → CallS P f args w fun v w' => Ext w w' ∧ Post v w') ∧
      ∀ v, Sat base (fun w => Post v w ∧ F w) → ih org base (fun w => Post v w ∧ F w) (putO o.dst v e)
  | .raw => ∀ w, Ext base w → F w → opVC P T o e w fun v w' => ih (DOrg.of w') w' (fun _ => True) (putO o.dst v e)
  | .rawK => ∀ w, Ext base w → F w → opVC P T o e w fun v w' => (KeptNew org.w w w' ∧ F w') ∧ ih org w' F (putO o.dst v e)
theorem dStep_eq (o : Oper) (fl : Bool) (org : DOrg) (base : World) (F : World → Prop) (e : Env) (ih : DK) : dStep P T all o fl org base F e ih = dI P T all o (effOf T all o fl e) org base F e ih := rfl
/-- An effect without its condition. -/
def Eff.nrm (E : Eff) : Eff :=
  match E with
  | .alc _ t cs mk => .al t cs mk
  | E => E
def Eff.cnd (E : Eff) : Prop :=
  match E with
  | .alc c _ _ _ => c
  | _ => True
theorem dI_nrm {o : Oper} {E : Eff} {org : DOrg} {base : World} {F : World → Prop} {e : Env} {ih : DK} : dI P T all o E org base F e ih ↔ E.cnd ∧ dI P T all o E.nrm org base F e ih := by
  cases E with
  | alc c t cs mk => exact Iff.rfl
  | load t p l => exact ⟨fun h => ⟨trivial, h⟩, fun h => h.2⟩
  | _ => exact ⟨fun h => ⟨trivial, h⟩, fun h => h.2⟩
theorem nrm_ne {E : Eff} {c : Prop} {t : Nat} {cs : List Value} {mk : Nat → Value} : E.nrm ≠ .alc c t cs mk := by
  cases E <;> intro h <;> cases h

theorem dI_yl {o : Oper} {E : Eff} (hE : E.isY = true) {org : DOrg} {base : World} {F : World → Prop} {e : Env} {ih : DK} : dI P T all o E org base F e ih ↔ ∃ u, E.yl T base u ∧ ih org base F (putO o.dst u e) := by
  cases E with
  | ret r =>
    simp only [dI, Eff.yl, PR.vc_iff]
    exact ⟨fun ⟨h, k⟩ => ⟨_, ⟨h, rfl⟩, k⟩, fun ⟨u, ⟨h, hu⟩, k⟩ => ⟨h, hu ▸ k⟩⟩
  | load t p late =>
    cases late with
    | false => exact Iff.rfl
    | true => cases hE
  | _ => cases hE

theorem CallS.some {f : FuncId} {args : Array Value} {w : World} {K : Value → World → Prop} (h : CallS P f args w K) : ∃ v w', K v w' := by
  replace h := h.out
  unfold callRes at h
  split at h
  · exact ⟨_, _, h⟩
  · obtain ⟨e, w', fr, ⟨v, _, hv⟩, _⟩ := h []
    exact ⟨v, w', hv⟩
  · exact h.elim

theorem HasBlk.stable (base : World) (b t : Nat) (cs : List Value) : Stable (HasBlk base b t cs) := by
  intro w w' h hx
  refine ⟨?_, h.2⟩
  have hb : b < w.heap.size := by
    rcases Nat.lt_or_ge b w.heap.size with h' | h'
    · exact h'
    · have := h.1; rw [Array.getElem?_eq_none h'] at this; cases this
  rw [hx.block b hb]; exact h.1
theorem Stable.and {F G : World → Prop} (hF : Stable F) (hG : Stable G) : Stable (fun w => F w ∧ G w) := fun w w' h hx => ⟨hF w w' h.1 hx, hG w w' h.2 hx⟩

theorem Sat.blk {org : DOrg} {base : World} {F : World → Prop} (ho : OrgOk org base F) (hF : Stable F) (hs : Sat base F) (t : Nat) (cs : List Value) : ∃ b, ¬ org.ns b ∧ Sat base (fun w => HasBlk org.w b t cs w ∧ F w) := by
  obtain ⟨w, hw, hFw⟩ := hs
  have hn := New.alloc w t cs.toArray
  exact ⟨w.heap.size, fun h => Nat.lt_irrefl _ (ho.new w hw hFw _ h), w.alloc (.cells cs.toArray t), Ext.trans' hw hn.ext, ⟨by simpa using hn.blk, Nat.le_trans ho.size hw.size⟩, hF _ _ hFw hn.ext⟩
theorem HasBlk.lt {base : World} {b t : Nat} {cs : List Value} {w : World} (h : HasBlk base b t cs w) : b < w.heap.size := by
  rcases Nat.lt_or_ge b w.heap.size with h' | h'
  · exact h'
  · have := h.1; rw [Array.getElem?_eq_none h'] at this; cases this
theorem OrgOk.al {org : DOrg} {base : World} {F : World → Prop} (h : OrgOk org base F) (b t : Nat) (cs : List Value) : OrgOk (org.add b) base (fun w => HasBlk org.w b t cs w ∧ F w) :=
  ⟨h.size, fun w hw hF c hc => hc.elim (fun e => by rw [e]; exact hF.1.lt) (fun hc => h.new w hw hF.2 c hc)⟩
theorem OrgOk.more {org : DOrg} {base : World} {F G : World → Prop} (h : OrgOk org base F) : OrgOk org base (fun w => G w ∧ F w) := ⟨h.size, fun w hw hF c hc => h.new w hw hF.2 c hc⟩
theorem OrgOk.start (w : World) : OrgOk (DOrg.of w) w (fun _ => True) := ⟨Nat.le_refl _, fun _ _ _ _ h => h.elim⟩
theorem OrgOk.keep {org : DOrg} {base w w' : World} {F : World → Prop} (h : OrgOk org base F) (hx : Ext base w) (hF : F w) (hk : KeptNew org.w w w') : OrgOk org w' F :=
  ⟨Nat.le_trans h.size (Nat.le_trans hx.size hk.size), fun v hv _ c hc => Nat.lt_of_lt_of_le (h.new w hx hF c hc) (Nat.le_trans hk.size hv.size)⟩
theorem Sat.call {base : World} {F : World → Prop} (hF : Stable F) (hs : Sat base F) {f : FuncId} {args : Array Value} {Post : Value → World → Prop}
    (h : ∀ w, Ext base w → F w → CallS P f args w fun v w' => Ext w w' ∧ Post v w') : ∃ v, Sat base (fun w => Post v w ∧ F w) := by
  obtain ⟨w, hw, hFw⟩ := hs
  obtain ⟨v, w', hx, hv⟩ := (h w hw hFw).some
  exact ⟨v, w', Ext.trans' hw hx, hv, hF _ _ hFw hx⟩
theorem Sat.left {base : World} {F G : World → Prop} (h : Sat base (fun w => F w ∧ G w)) : Sat base G := by obtain ⟨w, hw, _, hg⟩ := h; exact ⟨w, hw, hg⟩
theorem Sat.imp {base : World} {F G : World → Prop} (h : Sat base F) (k : ∀ w, F w → G w) : Sat base G := by obtain ⟨w, hw, hg⟩ := h; exact ⟨w, hw, k _ hg⟩
theorem and_left_comm' (F G H : World → Prop) : (fun w => F w ∧ G w ∧ H w) = (fun w => G w ∧ F w ∧ H w) := by
  funext w; exact propext ⟨fun ⟨a, b, c⟩ => ⟨b, a, c⟩, fun ⟨a, b, c⟩ => ⟨b, a, c⟩⟩

def Kd (k : K6) (E : Eff) : Prop :=
  match E with
  | .load _ _ late => k = (bif late then .lf else .lb)
  | .al _ _ _ => k = .a
  | .call _ _ => k = .c
  | .raw => k = .e
  | .rawK => k = .kp
  | .alc _ _ _ _ => k = .a
  | .ret _ => True
  | .bad => True
theorem eff_kind (o : Oper) (fl : Bool) (e : Env) : Kd (kindOf o fl) (effOf T all o fl e) := by
  unfold effOf
  cases guardOf all o e with
  | none => trivial
  | some b =>
    cases b with
    | false => trivial
    | true =>
      obtain ⟨dst, op, type, pos, after, guard⟩ := o
      cases op with
      | load t x => simp only [kindOf]; (repeat' split) <;> first | trivial | (cases fl <;> rfl)
      | alloc t => simp only [kindOf]; cases known (tyAt T t) <;> first | trivial | rfl
      | box t x => simp only [kindOf]; (repeat' split) <;> first | trivial | rfl
      | buildSlice t n ps =>
        simp only [kindOf]
        split
        · rename_i el _ _ _
          cases (known (tyAt T el) && Nat.blt 0 (tyAt T el).size && Nat.beq (tyAt T el).zero.length (tyAt T el).size && Nat.ble (n * (tyAt T el).size) 16777216) with
          | false => trivial
          | true => simp only [cond_true]; split <;> first | trivial | rfl
        · trivial
      | call c =>
        simp only [kindOf]
        cases hc : c.callee with
        | value f =>
          cases fl with
          | true => rfl
          | false => simp only; split <;> first | trivial | rfl
        | builtin b => cases b <;> first | trivial | rfl | (cases fl <;> rfl)
        | invoke a b => rfl
      | store t x y => cases fl <;> rfl
      | makeSlice t l c =>
        simp only [kindOf]
        split
        · rename_i el _ _ _ _ _ _ _
          cases (known (tyAt T el) && Nat.blt 0 (tyAt T el).size && Nat.beq (tyAt T el).zero.length (tyAt T el).size) <;> first | trivial | rfl
        · trivial
      | _ => first | trivial | rfl

theorem LoadAt.stable {t : Nat} {p : Addr} {u : Value} : Stable (fun w => LoadAt T w t p u) := fun _ _ h k => h.ext k
theorem Sat.ld {base : World} {F : World → Prop} {t : Nat} {p : Addr} {u : Value} (h : Sat base F) (k : ∀ w, Ext base w → F w → LoadAt T w t p u) : Sat base (fun w => LoadAt T w t p u ∧ F w) := by
  obtain ⟨w, hw, hF⟩ := h
  exact ⟨w, hw, k w hw hF, hF⟩
theorem Sat.ld2 {base : World} {F G : World → Prop} {t : Nat} {p : Addr} {u : Value} (h : Sat base (fun w => G w ∧ F w)) (k : ∀ w, Ext base w → F w → LoadAt T w t p u) : Sat base (fun w => G w ∧ LoadAt T w t p u ∧ F w) := by
  obtain ⟨w, hw, hG, hF⟩ := h
  exact ⟨w, hw, hG, k w hw hF, hF⟩
theorem compat_k {k : K6} (h : compat .kp k = true) : k = .a ∨ k = .p := by cases k <;> first | exact .inl rfl | exact .inr rfl | cases h
theorem compat_e {k : K6} (h : compat .e k = true) : False := by cases k <;> cases h

theorem nrm_kd {k : K6} {E : Eff} (h : Kd k E) : Kd k E.nrm := by
  cases E with
  | load t p l => exact h
  | _ => exact h
theorem dI_at {o : Oper} {E : Eff} {org : DOrg} {base : World} {F : World → Prop} {e : Env} {ih ih' : DK} (hm : ∀ O B F v, ih O B F (putO o.dst v e) → ih' O B F (putO o.dst v e)) (h : dI P T all o E org base F e ih) : dI P T all o E org base F e ih' := by
  by_cases y : E.isY = true
  · rw [dI_yl y] at h ⊢
    obtain ⟨u, hu, h⟩ := h
    exact ⟨u, hu, hm _ _ _ _ h⟩
  · cases E with
    | bad => exact h
    | ret r => exact absurd rfl y
    | load t p l =>
      cases l with
      | false => exact absurd rfl y
      | true =>
        obtain ⟨u, hu, h⟩ := h
        exact ⟨u, hu, hm _ _ _ _ h⟩
    | al t cs mk => exact fun b hb => hm _ _ _ _ (h b hb)
    | alc c t cs mk => exact ⟨h.1, fun b hb => hm _ _ _ _ (h.2 b hb)⟩
    | call f args =>
      obtain ⟨Post, hP, hC, h⟩ := h
      exact ⟨Post, hP, hC, fun v hv => hm _ _ _ _ (h v hv)⟩
    | raw => exact fun w hw hFw => opVC_mono (fun v w' hv => hm _ _ _ _ hv) (h w hw hFw)
    | rawK => exact fun w hw hFw => opVC_mono (fun v w' hv => ⟨hv.1, hm _ _ _ _ hv.2⟩) (h w hw hFw)
/-- Some way leads on. -/
theorem dI_some {o : Oper} {E : Eff} {org : DOrg} {base : World} {F : World → Prop} {e : Env} {C : Prop} (ho : OrgOk org base F) (hF : Stable F) (hsat : Sat base F) {fl : Bool} (hk : Kd (kindOf o fl) E) (hE : E ≠ .raw) (h : dI P T all o E org base F e (fun _ _ _ _ => C)) : C := by
  cases E with
  | bad => exact h.elim
  | ret r => exact ((PR.vc_iff _ _).1 h).2
  | load t p l => cases l with
    | false => obtain ⟨_, _, h⟩ := h; exact h
    | true => obtain ⟨_, _, h⟩ := h; exact h
  | al t cs mk => obtain ⟨b, hb⟩ := Sat.blk ho hF hsat t cs; exact h b hb
  | alc c t cs mk => obtain ⟨b, hb⟩ := Sat.blk ho hF hsat t cs; exact h.2 b hb
  | call f args =>
    obtain ⟨Post, hP, hC, h⟩ := h
    obtain ⟨v, hv⟩ := hsat.call hF hC
    exact h v hv
  | raw => exact absurd rfl hE
  | rawK =>
    obtain ⟨w, hw, hFw⟩ := hsat
    exact opVC_k_some hk (opVC_mono (fun v w' hv => hv.2) (h w hw hFw))

/-- What stands first may stand second: effects. -/
theorem dI_swap {x o : Oper} {fx fo : Bool} (hco : compat (kindOf x fx) (kindOf o fo) = true) (hso : isSel o = false) {org : DOrg} {base : World} {F : World → Prop} {e : Env} {ih : DK} {Ex Eo : Eff} (nx : ∀ c t cs mk, Ex ≠ .alc c t cs mk) (no : ∀ c t cs mk, Eo ≠ .alc c t cs mk)
    (kx : Kd (kindOf x fx) Ex) (ko : Kd (kindOf o fo) Eo) (a1 : ∀ d, x.dst = some d → d ∉ o.looksAt all.toArray) (a3 : ∀ d, o.dst = some d → d ∉ x.looksAt all.toArray)
    (cm : ∀ u v, putO o.dst v (putO x.dst u e) = putO x.dst u (putO o.dst v e)) (ho : OrgOk org base F) (hF : Stable F) (hsat : Sat base F)
    (h : dI P T all x Ex org base F e (fun O B F e' => dI P T all o Eo O B F e' ih)) : dI P T all o Eo org base F e (fun O B F e' => dI P T all x Ex O B F e' ih) := by
  by_cases yx : Ex.isY = true
  · rw [dI_yl yx] at h
    obtain ⟨u, hu, h⟩ := h
    by_cases yo : Eo.isY = true
    · rw [dI_yl yo] at h ⊢
      obtain ⟨v, hv, h⟩ := h
      exact ⟨v, hv, (dI_yl yx).2 ⟨u, hu, by rw [← cm]; exact h⟩⟩
    · have hearly : (kindOf o fo = .e ∨ kindOf o fo = .kp) → ∃ r, Ex = .ret r := by
        intro hke
        cases Ex with
        | ret r => exact ⟨r, rfl⟩
        | load t p l =>
          have : kindOf x fx = (bif l then .lf else .lb) := kx
          rw [this] at hco
          cases l with
          | true => cases yx
          | false => rcases hke with hke | hke <;> (rw [hke] at hco; cases hco)
        | _ => cases yx
      cases Eo with
      | bad => exact h.elim
      | ret r => exact absurd rfl yo
      | load t p l =>
        cases l with
        | false => exact absurd rfl yo
        | true =>
          obtain ⟨v, hv, h⟩ := h
          exact ⟨v, hv, (dI_yl yx).2 ⟨u, hu, by rw [← cm]; exact h⟩⟩
      | alc c t cs mk => exact absurd rfl (no c t cs mk)
      | al t cs mk =>
        intro b hb
        exact (dI_yl yx).2 ⟨u, hu, by rw [← cm]; exact h b hb⟩
      | call f args =>
        obtain ⟨Post, hP, hC, h⟩ := h
        exact ⟨Post, hP, hC, fun v hv => (dI_yl yx).2 ⟨u, hu, by rw [← cm]; exact h v hv⟩⟩
      | raw =>
        obtain ⟨r, rfl⟩ := hearly (.inl ko)
        intro w hw hFw
        refine opVC_mono ?_ (opVC_congr hso a1 (h w hw hFw))
        intro v w' hv
        exact (dI_yl yx).2 ⟨u, hu, by rw [← cm]; exact hv⟩
      | rawK =>
        obtain ⟨r, rfl⟩ := hearly (.inr ko)
        intro w hw hFw
        refine opVC_mono ?_ (opVC_congr hso a1 (h w hw hFw))
        intro v w' hv
        exact ⟨hv.1, (dI_yl yx).2 ⟨u, hu, by rw [← cm]; exact hv.2⟩⟩
  · cases Ex with
    | bad => exact h.elim
    | ret r => exact absurd rfl yx
    | raw => have : kindOf x fx = .e := kx; rw [this] at hco; exact (compat_e hco).elim
    | alc c t cs mk => exact absurd rfl (nx c t cs mk)
    | rawK =>
      have hkx : kindOf x fx = .kp := kx
      cases Eo with
      | al t cs mk =>
        rintro b ⟨hnb, hb⟩ w hw hFw
        have := opVC_k hkx a3 (u := mk b) (h w hw hFw.2)
        refine opVC_mono ?_ this
        intro v w' hv
        have hlt : b < w.heap.size := by
          rcases Nat.lt_or_ge b w.heap.size with h' | h'
          · exact h'
          · have := hFw.1.1; rw [Array.getElem?_eq_none h'] at this; cases this
        have hb' : HasBlk org.w b t cs w' := ⟨by rw [hv.1.1.blk b hFw.1.2 hlt]; exact hFw.1.1, hFw.1.2⟩
        refine ⟨⟨hv.1.1, hb', hv.1.2⟩, ?_⟩
        rw [← cm]
        exact hv.2 b ⟨hnb, w', Ext.rfl w', hb', hv.1.2⟩
      | alc c t cs mk => exact absurd rfl (no c t cs mk)
      | bad =>
        obtain ⟨w, hw, hFw⟩ := hsat
        exact opVC_k_some hkx (opVC_mono (fun v w' hv => hv.2) (h w hw hFw))
      | ret r =>
        obtain ⟨w, hw, hFw⟩ := hsat
        have hr := opVC_k_some hkx (opVC_mono (K' := fun _ _ => r.ok) (fun v w' hv => ((PR.vc_iff _ _).1 hv.2).1) (h w hw hFw))
        refine (PR.vc_iff _ _).2 ⟨hr, fun w hw hFw => ?_⟩
        refine opVC_mono ?_ (opVC_k hkx a3 (u := r.value) (h w hw hFw))
        intro v w' hv
        refine ⟨hv.1, ?_⟩
        rw [← cm]
        exact ((PR.vc_iff _ _).1 hv.2).2
      | load t p l =>
        have : kindOf o fo = (bif l then .lf else .lb) := ko
        rw [hkx, this] at hco
        cases l <;> cases hco
      | call f args => have : kindOf o fo = .c := ko; rw [hkx, this] at hco; cases hco
      | raw => have : kindOf o fo = .e := ko; rw [hkx, this] at hco; cases hco
      | rawK => have : kindOf o fo = .kp := ko; rw [hkx, this] at hco; cases hco
    | load t p l =>
      cases l with
      | false => exact absurd rfl yx
      | true =>
        have hkx : kindOf x fx = .lf := kx
        rw [hkx] at hco
        obtain ⟨u, hu, h⟩ := h
        by_cases yo : Eo.isY = true
        · rw [dI_yl yo] at h ⊢
          obtain ⟨v, hv, h⟩ := h
          exact ⟨v, hv, u, hu, by rw [← cm]; exact h⟩
        · cases Eo with
          | bad => exact h.elim
          | ret r => exact absurd rfl yo
          | load t' p' l' =>
            cases l' with
            | false => exact absurd rfl yo
            | true =>
              obtain ⟨v, hv, h⟩ := h
              refine ⟨v, fun w hw hF => hv w hw ⟨hu w hw hF, hF⟩, u, fun w hw hF => hu w hw hF.2, ?_⟩
              rw [and_left_comm', ← cm]; exact h
          | alc c t cs mk => exact absurd rfl (no c t cs mk)
          | al t' cs' mk' =>
            intro b hb
            refine ⟨u, fun w hw hF => hu w hw hF.2, ?_⟩
            have := h b ⟨hb.1, hb.2.ld2 hu⟩
            rw [and_left_comm', ← cm]; exact this
          | call f args =>
            obtain ⟨Post, hP, hC, h⟩ := h
            refine ⟨Post, hP, fun w hw hF => hC w hw ⟨hu w hw hF, hF⟩, fun v hv => ⟨u, fun w hw hF => hu w hw hF.2, ?_⟩⟩
            have := h v (hv.ld2 hu)
            rw [and_left_comm', ← cm]; exact this
          | raw => have : kindOf o fo = .e := ko; rw [this] at hco; cases hco
          | rawK =>
            intro w hw hFw
            refine opVC_mono ?_ (opVC_congr hso a1 (h w hw ⟨hu w hw hFw, hFw⟩))
            intro v w' hv
            refine ⟨⟨hv.1.1, hv.1.2.2⟩, u, fun w2 hx2 _ => hv.1.2.1.ext hx2, ?_⟩
            rw [← cm]; exact hv.2
    | al t cs mk =>
      have hkx : kindOf x fx = .a := kx
      rw [hkx] at hco
      by_cases yo : Eo.isY = true
      · rw [dI_yl yo]
        obtain ⟨b0, hb0⟩ := Sat.blk ho hF hsat t cs
        have h0 := (dI_yl yo).1 (h b0 hb0)
        obtain ⟨v, hv, _⟩ := h0
        refine ⟨v, hv, ?_⟩
        intro b hb
        obtain ⟨v', hv', h'⟩ := (dI_yl yo).1 (h b hb)
        have : v = v' := Eff.yl_unique hv hv'
        subst this
        rw [← cm]; exact h'
      · cases Eo with
        | bad => obtain ⟨b0, hb0⟩ := Sat.blk ho hF hsat t cs; exact (h b0 hb0).elim
        | ret r => exact absurd rfl yo
        | load t p l =>
          cases l with
          | false => exact absurd rfl yo
          | true => have : kindOf o fo = .lf := ko; rw [this] at hco; cases hco
        | alc c t cs mk => exact absurd rfl (no c t cs mk)
        | al t' cs' mk' =>
          rintro b' ⟨hnb', hb'⟩ b ⟨hnb, hb⟩
          have hb1 : Sat base (fun w => HasBlk org.w b t cs w ∧ F w) := hb.imp fun w hw => ⟨hw.1, hw.2.2⟩
          have hb2 : Sat base (fun w => HasBlk org.w b' t' cs' w ∧ HasBlk org.w b t cs w ∧ F w) := hb.imp fun w hw => ⟨hw.2.1, hw.1, hw.2.2⟩
          have := h b ⟨fun hh => hnb (.inr hh), hb1⟩ b' ⟨fun hh => hh.elim (fun e => hnb (.inl e.symm)) hnb', hb2⟩
          rw [and_left_comm', cm, DOrg.comm] at this
          exact this
        | call f args => have : kindOf o fo = .c := ko; rw [this] at hco; cases hco
        | raw => have : kindOf o fo = .e := ko; rw [this] at hco; cases hco
        | rawK => have : kindOf o fo = .kp := ko; rw [this] at hco; cases hco
    | call f args =>
      have hkx : kindOf x fx = .c := kx
      rw [hkx] at hco
      obtain ⟨Post, hP, hC, h⟩ := h
      by_cases yo : Eo.isY = true
      · rw [dI_yl yo]
        obtain ⟨b0, hb0⟩ := hsat.call hF hC
        have h0 := (dI_yl yo).1 (h b0 hb0)
        obtain ⟨v, hv, _⟩ := h0
        refine ⟨v, hv, Post, hP, hC, ?_⟩
        intro b hb
        obtain ⟨v', hv', h'⟩ := (dI_yl yo).1 (h b hb)
        have : v = v' := Eff.yl_unique hv hv'
        subst this
        rw [← cm]; exact h'
      · cases Eo with
        | bad => obtain ⟨b0, hb0⟩ := hsat.call hF hC; exact (h b0 hb0).elim
        | ret r => exact absurd rfl yo
        | load t p l =>
          cases l with
          | false => exact absurd rfl yo
          | true => have : kindOf o fo = .lf := ko; rw [this] at hco; cases hco
        | alc c t cs mk => exact absurd rfl (no c t cs mk)
        | al t' cs' mk' =>
          rintro b' ⟨hnb', hb'⟩
          refine ⟨Post, hP, fun w hw hFw => hC w hw hFw.2, ?_⟩
          intro v hv
          have hb1 : Sat base (fun w => Post v w ∧ F w) := hv.imp fun w hw => ⟨hw.1, hw.2.2⟩
          have hb2 : Sat base (fun w => HasBlk org.w b' t' cs' w ∧ Post v w ∧ F w) := hv.imp fun w hw => ⟨hw.2.1, hw.1, hw.2.2⟩
          have := h v hb1 b' ⟨hnb', hb2⟩
          rw [and_left_comm', cm] at this
          exact this
        | call f args => have : kindOf o fo = .c := ko; rw [this] at hco; cases hco
        | raw => have : kindOf o fo = .e := ko; rw [this] at hco; cases hco
        | rawK => have : kindOf o fo = .kp := ko; rw [this] at hco; cases hco

/-- What stands first may stand second. -/
theorem dStep_swap {x o : Oper} {fx fo : Bool} (hs : swapOk all x fx o fo = true) {org : DOrg} {base : World} {F : World → Prop} {e : Env} {ih : DK} (ho : OrgOk org base F) (hF : Stable F) (hsat : Sat base F)
    (h : dStep P T all x fx org base F e (fun O B F e => dStep P T all o fo O B F e ih)) : dStep P T all o fo org base F e (fun O B F e => dStep P T all x fx O B F e ih) := by
  unfold swapOk at hs
  simp only [Bool.and_eq_true, Bool.not_eq_true'] at hs
  obtain ⟨⟨⟨hap, hco⟩, hsx⟩, hso⟩ := hs
  obtain ⟨a1, a2, a3⟩ := Oper.apart_spec hap
  have eo : ∀ u, effOf T all o fo (putO x.dst u e) = effOf T all o fo e := fun u => effOf_congr a1
  have ex : ∀ u, effOf T all x fx (putO o.dst u e) = effOf T all x fx e := fun u => effOf_congr a3
  have cm : ∀ u v, putO o.dst v (putO x.dst u e) = putO x.dst u (putO o.dst v e) := fun u v => (putO_comm u v e a2).symm
  have kx := eff_kind (T := T) (all := all) x fx e
  have ko := eff_kind (T := T) (all := all) o fo e
  have h : dI P T all x (effOf T all x fx e) org base F e (fun O B F e' => dI P T all o (effOf T all o fo e) O B F e' ih) := by
    rw [dStep_eq] at h
    refine dI_at ?_ h
    intro O B F v hv
    have hv' : dI P T all o (effOf T all o fo (putO x.dst v e)) O B F (putO x.dst v e) ih := hv
    rw [eo] at hv'; exact hv'
  suffices hg : dI P T all o (effOf T all o fo e) org base F e (fun O B F e' => dI P T all x (effOf T all x fx e) O B F e' ih) by
    rw [dStep_eq]
    refine dI_at ?_ hg
    intro O B F v hv
    show dI P T all x (effOf T all x fx (putO o.dst v e)) O B F (putO o.dst v e) ih
    rw [ex]; exact hv
  generalize effOf T all x fx e = Ex at h kx ⊢
  generalize effOf T all o fo e = Eo at h ko ⊢
  have hx := dI_nrm.1 h
  have h2 := dI_at (E := Ex.nrm) (ih' := fun O B F e' => Eo.cnd ∧ dI P T all o Eo.nrm O B F e' ih) (fun O B F v hv => dI_nrm.1 hv) hx.2
  have hne : Ex.nrm ≠ .raw := by
    intro hw
    have : kindOf x fx = .e := by have := nrm_kd kx; rw [hw] at this; exact this
    rw [this] at hco; exact compat_e hco
  have hc : Eo.cnd := dI_some ho hF hsat (nrm_kd kx) hne (dI_at (ih' := fun _ _ _ _ => Eo.cnd) (fun O B F v hv => hv.1) h2)
  have h3 := dI_swap hco hso (fun _ _ _ _ => nrm_ne) (fun _ _ _ _ => nrm_ne) (nrm_kd kx) (nrm_kd ko) a1 a3 cm ho hF hsat (dI_at (fun O B F v hv => hv.2) h2)
  exact dI_nrm.2 ⟨hc, dI_at (fun O B F v hv => dI_nrm.2 ⟨hx.1, hv⟩) h3⟩

theorem dStep_mono {o : Oper} {fl : Bool} {org : DOrg} {base : World} {F : World → Prop} {e : Env} {ih ih' : DK} (ho : OrgOk org base F) (hF : Stable F) (hsat : Sat base F)
    (hm : ∀ O B F e, OrgOk O B F → Stable F → Sat B F → ih O B F e → ih' O B F e) (h : dStep P T all o fl org base F e ih) : dStep P T all o fl org base F e ih' := by
  rw [dStep_eq] at h ⊢
  generalize effOf T all o fl e = E at h ⊢
  by_cases y : E.isY = true
  · rw [dI_yl y] at h ⊢
    obtain ⟨u, hu, h⟩ := h
    exact ⟨u, hu, hm _ _ _ _ ho hF hsat h⟩
  · cases E with
    | bad => exact h
    | ret r => exact absurd rfl y
    | load t p l =>
      cases l with
      | false => exact absurd rfl y
      | true =>
        obtain ⟨u, hu, h⟩ := h
        exact ⟨u, hu, hm _ _ _ _ ho.more (LoadAt.stable.and hF) (hsat.ld hu) h⟩
    | al t cs mk => exact fun b hb => hm _ _ _ _ (ho.al b t cs) ((HasBlk.stable org.w b t cs).and hF) hb.2 (h b hb)
    | alc c t cs mk => exact ⟨h.1, fun b hb => hm _ _ _ _ (ho.al b t cs) ((HasBlk.stable org.w b t cs).and hF) hb.2 (h.2 b hb)⟩
    | call f args =>
      obtain ⟨Post, hP, hC, h⟩ := h
      exact ⟨Post, hP, hC, fun v hv => hm _ _ _ _ ho.more ((hP v).and hF) hv (h v hv)⟩
    | raw => exact fun w hw hFw => opVC_mono (fun v w' hv => hm _ _ _ _ (OrgOk.start w') (fun _ _ _ _ => trivial) ⟨w', Ext.rfl w', trivial⟩ hv) (h w hw hFw)
    | rawK => exact fun w hw hFw => opVC_mono (fun v w' hv => ⟨hv.1, hm _ _ _ _ (ho.keep hw hFw hv.1.1) hF ⟨w', Ext.rfl w', hv.1.2⟩ hv.2⟩) (h w hw hFw)

/-- The state behind an operation. -/
def After (n : Nat) (ih : DK) (a : Act) (w : World) : Prop := ∃ org base F e, ih org base F e ∧ Fits n a e ∧ Ext base w ∧ F w ∧ Stable F ∧ OrgOk org base F

theorem dStep_run (hT : TOk P T) {n : Nat} {o : Oper} {fl : Bool} {org : DOrg} {base : World} {F : World → Prop} {e : Env} {ih : DK} (hd : ∀ d, o.dst = some d → d < n) {a : Act} {w : World} (hf : Fits n a e) (hx : Ext base w) (hFw : F w) (hF : Stable F) (ho : OrgOk org base F)
    (h : dStep P T all o fl org base F e ih) (Q : Exit → Act → World → Prop) :
    if Region.wanted o (yielded all.toArray a.tmps) then o.wp P a w (After n ih) Q ∨ (o.asks P a w ∧ LetsOut Q) else After n ih (a.put o.dst undef) w := by
  have key : ∀ {K : Value → World → Prop}, guardOf all o e = some true → opVC P T o e w K → (∀ v w', K v w' → After n ih (a.put o.dst v) w') →
      if Region.wanted o (yielded all.toArray a.tmps) then o.wp P a w (After n ih) Q ∨ (o.asks P a w ∧ LetsOut Q) else After n ih (a.put o.dst undef) w := by
    intro K hg hop hK
    rw [if_pos (wanted_of_guard hf.get hg)]
    refine .inl ?_
    refine upon_mono ?_ ?_ (opVC_sound hT o hf.get hop)
    · rintro a' w' ⟨v, rfl, hv⟩; exact hK v w' hv
    · intro x a w hx; exact hx.elim
  have aft : ∀ {v : Value} {w' : World} {O : DOrg} {B : World} {F' : World → Prop}, ih O B F' (putO o.dst v e) → Ext B w' → F' w' → Stable F' → OrgOk O B F' → After n ih (a.put o.dst v) w' := fun h1 h2 h3 h4 h5 => ⟨_, _, _, _, h1, hf.put hd _, h2, h3, h4, h5⟩
  unfold dStep effOf at h
  cases hg : guardOf all o e with
  | none => rw [hg] at h; exact h.elim
  | some b =>
    rw [hg] at h
    cases b with
    | false =>
      rw [if_neg (by rw [wanted_of_guard hf.get hg]; simp)]
      exact aft h hx hFw hF ho
    | true =>
      simp only at h
      have ret : (pureOp T o.op e).vc (fun v => ih org base F (putO o.dst v e)) → opVC P T o e w (fun v w' => (pureOp T o.op e).value = v ∧ w' = w) →
          if Region.wanted o (yielded all.toArray a.tmps) then o.wp P a w (After n ih) Q ∨ (o.asks P a w ∧ LetsOut Q) else After n ih (a.put o.dst undef) w := by
        intro h1 h2
        refine key hg h2 ?_
        rintro v w' ⟨rfl, rfl⟩
        exact aft ((PR.vc_iff _ _).1 h1).2 hx hFw hF ho
      have ret' : (pureOp T o.op e).vc (fun v => ih org base F (putO o.dst v e)) → (pureOp T o.op e).vc (fun v => (pureOp T o.op e).value = v ∧ w = w) := by
        intro h1
        exact (PR.vc_iff _ _).2 ⟨((PR.vc_iff _ _).1 h1).1, rfl, rfl⟩
      have raw : (∀ w, Ext base w → F w → opVC P T o e w fun v w' => ih (DOrg.of w') w' (fun _ => True) (putO o.dst v e)) →
          if Region.wanted o (yielded all.toArray a.tmps) then o.wp P a w (After n ih) Q ∨ (o.asks P a w ∧ LetsOut Q) else After n ih (a.put o.dst undef) w := by
        intro h1
        exact key hg (h1 w hx hFw) fun v w' hv => aft hv (Ext.rfl w') trivial (fun _ _ _ _ => trivial) (OrgOk.start w')
      have rawK : (∀ w, Ext base w → F w → opVC P T o e w fun v w' => (KeptNew org.w w w' ∧ F w') ∧ ih org w' F (putO o.dst v e)) →
          if Region.wanted o (yielded all.toArray a.tmps) then o.wp P a w (After n ih) Q ∨ (o.asks P a w ∧ LetsOut Q) else After n ih (a.put o.dst undef) w := by
        intro h1
        exact key hg (h1 w hx hFw) fun v w' hv => aft hv.2 (Ext.rfl w') hv.1.2 hF (ho.keep hx hFw hv.1.1)
      obtain ⟨dst, op, type, pos, after, guard⟩ := o
      cases op with
      | load t x =>
        simp only at h
        split at h
        · cases h
        · rename_i heq
          split at heq <;> cases heq
        · rename_i t' p' heq
          split at heq
          · rename_i p hp
            simp only [Eff.load.injEq] at heq
            obtain ⟨rfl, rfl, rfl⟩ := heq
            obtain ⟨v, hv, h⟩ := h
            refine key hg (K := fun u w' => u = v ∧ w' = w) ?_ ?_
            · simp only [opVC, hp]; exact ⟨v, hv.ext hx, by simp⟩
            · rintro u w' ⟨rfl, rfl⟩; exact aft h hx hFw hF ho
          · cases heq
        · rename_i t' p' heq
          split at heq
          · rename_i p hp
            simp only [Eff.load.injEq] at heq
            obtain ⟨rfl, rfl, rfl⟩ := heq
            obtain ⟨v, hv, h⟩ := h
            refine key hg (K := fun u w' => u = v ∧ w' = w) ?_ ?_
            · simp only [opVC, hp]; exact ⟨v, hv w hx hFw, by simp⟩
            · rintro u w' ⟨rfl, rfl⟩; exact aft h hx ⟨hv _ hx hFw, hFw⟩ (LoadAt.stable.and hF) ho.more
          · cases heq
        all_goals (rename_i heq; split at heq <;> cases heq)
      | alloc t =>
        simp only at h
        cases hk : known (tyAt T t) with
        | false => rw [hk] at h; exact h.elim
        | true =>
          rw [hk] at h
          refine key hg (K := fun u w' => ∃ b, u = .pointer (some ⟨b, 0, none⟩) ∧ New w w' b t (tyAt T t).zero) ?_ ?_
          · simp only [opVC, hk, cond_true]; exact fun b w' hn => ⟨b, rfl, hn⟩
          · rintro u w' ⟨b, rfl, hn⟩
            have hb : HasBlk org.w b t (tyAt T t).zero w' := ⟨hn.blk, by rw [hn.isNew]; exact Nat.le_trans ho.size hx.size⟩
            have hfw := hF _ _ hFw hn.ext
            exact aft (h b ⟨fun hh => by have := ho.new w hx hFw b hh; rw [hn.isNew] at this; exact Nat.lt_irrefl _ this, w', Ext.trans' hx hn.ext, hb, hfw⟩) (Ext.trans' hx hn.ext) ⟨hb, hfw⟩ ((HasBlk.stable org.w b _ _).and hF) (ho.al b _ _)
      | box t x =>
        simp only at h
        cases hv : ev e x with
        | none => rw [hv] at h; exact h.elim
        | some v =>
          rw [hv] at h
          refine key hg (K := fun u w' => ∃ b, u = .pointer (some ⟨b, 0, none⟩) ∧ New w w' b t v.cells.toList) ?_ ?_
          · simp only [opVC, hv]; exact fun b w' hn => ⟨b, rfl, hn⟩
          · rintro u w' ⟨b, rfl, hn⟩
            have hb : HasBlk org.w b t v.cells.toList w' := ⟨hn.blk, by rw [hn.isNew]; exact Nat.le_trans ho.size hx.size⟩
            have hfw := hF _ _ hFw hn.ext
            exact aft (h b ⟨fun hh => by have := ho.new w hx hFw b hh; rw [hn.isNew] at this; exact Nat.lt_irrefl _ this, w', Ext.trans' hx hn.ext, hb, hfw⟩) (Ext.trans' hx hn.ext) ⟨hb, hfw⟩ ((HasBlk.stable org.w b _ _).and hF) (ho.al b _ _)
      | buildSlice t m ps =>
        simp only at h
        cases hd' : (tyAt T t).d with
        | slice el =>
          cases hp : evp e ps.toList with
          | none => rw [hd', hp] at h; exact h.elim
          | some vs =>
            rw [hd', hp] at h
            simp only at h
            cases hb : (known (tyAt T el) && Nat.blt 0 (tyAt T el).size && Nat.beq (tyAt T el).zero.length (tyAt T el).size && Nat.ble (m * (tyAt T el).size) 16777216) with
            | false => rw [hb] at h; exact h.elim
            | true =>
              rw [hb] at h
              simp only [cond_true] at h
              cases hcs : fillL (fun i => some (i * (tyAt T el).size, (tyAt T el).size)) (rep m (tyAt T el).zero) vs with
              | none => rw [hcs] at h; exact h.elim
              | some cs =>
                rw [hcs] at h
                refine key hg (K := fun u w' => ∃ b, u = .slice (some ⟨b, 0, none⟩) m m ∧ New w w' b el cs) ?_ ?_
                · simp only [opVC, hd', hp, hb, cond_true, hcs]; exact fun b w' hn => ⟨b, rfl, hn⟩
                · rintro u w' ⟨b, rfl, hn⟩
                  have hb : HasBlk org.w b el cs w' := ⟨hn.blk, by rw [hn.isNew]; exact Nat.le_trans ho.size hx.size⟩
                  have hfw := hF _ _ hFw hn.ext
                  exact aft (h b ⟨fun hh => by have := ho.new w hx hFw b hh; rw [hn.isNew] at this; exact Nat.lt_irrefl _ this, w', Ext.trans' hx hn.ext, hb, hfw⟩) (Ext.trans' hx hn.ext) ⟨hb, hfw⟩ ((HasBlk.stable org.w b _ _).and hF) (ho.al b _ _)
        | _ => rw [hd'] at h; exact h.elim
      | call c =>
        simp only at h
        cases hc : c.callee with
        | value f =>
          rw [hc] at h
          simp only at h
          cases fl with
          | true => exact raw h
          | false =>
            simp only at h
            split at h
            · exact h.elim
            · rename_i heq; split at heq <;> cases heq
            · rename_i heq; split at heq <;> cases heq
            · rename_i heq; split at heq <;> cases heq
            · rename_i heq; split at heq <;> cases heq
            · rename_i heq; split at heq <;> cases heq
            · rename_i g args heq
              split at heq
              · rename_i g' first caps vs hfv hvs
                simp only [Eff.call.injEq] at heq
                obtain ⟨rfl, rfl⟩ := heq
                obtain ⟨Post, hP, hC, h⟩ := h
                refine key hg (K := fun v w' => Ext w w' ∧ Post v w') ?_ ?_
                · simp only [opVC, hc, hfv, hvs]; exact hC w hx hFw
                · rintro v w' ⟨hx', hp⟩
                  have hfw := hF _ _ hFw hx'
                  exact aft (h v ⟨w', Ext.trans' hx hx', hp, hfw⟩) (Ext.trans' hx hx') ⟨hp, hfw⟩ ((hP v).and hF) ho.more
              · cases heq
            · rename_i heq; split at heq <;> cases heq
            · rename_i heq; split at heq <;> cases heq
        | builtin b =>
          rw [hc] at h
          cases b with
          | append =>
            cases fl with
            | true => exact rawK h
            | false => exact raw h
          | copy => exact raw h
          | clear => exact raw h
          | delete => exact raw h
          | _ => exact ret h (by simp only [opVC, hc]; simpa using ret' h)
        | invoke a b => rw [hc] at h; exact raw h
      | store _ _ _ =>
        cases fl with
        | true => exact rawK h
        | false => exact raw h
      | makeSlice t l c =>
        simp only at h
        cases hd' : (tyAt T t).d with
        | slice el =>
          rw [hd'] at h
          cases hl : ev e l with
          | none => rw [hl] at h; exact h.elim
          | some vl =>
            cases vl with
            | int kl zl =>
              cases hcc : ev e c with
              | none => rw [hl, hcc] at h; exact h.elim
              | some vc =>
                cases vc with
                | int kc zc =>
                  rw [hl, hcc] at h
                  simp only at h
                  cases hb : (known (tyAt T el) && Nat.blt 0 (tyAt T el).size && Nat.beq (tyAt T el).zero.length (tyAt T el).size) with
                  | false => rw [hb] at h; exact h.elim
                  | true =>
                    rw [hb] at h
                    simp only [cond_true] at h
                    obtain ⟨⟨h1, h2, h3, h4⟩, h⟩ := h
                    refine key hg (K := fun u w' => ∃ b, u = .slice (some ⟨b, 0, none⟩) zl.toNat zc.toNat ∧ New w w' b el (rep zc.toNat (tyAt T el).zero)) ?_ ?_
                    · simp only [opVC, hd', hl, hcc, hb, cond_true]
                      exact ⟨zl.toNat, zc.toNat, ⟨by omega, by omega, by omega, h3, h4⟩, fun b w' hn => ⟨b, rfl, hn⟩⟩
                    · rintro u w' ⟨b, rfl, hn⟩
                      have hb : HasBlk org.w b el (rep zc.toNat (tyAt T el).zero) w' := ⟨hn.blk, by rw [hn.isNew]; exact Nat.le_trans ho.size hx.size⟩
                      have hfw := hF _ _ hFw hn.ext
                      exact aft (h b ⟨fun hh => by have := ho.new w hx hFw b hh; rw [hn.isNew] at this; exact Nat.lt_irrefl _ this, w', Ext.trans' hx hn.ext, hb, hfw⟩) (Ext.trans' hx hn.ext) ⟨hb, hfw⟩ ((HasBlk.stable org.w b _ _).and hF) (ho.al b _ _)
                | _ => rw [hl, hcc] at h; exact h.elim
            | _ => rw [hl] at h; exact h.elim
        | _ => rw [hd'] at h; exact h.elim
      | makeMap _ _ => exact raw h
      | lookup _ _ _ _ => exact raw h
      | mapUpdate _ _ _ _ => exact raw h
      | insert _ _ _ _ => exact raw h
      | range _ _ => exact raw h
      | next _ _ => exact raw h
      | entry _ => exact raw h
      | typeAssert _ _ _ _ => exact raw h
      | panic _ => exact raw h
      | nilCheck _ => exact raw h
      | mapEntry _ _ _ => exact raw h
      | entryStore _ _ _ _ => exact raw h
      | index _ _ _ => exact raw h
      | «defer» _ => exact raw h
      | convert s d y =>
        refine ret h ?_
        have h2 := ret' h
        simp only [opVC]
        split
        · rename_i a n c hy
          exfalso
          simp only [pureOp, hy] at h2
          exact h2
        · simpa using h2
      | _ => exact ret h (ret' h)

end
end Go.Tw
/-
  A small calculus of conditions, part G: the look at the edges of a statement whose order is drawn, and that its condition serves for every order. Helpers; no statement of the program is proved here.
-/
set_option linter.unusedSimpArgs false
set_option linter.unusedVariables false
namespace Go.Tw
open Go Go.RowKit

def maskOf (ms : List Nat) (es : List Edge) : Nat :=
  match es with
  | [] => 0
  | ed :: es => bif Region.binds .any ed then (2 ^ ed.on ||| ms.getD ed.on 0) ||| maskOf ms es else maskOf ms es
def masks (os : List Oper) (ms : List Nat) : List Nat :=
  match os with
  | [] => ms
  | o :: os => masks os (ms ++ [maskOf ms o.after.toList])
/-- Must j be run ahead of i? -/
def anc (ms : List Nat) (j i : Nat) : Bool := (ms.getD i 0).testBit j

theorem maskOf_bit {ms : List Nat} {es : List Edge} {j : Nat} (h : (maskOf ms es).testBit j = true) : ∃ ed ∈ es, Region.binds .any ed = true ∧ (ed.on = j ∨ (ms.getD ed.on 0).testBit j = true) := by
  induction es with
  | nil => simp [maskOf] at h
  | cons ed es ih =>
    simp only [maskOf] at h
    cases hb : Region.binds .any ed with
    | false =>
      rw [hb] at h
      obtain ⟨ed', hm, h'⟩ := ih h
      exact ⟨ed', by simp [hm], h'⟩
    | true =>
      rw [hb] at h
      simp only [cond_true, Nat.testBit_or, Bool.or_eq_true, Nat.testBit_two_pow, decide_eq_true_eq] at h
      rcases h with (h | h) | h
      · exact ⟨ed, by simp, hb, .inl h⟩
      · exact ⟨ed, by simp, hb, .inr h⟩
      · obtain ⟨ed', hm, h'⟩ := ih h
        exact ⟨ed', by simp [hm], h'⟩

theorem masks_prefix : ∀ (os : List Oper) (ms : List Nat), ∃ l, masks os ms = ms ++ l ∧ l.length = os.length
  | [], ms => ⟨[], by simp [masks]⟩
  | o :: os, ms => by
    obtain ⟨l, h1, h2⟩ := masks_prefix os (ms ++ [maskOf ms o.after.toList])
    exact ⟨maskOf ms o.after.toList :: l, by simp [masks, h1, h2]⟩
theorem masks_at : ∀ (os : List Oper) (ms : List Nat) (i : Nat) (o : Oper), os[i]? = some o → (masks os ms).getD (ms.length + i) 0 = maskOf ((masks os ms).take (ms.length + i)) o.after.toList
  | [], ms, i, o, h => by simp at h
  | o' :: os, ms, 0, o, h => by
    simp only [List.getElem?_cons_zero, Option.some.injEq] at h; subst h
    obtain ⟨l, h1, h2⟩ := masks_prefix os (ms ++ [maskOf ms o'.after.toList])
    simp [masks, h1, List.getD]
  | o' :: os, ms, i + 1, o, h => by
    simp only [List.getElem?_cons_succ] at h
    have := masks_at os (ms ++ [maskOf ms o'.after.toList]) i o h
    simp only [List.length_append, List.length_singleton] at this
    simp only [masks]
    rw [show ms.length + (i + 1) = ms.length + 1 + i from by omega]
    exact this

/-- What must come ahead lies among what has been run, if all direct ones do and what has been run is closed. -/
theorem anc_listed {all : List Oper} {L : Nat → Prop} (hc : ∀ i o, all[i]? = some o → L i → ∀ ed ∈ o.after.toList, Region.binds .any ed = true → L ed.on) :
    ∀ (i : Nat) (o : Oper), all[i]? = some o → (∀ ed ∈ o.after.toList, Region.binds .any ed = true → L ed.on) → ∀ j, anc (masks all []) j i = true → L j := by
  intro i
  induction i using Nat.strongRecOn with
  | _ i ih =>
    intro o ho hp j hj
    unfold anc at hj
    have hm := masks_at all [] i o ho
    simp only [List.length_nil, Nat.zero_add] at hm
    rw [hm] at hj
    obtain ⟨ed, hed, hb, h⟩ := maskOf_bit hj
    rcases h with rfl | h
    · exact hp ed hed hb
    · by_cases hlt : ed.on < i
      · have hL := hp ed hed hb
        have hlen : i < all.length := by
          rcases Nat.lt_or_ge i all.length with h' | h'
          · exact h'
          · rw [List.getElem?_eq_none h'] at ho; cases ho
        obtain ⟨o', ho'⟩ : ∃ o', all[ed.on]? = some o' := ⟨all[ed.on], List.getElem?_eq_getElem (by omega)⟩
        refine ih ed.on hlt o' ho' (fun ed' h1 h2 => hc _ _ ho' hL ed' h1 h2) j ?_
        unfold anc
        have : ((masks all []).take i).getD ed.on 0 = (masks all []).getD ed.on 0 := by
          simp only [List.getD, List.getElem?_take, hlt, if_true]
        rw [← this]; exact h
      · exfalso
        have : ((masks all []).take i).getD ed.on 0 = 0 := by
          simp only [List.getD, List.getElem?_take, hlt, if_false]; rfl
        rw [this] at h; simp at h

/-! ### the look -/
def pairOk (all : List Oper) (ms : List Nat) (s t : Nat × Bool) : Bool :=
  anc ms s.1 t.1 ||
    match all[s.1]?, all[t.1]? with
    | some x, some o => swapOk all x s.2 o t.2
    | _, _ => false
def goOk (all : List Oper) (ms : List Nat) (done : List (Nat × Bool)) (sch : List (Nat × Bool)) : Bool :=
  match sch with
  | [] => true
  | t :: rest =>
    (match all[t.1]? with
    | some o => o.after.toList.all fun ed => !Region.binds .any ed || done.any fun s => Nat.beq s.1 ed.on
    | none => false) && (done.all fun s => !Nat.beq s.1 t.1) && (done.all fun s => pairOk all ms s t) && goOk all ms (done ++ [t]) rest
def drawOk (all : List Oper) (sch : List (Nat × Bool)) : Bool :=
  (goOk all (masks all []) [] sch && (List.range all.length).all fun i => sch.any fun s => Nat.beq s.1 i) && Nat.beq sch.length all.length

structure SchOk (all : List Oper) (sch : List (Nat × Bool)) : Prop where
  nodup : sch.Pairwise fun s t => s.1 ≠ t.1
  pairs : sch.Pairwise fun s t => anc (masks all []) s.1 t.1 = true ∨ ∃ x o, all[s.1]? = some x ∧ all[t.1]? = some o ∧ swapOk all x s.2 o t.2 = true
  valid : ∀ s ∈ sch, ∃ o, all[s.1]? = some o
  preds : ∀ l1 t l2, sch = l1 ++ t :: l2 → ∀ o, all[t.1]? = some o → ∀ ed ∈ o.after.toList, Region.binds .any ed = true → ∃ s ∈ l1, s.1 = ed.on
  cover : ∀ i, i < all.length → ∃ s ∈ sch, s.1 = i
  len : sch.length = all.length

theorem beq_iff (a b : Nat) : Nat.beq a b = true ↔ a = b := ⟨Nat.eq_of_beq_eq_true, fun h => by subst h; exact Nat.beq_refl a⟩

theorem goOk_spec {all : List Oper} {ms : List Nat} : ∀ (sch done : List (Nat × Bool)), goOk all ms done sch = true →
    (sch.Pairwise fun s t => s.1 ≠ t.1) ∧ (∀ s ∈ done, ∀ t ∈ sch, s.1 ≠ t.1) ∧ (sch.Pairwise fun s t => pairOk all ms s t = true) ∧ (∀ s ∈ sch, ∃ o, all[s.1]? = some o) ∧
    (∀ l1 t l2, sch = l1 ++ t :: l2 → ∀ o, all[t.1]? = some o → ∀ ed ∈ o.after.toList, Region.binds .any ed = true → ∃ s ∈ done ++ l1, s.1 = ed.on)
  | [], done, _ => ⟨List.Pairwise.nil, by simp, List.Pairwise.nil, by simp, by intro l1 t l2 h; simp at h⟩
  | t :: rest, done, h => by
    simp only [goOk, Bool.and_eq_true] at h
    obtain ⟨⟨⟨h1, h2⟩, h3⟩, h4⟩ := h
    obtain ⟨r1, r2, r3, r4, r5⟩ := goOk_spec rest (done ++ [t]) h4
    have r3' : ∀ s ∈ rest, pairOk all ms t s = true := by
      intro s hs
      have : ∀ (l d : List (Nat × Bool)), goOk all ms d l = true → ∀ s ∈ l, ∀ t ∈ d, pairOk all ms t s = true := by
        intro l
        induction l with
        | nil => intro d _ s hs; simp at hs
        | cons a l ih =>
          intro d hd s hs t ht
          simp only [goOk, Bool.and_eq_true] at hd
          rcases List.mem_cons.1 hs with rfl | hs
          · exact List.all_eq_true.1 hd.1.2 t ht
          · exact ih _ hd.2 s hs t (by simp [ht])
      exact this rest _ h4 s hs t (by simp)
    cases ho : all[t.1]? with
    | none => rw [ho] at h1; cases h1
    | some o =>
      rw [ho] at h1
      refine ⟨List.Pairwise.cons (fun s hs => r2 t (by simp) s hs) r1, ?_, List.Pairwise.cons r3' r3, ?_, ?_⟩
      · intro s hs u hu
        rcases List.mem_cons.1 hu with rfl | hu
        · have := List.all_eq_true.1 h2 s hs
          intro he; rw [(beq_iff _ _).2 he] at this; cases this
        · exact r2 s (by simp [hs]) u hu
      · intro s hs
        rcases List.mem_cons.1 hs with rfl | hs
        · exact ⟨o, ho⟩
        · exact r4 s hs
      · intro l1 u l2 he o' ho' ed hed hb
        cases l1 with
        | nil =>
          simp only [List.nil_append, List.cons.injEq] at he
          obtain ⟨rfl, rfl⟩ := he
          rw [ho] at ho'; cases ho'
          have := List.all_eq_true.1 h1 ed hed
          rw [hb] at this
          simp only [Bool.not_true, Bool.false_or, List.any_eq_true] at this
          obtain ⟨s, hs, hs'⟩ := this
          exact ⟨s, by simpa using hs, (beq_iff _ _).1 hs'⟩
        | cons v l1 =>
          simp only [List.cons_append, List.cons.injEq] at he
          obtain ⟨rfl, rfl⟩ := he
          obtain ⟨s, hs, hs'⟩ := r5 l1 u l2 rfl o' ho' ed hed hb
          exact ⟨s, by simpa using hs, hs'⟩

theorem drawOk_spec {all : List Oper} {sch : List (Nat × Bool)} (h : drawOk all sch = true) : SchOk all sch := by
  simp only [drawOk, Bool.and_eq_true] at h
  obtain ⟨⟨h1, h2⟩, h3⟩ := h
  obtain ⟨r1, _, r3, r4, r5⟩ := goOk_spec sch [] h1
  refine ⟨r1, r3.imp ?_, r4, ?_, ?_, Nat.eq_of_beq_eq_true h3⟩
  · intro s t hst
    simp only [pairOk, Bool.or_eq_true] at hst
    rcases hst with hst | hst
    · exact .inl hst
    · right
      split at hst
      · rename_i x o hx ho; exact ⟨x, o, hx, ho, hst⟩
      · cases hst
  · intro l1 t l2 he o ho ed hed hb
    obtain ⟨s, hs, hs'⟩ := r5 l1 t l2 he o ho ed hed hb
    exact ⟨s, by simpa using hs, hs'⟩
  · intro i hi
    have := List.all_eq_true.1 h2 i (by simpa using hi)
    obtain ⟨s, hs, hs'⟩ := List.any_eq_true.1 this
    exact ⟨s, hs, (beq_iff _ _).1 hs'⟩

/-! ### whatever the order -/
section
variable {P : Program} {T : TT} {all : List Oper}

theorem dVCo_cons {s : Nat × Bool} {rest : List (Nat × Bool)} {org : DOrg} {base : World} {F : World → Prop} {e : Env} {K : Env → World → Prop} {o : Oper} (ho : all[s.1]? = some o) :
    dVCo P T all (s :: rest) org base F e K ↔ dStep P T all o s.2 org base F e (fun O B F e => dVCo P T all rest O B F e K) := by
  have : dVCo P T all (s :: rest) org base F e K = (match all[s.1]? with | some o => dStep P T all o s.2 org base F e (fun O B F e => dVCo P T all rest O B F e K) | none => False) := rfl
  rw [this, ho]

theorem dVCo_front {K : Env → World → Prop} {t : Nat × Bool} {o : Oper} (ho : all[t.1]? = some o) (post : List (Nat × Bool)) : ∀ (pre : List (Nat × Bool)),
    (∀ s ∈ pre, ∃ x, all[s.1]? = some x ∧ swapOk all x s.2 o t.2 = true) → ∀ (org : DOrg) (base : World) (F : World → Prop) (e : Env), OrgOk org base F → Stable F → Sat base F → dVCo P T all (pre ++ t :: post) org base F e K → dVCo P T all (t :: (pre ++ post)) org base F e K
  | [], _, org, base, F, e, _, _, _, h => h
  | s :: pre, hp, org, base, F, e, hob, hF, hs, h => by
    obtain ⟨x, hx, hsw⟩ := hp s (by simp)
    have ih : ∀ (org : DOrg) (base : World) (F : World → Prop) (e : Env), OrgOk org base F → Stable F → Sat base F → dVCo P T all (pre ++ t :: post) org base F e K → dVCo P T all (t :: (pre ++ post)) org base F e K :=
      dVCo_front ho post pre (fun s' hs' => hp s' (by simp [hs']))
    rw [List.cons_append, dVCo_cons hx] at h
    have h2 := dStep_mono hob hF hs (fun O B F e hb hF hs hh => ih O B F e hb hF hs hh) h
    rw [dVCo_cons ho]
    have h3 : dStep P T all x s.2 org base F e (fun O B F e => dStep P T all o t.2 O B F e (fun O B F e => dVCo P T all (pre ++ post) O B F e K)) :=
      dStep_mono hob hF hs (fun O B F e _ _ _ hh => (dVCo_cons ho).1 hh) h2
    have h4 := dStep_swap hsw hob hF hs h3
    refine dStep_mono hob hF hs ?_ h4
    intro O B F e _ _ _ hh
    exact (dVCo_cons hx).2 hh

def Listed (l : Array Bool) (i : Nat) : Prop := l.getD i true = true
def left (sch : List (Nat × Bool)) (l : Array Bool) : List (Nat × Bool) := sch.filter fun s => !l.getD s.1 true

theorem split_filter {α : Type} {p : α → Bool} : ∀ {l : List α} {pre post : List α} {t : α}, l.filter p = pre ++ t :: post → ∃ l1 l2, l = l1 ++ t :: l2 ∧ l1.filter p = pre ∧ l2.filter p = post
  | [], pre, post, t, h => by simp at h
  | a :: l, pre, post, t, h => by
    by_cases ha : p a = true
    · rw [List.filter_cons_of_pos ha] at h
      cases pre with
      | nil =>
        simp only [List.nil_append, List.cons.injEq] at h
        exact ⟨[], l, by simp [h.1], rfl, h.2⟩
      | cons b pre =>
        simp only [List.cons_append, List.cons.injEq] at h
        obtain ⟨rfl, h⟩ := h
        obtain ⟨l1, l2, rfl, h1, h2⟩ := split_filter h
        exact ⟨a :: l1, l2, rfl, by rw [List.filter_cons_of_pos ha, h1], h2⟩
    · rw [List.filter_cons_of_neg ha] at h
      obtain ⟨l1, l2, rfl, h1, h2⟩ := split_filter h
      exact ⟨a :: l1, l2, rfl, by rw [List.filter_cons_of_neg ha, h1], h2⟩

theorem mem_ready {ops : Array Oper} {l : Array Bool} {i : Nat} (h : i ∈ Region.ready .any ops l) : i < ops.size ∧ ¬ Listed l i ∧ ∃ o, ops[i]? = some o ∧ ∀ ed ∈ o.after.toList, Region.binds .any ed = true → l.getD ed.on false = true := by
  simp only [Region.ready, List.mem_filter, List.mem_range, Bool.and_eq_true, Bool.not_eq_true'] at h
  obtain ⟨h1, h2, h3⟩ := h
  refine ⟨h1, by simp [Listed, h2], ops[i], by simp [h1], ?_⟩
  simp only [h1, getElem?_pos, Option.map_some, Option.getD_some] at h3
  intro ed hed hb
  have := Array.all_eq_true'.1 h3 ed (by simpa using hed)
  rw [hb] at this
  simpa using this

theorem wpAny_of (hT : TOk P T) {n : Nat} {sch : List (Nat × Bool)} (hs : SchOk all sch) (hd : ∀ o ∈ all, ∀ d, o.dst = some d → d < n) {Q : Exit → Act → World → Prop} {K : Env → World → Prop}
    (hK : ∀ e w a, Fits n a e → K e w → Q .normal a w) :
    ∀ (fuel : Nat) (l : Array Bool) (a : Act) (w : World), l.size = all.length → (left sch l).length = fuel →
      (∀ i o, all[i]? = some o → Listed l i → ∀ ed ∈ o.after.toList, Region.binds .any ed = true → Listed l ed.on) →
      After n (fun O B F e => dVCo P T all (left sch l) O B F e K) a w → wpAny P .any all.toArray Q fuel l a w := by
  have noready : ∀ (l : Array Bool), l.size = all.length → Region.ready .any all.toArray l = [] → left sch l = [] := by
    intro l hsz hr
    cases hl : left sch l with
    | nil => rfl
    | cons t rest =>
      exfalso
      obtain ⟨l1, l2, he, h1, _⟩ := split_filter (pre := []) hl
      have htm : t ∈ left sch l := by rw [hl]; simp
      have htu : (!l.getD t.1 true) = true := (List.mem_filter.1 htm).2
      obtain ⟨o, ho⟩ := hs.valid t (List.mem_filter.1 htm).1
      have hlt : t.1 < all.length := by
        rcases Nat.lt_or_ge t.1 all.length with h' | h'
        · exact h'
        · rw [List.getElem?_eq_none h'] at ho; cases ho
      have : t.1 ∈ Region.ready .any all.toArray l := by
        simp only [Region.ready, List.mem_filter, List.mem_range, Bool.and_eq_true, List.size_toArray]
        refine ⟨hlt, htu, ?_⟩
        simp only [List.getElem?_toArray, ho, Option.map_some, Option.getD_some]
        rw [Array.all_eq_true']
        intro ed hed
        cases hb : Region.binds .any ed with
        | false => rfl
        | true =>
          obtain ⟨s, hsm, hse⟩ := hs.preds l1 t l2 he o ho ed (by simpa using hed) hb
          have hnot : ¬ (!l.getD s.1 true) = true := by
            intro hp
            have : s ∈ l1.filter (fun s => !l.getD s.1 true) := List.mem_filter.2 ⟨hsm, hp⟩
            rw [h1] at this; simp at this
          have hsl : s.1 < l.size := by
            obtain ⟨o', ho'⟩ := hs.valid s (by rw [he]; simp [hsm])
            rcases Nat.lt_or_ge s.1 all.length with h' | h'
            · omega
            · rw [List.getElem?_eq_none h'] at ho'; cases ho'
          rw [← hse]
          simp only [Array.getD_eq_getD_getElem?, hsl, getElem?_pos, Option.getD_some, Bool.not_eq_true', Bool.not_eq_false] at hnot ⊢
          simp [hnot]
      rw [hr] at this; simp at this
  intro fuel
  induction fuel with
  | zero =>
    intro l a w hsz hfu hcl haf
    have hl : left sch l = [] := List.eq_nil_of_length_eq_zero hfu
    obtain ⟨org, base, F, e, h, hf, hx, hFw, hF, hob⟩ := haf
    rw [hl] at h
    refine ⟨?_, hK e w a hf (h w hx hFw)⟩
    cases hr : Region.ready .any all.toArray l with
    | nil => rfl
    | cons i rest =>
      exfalso
      have hi : i ∈ Region.ready .any all.toArray l := by rw [hr]; simp
      obtain ⟨h1, h2, o, ho, _⟩ := mem_ready hi
      obtain ⟨s, hsm, rfl⟩ := hs.cover i (by simpa using h1)
      have : s ∈ left sch l := List.mem_filter.2 ⟨hsm, by simpa [Listed] using h2⟩
      rw [hl] at this; simp at this
  | succ fuel ih =>
    intro l a w hsz hfu hcl haf
    refine ⟨?_, ?_⟩
    · intro hr
      have := noready l hsz hr
      rw [this] at hfu; cases hfu
    · intro i hi
      obtain ⟨h1, h2, o, ho, hpr⟩ := mem_ready hi
      simp only [List.size_toArray] at h1
      simp only [List.getElem?_toArray] at ho
      obtain ⟨t, htm, rfl⟩ := hs.cover i h1
      have htl : t ∈ left sch l := List.mem_filter.2 ⟨htm, by simpa [Listed] using h2⟩
      obtain ⟨pre, post, hsp⟩ := List.append_of_mem htl
      have hnd : (left sch l).Pairwise fun s u => s.1 ≠ u.1 := hs.nodup.filter _
      have hpp : (left sch l).Pairwise _ := hs.pairs.filter (fun s => !l.getD s.1 true)
      have hle : ∀ (P' : Nat → Prop), True := fun _ => trivial
      have hLp : ∀ ed ∈ o.after.toList, Region.binds .any ed = true → Listed l ed.on := by
        intro ed hed hb
        have := hpr ed hed hb
        simp only [Listed, Array.getD_eq_getD_getElem?] at this ⊢
        cases hh : l[ed.on]? with
        | none => simp
        | some b => rw [hh] at this; simpa using this
      have hsw : ∀ s ∈ pre, ∃ x, all[s.1]? = some x ∧ swapOk all x s.2 o t.2 = true := by
        intro s hsm
        have hsl : s ∈ left sch l := by rw [hsp]; simp [hsm]
        have : anc (masks all []) s.1 t.1 = true ∨ ∃ x o, all[s.1]? = some x ∧ all[t.1]? = some o ∧ swapOk all x s.2 o t.2 = true := by
          have hp2 : (pre ++ t :: post).Pairwise _ := hsp ▸ hpp
          rw [List.pairwise_append] at hp2
          exact hp2.2.2 s hsm t (by simp)
        rcases this with ha | ⟨x, o', hx, ho', hsw⟩
        · exfalso
          have hL := anc_listed (L := Listed l) hcl t.1 o ho hLp s.1 ha
          have := (List.mem_filter.1 hsl).2
          simp only [Listed] at hL
          rw [hL] at this; cases this
        · rw [ho] at ho'; cases ho'
          exact ⟨x, hx, hsw⟩
      obtain ⟨org, base, F, e, h, hf, hx, hFw, hF, hob⟩ := haf
      rw [hsp] at h
      have h' := dVCo_front ho post pre hsw org base F e hob hF ⟨w, hx, hFw⟩ h
      rw [dVCo_cons ho] at h'
      have hom : o ∈ all := List.mem_of_getElem? ho
      have hrun := dStep_run hT (hd o hom) hf hx hFw hF hob h' Q
      have hleft : left sch (l.setIfInBounds t.1 true) = pre ++ post := by
        have hne1 : ∀ s ∈ pre, s.1 ≠ t.1 := by
          intro s hsm
          have hp2 : (pre ++ t :: post).Pairwise _ := hsp ▸ hnd
          rw [List.pairwise_append] at hp2
          exact hp2.2.2 s hsm t (by simp)
        have hne2 : ∀ s ∈ post, s.1 ≠ t.1 := by
          intro s hsm
          have hp2 : (pre ++ t :: post).Pairwise _ := hsp ▸ hnd
          rw [List.pairwise_append] at hp2
          exact fun he => (List.pairwise_cons.1 hp2.2.1).1 s hsm he.symm
        have hff : left sch (l.setIfInBounds t.1 true) = (left sch l).filter fun s => !Nat.beq s.1 t.1 := by
          unfold left
          rw [List.filter_filter]
          apply List.filter_congr
          intro s hsm
          simp only [Array.getD_eq_getD_getElem?, Array.getElem?_setIfInBounds]
          by_cases hst : t.1 = s.1
          · rw [if_pos hst, (beq_iff s.1 t.1).2 hst.symm]
            have : t.1 < l.size := by omega
            simp [this]
          · rw [if_neg hst]
            have : Nat.beq s.1 t.1 = false := by
              cases hb : Nat.beq s.1 t.1 with
              | false => rfl
              | true => exact absurd ((beq_iff _ _).1 hb).symm hst
            rw [this]; simp
        rw [hff, hsp, List.filter_append, List.filter_cons_of_neg (by rw [(beq_iff t.1 t.1).2 rfl]; simp)]
        rw [List.filter_eq_self.2, List.filter_eq_self.2]
        · intro s hsm
          cases hb : Nat.beq s.1 t.1 with
          | false => rfl
          | true => exact absurd ((beq_iff _ _).1 hb) (hne2 s hsm)
        · intro s hsm
          cases hb : Nat.beq s.1 t.1 with
          | false => rfl
          | true => exact absurd ((beq_iff _ _).1 hb) (hne1 s hsm)
      have hcont : ∀ a' w', After n (fun O B F e => dVCo P T all (pre ++ post) O B F e K) a' w' → wpAny P .any all.toArray Q fuel (l.setIfInBounds t.1 true) a' w' := by
        intro a' w' haf'
        refine ih _ a' w' (by simpa using hsz) ?_ ?_ ?_
        · rw [hleft]
          rw [hsp] at hfu
          simp only [List.length_append, List.length_cons] at hfu ⊢
          omega
        · intro j o' ho' hL ed hed hb
          have mono : ∀ k, Listed l k → Listed (l.setIfInBounds t.1 true) k := by
            intro k hk
            simp only [Listed, Array.getD_eq_getD_getElem?, Array.getElem?_setIfInBounds] at hk ⊢
            split
            · split <;> simp
            · exact hk
          by_cases hj : j = t.1
          · subst hj
            rw [ho] at ho'; cases ho'
            exact mono _ (hLp ed hed hb)
          · refine mono _ (hcl j o' ho' ?_ ed hed hb)
            simp only [Listed, Array.getD_eq_getD_getElem?, Array.getElem?_setIfInBounds] at hL ⊢
            rw [if_neg (fun he => hj he.symm)] at hL
            exact hL
        · rw [hleft]; exact haf'
      unfold wpOp
      simp only [List.getElem?_toArray, ho]
      split
      · rename_i hw
        rw [if_pos hw] at hrun
        exact hrun.imp (Oper.wp_mono hcont) id
      · rename_i hw
        rw [if_neg hw] at hrun
        exact hcont _ _ hrun

theorem draw_sound (hT : TOk P T) (hm : P.follows .mixedOrders = true) {n : Nat} {sch : List (Nat × Bool)} (hs : drawOk all sch = true) (hd : ∀ o ∈ all, ∀ d, o.dst = some d → d < n) {Q : Exit → Act → World → Prop} {K : Env → World → Prop}
    (hK : ∀ e w a, Fits n a e → K e w → Q .normal a w) {id : Nat} {e : Env} {w : World} {a : Act} (hf : Fits n a e) (h : dVC P T all sch w (fun _ => True) e K) : (Code.region id all.toArray true).wp P Q a w := by
  have hso := drawOk_spec hs
  refine wp_region_any hm ?_
  have hl0 : left sch (Array.replicate all.length false) = sch := by
    unfold left
    apply List.filter_eq_self.2
    intro s hsm
    obtain ⟨o, ho⟩ := hso.valid s hsm
    have : s.1 < all.length := by
      rcases Nat.lt_or_ge s.1 all.length with h' | h'
      · exact h'
      · rw [List.getElem?_eq_none h'] at ho; cases ho
    simp [Array.getD_eq_getD_getElem?, Array.getElem?_replicate, this]
  have hlen : sch.length = all.length := hso.len
  have := wpAny_of hT hso hd hK all.length (Array.replicate all.length false) a { w with drawn := w.drawn + 1 } (by simp) (by rw [hl0, hlen]) ?_ ?_
  · simpa using this
  · intro i o ho hL
    exfalso
    have : i < all.length := by
      rcases Nat.lt_or_ge i all.length with h' | h'
      · exact h'
      · rw [List.getElem?_eq_none h'] at ho; cases ho
    simp [Listed, Array.getD_eq_getD_getElem?, Array.getElem?_replicate, this] at hL
  · rw [hl0]
    exact ⟨DOrg.of w, w, fun _ => True, e, h, hf, ⟨rfl, rfl, rfl, Nat.le_refl _, fun _ _ => rfl⟩, trivial, fun _ _ _ _ => trivial, OrgOk.start w⟩
end
end Go.Tw
