/-
  A small calculus of conditions, part H: whole bodies, loops, and calls. Helpers; no statement of the program is proved here.
-/
import Derived.Test.YtlfdobjdlgebbaaK2
import Derived.Test.YtlfdobjdlgebbaaProg
import Derived.Laws.Externs
set_option linter.unusedSimpArgs false
set_option linter.unusedVariables false
namespace Go.Tw
open Go Go.RowKit

/-- The text's own order, for a statement whose order is drawn. -/
def sqF (i n : Nat) : List (Nat × Bool) :=
  match n with
  | 0 => []
  | n + 1 => (i, false) :: sqF (i + 1) n
def sq (n : Nat) : List (Nat × Bool) := sqF 0 n

abbrev QK := Exit → Env → World → Prop
def thenQ (f : Env → World → Prop) (Q : QK) : QK := fun x e w =>
  match x with
  | .normal => f e w
  | x => Q x e w
def blockQ (id : Nat) (Q : QK) : QK := fun x e w =>
  match x with
  | .exit i => bif Nat.beq i id then Q .normal e w else Q (.exit i) e w
  | x => Q x e w
def subL (l : List (Nat × Value)) (e : Env) : Prop :=
  match l with
  | [] => True
  | p :: l => e p.1 = some p.2 ∧ subL l e
def envL (l : List (Nat × Value)) : Env :=
  match l with
  | [] => nilE
  | p :: l => put p.1 p.2 (envL l)

theorem Agrees.of_subL {a : Act} {e : Env} (h : Agrees a e) : ∀ {l : List (Nat × Value)}, subL l e → Agrees a (envL l)
  | [], _ => fun t v ht => by simp [envL, nilE] at ht
  | p :: l, hs => fun t v ht => by
    by_cases htp : t = p.1
    · subst htp
      simp only [envL, put_same, Option.some.injEq] at ht
      subst ht; exact h _ _ hs.1
    · simp only [envL, put_other _ _ htp] at ht
      exact Agrees.of_subL h hs.2 t v ht
theorem Fits.of_subL {n : Nat} {a : Act} {e : Env} (h : Fits n a e) {l : List (Nat × Value)} (hs : subL l e) : Fits n a (envL l) := ⟨h.size, h.get.of_subL hs, h.dfr⟩

/-- What holds behind a block, where several ways lead out of it. -/
structure Join where
  X : Type
  E : X → List (Nat × Value)
  I : X → World → Prop
def joinQ (J : Join) (Q : QK) : QK := fun x e w =>
  match x with
  | .normal => ∃ y, subL (J.E y) e ∧ J.I y w
  | x => Q x e w
/-- The condition of a body. -/
noncomputable def codeVC (P : Program) (T : TT) (jo : Nat → Option Join) (c : Code) (e : Env) (w : World) (Q : QK) : Prop :=
  Code.rec (motive := fun _ => Env → World → QK → Prop)
    (fun e w Q => Q .normal e w)
    (fun _ ops draw e w Q => bif draw then (∃ sch, drawOk ops.toList sch = true ∧ dVC P T ops.toList sch w (fun _ => True) e (fun e w => Q .normal e w)) else sVC P T ops.toList ops.toList e w (fun e w => Q .normal e w))
    (fun _ _ iha ihb e w Q => iha e w (thenQ (fun e w => ihb e w Q) Q))
    (fun c _ _ iha ihb e w Q =>
      match ev e c with
      | some (.bool true) => iha e w Q
      | some (.bool false) => ihb e w Q
      | _ => False)
    (fun id _ ih e w Q =>
      match jo id with
      | none => ih e w (blockQ id Q)
      | some J => ih e w (blockQ id (joinQ J Q)) ∧ ∀ x w, J.I x w → Q .normal (envL (J.E x)) w)
    (fun _ ih e w Q => ∃ (X : Type) (E : X → List (Nat × Value)) (I : X → World → Prop) (m : X → World → Nat), (∃ x, subL (E x) e ∧ I x w) ∧
      ∀ x w, I x w → ih (envL (E x)) w (thenQ (fun e' w' => ∃ x', subL (E x') e' ∧ I x' w' ∧ m x' w' < m x w) Q))
    (fun _ _ _ _ _ _ _ _ _ => False)
    (fun id e w Q => Q (.exit id) e w)
    (fun _ _ _ _ _ => False)
    (fun _ e w Q => Q .normal e w)
    (fun _ _ _ _ => False)
    (fun e w Q => Q .ret e w)
    (fun _ _ _ _ => False) c e w Q

def opsOk (n : Nat) (ops : List Oper) : Bool := ops.all fun o =>
  match o.dst with
  | some d => Nat.blt d n
  | none => true
def codeOk (n : Nat) (c : Code) : Bool :=
  match c with
  | .region _ ops _ => opsOk n ops.toList
  | .seq a b => codeOk n a && codeOk n b
  | .cond _ a b => codeOk n a && codeOk n b
  | .block _ a => codeOk n a
  | .loop a => codeOk n a
  | _ => true
theorem opsOk_spec {n : Nat} {ops : List Oper} (h : opsOk n ops = true) : ∀ o ∈ ops, ∀ d, o.dst = some d → d < n := by
  intro o ho d hd
  have := List.all_eq_true.1 h o ho
  rw [hd] at this
  exact Nat.le_of_ble_eq_true this

section
variable {P : Program} {T : TT}
def liftQ (n : Nat) (Q : QK) : Exit → Act → World → Prop := fun x a w => ∃ e, Fits n a e ∧ Q x e w

theorem wp_loopN {c : Code} {Q : Exit → Act → World → Prop} (I : Nat → Act → World → Prop)
    (round : ∀ m a w, I m a w → c.wp P (Exit.then (fun a' w' => ∃ m', m' < m ∧ I m' a' w') Q) a w) {m : Nat} {a : Act} {w : World} (h0 : I m a w) : (Code.loop c).wp P Q a w := by
  intro b k cs
  have key : ∀ m a w, I m a w → ∃ e a' w', Q e a' w' ∧ Arrives P (lone (b.at a (.code c :: .inLoop c :: k)) cs w) b k cs e a' w' := by
    intro m
    induction m using Nat.strongRecOn with
    | _ m ih =>
      intro a w hI
      obtain ⟨e, a1, w1, hq, harr⟩ := round m a w hI b (.inLoop c :: k) cs
      cases e with
      | normal =>
        obtain ⟨m', hlt, hI1⟩ := hq
        obtain ⟨e2, a2, w2, hq2, harr2⟩ := ih m' hlt a1 w1 hI1
        exact ⟨e2, a2, w2, hq2, .of_steps (Steps.trans harr (.one step_inLoop)) harr2⟩
      | exit id => exact ⟨_, a1, w1, hq, .pass (x := .inLoop c) rfl (fun _ _ => .inl (by simp)) harr⟩
      | goto l => exact ⟨_, a1, w1, hq, .pass (x := .inLoop c) rfl (fun _ _ => .inl (by simp)) harr⟩
      | ret => exact ⟨_, a1, w1, hq, .pass (x := .inLoop c) rfl (fun _ _ => .inl (by simp)) harr⟩
      | panic ch => exact ⟨_, a1, w1, hq, .pass (x := .inLoop c) rfl (fun _ _ => .inl (by simp)) harr⟩
      | outgrown => exact ⟨_, a1, w1, hq, .pass (x := .inLoop c) rfl (fun _ _ => .inl (by simp)) harr⟩
  obtain ⟨e, a', w', hq, harr⟩ := key _ a w h0
  exact ⟨e, a', w', hq, .of_steps (.one step_loop) harr⟩

theorem codeVC_sound {jo : Nat → Option Join} (hT : TOk P T) (hm : P.follows .mixedOrders = true) (n : Nat) : ∀ (c : Code), codeOk n c = true → ∀ {e : Env} {w : World} {a : Act} {Q : QK}, Fits n a e → codeVC P T jo c e w Q → c.wp P (liftQ n Q) a w := by
  intro c
  induction c with
  | skip => intro _ e w a Q hf h; exact wp_skip ⟨e, hf, h⟩
  | region id ops draw =>
    intro hok e w a Q hf h
    have hd := opsOk_spec hok
    cases draw with
    | false =>
      have h' : sVC P T ops.toList ops.toList e w (fun e w => Q .normal e w) := h
      exact wp_region_list (sVC_sound hT (Q := liftQ n Q) (fun e w a hf hk => ⟨e, hf, hk⟩) ops.toList hd hf h')
    | true =>
      have h' : ∃ sch, drawOk ops.toList sch = true ∧ dVC P T ops.toList sch w (fun _ => True) e (fun e w => Q .normal e w) := h
      obtain ⟨sch, hs, h'⟩ := h'
      have := draw_sound hT hm hs hd (Q := liftQ n Q) (fun e w a hf hk => ⟨e, hf, hk⟩) (id := id) hf h'
      simpa using this
  | seq x y ihx ihy =>
    intro hok e w a Q hf h
    simp only [codeOk, Bool.and_eq_true] at hok
    have h' : codeVC P T jo x e w (thenQ (fun e w => codeVC P T jo y e w Q) Q) := h
    refine wp_seq (wp_mono (ihx hok.1 hf h') ?_)
    rintro ex a w ⟨e, hf, hq⟩
    cases ex with
    | normal => exact ihy hok.2 hf hq
    | _ => exact ⟨e, hf, hq⟩
  | cond c x y ihx ihy =>
    intro hok e w a Q hf h
    simp only [codeOk, Bool.and_eq_true] at hok
    have h' : (match ev e c with | some (.bool true) => codeVC P T jo x e w Q | some (.bool false) => codeVC P T jo y e w Q | _ => False) := h
    split at h'
    · rename_i hc; exact wp_cond_true (hf.get.eval hc) (ihx hok.1 hf h')
    · rename_i hc; exact wp_cond_false (hf.get.eval hc) (ihy hok.2 hf h')
    · exact h'.elim
  | block id x ih =>
    intro hok e w a Q hf h
    have h' : match jo id with
      | none => codeVC P T jo x e w (blockQ id Q)
      | some J => codeVC P T jo x e w (blockQ id (joinQ J Q)) ∧ ∀ x w, J.I x w → Q .normal (envL (J.E x)) w := h
    have out : ∀ (Q' : QK), codeVC P T jo x e w (blockQ id Q') → (Code.block id x).wp P (liftQ n Q') a w := by
      intro Q' h'
      refine wp_block (wp_mono (ih hok hf h') ?_)
      rintro ex a w ⟨e, hf, hq⟩
      cases ex with
      | exit i =>
        simp only [blockQ] at hq
        simp only [Exit.inBlock]
        by_cases hi : i = id
        · rw [if_pos hi]
          rw [show Nat.beq i id = true from (beq_iff _ _).2 hi] at hq
          exact ⟨e, hf, hq⟩
        · rw [if_neg hi]
          rw [show Nat.beq i id = false from by cases hb : Nat.beq i id with | false => rfl | true => exact absurd ((beq_iff _ _).1 hb) hi] at hq
          exact ⟨e, hf, hq⟩
      | _ => exact ⟨e, hf, hq⟩
    cases hj : jo id with
    | none => rw [hj] at h'; exact out Q h'
    | some J =>
      rw [hj] at h'
      refine wp_mono (out (joinQ J Q) h'.1) ?_
      rintro ex a w ⟨e, hf, hq⟩
      cases ex with
      | normal =>
        obtain ⟨y, hs, hI⟩ := hq
        exact ⟨_, hf.of_subL hs, h'.2 y w hI⟩
      | _ => exact ⟨e, hf, hq⟩
  | loop x ih =>
    intro hok e w a Q hf h
    have h' : ∃ (X : Type) (E : X → List (Nat × Value)) (I : X → World → Prop) (m : X → World → Nat), (∃ x, subL (E x) e ∧ I x w) ∧
      ∀ y w, I y w → codeVC P T jo x (envL (E y)) w (thenQ (fun e' w' => ∃ x', subL (E x') e' ∧ I x' w' ∧ m x' w' < m y w) Q) := h
    obtain ⟨X, E, I, m, ⟨x0, hs, hI⟩, hr⟩ := h'
    refine wp_loopN (fun k a w => ∃ y, Fits n a (envL (E y)) ∧ I y w ∧ m y w = k) ?_ ⟨x0, hf.of_subL hs, hI, rfl⟩
    rintro k a w ⟨y, hfy, hIy, rfl⟩
    refine wp_mono (ih hok hfy (hr y w hIy)) ?_
    rintro ex a w ⟨e, hf, hq⟩
    cases ex with
    | normal =>
      obtain ⟨x', hs', hI', hlt⟩ := hq
      exact ⟨_, hlt, x', hf.of_subL hs', hI', rfl⟩
    | _ => exact ⟨e, hf, hq⟩
  | rangeFunc f ps x y _ _ => intro _ e w a Q hf h; exact h.elim
  | exit id => intro _ e w a Q hf h; exact wp_exit ⟨e, hf, h⟩
  | scope x _ => intro _ e w a Q hf h; exact h.elim
  | label l => intro _ e w a Q hf h; exact wp_label ⟨e, hf, h⟩
  | goto l => intro _ e w a Q hf h; exact h.elim
  | ret => intro _ e w a Q hf h; exact wp_ret ⟨e, hf, h⟩
  | refuse s => intro _ e w a Q hf h; exact h.elim

/-! ### results, and a call -/
def retsVC (T : TT) (rs : List ResultVar) (acc : List Value) (e : Env) (w : World) (K : List Value → Prop) : Prop :=
  match rs with
  | [] => K acc
  | .tmp t :: rs =>
    match e t with
    | some v => retsVC T rs (acc ++ [v]) e w K
    | none => False
  | .cell t ty :: rs =>
    match e t with
    | some (.pointer (some p)) => ∃ v, LoadAt T w ty p v ∧ retsVC T rs (acc ++ [v]) e w K
    | _ => False
def oneOrTuple (vs : List Value) : Value :=
  match vs with
  | [v] => v
  | vs => .tuple vs.toArray
def retQ (T : TT) (rs : List ResultVar) (R : Value → World → Prop) : QK := fun x e w =>
  match x with
  | .normal => retsVC T rs [] e w fun vs => R (oneOrTuple vs) w
  | .ret => retsVC T rs [] e w fun vs => R (oneOrTuple vs) w
  | _ => False
def argsE (vs : List Value) (i : Nat) (e : Env) : Env :=
  match vs with
  | [] => e
  | v :: vs => put i v (argsE vs (i + 1) e)

def resOne (tmps : Array Value) (r : ResultVar) : Sem Value :=
  match r with
  | .tmp t => pure (tmps.getD t undef)
  | .cell p t => do loadVar t (← asAddr (tmps.getD p undef))
theorem results_eq (fn : Func) (tmps : Array Value) : results fn tmps = (do let vs ← fn.results.mapM (resOne tmps); pure (if h : vs.size = 1 then vs[0] else .tuple vs)) := by
  unfold results
  congr 1
theorem retsVC_run (hT : TOk P T) {n : Nat} {a : Act} {e : Env} (hf : Fits n a e) {w : World} {K : List Value → Prop} : ∀ (rs : List ResultVar) (acc : List Value), retsVC T rs acc e w K →
    ∃ vs, (rs.mapM (resOne a.tmps)).run P w = .ok vs w ∧ K (acc ++ vs)
  | [], acc, h => ⟨[], by simp, by simpa [retsVC] using h⟩
  | .tmp t :: rs, acc, h => by
    simp only [retsVC] at h
    split at h
    · rename_i v hv
      obtain ⟨vs, h1, h2⟩ := retsVC_run hT hf rs _ h
      have hg := hf.get t v hv
      refine ⟨v :: vs, ?_, by simpa using h2⟩
      have hg' : a.tmps.getD t undef = v := by simp [hg]
      simp only [List.mapM_cons, Sem.run_bind, resOne, hg', Sem.run_pure, Result.andThen, h1]
    · exact h.elim
  | .cell t ty :: rs, acc, h => by
    simp only [retsVC] at h
    split at h
    · rename_i p hp
      obtain ⟨v, hl, h⟩ := h
      obtain ⟨vs, h1, h2⟩ := retsVC_run hT hf rs _ h
      have hg := hf.get t _ hp
      refine ⟨v :: vs, ?_, by simpa using h2⟩
      have hg' : a.tmps.getD t undef = .pointer (some p) := by simp [hg]
      simp only [List.mapM_cons, Sem.run_bind, resOne, hg', asAddr, Sem.run_pure, Result.andThen, run_loadVar hT hl, h1]
    · exact h.elim

theorem fits_args (args : List Value) (n : Nat) (h : args.length ≤ n) : Fits n { tmps := args.toArray ++ Array.replicate (n - args.toArray.size) undef, defers := [] } (argsE args 0 nilE) := by
  refine ⟨by simp; omega, ?_, rfl⟩
  have key : ∀ (l : List Value) (i t : Nat) (v : Value), argsE l i nilE t = some v → i ≤ t ∧ l[t - i]? = some v := by
    intro l
    induction l with
    | nil => intro i t v h; simp [argsE, nilE] at h
    | cons x l ih =>
      intro i t v h
      simp only [argsE] at h
      by_cases ht : t = i
      · subst ht; rw [put_same] at h; exact ⟨Nat.le_refl _, by simpa using h⟩
      · rw [put_other _ _ ht] at h
        obtain ⟨h1, h2⟩ := ih (i + 1) t v h
        refine ⟨by omega, ?_⟩
        rw [show t - i = (t - (i + 1)) + 1 from by omega]
        simpa using h2
  intro t v ht
  obtain ⟨_, h2⟩ := key args 0 t v ht
  simp only [Nat.sub_zero] at h2
  have hlt : t < args.length := by
    rcases Nat.lt_or_ge t args.length with h' | h'
    · exact h'
    · rw [List.getElem?_eq_none h'] at h2; cases h2
  simp only
  rw [Array.getElem?_append_left (by simpa using hlt)]
  simpa using h2

/-- A function with a body, run; with joins behind its blocks. -/
theorem enterC (jo : Nat → Option Join) (hT : TOk P T) (hm : P.follows .mixedOrders = true) {f : FuncId} {fn : Func} {c : Code} (hf : P.funcs[f]? = some fn) (hb : fn.body = some c) (hok : codeOk fn.ntmps c = true)
    {args : List Value} (hl : Nat.ble args.length fn.ntmps = true) {w : World} {R : Value → World → Prop} (h : codeVC P T jo c (argsE args 0 nilE) w (retQ T fn.results.toList R)) : Calls P f args.toArray w fun e w'' => ∃ v, e = .returned v ∧ R v w'' := by
  refine calls_of_wp hf hb ?_
  have hfit := fits_args args fn.ntmps (Nat.le_of_ble_eq_true hl)
  refine wp_mono (codeVC_sound hT hm fn.ntmps c hok hfit h) ?_
  rintro x a w' ⟨e, hfa, hq⟩
  have key : retsVC T fn.results.toList [] e w' (fun vs => R (oneOrTuple vs) w') → a.defers = [] ∧ ∃ v, (results fn a.tmps).run P w' = .ok v w' ∧ ∃ v', Ending.returned v = .returned v' ∧ R v' w' := by
    intro hrv
    obtain ⟨vs, h1, h2⟩ := retsVC_run hT hfa _ _ hrv
    refine ⟨hfa.dfr, oneOrTuple vs, ?_, _, rfl, by simpa using h2⟩
    rw [results_eq, Array.mapM_eq_mapM_toList]
    simp only [Sem.run_bind, Sem.run_map, h1, Result.andThen, Sem.run_pure]
    cases vs with
    | nil => simp [oneOrTuple]
    | cons v vs =>
      cases vs with
      | nil => simp [oneOrTuple]
      | cons u vs => simp [oneOrTuple]
  cases x with
  | normal => exact key hq
  | ret => exact key hq
  | _ => exact hq.elim
/-- A call of a function with a body. -/
theorem enterJ (jo : Nat → Option Join) (hT : TOk P T) (hm : P.follows .mixedOrders = true) {f : FuncId} {fn : Func} {c : Code} (hf : P.funcs[f]? = some fn) (hb : fn.body = some c) (hn : (fn.name == "runtime.NumGoroutine") = false) (hok : codeOk fn.ntmps c = true)
    {args : List Value} (hl : Nat.ble args.length fn.ntmps = true) {w : World} {R : Value → World → Prop} (h : codeVC P T jo c (argsE args 0 nilE) w (retQ T fn.results.toList R)) : CallS P f args.toArray w R := by
  have hr : (callFunc f args.toArray).run P w = .ok (.enter f args.toArray) w := by
    have hn' : ¬ fn.name = "runtime.NumGoroutine" := by intro he; rw [he] at hn; simp at hn
    simp [callFunc, hf, hn', hb]
  refine CallS.of ?_
  rw [hr]
  exact enterC jo hT hm hf hb hok hl h
theorem enter (hT : TOk P T) (hm : P.follows .mixedOrders = true) {f : FuncId} {fn : Func} {c : Code} (hf : P.funcs[f]? = some fn) (hb : fn.body = some c) (hn : (fn.name == "runtime.NumGoroutine") = false) (hok : codeOk fn.ntmps c = true)
    {args : List Value} (hl : Nat.ble args.length fn.ntmps = true) {w : World} {R : Value → World → Prop} (h : codeVC P T (fun _ => none) c (argsE args 0 nilE) w (retQ T fn.results.toList R)) : CallS P f args.toArray w R := enterJ _ hT hm hf hb hn hok hl h
end
end Go.Tw
/-
  The table of this seat's types, and that it is the program's. A helper; no statement of the program is proved here.
-/
set_option maxRecDepth 100000
namespace Go.Proofs.Ytlfdobjdlgebbaa
open Go Go.Tw
def tt : TT :=
  [⟨.other, 1, 0, [(.tuple #[])]⟩,
   ⟨.func, 1, 8, [.nilFunc]⟩,
   ⟨(.int .i64), 1, 8, [(.int .i64 0)]⟩,
   ⟨(.int .i64), 1, 8, [(.int .i64 0)]⟩,
   ⟨.bool, 1, 1, [(.bool false)]⟩,
   ⟨(.int .u8), 1, 1, [(.int .u8 0)]⟩,
   ⟨(.int .u8), 1, 1, [(.int .u8 0)]⟩,
   ⟨(.struct [(0, 2), (1, 3), (2, 4), (3, 6)]), 4, 24, [(.int .i64 0), (.int .i64 0), (.bool false), (.int .u8 0)]⟩,
   ⟨(.struct [(0, 2), (1, 3), (2, 4), (3, 6)]), 4, 24, [(.int .i64 0), (.int .i64 0), (.bool false), (.int .u8 0)]⟩,
   ⟨.str, 1, 16, [(.string ByteArray.empty)]⟩,
   ⟨.str, 1, 16, [(.string ByteArray.empty)]⟩,
   ⟨.str, 1, 16, [(.string ByteArray.empty)]⟩,
   ⟨(.int .u64), 1, 8, [(.int .u64 0)]⟩,
   ⟨(.struct [(0, 9), (1, 12)]), 2, 24, [(.string ByteArray.empty), (.int .u64 0)]⟩,
   ⟨(.struct [(0, 9), (1, 12)]), 2, 24, [(.string ByteArray.empty), (.int .u64 0)]⟩,
   ⟨(.ptr 193), 1, 8, [(.pointer none)]⟩,
   ⟨(.ptr 196), 1, 8, [(.pointer none)]⟩,
   ⟨(.ptr 205), 1, 8, [(.pointer none)]⟩,
   ⟨(.struct [(0, 17)]), 1, 8, [(.pointer none)]⟩,
   ⟨(.struct [(0, 17)]), 1, 8, [(.pointer none)]⟩,
   ⟨.iface, 1, 16, [.nilIface]⟩,
   ⟨(.int .i32), 1, 4, [(.int .i32 0)]⟩,
   ⟨(.slice 44), 1, 24, [(.slice none 0 0)]⟩,
   ⟨(.slice 35), 1, 24, [(.slice none 0 0)]⟩,
   ⟨(.slice 77), 1, 24, [(.slice none 0 0)]⟩,
   ⟨(.slice 77), 1, 24, [(.slice none 0 0)]⟩,
   ⟨(.struct [(0, 22), (1, 23), (2, 25)]), 3, 72, [(.slice none 0 0), (.slice none 0 0), (.slice none 0 0)]⟩,
   ⟨(.struct [(0, 22), (1, 23), (2, 25)]), 3, 72, [(.slice none 0 0), (.slice none 0 0), (.slice none 0 0)]⟩,
   ⟨(.int .u8), 1, 1, [(.int .u8 0)]⟩,
   ⟨(.slice 88), 1, 24, [(.slice none 0 0)]⟩,
   ⟨(.struct [(0, 4), (1, 29)]), 2, 32, [(.bool false), (.slice none 0 0)]⟩,
   ⟨(.struct [(0, 4), (1, 29)]), 2, 32, [(.bool false), (.slice none 0 0)]⟩,
   ⟨(.struct [(0, 31), (2, 31)]), 4, 64, [(.bool false), (.slice none 0 0), (.bool false), (.slice none 0 0)]⟩,
   ⟨(.struct [(0, 31), (2, 31)]), 4, 64, [(.bool false), (.slice none 0 0), (.bool false), (.slice none 0 0)]⟩,
   ⟨(.struct [(0, 25), (1, 28), (2, 33)]), 6, 96, [(.slice none 0 0), (.int .u8 0), (.bool false), (.slice none 0 0), (.bool false), (.slice none 0 0)]⟩,
   ⟨(.struct [(0, 25), (1, 28), (2, 33)]), 6, 96, [(.slice none 0 0), (.int .u8 0), (.bool false), (.slice none 0 0), (.bool false), (.slice none 0 0)]⟩,
   ⟨(.slice 25), 1, 24, [(.slice none 0 0)]⟩,
   ⟨(.slice 33), 1, 24, [(.slice none 0 0)]⟩,
   ⟨(.struct [(0, 3), (1, 36), (2, 37), (3, 37), (4, 37), (5, 37)]), 6, 128, [(.int .i64 0), (.slice none 0 0), (.slice none 0 0), (.slice none 0 0), (.slice none 0 0), (.slice none 0 0)]⟩,
   ⟨(.struct [(0, 3), (1, 36), (2, 37), (3, 37), (4, 37), (5, 37)]), 6, 128, [(.int .i64 0), (.slice none 0 0), (.slice none 0 0), (.slice none 0 0), (.slice none 0 0), (.slice none 0 0)]⟩,
   ⟨(.int .i64), 1, 8, [(.int .i64 0)]⟩,
   ⟨.other, 1, 0, [(.tuple #[(.agg #[(.int .i64 0), (.slice none 0 0), (.slice none 0 0), (.slice none 0 0), (.slice none 0 0), (.slice none 0 0)]), (.int .i64 0)])]⟩,
   ⟨.func, 1, 8, [.nilFunc]⟩,
   ⟨(.struct [(0, 33), (4, 33), (8, 4)]), 9, 136, [(.bool false), (.slice none 0 0), (.bool false), (.slice none 0 0), (.bool false), (.slice none 0 0), (.bool false), (.slice none 0 0), (.bool false)]⟩,
   ⟨(.struct [(0, 33), (4, 33), (8, 4)]), 9, 136, [(.bool false), (.slice none 0 0), (.bool false), (.slice none 0 0), (.bool false), (.slice none 0 0), (.bool false), (.slice none 0 0), (.bool false)]⟩,
   ⟨.func, 1, 8, [.nilFunc]⟩,
   ⟨.func, 1, 8, [.nilFunc]⟩,
   ⟨.func, 1, 8, [.nilFunc]⟩,
   ⟨.func, 1, 8, [.nilFunc]⟩,
   ⟨.func, 1, 8, [.nilFunc]⟩,
   ⟨.func, 1, 8, [.nilFunc]⟩,
   ⟨.func, 1, 8, [.nilFunc]⟩,
   ⟨.func, 1, 8, [.nilFunc]⟩,
   ⟨.func, 1, 8, [.nilFunc]⟩,
   ⟨.func, 1, 8, [.nilFunc]⟩,
   ⟨.func, 1, 8, [.nilFunc]⟩,
   ⟨.func, 1, 8, [.nilFunc]⟩,
   ⟨.func, 1, 8, [.nilFunc]⟩,
   ⟨.func, 1, 8, [.nilFunc]⟩,
   ⟨.func, 1, 8, [.nilFunc]⟩,
   ⟨.func, 1, 8, [.nilFunc]⟩,
   ⟨.func, 1, 8, [.nilFunc]⟩,
   ⟨.func, 1, 8, [.nilFunc]⟩,
   ⟨.func, 1, 8, [.nilFunc]⟩,
   ⟨(.slice 3), 1, 24, [(.slice none 0 0)]⟩,
   ⟨.func, 1, 8, [.nilFunc]⟩,
   ⟨.other, 1, 0, [(.tuple #[(.slice none 0 0), (.int .i64 0)])]⟩,
   ⟨.func, 1, 8, [.nilFunc]⟩,
   ⟨.func, 1, 8, [.nilFunc]⟩,
   ⟨.func, 1, 8, [.nilFunc]⟩,
   ⟨.other, 1, 0, [(.tuple #[(.slice none 0 0), (.int .i64 0)])]⟩,
   ⟨.func, 1, 8, [.nilFunc]⟩,
   ⟨.func, 1, 8, [.nilFunc]⟩,
   ⟨.other, 1, 0, [(.tuple #[(.slice none 0 0), (.int .i64 0)])]⟩,
   ⟨.func, 1, 8, [.nilFunc]⟩,
   ⟨.func, 1, 8, [.nilFunc]⟩,
   ⟨(.struct [(0, 3), (1, 33)]), 5, 72, [(.int .i64 0), (.bool false), (.slice none 0 0), (.bool false), (.slice none 0 0)]⟩,
   ⟨(.struct [(0, 3), (1, 33)]), 5, 72, [(.int .i64 0), (.bool false), (.slice none 0 0), (.bool false), (.slice none 0 0)]⟩,
   ⟨.func, 1, 8, [.nilFunc]⟩,
   ⟨.func, 1, 8, [.nilFunc]⟩,
   ⟨.func, 1, 8, [.nilFunc]⟩,
   ⟨.func, 1, 8, [.nilFunc]⟩,
   ⟨.func, 1, 8, [.nilFunc]⟩,
   ⟨.func, 1, 8, [.nilFunc]⟩,
   ⟨.func, 1, 8, [.nilFunc]⟩,
   ⟨.func, 1, 8, [.nilFunc]⟩,
   ⟨.func, 1, 8, [.nilFunc]⟩,
   ⟨.func, 1, 8, [.nilFunc]⟩,
   ⟨(.int .u64), 1, 8, [(.int .u64 0)]⟩,
   ⟨.func, 1, 8, [.nilFunc]⟩,
   ⟨.func, 1, 8, [.nilFunc]⟩,
   ⟨.other, 1, 0, [(.tuple #[(.agg #[(.bool false), (.slice none 0 0), (.bool false), (.slice none 0 0)]), (.agg #[(.bool false), (.slice none 0 0), (.bool false), (.slice none 0 0)])])]⟩,
   ⟨.func, 1, 8, [.nilFunc]⟩,
   ⟨.func, 1, 8, [.nilFunc]⟩,
   ⟨.func, 1, 8, [.nilFunc]⟩,
   ⟨.func, 1, 8, [.nilFunc]⟩,
   ⟨.other, 1, 0, [(.tuple #[(.int .i64 0), (.int .i64 0)])]⟩,
   ⟨.func, 1, 8, [.nilFunc]⟩,
   ⟨.func, 1, 8, [.nilFunc]⟩,
   ⟨.func, 1, 8, [.nilFunc]⟩,
   ⟨(.ptr 103), 1, 8, [(.pointer none)]⟩,
   ⟨(.slice 136), 1, 24, [(.slice none 0 0)]⟩,
   ⟨(.struct [(0, 4), (1, 3), (2, 101)]), 3, 40, [(.bool false), (.int .i64 0), (.slice none 0 0)]⟩,
   ⟨(.struct [(0, 4), (1, 3), (2, 101)]), 3, 40, [(.bool false), (.int .i64 0), (.slice none 0 0)]⟩,
   ⟨(.slice 100), 1, 24, [(.slice none 0 0)]⟩,
   ⟨.func, 1, 8, [.nilFunc]⟩,
   ⟨.other, 1, 0, [(.tuple #[(.slice none 0 0), (.slice none 0 0)])]⟩,
   ⟨.func, 1, 8, [.nilFunc]⟩,
   ⟨.func, 1, 8, [.nilFunc]⟩,
   ⟨.func, 1, 8, [.nilFunc]⟩,
   ⟨.func, 1, 8, [.nilFunc]⟩,
   ⟨.func, 1, 8, [.nilFunc]⟩,
   ⟨.func, 1, 8, [.nilFunc]⟩,
   ⟨.func, 1, 8, [.nilFunc]⟩,
   ⟨.func, 1, 8, [.nilFunc]⟩,
   ⟨.func, 1, 8, [.nilFunc]⟩,
   ⟨.func, 1, 8, [.nilFunc]⟩,
   ⟨.func, 1, 8, [.nilFunc]⟩,
   ⟨.func, 1, 8, [.nilFunc]⟩,
   ⟨.func, 1, 8, [.nilFunc]⟩,
   ⟨.func, 1, 8, [.nilFunc]⟩,
   ⟨.func, 1, 8, [.nilFunc]⟩,
   ⟨.func, 1, 8, [.nilFunc]⟩,
   ⟨.func, 1, 8, [.nilFunc]⟩,
   ⟨.func, 1, 8, [.nilFunc]⟩,
   ⟨.func, 1, 8, [.nilFunc]⟩,
   ⟨.func, 1, 8, [.nilFunc]⟩,
   ⟨.func, 1, 8, [.nilFunc]⟩,
   ⟨.func, 1, 8, [.nilFunc]⟩,
   ⟨(.map 3 3), 1, 8, [(.map none)]⟩,
   ⟨.func, 1, 8, [.nilFunc]⟩,
   ⟨.func, 1, 8, [.nilFunc]⟩,
   ⟨.func, 1, 8, [.nilFunc]⟩,
   ⟨.func, 1, 8, [.nilFunc]⟩,
   ⟨.func, 1, 8, [.nilFunc]⟩,
   ⟨(.struct [(0, 3), (1, 3), (2, 33), (6, 25), (7, 25)]), 8, 128, [(.int .i64 0), (.int .i64 0), (.bool false), (.slice none 0 0), (.bool false), (.slice none 0 0), (.slice none 0 0), (.slice none 0 0)]⟩,
   ⟨(.struct [(0, 3), (1, 3), (2, 33), (6, 25), (7, 25)]), 8, 128, [(.int .i64 0), (.int .i64 0), (.bool false), (.slice none 0 0), (.bool false), (.slice none 0 0), (.slice none 0 0), (.slice none 0 0)]⟩,
   ⟨.func, 1, 8, [.nilFunc]⟩,
   ⟨.func, 1, 8, [.nilFunc]⟩,
   ⟨.func, 1, 8, [.nilFunc]⟩,
   ⟨.other, 1, 0, [(.tuple #[(.pointer none), (.int .i64 0)])]⟩,
   ⟨.func, 1, 8, [.nilFunc]⟩,
   ⟨.func, 1, 8, [.nilFunc]⟩,
   ⟨.func, 1, 8, [.nilFunc]⟩,
   ⟨.func, 1, 8, [.nilFunc]⟩,
   ⟨.other, 1, 0, [(.tuple #[(.agg #[(.bool false), (.slice none 0 0)]), (.bool false)])]⟩,
   ⟨.func, 1, 8, [.nilFunc]⟩,
   ⟨.func, 1, 8, [.nilFunc]⟩,
   ⟨.func, 1, 8, [.nilFunc]⟩,
   ⟨.func, 1, 8, [.nilFunc]⟩,
   ⟨.func, 1, 8, [.nilFunc]⟩,
   ⟨.func, 1, 8, [.nilFunc]⟩,
   ⟨.func, 1, 8, [.nilFunc]⟩,
   ⟨.func, 1, 8, [.nilFunc]⟩,
   ⟨.func, 1, 8, [.nilFunc]⟩,
   ⟨(.slice 5), 1, 24, [(.slice none 0 0)]⟩,
   ⟨.func, 1, 8, [.nilFunc]⟩,
   ⟨.other, 1, 0, [(.tuple #[(.slice none 0 0), (.slice none 0 0)])]⟩,
   ⟨.func, 1, 8, [.nilFunc]⟩,
   ⟨.func, 1, 8, [.nilFunc]⟩,
   ⟨.func, 1, 8, [.nilFunc]⟩,
   ⟨.func, 1, 8, [.nilFunc]⟩,
   ⟨(.ptr 184), 1, 8, [(.pointer none)]⟩,
   ⟨.other, 1, 0, [(.tuple #[(.pointer none), (.bool false)])]⟩,
   ⟨.func, 1, 8, [.nilFunc]⟩,
   ⟨.other, 1, 0, [(.tuple #[(.int .i64 0), (.int .i64 0), (.bool false)])]⟩,
   ⟨.func, 1, 8, [.nilFunc]⟩,
   ⟨.func, 1, 8, [.nilFunc]⟩,
   ⟨.func, 1, 8, [.nilFunc]⟩,
   ⟨.other, 1, 0, [(.tuple #[(.agg #[(.bool false), (.slice none 0 0)]), (.agg #[(.bool false), (.slice none 0 0)])])]⟩,
   ⟨.func, 1, 8, [.nilFunc]⟩,
   ⟨.func, 1, 8, [.nilFunc]⟩,
   ⟨.func, 1, 8, [.nilFunc]⟩,
   ⟨.func, 1, 8, [.nilFunc]⟩,
   ⟨.other, 1, 0, [(.tuple #[(.int .u64 0), (.int .u64 0)])]⟩,
   ⟨.func, 1, 8, [.nilFunc]⟩,
   ⟨.func, 1, 8, [.nilFunc]⟩,
   ⟨.func, 1, 8, [.nilFunc]⟩,
   ⟨.func, 1, 8, [.nilFunc]⟩,
   ⟨.func, 1, 8, [.nilFunc]⟩,
   ⟨.func, 1, 8, [.nilFunc]⟩,
   ⟨.func, 1, 8, [.nilFunc]⟩,
   ⟨(.slice 4), 1, 24, [(.slice none 0 0)]⟩,
   ⟨(.struct [(0, 36), (1, 182), (2, 64)]), 3, 72, [(.slice none 0 0), (.slice none 0 0), (.slice none 0 0)]⟩,
   ⟨(.struct [(0, 36), (1, 182), (2, 64)]), 3, 72, [(.slice none 0 0), (.slice none 0 0), (.slice none 0 0)]⟩,
   ⟨.func, 1, 8, [.nilFunc]⟩,
   ⟨.func, 1, 8, [.nilFunc]⟩,
   ⟨(.int .u64), 1, 8, [(.int .u64 0)]⟩,
   ⟨.iface, 1, 16, [.nilIface]⟩,
   ⟨.iface, 1, 16, [.nilIface]⟩,
   ⟨(.ptr 207), 1, 8, [(.pointer none)]⟩,
   ⟨.func, 1, 8, [.nilFunc]⟩,
   ⟨(.struct [(0, 17), (1, 17), (2, 17), (3, 9)]), 4, 40, [(.pointer none), (.pointer none), (.pointer none), (.string ByteArray.empty)]⟩,
   ⟨(.struct [(0, 17), (1, 17), (2, 17), (3, 9)]), 4, 40, [(.pointer none), (.pointer none), (.pointer none), (.string ByteArray.empty)]⟩,
   ⟨(.arr 0 16), 0, 0, []⟩,
   ⟨(.struct [(0, 194)]), 0, 0, []⟩,
   ⟨(.struct [(0, 194)]), 0, 0, []⟩,
   ⟨(.int .u32), 1, 4, [(.int .u32 0)]⟩,
   ⟨(.int .u8), 1, 1, [(.int .u8 0)]⟩,
   ⟨(.int .u8), 1, 1, [(.int .u8 0)]⟩,
   ⟨.func, 1, 8, [.nilFunc]⟩,
   ⟨(.ptr 5), 1, 8, [(.pointer none)]⟩,
   ⟨(.int .i32), 1, 4, [(.int .i32 0)]⟩,
   ⟨(.int .i32), 1, 4, [(.int .i32 0)]⟩,
   ⟨(.struct [(0, 12), (1, 12), (2, 197), (3, 198), (4, 5), (5, 5), (6, 199), (7, 200), (8, 201), (9, 202), (10, 203)]), 11, 48, [(.int .u64 0), (.int .u64 0), (.int .u32 0), (.int .u8 0), (.int .u8 0), (.int .u8 0), (.int .u8 0), .nilFunc, (.pointer none), (.int .i32 0), (.int .i32 0)]⟩,
   ⟨(.struct [(0, 12), (1, 12), (2, 197), (3, 198), (4, 5), (5, 5), (6, 199), (7, 200), (8, 201), (9, 202), (10, 203)]), 11, 48, [(.int .u64 0), (.int .u64 0), (.int .u32 0), (.int .u8 0), (.int .u8 0), (.int .u8 0), (.int .u8 0), .nilFunc, (.pointer none), (.int .i32 0), (.int .i32 0)]⟩,
   ⟨(.struct [(0, 9)]), 1, 16, [(.string ByteArray.empty)]⟩,
   ⟨(.struct [(0, 9)]), 1, 16, [(.string ByteArray.empty)]⟩,
   ⟨.other, 1, 8, [(.pointer none)]⟩]
theorem ttOk : TOk Try.prog tt := by unfold TOk; kernel_rfl
theorem mixed : Try.prog.follows .mixedOrders = true := by kernel_rfl
end Go.Proofs.Ytlfdobjdlgebbaa
/-
  What memory reads as: blocks, rows of words. Helpers; no statement of the program is proved here.
-/
set_option linter.unusedSimpArgs false
set_option linter.unusedVariables false
namespace Go.Tw
open Go Go.RowKit

/-! ### blocks -/
def Blk (w : World) (b t : Nat) (cs : List Value) : Prop := w.heap[b]? = some (.cells cs.toArray t)
theorem Blk.lt {w : World} {b t : Nat} {cs : List Value} (h : Blk w b t cs) : b < w.heap.size := by
  rcases Nat.lt_or_ge b w.heap.size with h' | h'
  · exact h'
  · unfold Blk at h; rw [Array.getElem?_eq_none h'] at h; cases h
theorem Blk.cell {w : World} {b t i : Nat} {cs : List Value} {v : Value} (h : Blk w b t cs) (hv : cs[i]? = some v) : w.cell? ⟨b, i, none⟩ = some v := by
  unfold Blk at h
  simp [World.cell?, h, hv]
theorem Blk.free {w : World} {b t : Nat} {cs : List Value} (h : Blk w b t cs) (i : Nat) : w.frozen? ⟨b, i, none⟩ = false := by
  unfold Blk at h
  simp [World.frozen?, h]
theorem Blk.ext {w w' : World} {b t : Nat} {cs : List Value} (h : Blk w b t cs) (k : Ext w w') : Blk w' b t cs := by
  have := h.lt
  unfold Blk at *
  rw [k.block b this]; exact h
theorem Blk.grown {w w' : World} {b t : Nat} {cs : List Value} {row : Option Nat} (h : Blk w b t cs) (k : w.grownBy w' row) (hb : some b ≠ row) : Blk w' b t cs := by
  have := h.lt
  unfold Blk at *
  rw [k.block b this hb]; exact h
theorem New.toBlk {w w' : World} {b t : Nat} {cs : List Value} (h : New w w' b t cs) : Blk w' b t cs := h.blk
theorem New.ge {w0 w w' : World} {b t : Nat} {cs : List Value} (h : New w w' b t cs) (k : Ext w0 w) : w0.heap.size ≤ b := by rw [h.isNew]; exact k.size
theorem New.extFrom {w0 w w' : World} {b t : Nat} {cs : List Value} (h : New w w' b t cs) (k : Ext w0 w) : Ext w0 w' := Ext.trans' k h.ext
theorem Ext.grown {w0 w w' : World} {row : Option Nat} (h : Ext w0 w) (k : w.grownBy w' row) (hr : ∀ b, row = some b → w0.heap.size ≤ b) : Ext w0 w' := Below.grown h k h.size hr

theorem loadScalar {T : TT} {w : World} {t : Nat} {p : Addr} {v : Value} (hk : (known (tyAt T t) && !(tyAt T t).agg) = true) (h : w.cell? p = some v) : LoadAt T w t p v := by
  simp only [Bool.and_eq_true, Bool.not_eq_true'] at hk
  refine ⟨hk.1, ?_⟩
  rw [hk.2]; exact h
theorem loadAgg {T : TT} {w : World} {t : Nat} {p : Addr} {cs : List Value} (hk : (known (tyAt T t) && (tyAt T t).agg && Nat.beq cs.length (tyAt T t).size) = true) (h : ∀ (j : Nat) u, cs[j]? = some u → w.cell? (p.add j) = some u) : LoadAt T w t p (.agg cs.toArray) := by
  simp only [Bool.and_eq_true] at hk
  refine ⟨hk.1.1, ?_⟩
  rw [hk.1.2]
  exact ⟨cs, rfl, (beq_iff _ _).1 hk.2, h⟩

theorem Stored.grown {w w' : World} {b i : Nat} {vs : List Value} (h : Stored w w' ⟨b, i, none⟩ vs) : w.grownBy w' (some b) ∧ w'.heap.size = w.heap.size := by
  unfold Stored at h
  subst h
  have : ∀ (vs : List Value) (k : Nat) (w : World), w.grownBy (setFrom w ⟨b, i, none⟩ k vs) (some b) ∧ (setFrom w ⟨b, i, none⟩ k vs).heap.size = w.heap.size := by
    intro vs
    induction vs with
    | nil => intro k w; exact ⟨⟨rfl, rfl, rfl, Nat.le_refl _, fun _ _ _ => rfl⟩, rfl⟩
    | cons v vs ih =>
      intro k w
      obtain ⟨h1, h2⟩ := ih (k + 1) (w.setCell (Addr.add ⟨b, i, none⟩ k) v)
      refine ⟨⟨h1.os, h1.tape, h1.output, by simp only [setFrom]; rw [h2]; simp, ?_⟩, by simp only [setFrom]; rw [h2]; simp⟩
      intro j hj hne
      simp only [setFrom]
      rw [h1.block j (by simpa using hj) hne]
      have hjb : j ≠ b := fun e => hne (by rw [e])
      rw [Addr.add_lit]
      exact Below.heap_setCell _ _ _ _ hjb
  exact this vs 0 w
theorem Stored.blk {w w' : World} {b i t : Nat} {vs cs : List Value} (h : Stored w w' ⟨b, i, none⟩ vs) (hb : Blk w b t cs) : Blk w' b t (splice cs i vs) := by
  unfold Stored at h
  subst h
  have : ∀ (vs : List Value) (k : Nat) (w : World) (cs : List Value), Blk w b t cs → Blk (setFrom w ⟨b, i, none⟩ k vs) b t (splice cs (i + k) vs) := by
    intro vs
    induction vs with
    | nil => intro k w cs hb; rw [splice_none]; exact hb
    | cons v vs ih =>
      intro k w cs hb
      simp only [setFrom]
      rw [← splice_cons, show i + k + 1 = i + (k + 1) from by omega]
      refine ih (k + 1) _ _ ?_
      unfold Blk at hb ⊢
      rw [Addr.add_lit]
      simp only [World.setCell, Array.getElem?_modify, if_true, hb, Option.map_some]
      simp
  simpa using this vs 0 w cs hb
theorem storeOk {T : TT} {w : World} {b i t t' : Nat} {cs : List Value} {v : Value} {p : Addr} (hp : p = ⟨b, i, none⟩) (hk : (known (tyAt T t) && Nat.beq v.cells.toList.length (tyAt T t).size && v.cells.toList.all Value.oneCell') = true) (hb : Blk w b t' cs) (hi : i + (tyAt T t).size ≤ cs.length) : StoreOk T w t p v := by
  subst hp
  refine ⟨hk, fun j hj => ?_⟩
  rw [Addr.add_lit]
  exact ⟨⟨_, hb.cell (List.getElem?_eq_getElem (by omega))⟩, hb.free _⟩

/-! ### words -/
def Wd (L : List Nat) : Prop := ∀ x ∈ L, x < 18446744073709551616
def wv (L : List Nat) : List Value := L.map fun (x : Nat) => Value.int .u64 (x : Int)
/-- A slice of words: at a, of n words, L. -/
structure Words (w : World) (a : Option Addr) (n : Nat) (L : List Nat) : Prop where
  len : L.length = n
  base : 0 < n → okB a
  get : ∀ (j : Nat) (x : Nat), L[j]? = some x → w.cell? (addrAt a j) = some (.int .u64 (x : Int))
  lt : Wd L
/-- A value that is a slice of the words L. -/
def Sl (w : World) (v : Value) (L : List Nat) : Prop := ∃ a n c, v = .slice a n c ∧ Words w a n L ∧ n ≤ c ∧ c ≤ 9223372036854775807

theorem Words.ext {w w' : World} {a : Option Addr} {n : Nat} {L : List Nat} (h : Words w a n L) (k : Ext w w') : Words w' a n L :=
  ⟨h.len, h.base, fun j x hj => k.cellEq (h.get j x hj), h.lt⟩
theorem Sl.ext {w w' : World} {v : Value} {L : List Nat} (h : Sl w v L) (k : Ext w w') : Sl w' v L := by
  obtain ⟨a, n, c, he, hw, h1, h2⟩ := h; exact ⟨a, n, c, he, hw.ext k, h1, h2⟩
theorem subA_zero (a : Option Addr) (c sz : Nat) : subA a c 0 sz = a := by
  unfold subA
  split
  · rfl
  · cases a <;> simp [Addr.add]
theorem Words.take {w : World} {a : Option Addr} {n : Nat} {L : List Nat} (h : Words w a n L) {k : Nat} (hk : k ≤ n) : Words w a k (L.take k) := by
  have hl := h.len
  refine ⟨by simp; omega, fun h0 => h.base (by omega), fun j x hj => ?_, fun x hx => h.lt x (List.mem_of_mem_take hx)⟩
  rw [List.getElem?_take] at hj
  split at hj
  · exact h.get j x hj
  · cases hj
theorem Words.load {T : TT} {w : World} {a : Option Addr} {n : Nat} {L : List Nat} (h : Words w a n L) {t j sz x : Nat} (hk : (known (tyAt T t) && !(tyAt T t).agg) = true) (hs : sz = 1) (hx : L[j]? = some x) :
    LoadAt T w t (addrAt a (j * sz)) (.int .u64 (x : Int)) := by
  subst hs
  rw [Nat.mul_one]
  exact loadScalar hk (h.get j x hx)
theorem Words.getD {w : World} {a : Option Addr} {n : Nat} {L : List Nat} (h : Words w a n L) {j : Nat} (hj : j < n) : L[j]? = some (L.getD j 0) := by
  have := h.len
  rw [List.getD_eq_getElem?_getD, List.getElem?_eq_getElem (by omega)]; rfl
theorem Wd.getD {L : List Nat} (h : Wd L) (j : Nat) : L.getD j 0 < 18446744073709551616 := by
  rw [List.getD_eq_getElem?_getD]
  cases hj : L[j]? with
  | none => simp
  | some x => exact h x (List.mem_of_getElem? hj)
theorem Words.nil (w : World) : Words w none 0 [] := ⟨rfl, fun h => by omega, fun j x h => by simp at h, fun x h => by simp at h⟩
theorem Sl.nil (w : World) : Sl w (.slice none 0 0) [] := ⟨none, 0, 0, rfl, Words.nil w, Nat.le_refl _, by omega⟩
theorem Words.blk {w : World} {b t n : Nat} {A : List Nat} (h : Blk w b t (wv A)) (hn : n ≤ A.length) (hA : Wd A) : Words w (some ⟨b, 0, none⟩) n (A.take n) := by
  refine ⟨by simp; omega, fun _ => ⟨_, rfl, rfl⟩, fun j x hj => ?_, fun x hx => hA x (List.mem_of_mem_take hx)⟩
  rw [List.getElem?_take] at hj
  split at hj
  · have := h.cell (i := 0 + j) (v := .int .u64 (x : Int)) (by simp [wv, hj])
    exact this
  · cases hj
theorem Words.blkAll {w : World} {b t : Nat} {A : List Nat} (h : Blk w b t (wv A)) (hA : Wd A) : Words w (some ⟨b, 0, none⟩) A.length A := by
  have := Words.blk h (Nat.le_refl _) hA
  simpa using this

theorem wv_length (L : List Nat) : (wv L).length = L.length := by simp [wv]
theorem wv_append (L M : List Nat) : wv (L ++ M) = wv L ++ wv M := by simp [wv]
theorem wv_set (L : List Nat) (i x : Nat) : splice (wv L) i [Value.int .u64 (x : Int)] = wv (L.set i x) := by
  have : ∀ (cs : List Value) (i : Nat) (v : Value), splice cs i [v] = cs.set i v := by
    intro cs
    induction cs with
    | nil => intro i v; simp [splice_nil]
    | cons c cs ih => intro i v; cases i <;> simp [splice, over, ih]
  rw [this, wv, wv, List.map_set]
theorem wv_one (L : List Nat) : ∀ v ∈ wv L, v.oneCell' = true := by
  intro v hv
  obtain ⟨x, _, rfl⟩ := List.mem_map.1 hv
  rfl
theorem rep_zero (n : Nat) : rep n [Value.int .u64 0] = wv (List.replicate n 0) := by
  induction n with
  | zero => rfl
  | succ n ih => simp [rep, ih, wv, List.replicate_succ]
theorem Words.news {w : World} {a : Option Addr} {n : Nat} {L : List Nat} (h : Words w a n L) : ∀ (j : Nat) v, (wv L)[j]? = some v → w.cell? (addrAt a j) = some v := by
  intro j v hj
  simp only [wv, List.getElem?_map, Option.map_eq_some_iff] at hj
  obtain ⟨x, hx, rfl⟩ := hj
  exact h.get j x hx
theorem owns_sl {w : World} {base e n : Nat} {v : Value} {L : List Nat} (h : w.ownsRow base e 1 v n (wv L)) (hL : Wd L) : Sl w v L := by
  obtain ⟨hl, h⟩ := h
  rw [wv_length, Nat.mul_one] at hl
  rcases h with ⟨rfl, rfl⟩ | ⟨g, cap, cur, rfl, _, hb, hnc, hcm, hcs, htk⟩
  · have : L = [] := List.eq_nil_of_length_eq_zero hl
    subst this; exact Sl.nil w
  · refine ⟨some ⟨g, 0, none⟩, n, cap, rfl, ⟨hl, fun _ => ⟨_, rfl, rfl⟩, fun j x hj => ?_, hL⟩, hnc, by unfold maxLen at hcm; exact hcm⟩
    have h1 : (wv L)[j]? = some (.int .u64 (x : Int)) := by simp [wv, hj]
    rw [← htk, List.getElem?_take] at h1
    split at h1
    · have h2 : cur[0 + j]? = some (.int .u64 (x : Int)) := by simpa using h1
      show w.cell? ⟨g, 0 + j, none⟩ = _
      simp only [World.cell?, hb]
      simpa using h2
    · cases h1
theorem owns_new {w w' : World} {base b t : Nat} {cs : List Value} (h : New w w' b t cs) (hb : base ≤ b) (n sz : Nat) (hs : cs.length = n * sz) (hn : n ≤ 9223372036854775807) : w'.ownsRow base t sz (.slice (some ⟨b, 0, none⟩) n n) n cs :=
  ⟨hs, .inr ⟨b, n, cs.toArray, rfl, hb, h.blk, Nat.le_refl _, by unfold maxLen; exact hn, by simpa using hs, by rw [← hs]; simp⟩⟩
theorem owns_take {w : World} {base b t : Nat} {cs : List Value} (h : Blk w b t cs) (hb : base ≤ b) (n c sz : Nat) (hs : cs.length = c * sz) (hn : n ≤ c) (hc : c ≤ 9223372036854775807) : w.ownsRow base t sz (.slice (some ⟨b, 0, none⟩) n c) n (cs.take (n * sz)) :=
  ⟨by rw [List.length_take, hs, Nat.min_eq_left]; exact Nat.mul_le_mul_right _ hn, .inr ⟨b, c, cs.toArray, rfl, hb, h, hn, by unfold maxLen; exact hc, by simpa using hs, rfl⟩⟩
end Go.Tw
/-
  Plain numbers: rows of digits of 64 bits and what they say. No program in sight; helpers.
-/
set_option linter.unusedSimpArgs false
set_option linter.unusedVariables false
namespace Go.Tw

/-- What digits say, the least first. -/
def val (L : List Nat) : Nat :=
  match L with
  | [] => 0
  | x :: L => x + 18446744073709551616 * val L
def trimN (L : List Nat) : Nat → Nat
  | 0 => 0
  | k + 1 => if L.getD k 0 = 0 then trimN L k else k + 1
def WdL (L : List Nat) : Prop := ∀ x ∈ L, x < 18446744073709551616
/-- The digits of a number. -/
def digF (fuel n : Nat) : List Nat :=
  match fuel with
  | 0 => []
  | f + 1 => if n = 0 then [] else n % 18446744073709551616 :: digF f (n / 18446744073709551616)
def dig (n : Nat) : List Nat := digF n n

theorem digF_eq : ∀ (f g n : Nat), n ≤ f → n ≤ g → digF f n = digF g n
  | 0, g, n, h, _ => by
    obtain rfl : n = 0 := by omega
    cases g <;> rfl
  | f + 1, 0, n, _, h => by
    obtain rfl : n = 0 := by omega
    rfl
  | f + 1, g + 1, n, h1, h2 => by
    simp only [digF]
    split
    · rfl
    · rw [digF_eq f g (n / 18446744073709551616) (by omega) (by omega)]
theorem dig_zero : dig 0 = [] := rfl
theorem dig_pos {n : Nat} (h : n ≠ 0) : dig n = n % 18446744073709551616 :: dig (n / 18446744073709551616) := by
  obtain ⟨m, rfl⟩ : ∃ m, n = m + 1 := ⟨n - 1, by omega⟩
  show digF (m + 1) (m + 1) = _
  simp only [digF, if_neg h]
  rw [digF_eq m _ _ (by omega) (Nat.le_refl _)]
  rfl
theorem dig_ind (P : Nat → Prop) (h0 : P 0) (h1 : ∀ n, n ≠ 0 → P (n / 18446744073709551616) → P n) : ∀ n, P n := by
  intro n
  induction n using Nat.strongRecOn with
  | _ n ih =>
    by_cases h : n = 0
    · subst h; exact h0
    · exact h1 n h (ih _ (by omega))
theorem val_dig (n : Nat) : val (dig n) = n := by
  refine dig_ind (fun n => val (dig n) = n) rfl ?_ n
  intro n h ih
  rw [dig_pos h]
  simp only [val, ih]
  omega
theorem dig_wd (n : Nat) : WdL (dig n) := by
  refine dig_ind (fun n => WdL (dig n)) (by intro x hx; simp [dig_zero] at hx) ?_ n
  intro n h ih
  rw [dig_pos h]
  intro x hx
  rcases List.mem_cons.1 hx with rfl | hx
  · omega
  · exact ih x hx
theorem dig_len_le (k n : Nat) (h : n < 18446744073709551616 ^ k) : (dig n).length ≤ k := by
  induction k generalizing n with
  | zero => simp at h; subst h; simp [dig_zero]
  | succ k ih =>
    by_cases h0 : n = 0
    · subst h0; simp [dig_zero]
    · rw [dig_pos h0, List.length_cons]
      have : n / 18446744073709551616 < 18446744073709551616 ^ k := by
        rw [Nat.pow_succ] at h
        rw [Nat.div_lt_iff_lt_mul (by omega)]; exact h
      have := ih _ this
      omega
theorem val_lt (L : List Nat) (h : WdL L) : val L < 18446744073709551616 ^ L.length := by
  induction L with
  | nil => simp [val]
  | cons x L ih =>
    have h1 := h x (by simp)
    have h2 := ih (fun y hy => h y (by simp [hy]))
    simp only [val, List.length_cons, Nat.pow_succ]
    generalize 18446744073709551616 ^ L.length = p at *
    have : 18446744073709551616 * (val L + 1) ≤ 18446744073709551616 * p := Nat.mul_le_mul_left _ h2
    omega
theorem dig_lt (n : Nat) : n < 18446744073709551616 ^ (dig n).length := by
  have := val_lt (dig n) (dig_wd n)
  rw [val_dig] at this; exact this
theorem dig_le_pow (n : Nat) (h : n ≠ 0) : 18446744073709551616 ^ ((dig n).length - 1) ≤ n := by
  refine dig_ind (fun n => n ≠ 0 → 18446744073709551616 ^ ((dig n).length - 1) ≤ n) (by simp) ?_ n h
  intro n h ih _
  rw [dig_pos h]
  simp only [List.length_cons, Nat.add_sub_cancel]
  by_cases h0 : n / 18446744073709551616 = 0
  · rw [h0, dig_zero]; simp; omega
  · have := ih h0
    obtain ⟨k, hk⟩ : ∃ k, (dig (n / 18446744073709551616)).length = k + 1 := by
      refine ⟨(dig (n / 18446744073709551616)).length - 1, ?_⟩
      rw [dig_pos h0]; simp
    rw [hk] at this ⊢
    simp only [Nat.add_sub_cancel] at this
    rw [Nat.pow_succ]
    generalize 18446744073709551616 ^ k = p at *
    omega
theorem val_append (L M : List Nat) : val (L ++ M) = val L + 18446744073709551616 ^ L.length * val M := by
  induction L with
  | nil => simp [val]
  | cons x L ih =>
    simp only [List.cons_append, val, ih, List.length_cons, Nat.pow_succ]
    rw [Nat.mul_add, Nat.mul_comm (18446744073709551616 ^ L.length) 18446744073709551616, Nat.mul_assoc]
    omega
theorem val_replicate (n : Nat) : val (List.replicate n 0) = 0 := by
  induction n with
  | zero => rfl
  | succ n ih => simp [List.replicate_succ, val, ih]
theorem trimN_le (L : List Nat) (n : Nat) : trimN L n ≤ n := by
  induction n with
  | zero => simp [trimN]
  | succ n ih => simp only [trimN]; split <;> omega
theorem trimN_top (L : List Nat) (n : Nat) (h : trimN L n ≠ 0) : L.getD (trimN L n - 1) 0 ≠ 0 := by
  induction n with
  | zero => simp [trimN] at h
  | succ n ih =>
    simp only [trimN] at h ⊢
    split
    · rename_i h0; rw [if_pos h0] at h; exact ih h
    · rename_i h0; exact h0
theorem trimN_above (L : List Nat) (n k : Nat) (h1 : trimN L n ≤ k) (h2 : k < n) : L.getD k 0 = 0 := by
  induction n with
  | zero => omega
  | succ n ih =>
    simp only [trimN] at h1
    split at h1
    · rename_i h0
      by_cases hk : k = n
      · subst hk; exact h0
      · exact ih h1 (by omega)
    · omega
theorem val_drop_zero : ∀ (L : List Nat) (k : Nat), (∀ j, k ≤ j → j < L.length → L.getD j 0 = 0) → val (L.take k) = val L
  | [], k, _ => by simp
  | x :: L, 0, h => by
    have hx := h 0 (by omega) (by simp)
    simp at hx
    subst hx
    have := val_drop_zero L 0 (fun j _ hj => by have := h (j + 1) (by omega) (by simp; omega); simpa using this)
    simp [val] at this ⊢
    omega
  | x :: L, k + 1, h => by
    have := val_drop_zero L k (fun j h1 hj => by have := h (j + 1) (by omega) (by simp; omega); simpa using this)
    simp [val, this]
theorem val_trim (L : List Nat) : val (L.take (trimN L L.length)) = val L :=
  val_drop_zero L _ fun j h1 h2 => trimN_above L L.length j h1 h2
/-- Digits without a nought on top are the digits. -/
theorem dig_val : ∀ (L : List Nat), WdL L → (L = [] ∨ L.getD (L.length - 1) 0 ≠ 0) → dig (val L) = L
  | [], _, _ => rfl
  | x :: L, h, ht => by
    have hx := h x (by simp)
    have hL : WdL L := fun y hy => h y (by simp [hy])
    have ht : (x :: L).getD L.length 0 ≠ 0 := by
      rcases ht with h | h
      · cases h
      · simpa using h
    have hv : val (x :: L) ≠ 0 := by
      intro hz
      simp only [val] at hz
      cases L with
      | nil => simp [val] at hz; subst hz; simp at ht
      | cons y L =>
        have := dig_val (y :: L) hL (.inr (by simpa using ht))
        rw [show val (y :: L) = 0 by omega] at this
        simp [dig_zero] at this
    rw [dig_pos hv]
    have e1 : val (x :: L) % 18446744073709551616 = x := by simp only [val]; omega
    have e2 : val (x :: L) / 18446744073709551616 = val L := by simp only [val]; omega
    rw [e1, e2]
    cases L with
    | nil => rfl
    | cons y L => rw [dig_val (y :: L) hL (.inr (by simpa using ht))]
theorem trim_dig (L : List Nat) (h : WdL L) : L.take (trimN L L.length) = dig (val L) := by
  rw [← val_trim L]
  symm
  apply dig_val
  · exact fun x hx => h x (List.mem_of_mem_take hx)
  · by_cases h0 : trimN L L.length = 0
    · left; rw [h0]; simp
    · right
      have hle := trimN_le L L.length
      have := trimN_top L L.length h0
      rw [List.length_take, Nat.min_eq_left hle]
      simpa [List.getD, List.getElem?_take, show trimN L L.length - 1 < trimN L L.length by omega] using this
theorem trimN_dig (L : List Nat) (h : WdL L) : trimN L L.length = (dig (val L)).length := by
  rw [← trim_dig L h, List.length_take, Nat.min_eq_left (trimN_le L L.length)]
theorem dig_top {n : Nat} (h : n ≠ 0) : (dig n).getD ((dig n).length - 1) 0 ≠ 0 := by
  refine dig_ind (fun n => n ≠ 0 → (dig n).getD ((dig n).length - 1) 0 ≠ 0) (by simp) ?_ n h
  intro n h ih _
  rw [dig_pos h]
  by_cases h0 : n / 18446744073709551616 = 0
  · rw [h0, dig_zero]; simp; omega
  · have := ih h0
    have hne : (dig (n / 18446744073709551616)).length ≠ 0 := by rw [dig_pos h0]; simp
    rw [List.length_cons, Nat.add_sub_cancel]
    obtain ⟨k, hk⟩ : ∃ k, (dig (n / 18446744073709551616)).length = k + 1 := ⟨_, (Nat.succ_pred_eq_of_ne_zero hne).symm⟩
    rw [hk] at this ⊢
    simpa using this
theorem dig_len_mono {m n : Nat} (h : m ≤ n) : (dig m).length ≤ (dig n).length := dig_len_le _ _ (Nat.lt_of_le_of_lt h (dig_lt n))
theorem dig_inj {m n : Nat} (h : dig m = dig n) : m = n := by rw [← val_dig m, h, val_dig]
theorem dig_nil {n : Nat} : dig n = [] ↔ n = 0 := ⟨fun h => dig_inj (h.trans dig_zero.symm), fun h => by subst h; rfl⟩
/-- The digits on top decide. -/
theorem val_take_succ (L : List Nat) (k : Nat) (h : k < L.length) : val (L.take (k + 1)) = val (L.take k) + 18446744073709551616 ^ k * L.getD k 0 := by
  rw [List.take_succ_eq_append_getElem h, val_append]
  simp [val, Nat.min_eq_left (Nat.le_of_lt h), h]
theorem val_take_lt (L : List Nat) (k : Nat) (h : WdL L) : val (L.take k) < 18446744073709551616 ^ k := by
  have h1 := val_lt (L.take k) (fun x hx => h x (List.mem_of_mem_take hx))
  exact Nat.lt_of_lt_of_le h1 (Nat.pow_le_pow_right (by omega) (by simp; omega))
theorem val_split (L : List Nat) (k : Nat) (h : k ≤ L.length) : val L = val (L.take k) + 18446744073709551616 ^ k * val (L.drop k) := by
  have := val_append (L.take k) (L.drop k)
  rw [List.take_append_drop, List.length_take, Nat.min_eq_left h] at this
  exact this
theorem drop_eq_of {L M : List Nat} {k : Nat} (hl : L.length = M.length) (h : ∀ j, k ≤ j → j < L.length → L.getD j 0 = M.getD j 0) : L.drop k = M.drop k := by
  apply List.ext_getElem?
  intro i
  rw [List.getElem?_drop, List.getElem?_drop]
  by_cases hi : k + i < L.length
  · have := h (k + i) (by omega) hi
    rw [List.getD_eq_getElem?_getD, List.getD_eq_getElem?_getD, List.getElem?_eq_getElem hi, List.getElem?_eq_getElem (by omega)] at this
    rw [List.getElem?_eq_getElem hi, List.getElem?_eq_getElem (by omega)]
    simpa using this
  · rw [List.getElem?_eq_none (by omega), List.getElem?_eq_none (by omega)]
theorem val_lt_of_top {L M : List Nat} {k : Nat} (hL : WdL L) (hl : L.length = M.length) (hk : k < L.length) (h : ∀ j, k < j → j < L.length → L.getD j 0 = M.getD j 0) (hlt : L.getD k 0 < M.getD k 0) : val L < val M := by
  have h1 := val_split L (k + 1) (by omega)
  have h2 := val_split M (k + 1) (by omega)
  rw [drop_eq_of hl (k := k + 1) (fun j h1 h2 => h j (by omega) h2)] at h1
  rw [val_take_succ L k hk] at h1
  rw [val_take_succ M k (by omega)] at h2
  have h3 := val_take_lt L k hL
  generalize 18446744073709551616 ^ (k + 1) * val (M.drop (k + 1)) = T at *
  generalize 18446744073709551616 ^ k = p at *
  have h4 : p * (L.getD k 0 + 1) ≤ p * M.getD k 0 := Nat.mul_le_mul_left _ hlt
  rw [Nat.mul_add] at h4
  omega
theorem lt_of_dig_len {m n : Nat} (h : (dig m).length < (dig n).length) : m < n := by
  rcases Nat.lt_or_ge m n with h' | h'
  · exact h'
  · have := dig_len_mono h'; omega
theorem val_take_all (L : List Nat) (k : Nat) (h : L.length ≤ k) : val (L.take k) = val L := by rw [List.take_of_length_le h]
/-- One digit more, nought behind the end. -/
theorem val_take_next (L : List Nat) (k : Nat) : val (L.take (k + 1)) = val (L.take k) + 18446744073709551616 ^ k * L.getD k 0 := by
  by_cases h : k < L.length
  · exact val_take_succ L k h
  · rw [val_take_all L _ (by omega), val_take_all L _ (by omega), List.getD_eq_getElem?_getD, List.getElem?_eq_none (by omega)]; simp
theorem take_set (A : List Nat) (i x : Nat) : (A.set i x).take i = A.take i := by
  apply List.ext_getElem?
  intro j
  rw [List.getElem?_take, List.getElem?_take]
  split
  · rw [List.getElem?_set_ne (by omega)]
  · rfl
theorem val_set_next (A : List Nat) (i x : Nat) (h : i < A.length) : val ((A.set i x).take (i + 1)) = val (A.take i) + 18446744073709551616 ^ i * x := by
  rw [val_take_succ _ i (by simpa using h), take_set]
  congr 2
  rw [List.getD_eq_getElem?_getD, List.getElem?_set_self h]; rfl
theorem wd_set {A : List Nat} (h : WdL A) {i x : Nat} (hx : x < 18446744073709551616) : WdL (A.set i x) := by
  intro y hy
  rcases List.mem_or_eq_of_mem_set hy with hy | rfl
  · exact h y hy
  · exact hx
theorem wd_replicate (n : Nat) : WdL (List.replicate n 0) := by
  intro x hx
  rw [List.mem_replicate] at hx
  rw [hx.2]; omega
theorem getD_lt_wd {L : List Nat} (h : WdL L) (j : Nat) : L.getD j 0 < 18446744073709551616 := by
  rw [List.getD_eq_getElem?_getD]
  cases hj : L[j]? with
  | none => simp
  | some x => exact h x (List.mem_of_getElem? hj)
/-- One step of a sum. -/
theorem add_step {p A L M cy x y : Nat} (h : A + p * cy = L + M) : A + p * ((x + y + cy) % 18446744073709551616) + p * 18446744073709551616 * ((x + y + cy) / 18446744073709551616) = (L + p * x) + (M + p * y) := by
  have h1 : p * (x + y + cy) = p * ((x + y + cy) % 18446744073709551616) + p * 18446744073709551616 * ((x + y + cy) / 18446744073709551616) := by
    rw [Nat.mul_assoc, ← Nat.mul_add]
    congr 1
    omega
  have h2 : p * (x + y + cy) = p * x + p * y + p * cy := by rw [Nat.mul_add, Nat.mul_add]
  omega
theorem lgetD_ne {A : List Nat} {i j x : Nat} (h : i ≠ j) : (A.set i x).getD j 0 = A.getD j 0 := by
  rw [List.getD_eq_getElem?_getD, List.getElem?_set_ne h, ← List.getD_eq_getElem?_getD]
theorem lgetD_same {A : List Nat} {i x : Nat} (h : i < A.length) : (A.set i x).getD i 0 = x := by
  rw [List.getD_eq_getElem?_getD, List.getElem?_set_self h]; rfl
/-- One step of a difference. -/
theorem sub_step {p A L M bw x y : Nat} (hx : x < 18446744073709551616) (hy : y < 18446744073709551616) (hb : bw ≤ 1) (h : A + M = L + p * bw) :
    A + p * ((x + 18446744073709551616 - y - bw) % 18446744073709551616) + (M + p * y) = (L + p * x) + p * 18446744073709551616 * (if x < y + bw then 1 else 0) := by
  have key : p * ((x + 18446744073709551616 - y - bw) % 18446744073709551616) + p * y + p * bw = p * x + p * 18446744073709551616 * (if x < y + bw then 1 else 0) := by
    rw [Nat.mul_assoc, ← Nat.mul_add, ← Nat.mul_add, ← Nat.mul_add]
    congr 1
    split <;> omega
  omega
/-- Which is greater. -/
def cmpN (x y : Nat) : Int := if x < y then -1 else if y < x then 1 else 0
end Go.Tw
/-
  Rows of words and the numbers that they say. Helpers; no statement of the program is proved here.
-/
set_option linter.unusedSimpArgs false
set_option linter.unusedVariables false
namespace Go.Tw
open Go Go.RowKit
theorem Words.trim {w : World} {a : Option Addr} {n : Nat} {L : List Nat} (h : Words w a n L) : Words w a (dig (val L)).length (dig (val L)) := by
  have hl : (dig (val L)).length ≤ n := by rw [← trimN_dig L h.lt, ← h.len]; exact trimN_le _ _
  have := h.take hl
  rw [← trimN_dig L h.lt, trim_dig L h.lt] at this
  rw [← trimN_dig L h.lt]; exact this
theorem Words.trim_le {w : World} {a : Option Addr} {n : Nat} {L : List Nat} (h : Words w a n L) : (dig (val L)).length ≤ n := by
  rw [← trimN_dig L h.lt, ← h.len]; exact trimN_le _ _
theorem addr_word (b i sz : Nat) (hs : sz = 1) : addrAt (some ⟨b, 0, none⟩) (i * sz) = ⟨b, i, none⟩ := by
  subst hs; simp [addrAt, blk, ofs]
theorem storeWord {T : TT} {w : World} {b i t t' sz : Nat} {A : List Nat} {x : Int} (hk : (known (tyAt T t) && Nat.beq 1 (tyAt T t).size) = true) (hs : sz = 1) (hb : Blk w b t' (wv A)) (hi : i < A.length) : StoreOk T w t (addrAt (some ⟨b, 0, none⟩) (i * sz)) (.int .u64 x) := by
  simp only [Bool.and_eq_true] at hk
  have h1 := (beq_iff _ _).1 hk.2
  refine storeOk (addr_word b i sz hs) ?_ hb (by rw [wv_length]; omega)
  rw [hk.1, ← h1]; rfl
theorem storedWord {w w' : World} {b i t sz x : Nat} {A : List Nat} (h : Stored w w' (addrAt (some ⟨b, 0, none⟩) (i * sz)) (Value.int .u64 (x : Int)).cells.toList) (hs : sz = 1) (hb : Blk w b t (wv A)) :
    Blk w' b t (wv (A.set i x)) ∧ w.grownBy w' (some b) ∧ w'.heap.size = w.heap.size := by
  rw [addr_word b i sz hs] at h
  have h1 := Stored.blk h hb
  have h2 := Stored.grown h
  refine ⟨?_, h2.1, h2.2⟩
  have : splice (wv A) i (Value.int .u64 (x : Int)).cells.toList = wv (A.set i x) := wv_set A i x
  rw [this] at h1; exact h1
/-! blocks of which the first words are known -/
theorem wvR_set (A : List Nat) (R : List Value) (i x : Nat) (hi : i < A.length) : splice (wv A ++ R) i [Value.int .u64 (x : Int)] = wv (A.set i x) ++ R := by
  have : ∀ (cs : List Value) (i : Nat) (v : Value), splice cs i [v] = cs.set i v := by
    intro cs
    induction cs with
    | nil => intro i v; simp [splice_nil]
    | cons c cs ih => intro i v; cases i <;> simp [splice, over, ih]
  rw [this, List.set_append_left _ _ (by rw [wv_length]; exact hi), wv, wv, List.map_set]
theorem storeWordR {T : TT} {w : World} {b i t t' sz : Nat} {A : List Nat} {R : List Value} {x : Int} (hk : (known (tyAt T t) && Nat.beq 1 (tyAt T t).size) = true) (hs : sz = 1) (hb : Blk w b t' (wv A ++ R)) (hi : i < A.length) : StoreOk T w t (addrAt (some ⟨b, 0, none⟩) (i * sz)) (.int .u64 x) := by
  simp only [Bool.and_eq_true] at hk
  have h1 := (beq_iff _ _).1 hk.2
  refine storeOk (addr_word b i sz hs) ?_ hb (by rw [List.length_append, wv_length]; omega)
  rw [hk.1, ← h1]; rfl
theorem storedWordR {w w' : World} {b i t sz x : Nat} {A : List Nat} {R : List Value} (h : Stored w w' (addrAt (some ⟨b, 0, none⟩) (i * sz)) (Value.int .u64 (x : Int)).cells.toList) (hs : sz = 1) (hb : Blk w b t (wv A ++ R)) (hi : i < A.length) :
    Blk w' b t (wv (A.set i x) ++ R) ∧ w.grownBy w' (some b) ∧ w'.heap.size = w.heap.size := by
  rw [addr_word b i sz hs] at h
  have h1 := Stored.blk h hb
  have h2 := Stored.grown h
  refine ⟨?_, h2.1, h2.2⟩
  have : splice (wv A ++ R) i (Value.int .u64 (x : Int)).cells.toList = wv (A.set i x) ++ R := wvR_set A R i x hi
  rw [this] at h1; exact h1
theorem Words.blkR {w : World} {b t : Nat} {A : List Nat} {R : List Value} (h : Blk w b t (wv A ++ R)) (hA : Wd A) : Words w (some ⟨b, 0, none⟩) A.length A := by
  refine ⟨rfl, fun _ => ⟨_, rfl, rfl⟩, fun j x hj => ?_, hA⟩
  have hlt : j < A.length := by
    rcases Nat.lt_or_ge j A.length with h' | h'
    · exact h'
    · rw [List.getElem?_eq_none h'] at hj; cases hj
  have := h.cell (i := 0 + j) (v := .int .u64 (x : Int)) (by rw [Nat.zero_add, List.getElem?_append_left (by rw [wv_length]; exact hlt)]; simp [wv, hj])
  exact this
theorem owns_blk {w : World} {base e n : Nat} {v : Value} {L : List Nat} (h : w.ownsRow base e 1 v n (wv L)) (hn : 0 < n) :
    ∃ g cap R, v = .slice (some ⟨g, 0, none⟩) n cap ∧ base ≤ g ∧ Blk w g e (wv L ++ R) ∧ n ≤ cap ∧ cap ≤ 9223372036854775807 ∧ L.length = n := by
  obtain ⟨hl, h⟩ := h
  rw [wv_length, Nat.mul_one] at hl
  rcases h with ⟨rfl, rfl⟩ | ⟨g, cap, cur, rfl, hg, hb, hnc, hcm, hcs, htk⟩
  · omega
  · refine ⟨g, cap, cur.toList.drop (n * 1), rfl, hg, ?_, hnc, by unfold maxLen at hcm; exact hcm, hl⟩
    unfold Blk
    rw [← htk, List.take_append_drop]
    simpa using hb
theorem owns_zero {w : World} {base e : Nat} {v : Value} {xs : List Value} (h : w.ownsRow base e 1 v 0 xs) : ∃ a c, v = .slice a 0 c ∧ c ≤ 9223372036854775807 := by
  rcases h.2 with ⟨rfl, _⟩ | ⟨g, cap, cur, rfl, hg, hb, hnc, hcm, _⟩
  · exact ⟨_, _, rfl, by omega⟩
  · exact ⟨_, _, rfl, by unfold maxLen at hcm; exact hcm⟩
theorem Words.zero (w : World) (a : Option Addr) : Words w a 0 [] := ⟨rfl, fun h => by omega, fun j x h => by simp at h, fun x h => by simp at h⟩
theorem Ext.grownB {w0 w w' : World} {b : Nat} (h : Ext w0 w) (k : w.grownBy w' (some b)) (hb : w0.heap.size ≤ b) : Ext w0 w' := Ext.grown h k (by intro b' he; cases he; exact hb)
theorem Words.extB {w0 w w' : World} {a : Option Addr} {n : Nat} {L : List Nat} (h : Words w0 a n L) (k : Ext w0 w) : Words w a n L := h.ext k
end Go.Tw
/-
  Contracts of the layer limbs, first part: words added, subtracted; trimmed, copied, compared. Helpers; no statement of the program is proved here.
-/
set_option maxRecDepth 100000
set_option linter.unusedSimpArgs false
set_option linter.unusedVariables false
namespace Go.Proofs.Ytlfdobjdlgebbaa
open Go Go.Tw Go.RowKit
attribute [local irreducible] LoadAt StoreOk Stored rawVC

/-! ### math/bits -/
def addEntry : Array Value → Sem Value := fun args => do
  let (x, y, c) ← Extern.MathBitsCarry.three "Add64" args
  pure (Extern.MathBitsCarry.pair ((x + y + c) % Extern.MathBitsCarry.m64) ((x + y + c) / Extern.MathBitsCarry.m64))
def subEntry : Array Value → Sem Value := fun args => do
  let (x, y, b) ← Extern.MathBitsCarry.three "Sub64" args
  pure (Extern.MathBitsCarry.pair ((x + Extern.MathBitsCarry.m64 - y - b) % Extern.MathBitsCarry.m64) (if x < y + b then 1 else 0))
theorem add64 (x y c : Nat) (hc : c ≤ 1) (w : World) :
    CallS Try.prog 138 #[.int .u64 (x : Int), .int .u64 (y : Int), .int .u64 (c : Int)] w fun v w' => w' = w ∧ v = .tuple #[.int .u64 (((x + y + c) % 18446744073709551616 : Nat) : Int), .int .u64 (((x + y + c) / 18446744073709551616 : Nat) : Int)] := by
  refine CallS.of ?_
  rw [run_callFunc_extern (P := Try.prog) (fn := Try.f138) (e := addEntry) rfl (by kernel_rfl) (by kernel_rfl) (by kernel_rfl) (by kernel_rfl)]
  have : c = 0 ∨ c = 1 := by omega
  rcases this with rfl | rfl <;> exact ⟨rfl, rfl⟩
theorem sub64 (x y b : Nat) (hb : b ≤ 1) (w : World) :
    CallS Try.prog 139 #[.int .u64 (x : Int), .int .u64 (y : Int), .int .u64 (b : Int)] w fun v w' => w' = w ∧ v = .tuple #[.int .u64 (((x + 18446744073709551616 - y - b) % 18446744073709551616 : Nat) : Int), .int .u64 ((if x < y + b then 1 else 0 : Nat) : Int)] := by
  refine CallS.of ?_
  rw [run_callFunc_extern (P := Try.prog) (fn := Try.f139) (e := subEntry) rfl (by kernel_rfl) (by kernel_rfl) (by kernel_rfl) (by kernel_rfl)]
  have : b = 0 ∨ b = 1 := by omega
  rcases this with rfl | rfl <;> exact ⟨rfl, rfl⟩

/-! ### trimmed, Clone, Trim -/
theorem trimmed_ok {w : World} {a : Option Addr} {n c : Nat} {L : List Nat} (h : Words w a n L) (hc : n ≤ c) (hm : c ≤ 9223372036854775807) :
    CallS Try.prog 129 #[.slice a n c] w fun v w' => w' = w ∧ v = .slice a (dig (val L)).length c := by
  have hn : trimN L n = (dig (val L)).length := by rw [← h.len]; exact trimN_dig L h.lt
  refine enter ttOk mixed (args := [.slice a n c]) Try.func129 rfl (by kernel_rfl) (by kernel_rfl) rfl ?_
  refine ⟨Nat, fun k => [(0, .slice a k c)], fun k w' => w' = w ∧ k ≤ n ∧ trimN L n = trimN L k, fun k _ => k, ⟨n, ⟨rfl, trivial⟩, rfl, Nat.le_refl _, rfl⟩, ?_⟩
  rintro k w' ⟨rfl, hk, he⟩
  refine And.intro (fun h1 => ?_) (fun h1 => ?_)
  · obtain ⟨k, rfl⟩ : ∃ k', k = k' + 1 := ⟨k - 1, by omega⟩
    refine ⟨k, by omega, k, ⟨rfl, by omega, h.base (by omega)⟩, _, h.load rfl rfl (h.getD (by omega)), fun h2 => ?_, fun h2 => ?_⟩
    · refine ⟨k, by omega, 0, k, ⟨rfl, rfl, by omega, by omega⟩, k, ⟨?_, trivial⟩, ⟨rfl, by omega, ?_⟩, Nat.lt_succ_self k⟩
      · show some _ = some _
        simp [subA_zero]
      · rw [he, trimN, if_pos (by omega)]
    · refine ⟨rfl, ?_⟩
      show Value.slice _ _ _ = _
      rw [← hn, he, trimN, if_neg (by omega)]
  · obtain rfl : k = 0 := by omega
    exact ⟨rfl, by rw [← hn, he]; rfl⟩

/-- What slices.Clone and Trim hand back is the call's own. -/
theorem clone_own {w : World} {a : Option Addr} {n c : Nat} {L : List Nat} (h : Words w a n L) (hn : n ≤ 4398046511104) :
    CallS Try.prog 141 #[.slice a n c] w fun v w' => Ext w w' ∧ w'.ownsRow w.heap.size 88 1 v n (wv L) := by
  refine enter ttOk mixed (args := [.slice a n c]) Try.func141 rfl (by kernel_rfl) (by kernel_rfl) rfl ?_
  refine And.intro (fun h1 => ?_) (fun h1 => ?_)
  · have : n = 0 := by
      rcases Nat.eq_zero_or_pos n with h0 | h0
      · exact h0
      · obtain ⟨p, hp, _⟩ := h.base h0; rw [h1] at hp; cases hp
    subst this
    have : L = [] := List.eq_nil_of_length_eq_zero h.len
    subst this
    exact ⟨Ext.rfl w, rfl, .inl ⟨rfl, rfl⟩⟩
  · intro b w1 hb
    have hown := owns_new hb (Nat.le_refl b) 0 1 rfl (by omega)
    refine ⟨rfl, b, 0, [], wv L, ⟨hown, ?_, (h.ext hb.ext).news, wv_one L, h.base, ?_, ?_, ?_⟩, ?_⟩
    · rw [wv_length, h.len]; exact (Nat.mul_one n).symm
    · omega
    · show (0 + n) * 8 ≤ _; omega
    · rw [hb.size, hb.isNew]; omega
    · intro v w2 ho hg _
      refine ⟨Ext.grown hb.ext hg ?_, ?_⟩
      · intro b' hb'
        simp only [Value.ownBlock, Option.some.injEq] at hb'
        rw [← hb', hb.isNew]; exact Nat.le_refl _
      · have := hb.isNew
        rw [← this]
        have ho' : w2.ownsRow b 88 1 v (0 + n) ([] ++ wv L) := ho
        rw [Nat.zero_add, List.nil_append] at ho'
        exact ho'
theorem clone_ok {w : World} {a : Option Addr} {n c : Nat} {L : List Nat} (h : Words w a n L) (hn : n ≤ 4398046511104) :
    CallS Try.prog 141 #[.slice a n c] w fun v w' => Ext w w' ∧ Sl w' v L :=
  CallS.mono (clone_own h hn) fun _ _ ⟨hx, ho⟩ => ⟨hx, owns_sl ho h.lt⟩

theorem Trim_own {w : World} {a : Option Addr} {n c : Nat} {L : List Nat} (h : Words w a n L) (hc : n ≤ c) (hm : c ≤ 9223372036854775807) (hn : n ≤ 4398046511104) :
    CallS Try.prog 118 #[.slice a n c] w fun v w' => Ext w w' ∧ w'.ownsRow w.heap.size 88 1 v (dig (val L)).length (wv (dig (val L))) := by
  refine enter ttOk mixed (args := [.slice a n c]) Try.func118 rfl (by kernel_rfl) (by kernel_rfl) rfl ?_
  refine CallS.mono (trimmed_ok h hc hm) ?_
  rintro _ _ ⟨rfl, rfl⟩
  have hle := h.trim_le
  exact CallS.mono (clone_own h.trim (by omega)) fun v w' h => h
theorem Trim_ok {w : World} {a : Option Addr} {n c : Nat} {L : List Nat} (h : Words w a n L) (hc : n ≤ c) (hm : c ≤ 9223372036854775807) (hn : n ≤ 4398046511104) :
    CallS Try.prog 118 #[.slice a n c] w fun v w' => Ext w w' ∧ Sl w' v (dig (val L)) :=
  CallS.mono (Trim_own h hc hm hn) fun _ _ ⟨hx, ho⟩ => ⟨hx, owns_sl ho (dig_wd _)⟩
end Go.Proofs.Ytlfdobjdlgebbaa
/-
  Contracts of the layer limbs, second part: compared. Helpers; no statement of the program is proved here.
-/
set_option maxRecDepth 100000
set_option linter.unusedSimpArgs false
set_option linter.unusedVariables false
namespace Go.Proofs.Ytlfdobjdlgebbaa
open Go Go.Tw Go.RowKit
attribute [local irreducible] LoadAt StoreOk Stored rawVC

theorem Cmp_ok {w : World} {a a' : Option Addr} {n c n' c' : Nat} {L L' : List Nat} (h : Words w a n L) (hc : n ≤ c) (hm : c ≤ 9223372036854775807) (h' : Words w a' n' L') (hc' : n' ≤ c') (hm' : c' ≤ 9223372036854775807) :
    CallS Try.prog 113 #[.slice a n c, .slice a' n' c'] w fun v w' => Ext w w' ∧ v = .int .i64 (cmpN (val L) (val L')) := by
  refine enter ttOk mixed (args := [.slice a n c, .slice a' n' c']) Try.func113 rfl (by kernel_rfl) (by kernel_rfl) rfl ?_
  refine CallS.mono (trimmed_ok h hc hm) ?_
  rintro _ _ ⟨rfl, rfl⟩
  refine CallS.mono (trimmed_ok h' hc' hm') ?_
  rintro _ w ⟨rfl, rfl⟩
  have hL := h.trim
  have hM := h'.trim
  have hLe := h.trim_le
  have hMe := h'.trim_le
  generalize hx : val L = x at *
  generalize hy : val L' = y at *
  refine And.intro (fun h1 => ?_) (fun h1 => ?_)
  · refine And.intro (fun h2 => ?_) (fun h2 => ?_)
    · have := lt_of_dig_len (m := x) (n := y) (by omega)
      exact ⟨Ext.rfl w, by rw [cmpN, if_pos this]; rfl⟩
    · have := lt_of_dig_len (m := y) (n := x) (by omega)
      exact ⟨Ext.rfl w, by rw [cmpN, if_neg (by omega), if_pos this]; rfl⟩
  · have hlen : (dig x).length = (dig y).length := by omega
    refine ⟨((dig x).length : Int) - 1, by omega, ?_⟩
    refine ⟨Nat, fun k => [(0, .slice a (dig x).length c), (1, .slice a' (dig y).length c'), (5, .int .i64 ((k : Int) - 1))], fun k w' => Ext w w' ∧ k ≤ (dig x).length ∧ ∀ j, k ≤ j → j < (dig x).length → (dig x).getD j 0 = (dig y).getD j 0, fun k _ => k,
      ⟨(dig x).length, ⟨rfl, rfl, rfl, trivial⟩, Ext.rfl w, Nat.le_refl _, fun j h1 h2 => by omega⟩, ?_⟩
    rintro k w1 ⟨hx1, hk, he⟩
    refine And.intro (fun h2 => ?_) (fun h2 => ?_)
    · obtain ⟨k, rfl⟩ : ∃ k', k = k' + 1 := ⟨k - 1, by omega⟩
      have hL1 := hL.ext hx1
      have hM1 := hM.ext hx1
      refine ⟨sq 10, by kernel_rfl, k, ⟨by omega, by omega, hL.base (by omega)⟩, _, hL1.load rfl rfl (hL.getD (by omega)), k, ⟨by omega, by omega, hM.base (by omega)⟩, _, hM1.load rfl rfl (hM.getD (by omega)), fun h3 => ?_, fun h3 => ?_⟩
      · intro w2 hx2 _
        have := val_lt_of_top (k := k) hL.lt hlen (by omega) (fun j h1 h2 => he j (by omega) h2) (by omega)
        rw [val_dig, val_dig] at this
        exact ⟨Ext.trans' hx1 hx2, by rw [cmpN, if_pos this]; rfl⟩
      · intro w2 hx2 _
        have hL2 := hL1.ext hx2
        have hM2 := hM1.ext hx2
        refine ⟨sq 10, by kernel_rfl, k, ⟨by omega, by omega, hL.base (by omega)⟩, _, hL2.load rfl rfl (hL.getD (by omega)), k, ⟨by omega, by omega, hM.base (by omega)⟩, _, hM2.load rfl rfl (hM.getD (by omega)), fun h4 => ?_, fun h4 => ?_⟩
        · intro w3 hx3 _
          have := val_lt_of_top (k := k) hM.lt hlen.symm (by omega) (fun j h1 h2 => (he j (by omega) (by omega)).symm) (by omega)
          rw [val_dig, val_dig] at this
          exact ⟨Ext.trans' (Ext.trans' hx1 hx2) hx3, by rw [cmpN, if_neg (by omega), if_pos this]; rfl⟩
        · intro w3 hx3 _
          refine ⟨(k : Int) - 1, by omega, k, ⟨rfl, rfl, rfl, trivial⟩, ⟨Ext.trans' (Ext.trans' hx1 hx2) hx3, by omega, ?_⟩, Nat.lt_succ_self k⟩
          intro j h5 h6
          by_cases hj : j = k
          · subst hj; omega
          · exact he j (by omega) h6
    · have : x = y := by
        apply dig_inj
        have := drop_eq_of (k := 0) hlen (fun j _ h6 => he j (by omega) h6)
        simpa using this
      subst this
      exact ⟨hx1, by rw [cmpN, if_neg (by omega), if_neg (by omega)]; rfl⟩
end Go.Proofs.Ytlfdobjdlgebbaa
/-
  Contracts of the layer limbs, third part: sums. Helpers; no statement of the program is proved here.
-/
set_option maxRecDepth 100000
set_option linter.unusedSimpArgs false
set_option linter.unusedVariables false
namespace Go.Proofs.Ytlfdobjdlgebbaa
open Go Go.Tw Go.RowKit
attribute [local irreducible] LoadAt StoreOk Stored rawVC

theorem digit_ok {w : World} {a : Option Addr} {n c : Nat} {L : List Nat} (h : Words w a n L) (i : Nat) :
    CallS Try.prog 137 #[.slice a n c, .int .i64 (i : Int)] w fun v w' => w' = w ∧ v = .int .u64 ((L.getD i 0 : Nat) : Int) := by
  refine enter ttOk mixed (args := [.slice a n c, .int .i64 (i : Int)]) Try.func137 rfl (by kernel_rfl) (by kernel_rfl) rfl ?_
  have hl := h.len
  refine And.intro (fun h1 => ?_) (fun h1 => ?_)
  · exact ⟨i, ⟨rfl, by omega, h.base (by omega)⟩, _, h.load rfl rfl (h.getD (by omega)), rfl, rfl⟩
  · refine ⟨rfl, ?_⟩
    rw [List.getD_eq_getElem?_getD, List.getElem?_eq_none (by omega)]; rfl

theorem Add_ok {w : World} {a a' : Option Addr} {n c n' c' : Nat} {L L' : List Nat} (h : Words w a n L) (h' : Words w a' n' L') (hn : n ≤ 1099511627776) (hn' : n' ≤ 1099511627776) :
    CallS Try.prog 112 #[.slice a n c, .slice a' n' c'] w fun v w' => Ext w w' ∧ Sl w' v (dig (val L + val L')) := by
  obtain ⟨N, hN, hN1, hN2, hN3⟩ : ∃ N : Nat, (N : Int) = (if (n' : Int) > n then (n' : Int) else n) ∧ n ≤ N ∧ n' ≤ N ∧ N ≤ 1099511627776 := by
    by_cases hh : (n' : Int) > n
    · exact ⟨n', by rw [if_pos hh], by omega, by omega, by omega⟩
    · exact ⟨n, by rw [if_neg hh], by omega, by omega, by omega⟩
  have hl := h.len
  have hl' := h'.len
  refine enter ttOk mixed (args := [.slice a n c, .slice a' n' c']) Try.func112 rfl (by kernel_rfl) (by kernel_rfl) rfl ?_
  refine ⟨N, hN, ((N + 1 : Nat) : Int), by omega, N, N + 1, ⟨rfl, rfl, by omega, by show (N + 1) * 8 ≤ _; omega, by omega⟩, ?_⟩
  intro b w1 hb
  have hb1 : Blk w1 b 88 (wv (List.replicate (N + 1) 0)) := by rw [← rep_zero]; exact hb.toBlk
  have hge := hb.ge (Ext.rfl w)
  refine ⟨Nat × List Nat × Nat, fun x => [(0, .slice a n c), (1, .slice a' n' c'), (6, .func (.func 137) #[] #[]), (7, .slice (some ⟨b, 0, none⟩) N (N + 1)), (8, .int .u64 (x.2.2 : Int)), (19, .int .i64 (N : Int)), (20, .int .i64 (x.1 : Int))],
    fun x w' => Ext w w' ∧ Blk w' b 88 (wv x.2.1) ∧ x.2.1.length = N + 1 ∧ WdL x.2.1 ∧ x.1 ≤ N ∧ x.2.2 ≤ 1 ∧ val (x.2.1.take x.1) + 18446744073709551616 ^ x.1 * x.2.2 = val (L.take x.1) + val (L'.take x.1), fun x _ => N - x.1,
    ⟨(0, List.replicate (N + 1) 0, 0), ⟨rfl, rfl, rfl, rfl, rfl, rfl, rfl, trivial⟩, hb.ext, hb1, by simp, wd_replicate _, Nat.zero_le _, by show 0 ≤ 1; omega, by simp [val]⟩, ?_⟩
  rintro ⟨i, A, cy⟩ w2 ⟨hx2, hB, hA, hWd, hi, hcy, hv⟩
  dsimp only at *
  refine And.intro (fun h1 => ?_) (fun h1 => ?_)
  · refine CallS.mono (digit_ok (h.ext hx2) i) ?_
    rintro _ _ ⟨rfl, rfl⟩
    refine CallS.mono (digit_ok (h'.ext hx2) i) ?_
    rintro _ _ ⟨rfl, rfl⟩
    refine CallS.mono (add64 _ _ cy hcy _) ?_
    rintro _ w2 ⟨rfl, rfl⟩
    refine ⟨i, ⟨rfl, by omega, ⟨_, rfl, rfl⟩⟩, storeWord rfl rfl hB (by omega), ?_⟩
    intro w3 hs
    obtain ⟨hB3, hg3, _⟩ := storedWord hs rfl hB
    have hd1 := getD_lt_wd h.lt i
    have hd2 := getD_lt_wd h'.lt i
    refine ⟨((i + 1 : Nat) : Int), by omega, (i + 1, A.set i ((L.getD i 0 + L'.getD i 0 + cy) % 18446744073709551616), (L.getD i 0 + L'.getD i 0 + cy) / 18446744073709551616), ⟨rfl, rfl, rfl, rfl, rfl, rfl, rfl, trivial⟩,
      ⟨Ext.grownB hx2 hg3 hge, hB3, by simpa using hA, wd_set hWd (by omega), by show i + 1 ≤ N; omega, by show _ / _ ≤ 1; omega, ?_⟩, ?_⟩
    · show val ((A.set i _).take (i + 1)) + _ = _
      rw [val_set_next A i _ (by omega), val_take_next, val_take_next, Nat.pow_succ]
      exact add_step hv
    · show N - (i + 1) < N - i; omega
  · obtain rfl : i = N := by omega
    intro b2 w3 hb2
    have hb2 : New w2 w3 b2 88 (wv [cy]) := hb2
    have hx3 := hb2.extFrom hx2
    have hB3 := hB.ext hb2.ext
    have hown := owns_take (base := b) (n := i) (c := i + 1) (sz := 1) hB3 (Nat.le_refl b) (by rw [wv_length, hA]; omega) (by omega) (by omega)
    have e1 : (wv A).take (i * 1) = wv (A.take i) := by rw [Nat.mul_one, wv, wv, List.map_take]
    rw [e1] at hown
    refine ⟨rfl, b, i, wv (A.take i), wv [cy], ⟨hown, rfl, ?_, wv_one _, fun _ => ⟨_, rfl, rfl⟩, by omega, by show (i + 1) * 8 ≤ _; omega, Nat.le_of_lt hB3.lt⟩, ?_⟩
    · intro j v hj
      have := hb2.toBlk.cell (i := 0 + j) (v := v) (by simpa [wv] using hj)
      exact this
    · intro v w4 ho hg _
      have hx4 : Ext w w4 := Ext.grown hx3 hg (by intro b' hb'; simp only [Value.ownBlock, Option.some.injEq] at hb'; omega)
      have hwd : WdL (A.take i ++ [cy]) := by
        intro y hy
        rcases List.mem_append.1 hy with hy | hy
        · exact hWd y (List.mem_of_mem_take hy)
        · simp at hy; subst hy; omega
      rw [← wv_append] at ho
      obtain ⟨a4, n4, c4, rfl, hw4, hnc4, hc4⟩ := owns_sl ho hwd
      refine CallS.mono (trimmed_ok hw4 hnc4 hc4) ?_
      rintro _ w5 ⟨rfl, rfl⟩
      have hval : val (A.take i ++ [cy]) = val L + val L' := by
        rw [val_append, List.length_take, Nat.min_eq_left (by omega)]
        rw [val_take_all L _ (by omega), val_take_all L' _ (by omega)] at hv
        simpa [val] using hv
      have ht := hw4.trim
      have htl := hw4.trim_le
      rw [hval] at ht htl ⊢
      exact ⟨hx4, _, _, _, rfl, ht, by omega, hc4⟩
end Go.Proofs.Ytlfdobjdlgebbaa
/-
  Contracts of the layer limbs, fourth part: differences. Helpers; no statement of the program is proved here.
-/
set_option maxRecDepth 100000
set_option linter.unusedSimpArgs false
set_option linter.unusedVariables false
namespace Go.Proofs.Ytlfdobjdlgebbaa
open Go Go.Tw Go.RowKit
attribute [local irreducible] LoadAt StoreOk Stored rawVC

theorem Sub_ok {w : World} {a a' : Option Addr} {n c n' c' : Nat} {L L' : List Nat} (h : Words w a n L) (hc : n ≤ c) (hm : c ≤ 9223372036854775807) (h' : Words w a' n' L') (hc' : n' ≤ c') (hm' : c' ≤ 9223372036854775807) (hn : n ≤ 4398046511104) :
    CallS Try.prog 114 #[.slice a n c, .slice a' n' c'] w fun v w' => Ext w w' ∧ Sl w' v (dig (val L - val L')) := by
  have hl := h.len
  have hl' := h'.len
  refine enter ttOk mixed (args := [.slice a n c, .slice a' n' c']) Try.func114 rfl (by kernel_rfl) (by kernel_rfl) rfl ?_
  refine CallS.mono (Cmp_ok h hc hm h' hc' hm') ?_
  rintro _ w1 ⟨hx1, rfl⟩
  have hcm : cmpN (val L) (val L') < 0 ↔ val L < val L' := by
    unfold cmpN; split <;> (try split) <;> omega
  refine And.intro (fun h1 => ?_) (fun h1 => ?_)
  · refine ⟨hx1, ?_⟩
    have h2 := hcm.1 h1
    rw [show val L - val L' = 0 by omega]
    exact Sl.nil _
  · have hle : val L' ≤ val L := by
      have : ¬ val L < val L' := fun hh => h1 (hcm.2 hh)
      omega
    refine CallS.mono (Trim_own (h.ext hx1) hc hm hn) ?_
    rintro v w2 ⟨hx2, hown⟩
    have hx02 := Ext.trans' hx1 hx2
    have htl := h.trim_le
    generalize hX : val L = X at *
    have hsl := owns_sl hown (dig_wd X)
    obtain ⟨a2, n2, c2, rfl, hw2, hnc2, hc2⟩ := hsl
    have hn2 : n2 = (dig X).length := hw2.len.symm
    subst hn2
    have hdl := dig_lt X
    generalize hN : (dig X).length = N at *
    by_cases h0 : N = 0
    · subst h0
      have hX0 : X = 0 := dig_nil.1 (List.eq_nil_of_length_eq_zero hN)
      refine ⟨Unit, fun _ => [(0, .slice a n c), (1, .slice a' n' c'), (5, .slice a2 0 c2), (6, .int .u64 0), (16, .int .i64 0), (17, .int .i64 0)], fun _ w' => Ext w w', fun _ _ => 0, ⟨(), ⟨rfl, rfl, rfl, rfl, rfl, rfl, trivial⟩, hx02⟩, ?_⟩
      rintro _ w3 hx3
      refine And.intro (fun h1 => ?_) (fun h1 => ?_)
      · exact absurd h1 (by omega)
      · refine CallS.mono (trimmed_ok (Words.zero w3 a2) (Nat.zero_le c2) hc2) ?_
        rintro _ w4 ⟨rfl, rfl⟩
        refine ⟨hx3, a2, 0, c2, rfl, ?_, Nat.zero_le _, hc2⟩
        rw [hX0, Nat.zero_sub]; exact Words.zero _ _
    · obtain ⟨g, cap, R, hv, hg, hB, hncap, hcap, _⟩ := owns_blk hown (by omega)
      simp only [Value.slice.injEq] at hv
      obtain ⟨rfl, _, rfl⟩ := hv
      have hgw : w.heap.size ≤ g := Nat.le_trans hx1.size hg
      refine ⟨Nat × List Nat × Nat, fun x => [(0, .slice a n c), (1, .slice a' n' c'), (5, .slice (some ⟨g, 0, none⟩) N c2), (6, .int .u64 (x.2.2 : Int)), (16, .int .i64 (N : Int)), (17, .int .i64 (x.1 : Int))],
        fun x w' => Ext w w' ∧ Blk w' g 88 (wv x.2.1 ++ R) ∧ x.2.1.length = N ∧ WdL x.2.1 ∧ x.1 ≤ N ∧ x.2.2 ≤ 1 ∧ (∀ j, x.1 ≤ j → x.2.1.getD j 0 = (dig X).getD j 0) ∧ val (x.2.1.take x.1) + val (L'.take x.1) = val ((dig X).take x.1) + 18446744073709551616 ^ x.1 * x.2.2, fun x _ => N - x.1,
        ⟨(0, dig X, 0), ⟨rfl, rfl, rfl, rfl, rfl, rfl, trivial⟩, hx02, hB, hN, dig_wd X, Nat.zero_le _, by show 0 ≤ 1; omega, fun j _ => rfl, by simp [val]⟩, ?_⟩
      rintro ⟨i, A, bw⟩ w3 ⟨hx3, hB3, hA, hWd, hi, hbw, hsame, hv⟩
      dsimp only at *
      refine And.intro (fun h1 => ?_) (fun h1 => ?_)
      · have hWA := Words.blkR hB3 hWd
        have hd1 := getD_lt_wd hWd i
        have hd2 := getD_lt_wd h'.lt i
        have hbr : (if A.getD i 0 < L'.getD i 0 + bw then 1 else 0 : Nat) ≤ 1 := by split <;> omega
        have hnext : ∀ w4, w3.grownBy w4 (some g) → Blk w4 g 88 (wv (A.set i ((A.getD i 0 + 18446744073709551616 - L'.getD i 0 - bw) % 18446744073709551616)) ++ R) →
            Ext w w4 ∧ Blk w4 g 88 (wv (A.set i ((A.getD i 0 + 18446744073709551616 - L'.getD i 0 - bw) % 18446744073709551616)) ++ R) ∧ (A.set i ((A.getD i 0 + 18446744073709551616 - L'.getD i 0 - bw) % 18446744073709551616)).length = N ∧ WdL (A.set i ((A.getD i 0 + 18446744073709551616 - L'.getD i 0 - bw) % 18446744073709551616)) ∧ i + 1 ≤ N ∧ (if A.getD i 0 < L'.getD i 0 + bw then 1 else 0 : Nat) ≤ 1 ∧
            (∀ j, i + 1 ≤ j → (A.set i ((A.getD i 0 + 18446744073709551616 - L'.getD i 0 - bw) % 18446744073709551616)).getD j 0 = (dig X).getD j 0) ∧
            val ((A.set i ((A.getD i 0 + 18446744073709551616 - L'.getD i 0 - bw) % 18446744073709551616)).take (i + 1)) + val (L'.take (i + 1)) = val ((dig X).take (i + 1)) + 18446744073709551616 ^ (i + 1) * (if A.getD i 0 < L'.getD i 0 + bw then 1 else 0 : Nat) := by
          intro w4 hg4 hB4
          refine ⟨Ext.grownB hx3 hg4 hgw, hB4, by simpa using hA, wd_set hWd (by omega), by omega, hbr, ?_, ?_⟩
          · intro j hj
            rw [lgetD_ne (by omega)]; exact hsame j (by omega)
          · rw [val_set_next A i _ (by omega), val_take_next L', val_take_next (dig X), Nat.pow_succ, ← hsame i (Nat.le_refl i)]
            exact sub_step hd1 hd2 hbw hv
        refine And.intro (fun h2 => ?_) (fun h2 => ?_)
        · refine ⟨i, ⟨rfl, by omega, h'.base (by omega)⟩, _, (h'.ext hx3).load rfl rfl (h'.getD (by omega)), i, ⟨rfl, by omega, ⟨_, rfl, rfl⟩⟩, _, hWA.load rfl rfl (hWA.getD (by omega)), ?_⟩
          refine CallS.mono (sub64 (A.getD i 0) (L'.getD i 0) bw hbw w3) ?_
          rintro _ _ ⟨rfl, rfl⟩
          refine ⟨i, ⟨rfl, by omega, ⟨_, rfl, rfl⟩⟩, storeWordR rfl rfl hB3 (by omega), ?_⟩
          intro w4 hs
          obtain ⟨hB4, hg4, _⟩ := storedWordR hs rfl hB3 (by omega)
          refine ⟨((i + 1 : Nat) : Int), by omega, (i + 1, _, _), ⟨rfl, rfl, rfl, rfl, rfl, rfl, trivial⟩, hnext w4 hg4 hB4, ?_⟩
          show N - (i + 1) < N - i; omega
        · have hz : L'.getD i 0 = 0 := by rw [List.getD_eq_getElem?_getD, List.getElem?_eq_none (by omega)]; rfl
          refine ⟨i, ⟨rfl, by omega, ⟨_, rfl, rfl⟩⟩, _, hWA.load rfl rfl (hWA.getD (by omega)), ?_⟩
          refine CallS.mono (sub64 (A.getD i 0) 0 bw hbw w3) ?_
          rintro _ _ ⟨rfl, rfl⟩
          refine ⟨i, ⟨rfl, by omega, ⟨_, rfl, rfl⟩⟩, storeWordR rfl rfl hB3 (by omega), ?_⟩
          intro w4 hs
          obtain ⟨hB4, hg4, _⟩ := storedWordR hs rfl hB3 (by omega)
          rw [hz] at hnext
          refine ⟨((i + 1 : Nat) : Int), by omega, (i + 1, _, _), ⟨rfl, rfl, rfl, rfl, rfl, rfl, trivial⟩, hnext w4 hg4 hB4, ?_⟩
          show N - (i + 1) < N - i; omega
      · obtain rfl : i = N := by omega
        have hWA := Words.blkR hB3 hWd
        rw [hA] at hWA
        refine CallS.mono (trimmed_ok hWA hncap hcap) ?_
        rintro _ w4 ⟨rfl, rfl⟩
        have hval : val A = X - val L' := by
          rw [val_take_all A _ (by omega), val_take_all (dig X) _ (by omega), val_dig] at hv
          have h3 := val_lt A hWd
          rw [hA] at h3
          by_cases hln : i ≤ L'.length
          · have h4 := val_split L' i hln
            generalize 18446744073709551616 ^ i = p at *
            have h5 : val (L'.drop i) = 0 := by
              rcases Nat.eq_zero_or_pos (val (L'.drop i)) with h | h
              · exact h
              · have : p * 1 ≤ p * val (L'.drop i) := Nat.mul_le_mul_left _ h
                omega
            rw [h5, Nat.mul_zero] at h4
            have : bw = 0 ∨ bw = 1 := by omega
            rcases this with rfl | rfl
            · omega
            · omega
          · rw [val_take_all L' _ (by omega)] at hv
            generalize 18446744073709551616 ^ i = p at *
            have : bw = 0 ∨ bw = 1 := by omega
            rcases this with rfl | rfl
            · omega
            · omega
        have ht := hWA.trim
        have htl := hWA.trim_le
        rw [hval] at ht htl ⊢
        exact ⟨hx3, _, _, _, rfl, ht, by omega, hcap⟩
end Go.Proofs.Ytlfdobjdlgebbaa
/-
  Operations that the calculus takes as the model runs them: a byte of a string. And bits of words. Helpers; no statement of the program is proved here.
-/
set_option linter.unusedSimpArgs false
set_option linter.unusedVariables false
namespace Go.Tw
open Go Go.RowKit

theorem raw_index {P : Program} {T : TT} (hT : TOk P T) {o : Oper} {e : Env} {w : World} {K : Value → World → Prop} {t : Nat} {x i : Operand} (ho : o.op = .index t x i) (ht : (tyAt T t).d = .str) {s : ByteArray} {k : IntKind} {j : Int} {b : UInt8}
    (hx : ev e x = some (.string s)) (hi : ev e i = some (.int k j)) (h0 : 0 ≤ j) (hb : s[j.toNat]? = some b) (h : K (.int .u8 (b.toNat : Int)) w) : rawVC P o e w K := by
  intro r hr
  obtain ⟨dst, op, type, pos, after, guard⟩ := o
  simp only at ho
  subst ho
  simp only [execOp, hr x _ hx, hr i _ hi, Instr.index, Sem.run_bind, asIntOf, Sem.run_pure, Result.andThen, run_underlying (hT.str ht), h0, if_true, hb]
  exact h

/-- k bits hold x, and no fewer. -/
def Bl (x k : Nat) : Prop := x < 2 ^ k ∧ (x = 0 → k = 0) ∧ (x ≠ 0 → 1 ≤ k ∧ 2 ^ (k - 1) ≤ x)
theorem Bl.shift {x j k : Nat} (h : Bl (x / 2 ^ j) k) (hx : 2 ^ j ≤ x) : Bl x (j + k) := by
  obtain ⟨h1, h2, h3⟩ := h
  have hp : 0 < 2 ^ j := Nat.two_pow_pos j
  have hne : x / 2 ^ j ≠ 0 := by
    have := Nat.div_le_div_right (c := 2 ^ j) hx
    rw [Nat.div_self hp] at this; omega
  obtain ⟨h4, h5⟩ := h3 hne
  refine ⟨?_, fun h => by omega, fun _ => ⟨by omega, ?_⟩⟩
  · rw [Nat.pow_add]
    rw [Nat.div_lt_iff_lt_mul hp, Nat.mul_comm] at h1
    exact h1
  · rw [show j + k - 1 = j + (k - 1) from by omega, Nat.pow_add]
    rw [Nat.le_div_iff_mul_le hp, Nat.mul_comm] at h5
    exact h5

/-! bits of words -/
theorem wrap_u64 (n : Nat) (h : n < 18446744073709551616) : IntKind.u64.wrap (n : Int) = (n : Int) := by
  simp [IntKind.wrap, IntKind.signed, IntKind.bits]; omega
theorem ofInt_nat (n : Nat) : BitVec.ofInt 64 (n : Int) = BitVec.ofNat 64 n := by simp
theorem andZ (x y : Nat) (hx : x < 18446744073709551616) (hy : y < 18446744073709551616) : bitZ .and .u64 (x : Int) (y : Int) = ((x &&& y : Nat) : Int) := by
  have h1 : (BitVec.ofInt IntKind.u64.bits (x : Int) &&& BitVec.ofInt IntKind.u64.bits (y : Int)).toNat = x &&& y := by
    show (BitVec.ofInt 64 (x : Int) &&& BitVec.ofInt 64 (y : Int)).toNat = x &&& y
    rw [ofInt_nat, ofInt_nat, BitVec.toNat_and, BitVec.toNat_ofNat, BitVec.toNat_ofNat, Nat.mod_eq_of_lt (by omega), Nat.mod_eq_of_lt (by omega)]
  unfold bitZ
  simp only [h1]
  exact wrap_u64 _ (Nat.lt_of_le_of_lt Nat.and_le_left hx)
theorem orZ (x y : Nat) (hx : x < 18446744073709551616) (hy : y < 18446744073709551616) : bitZ .or .u64 (x : Int) (y : Int) = ((x ||| y : Nat) : Int) := by
  have h1 : (BitVec.ofInt IntKind.u64.bits (x : Int) ||| BitVec.ofInt IntKind.u64.bits (y : Int)).toNat = x ||| y := by
    show (BitVec.ofInt 64 (x : Int) ||| BitVec.ofInt 64 (y : Int)).toNat = x ||| y
    rw [ofInt_nat, ofInt_nat, BitVec.toNat_or, BitVec.toNat_ofNat, BitVec.toNat_ofNat, Nat.mod_eq_of_lt (by omega), Nat.mod_eq_of_lt (by omega)]
  unfold bitZ
  simp only [h1]
  exact wrap_u64 _ (Nat.or_lt_two_pow (n := 64) hx hy)
theorem mask32 (x : Nat) : x &&& 4294967295 = x % 4294967296 := Nat.and_two_pow_sub_one_eq_mod x 32
theorem andMask (x : Nat) (hx : x < 18446744073709551616) : bitZ .and .u64 (x : Int) 4294967295 = ((x % 4294967296 : Nat) : Int) := by
  rw [← mask32]
  exact andZ x 4294967295 hx (by omega)
theorem orAdd (x y k : Nat) (hy : y < 2 ^ k) : (x * 2 ^ k) ||| y = x * 2 ^ k + y := by
  rw [Nat.mul_comm]; exact (Nat.two_pow_add_eq_or_of_lt hy x).symm
theorem shrZn (x n : Nat) (h : n ≤ 64) : shrZ .u64 (x : Int) (n : Int) = ((x / 2 ^ n : Nat) : Int) := by
  unfold shrZ
  have h1 : min (n : Int).toNat IntKind.u64.bits = n := by
    rw [Int.toNat_natCast]; show min n 64 = n; omega
  rw [h1, Int.fdiv_eq_ediv_of_nonneg _ (by exact_mod_cast Nat.zero_le _)]
  rw [Int.natCast_ediv, Int.natCast_pow]; rfl
theorem shlZn (x n : Nat) (h : n ≤ 64) : shlZ .u64 (x : Int) (n : Int) = ((x * 2 ^ n % 18446744073709551616 : Nat) : Int) := by
  unfold shlZ
  have h1 : min (n : Int).toNat IntKind.u64.bits = n := by
    rw [Int.toNat_natCast]; show min n 64 = n; omega
  rw [h1]
  have h2 : ((x : Int) * 2 ^ n) = ((x * 2 ^ n : Nat) : Int) := by rw [Int.natCast_mul, Int.natCast_pow]; rfl
  rw [h2]
  simp [IntKind.wrap, IntKind.signed, IntKind.bits]
theorem mulZ (x y : Nat) (h : x * y < 18446744073709551616) : ((x * y : Nat) : Int) = ((x : Int) * (y : Int)) % 18446744073709551616 := by
  rw [← Int.natCast_mul]; omega
theorem addZ (x y : Nat) (h : x + y < 18446744073709551616) : ((x + y : Nat) : Int) = ((x : Int) + (y : Int)) % 18446744073709551616 := by omega
theorem mulZm (x y : Nat) : ((x * y % 18446744073709551616 : Nat) : Int) = ((x : Int) * (y : Int)) % 18446744073709551616 := by
  rw [← Int.natCast_mul]; omega
def blB (x k : Nat) : Bool := Nat.blt x (2 ^ k) && (!Nat.beq x 0 || Nat.beq k 0) && (Nat.beq x 0 || (Nat.ble 1 k && Nat.ble (2 ^ (k - 1)) x))
theorem blB_spec {x k : Nat} (h : blB x k = true) : Bl x k := by
  simp only [blB, Bool.and_eq_true, Bool.or_eq_true, Bool.not_eq_true'] at h
  obtain ⟨⟨h1, h2⟩, h3⟩ := h
  refine ⟨Nat.le_of_ble_eq_true h1, fun h0 => ?_, fun h0 => ?_⟩
  · rcases h2 with h2 | h2
    · rw [h0] at h2; cases h2
    · exact Nat.eq_of_beq_eq_true h2
  · rcases h3 with h3 | h3
    · exact absurd (Nat.eq_of_beq_eq_true h3) h0
    · exact ⟨Nat.le_of_ble_eq_true h3.1, Nat.le_of_ble_eq_true h3.2⟩
end Go.Tw
