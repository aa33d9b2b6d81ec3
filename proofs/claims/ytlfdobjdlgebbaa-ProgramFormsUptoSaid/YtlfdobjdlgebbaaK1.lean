/-
  A small calculus of conditions over the model's code, part A: frames as partial functions, types as a table, and what each operation that needs no memory comes to. No statement of the program is proved here; these are helpers.
-/
import Derived.Orders
import Derived.Below
import Derived.Laws.Entries
import Derived.Laws.Cells
import Derived.KernelRfl
import Derived.Laws.Small
import Derived.Laws.OwnMore
import Derived.Laws.MakeOwn
set_option linter.unusedSimpArgs false
set_option linter.unusedVariables false
namespace Go.Tw
open Go

/-! ### frames -/
abbrev Env := Nat → Option Value
def nilE : Env := fun _ => none
def put (d : Nat) (v : Value) (e : Env) : Env := fun t => bif Nat.beq t d then some v else e t
def putO (d : Option Nat) (v : Value) (e : Env) : Env :=
  match d with
  | some d => put d v e
  | none => e
def ev (e : Env) (x : Operand) : Option Value :=
  match x with
  | .tmp t => e t
  | .const v => some v
  | .global g => some (.pointer (some ⟨g, 0, none⟩))
  | .func f => some (.func (.func f) #[] #[])

/-- The frame agrees with what is known of it. -/
def Agrees (a : Act) (e : Env) : Prop := ∀ t v, e t = some v → a.tmps[t]? = some v
structure Fits (n : Nat) (a : Act) (e : Env) : Prop where
  size : a.tmps.size = n
  get : Agrees a e
  dfr : a.defers = []

theorem put_same (d : Nat) (v : Value) (e : Env) : put d v e d = some v := by simp [put]
theorem put_other {d t : Nat} (v : Value) (e : Env) (h : t ≠ d) : put d v e t = e t := by
  have : Nat.beq t d = false := by rw [Bool.eq_false_iff]; intro hb; exact h (Nat.eq_of_beq_eq_true hb)
  simp [put, this]

theorem put_comm {d d' : Nat} (v u : Value) (e : Env) (h : d ≠ d') : put d v (put d' u e) = put d' u (put d v e) := by
  funext t
  by_cases h1 : t = d
  · subst h1; rw [put_same, put_other _ _ h, put_same]
  · rw [put_other _ _ h1]
    by_cases h2 : t = d'
    · subst h2; rw [put_same, put_same]
    · rw [put_other _ _ h2, put_other _ _ h2, put_other _ _ h1]

theorem putO_comm {d d' : Option Nat} (v u : Value) (e : Env) (h : ∀ x, d = some x → d' ≠ some x) : putO d v (putO d' u e) = putO d' u (putO d v e) := by
  cases d with
  | none => rfl
  | some d =>
    cases d' with
    | none => rfl
    | some d' => exact put_comm v u e (fun he => h d rfl (he ▸ rfl))

theorem Agrees.eval {a : Act} {e : Env} (h : Agrees a e) {x : Operand} {v : Value} (hx : ev e x = some v) : a.eval x = v := by
  cases x with
  | tmp t => have := h t v hx; simp [Act.eval, this]
  | const c => simpa [ev, Act.eval] using hx
  | global g => simpa [ev, Act.eval] using hx
  | func f => simpa [ev, Act.eval] using hx

theorem Fits.put {n : Nat} {a : Act} {e : Env} (h : Fits n a e) {d : Option Nat} (hd : ∀ x, d = some x → x < n) (v : Value) : Fits n (a.put d v) (putO d v e) := by
  cases d with
  | none => exact h
  | some d =>
    refine ⟨by simp [Act.put, h.size], ?_, h.dfr⟩
    intro t u ht
    by_cases htd : t = d
    · subst htd
      have hlt : t < a.tmps.size := by rw [h.size]; exact hd t rfl
      simp [putO, put_same] at ht
      simp [Act.put, hlt, ht]
    · have hne : d ≠ t := fun e => htd e.symm
      simp only [putO, put_other _ _ htd] at ht
      simp only [Act.put, Array.getElem?_setIfInBounds_ne hne]
      exact h.get t u ht

theorem ev_putO {d : Option Nat} (v : Value) (e : Env) {x : Operand} (h : ∀ t, d = some t → x ≠ .tmp t) : ev (putO d v e) x = ev e x := by
  cases d with
  | none => rfl
  | some d =>
    cases x with
    | tmp t => exact put_other v e (fun he => h d rfl (he ▸ rfl))
    | _ => rfl

/-! ### types -/
inductive TyD where
  | other | bool | int (k : IntKind) | str | slice (e : Nat) | struct (fs : List (Nat × Nat)) | ptr (e : Nat) | map (k e : Nat) | func | iface | arr (n e : Nat)
structure Ty where
  d : TyD
  size : Nat
  bytes : Nat
  zero : List Value
instance : Inhabited Ty := ⟨⟨.other, 0, 0, []⟩⟩
abbrev TT := List Ty
def tyAt (T : TT) (t : Nat) : Ty := T.getD t default
def Ty.agg (y : Ty) : Bool :=
  match y.d with
  | .struct _ | .arr _ _ => true
  | _ => false

def tyDOf : TypeDesc → TyD
  | .bool => .bool
  | .int k => .int k
  | .string => .str
  | .slice e => .slice e
  | .struct fs => .struct (fs.toList.map fun f => (f.offset, f.type))
  | .pointer e => .ptr e
  | .map k e => .map k e
  | .func _ _ _ => .func
  | .interface _ => .iface
  | .array n e => .arr n e
  | _ => .other
/-- A type as the table has it, out of the program. -/
def tyOf (P : Program) (t : Nat) : Ty :=
  match P.info? t, P.underlying t with
  | some i, some d =>
    match i.zero with
    | some v => ⟨tyDOf d, i.size, i.bytes, v.cells.toList⟩
    | none => default
  | _, _ => default
def TOk (P : Program) (T : TT) : Prop := (List.range T.length).map (tyOf P) = T

theorem TOk.at {P : Program} {T : TT} (h : TOk P T) {t : Nat} (hd : (tyAt T t).d ≠ .other) :
    ∃ i d v, P.info? t = some i ∧ P.underlying t = some d ∧ i.zero = some v ∧ tyAt T t = ⟨tyDOf d, i.size, i.bytes, v.cells.toList⟩ := by
  by_cases ht : t < T.length
  · have h1 : tyAt T t = tyOf P t := by
      have h2 : T[t]? = some (tyOf P t) := by
        have : ((List.range T.length).map (tyOf P))[t]? = some (tyOf P t) := by simp [ht]
        rw [h] at this; exact this
      simp [tyAt, List.getD, h2]
    rw [h1] at hd ⊢
    unfold tyOf at hd ⊢
    cases hi : P.info? t with
    | none => simp [hi] at hd; exact absurd rfl hd
    | some i =>
      cases hu : P.underlying t with
      | none => simp [hi, hu] at hd; exact absurd rfl hd
      | some d =>
        cases hz : i.zero with
        | none => simp [hi, hu, hz] at hd; exact absurd rfl hd
        | some v => exact ⟨i, d, v, rfl, rfl, hz, by simp [hz]⟩
  · exfalso; apply hd
    have : T[t]? = none := by simpa using Nat.le_of_not_lt ht
    simp [tyAt, List.getD, this]; rfl

theorem tyDOf_slice {d : TypeDesc} {e : Nat} (h : tyDOf d = .slice e) : d = .slice e := by
  cases d <;> simp [tyDOf] at h; subst h; rfl
theorem tyDOf_int {d : TypeDesc} {k : IntKind} (h : tyDOf d = .int k) : d = .int k := by
  cases d <;> simp [tyDOf] at h; subst h; rfl
theorem tyDOf_bool {d : TypeDesc} (h : tyDOf d = .bool) : d = .bool := by
  cases d <;> simp [tyDOf] at h; rfl
theorem tyDOf_str {d : TypeDesc} (h : tyDOf d = .str) : d = .string := by
  cases d <;> simp [tyDOf] at h; rfl
theorem tyDOf_struct {d : TypeDesc} {l : List (Nat × Nat)} (h : tyDOf d = .struct l) : ∃ fs, d = .struct fs ∧ fs.toList.map (fun f => (f.offset, f.type)) = l := by
  cases d <;> simp [tyDOf] at h; exact ⟨_, rfl, h⟩
theorem tyDOf_arr {d : TypeDesc} {n e : Nat} (h : tyDOf d = .arr n e) : d = .array n e := by
  cases d <;> simp [tyDOf] at h; obtain ⟨rfl, rfl⟩ := h; rfl

section
variable {P : Program} {T : TT}
theorem TOk.slice (h : TOk P T) {t e : Nat} (hd : (tyAt T t).d = .slice e) : P.underlying t = some (.slice e) := by
  obtain ⟨i, d, v, _, hu, _, he⟩ := h.at (t := t) (by rw [hd]; intro h; cases h)
  rw [he] at hd; rw [hu, tyDOf_slice hd]
theorem TOk.int (h : TOk P T) {t : Nat} {k : IntKind} (hd : (tyAt T t).d = .int k) : P.underlying t = some (.int k) := by
  obtain ⟨i, d, v, _, hu, _, he⟩ := h.at (t := t) (by rw [hd]; intro h; cases h)
  rw [he] at hd; rw [hu, tyDOf_int hd]
theorem TOk.bool (h : TOk P T) {t : Nat} (hd : (tyAt T t).d = .bool) : P.underlying t = some .bool := by
  obtain ⟨i, d, v, _, hu, _, he⟩ := h.at (t := t) (by rw [hd]; intro h; cases h)
  rw [he] at hd; rw [hu, tyDOf_bool hd]
theorem TOk.str (h : TOk P T) {t : Nat} (hd : (tyAt T t).d = .str) : P.underlying t = some .string := by
  obtain ⟨i, d, v, _, hu, _, he⟩ := h.at (t := t) (by rw [hd]; intro h; cases h)
  rw [he] at hd; rw [hu, tyDOf_str hd]
theorem TOk.arr (h : TOk P T) {t n e : Nat} (hd : (tyAt T t).d = .arr n e) : P.underlying t = some (.array n e) := by
  obtain ⟨i, d, v, _, hu, _, he⟩ := h.at (t := t) (by rw [hd]; intro h; cases h)
  rw [he] at hd; rw [hu, tyDOf_arr hd]
theorem TOk.struct (h : TOk P T) {t : Nat} {l : List (Nat × Nat)} (hd : (tyAt T t).d = .struct l) : ∃ fs, P.underlying t = some (.struct fs) ∧ fs.toList.map (fun f => (f.offset, f.type)) = l := by
  obtain ⟨i, d, v, _, hu, _, he⟩ := h.at (t := t) (by rw [hd]; intro h; cases h)
  rw [he] at hd
  obtain ⟨fs, rfl, hl⟩ := tyDOf_struct hd
  exact ⟨fs, hu, hl⟩
theorem TOk.size (h : TOk P T) {t : Nat} (hd : (tyAt T t).d ≠ .other) (w : World) : (sizeOf t).run P w = .ok (tyAt T t).size w := by
  obtain ⟨i, d, v, hi, _, _, he⟩ := h.at hd
  rw [he]; simp [sizeOf, typeInfo, hi]
theorem TOk.isAgg (h : TOk P T) {t : Nat} (hd : (tyAt T t).d ≠ .other) (w : World) : (Go.isAgg t).run P w = .ok (tyAt T t).agg w := by
  obtain ⟨i, d, v, hi, hu, _, he⟩ := h.at hd
  rw [he] at hd ⊢
  simp only [Go.isAgg, Sem.run_bind, run_underlying hu, Result.andThen]
  cases d <;> simp [Ty.agg, tyDOf] at hd ⊢
theorem TOk.zero (h : TOk P T) {t : Nat} (hd : (tyAt T t).d ≠ .other) (w : World) : ∃ v, (zeroValue t).run P w = .ok v w ∧ v.cells.toList = (tyAt T t).zero := by
  obtain ⟨i, d, v, hi, hu, hz, he⟩ := h.at hd
  exact ⟨v, by simp [zeroValue, typeInfo, hi, hz], by rw [he]⟩
theorem TOk.info (h : TOk P T) {t : Nat} (hd : (tyAt T t).d ≠ .other) (w : World) : ∃ i, (typeInfo t).run P w = .ok i w ∧ i.bytes = (tyAt T t).bytes ∧ i.size = (tyAt T t).size := by
  obtain ⟨i, d, v, hi, hu, hz, he⟩ := h.at hd
  exact ⟨i, by simp [typeInfo, hi], by rw [he], by rw [he]⟩
end

/-! ### places -/
def blk (a : Option Addr) : Nat :=
  match a with
  | some p => p.block
  | none => 0
def ofs (a : Option Addr) : Nat :=
  match a with
  | some p => p.off
  | none => 0
def okB (a : Option Addr) : Prop := ∃ p, a = some p ∧ p.spot = none
def addrAt (a : Option Addr) (k : Nat) : Addr := ⟨blk a, ofs a + k, none⟩
def subA (a : Option Addr) (c l sz : Nat) : Option Addr := if c = l then a else a.map (·.add (l * sz))

theorem add_eq_addrAt {p : Addr} (h : p.spot = none) (k : Nat) : p.add k = addrAt (some p) k := by
  obtain ⟨b, o, s⟩ := p
  simp only at h; subst h
  simp only [Addr.add, addrAt, blk, ofs]
  split
  · subst_vars; rfl
  · rfl

end Go.Tw
/-
  A small calculus of conditions, part B: what an operation that needs no memory comes to (a value, and what it asks for), and that the model's run agrees. Helpers; no statement of the program is proved here.
-/
set_option linter.unusedSimpArgs false
set_option linter.unusedVariables false
namespace Go.Tw
open Go

/-- What an operation without memory comes to. -/
inductive PR where
  | bad
  | val (v : Value)
  | chk (c : Prop) (v : Value)
  | ar (c : Prop) (k : IntKind) (z : Int)
  | aw (k : IntKind) (z : Int)
  | cmp (p : Prop) (i : Decidable p)
  | idx (a : Option Addr) (len : Nat) (i : Int) (sz : Nat)
  | sl (a : Option Addr) (len cap : Nat) (lo hi : Option Int) (sz : Nat)

def isNat (i : Option Int) (d : Nat) (n : Nat) : Prop :=
  match i with
  | none => n = d
  | some i => i = (n : Int)

/-- The condition under which the rest (K) may go on. -/
def PR.vc (r : PR) (K : Value → Prop) : Prop :=
  match r with
  | .bad => False
  | .val v => K v
  | .chk c v => c ∧ K v
  | .ar c k z => ∃ m : Int, (m = z ∧ c) ∧ K (.int k m)
  | .aw k z => ∃ m : Int, m = z ∧ K (.int k m)
  | .cmp p _ => (p → K (.bool true)) ∧ (¬ p → K (.bool false))
  | .idx a len i sz => ∃ j : Nat, (i = (j : Int) ∧ j < len ∧ okB a) ∧ K (.pointer (some (addrAt a (j * sz))))
  | .sl a len cap lo hi sz => ∃ l h : Nat, (isNat lo 0 l ∧ isNat hi len h ∧ l ≤ h ∧ h ≤ cap) ∧ K (.slice (subA a cap l sz) (h - l) (cap - l))

def PR.ok (r : PR) : Prop :=
  match r with
  | .bad => False
  | .val _ => True
  | .chk c _ => c
  | .ar c _ _ => c
  | .aw _ _ => True
  | .cmp _ _ => True
  | .idx a len i _ => 0 ≤ i ∧ i < len ∧ okB a
  | .sl a len cap lo hi _ => ∃ l h : Nat, isNat lo 0 l ∧ isNat hi len h ∧ l ≤ h ∧ h ≤ cap
def PR.value (r : PR) : Value :=
  match r with
  | .bad => undef
  | .val v => v
  | .chk _ v => v
  | .ar _ k z => .int k z
  | .aw k z => .int k z
  | .cmp p i => .bool (@decide p i)
  | .idx a _ i sz => .pointer (some (addrAt a (i.toNat * sz)))
  | .sl a len cap lo hi sz => .slice (subA a cap ((lo.getD 0).toNat) sz) ((hi.getD len).toNat - (lo.getD 0).toNat) (cap - (lo.getD 0).toNat)

theorem isNat_eq {i : Option Int} {d n : Nat} (h : isNat i d n) : n = (i.getD d).toNat := by
  cases i with
  | none => simpa [isNat] using h
  | some i => simp only [isNat] at h; subst h; simp

theorem PR.vc_iff (r : PR) (K : Value → Prop) : r.vc K ↔ r.ok ∧ K r.value := by
  cases r with
  | bad => simp [PR.vc, PR.ok]
  | val v => simp [PR.vc, PR.ok, PR.value]
  | chk c v => simp [PR.vc, PR.ok, PR.value]
  | ar c k z => simp only [PR.vc, PR.ok, PR.value]; exact ⟨fun ⟨m, ⟨h, hc⟩, hk⟩ => ⟨hc, h ▸ hk⟩, fun ⟨hc, hk⟩ => ⟨z, ⟨rfl, hc⟩, hk⟩⟩
  | aw k z => simp only [PR.vc, PR.ok, PR.value]; exact ⟨fun ⟨m, h, hk⟩ => ⟨trivial, h ▸ hk⟩, fun ⟨_, hk⟩ => ⟨z, rfl, hk⟩⟩
  | cmp p i =>
    simp only [PR.vc, PR.ok, PR.value, true_and]
    by_cases hp : p <;> simp [hp]
  | idx a len i sz =>
    simp only [PR.vc, PR.ok, PR.value]
    constructor
    · rintro ⟨j, ⟨rfl, hj, ha⟩, hk⟩; exact ⟨⟨by omega, by omega, ha⟩, by simpa using hk⟩
    · rintro ⟨⟨h0, h1, ha⟩, hk⟩; exact ⟨i.toNat, ⟨by omega, by omega, ha⟩, hk⟩
  | sl a len cap lo hi sz =>
    simp only [PR.vc, PR.ok, PR.value]
    constructor
    · rintro ⟨l, h, ⟨h1, h2, h3, h4⟩, hk⟩
      refine ⟨⟨l, h, h1, h2, h3, h4⟩, ?_⟩
      have e1 := isNat_eq h1
      have e2 := isNat_eq h2
      rw [show ((lo.getD 0).toNat) = l from by simpa using e1.symm, show ((hi.getD (len : Int)).toNat) = h from e2.symm]
      exact hk
    · rintro ⟨⟨l, h, h1, h2, h3, h4⟩, hk⟩
      refine ⟨l, h, ⟨h1, h2, h3, h4⟩, ?_⟩
      have e1 := isNat_eq h1
      have e2 := isNat_eq h2
      rw [show ((lo.getD 0).toNat) = l from by simpa using e1.symm, show ((hi.getD (len : Int)).toNat) = h from e2.symm] at hk
      exact hk

/-! ### integers -/
def arI (k : IntKind) (z : Int) : PR :=
  match k with
  | .i64 => .ar (-9223372036854775808 ≤ z ∧ z ≤ 9223372036854775807) .i64 z
  | .i32 => .ar (-2147483648 ≤ z ∧ z ≤ 2147483647) .i32 z
  | .i16 => .ar (-32768 ≤ z ∧ z ≤ 32767) .i16 z
  | .i8 => .ar (-128 ≤ z ∧ z ≤ 127) .i8 z
  | .u64 => .aw .u64 (z % 18446744073709551616)
  | .u32 => .aw .u32 (z % 4294967296)
  | .u16 => .aw .u16 (z % 65536)
  | .u8 => .aw .u8 (z % 256)
/-- A conversion: with wrap-round, signed too. -/
def wrI (k : IntKind) (z : Int) : PR :=
  match k with
  | .i64 => .aw .i64 ((z + 9223372036854775808) % 18446744073709551616 - 9223372036854775808)
  | .i32 => .aw .i32 ((z + 2147483648) % 4294967296 - 2147483648)
  | .i16 => .aw .i16 ((z + 32768) % 65536 - 32768)
  | .i8 => .aw .i8 ((z + 128) % 256 - 128)
  | .u64 => .aw .u64 (z % 18446744073709551616)
  | .u32 => .aw .u32 (z % 4294967296)
  | .u16 => .aw .u16 (z % 65536)
  | .u8 => .aw .u8 (z % 256)
theorem wrap_arI (k : IntKind) (z : Int) (h : (arI k z).ok) : Value.int k (k.wrap z) = (arI k z).value := by
  cases k <;> simp [arI, PR.ok] at h <;> simp [arI, PR.value, IntKind.wrap, IntKind.signed, IntKind.bits] <;> (try (split <;> omega))
theorem wrap_wrI (k : IntKind) (z : Int) : Value.int k (k.wrap z) = (wrI k z).value := by
  cases k <;> simp [wrI, PR.value, IntKind.wrap, IntKind.signed, IntKind.bits] <;> (split <;> omega)

def bitZ (op : BinOp) (k : IntKind) (x y : Int) : Int :=
  k.wrap (match op with
    | .and => (BitVec.ofInt k.bits x &&& BitVec.ofInt k.bits y).toNat
    | .or => (BitVec.ofInt k.bits x ||| BitVec.ofInt k.bits y).toNat
    | .xor => (BitVec.ofInt k.bits x ^^^ BitVec.ofInt k.bits y).toNat
    | _ => (BitVec.ofInt k.bits x &&& ~~~ BitVec.ofInt k.bits y).toNat)
def shlZ (k : IntKind) (x y : Int) : Int := k.wrap (x * 2 ^ (min y.toNat k.bits))
def shrZ (k : IntKind) (x y : Int) : Int := x.fdiv (2 ^ (min y.toNat k.bits))

def binI (op : BinOp) (k : IntKind) (x y : Int) : PR :=
  match op with
  | .add => arI k (x + y)
  | .sub => arI k (x - y)
  | .mul => arI k (x * y)
  | .quo => .ar (y ≠ 0) k (k.wrap (x.tdiv y))
  | .rem => .ar (y ≠ 0) k (x.tmod y)
  | .and => .aw k (bitZ .and k x y)
  | .or => .aw k (bitZ .or k x y)
  | .xor => .aw k (bitZ .xor k x y)
  | .andNot => .aw k (bitZ .andNot k x y)
  | .shl => .ar (0 ≤ y) k (shlZ k x y)
  | .shr => .ar (0 ≤ y) k (shrZ k x y)
  | .eql => .cmp (x = y) inferInstance
  | .neq => .cmp (x ≠ y) inferInstance
  | .lss => .cmp (x < y) inferInstance
  | .leq => .cmp (x ≤ y) inferInstance
  | .gtr => .cmp (x > y) inferInstance
  | .geq => .cmp (x ≥ y) inferInstance

def kEq (k k' : IntKind) : Bool :=
  match k, k' with
  | .i64, .i64 => true | .i32, .i32 => true | .i16, .i16 => true | .i8, .i8 => true
  | .u64, .u64 => true | .u32, .u32 => true | .u16, .u16 => true | .u8, .u8 => true
  | _, _ => false
theorem kEq_eq {k k' : IntKind} (h : kEq k k' = true) : k = k' := by cases k <;> cases k' <;> first | rfl | cases h

/-- Two values of one type. -/
def binV (T : TT) (op : BinOp) (t : Nat) (x y : Value) : PR :=
  match x, y with
  | .int k a, .int k' b =>
    match op with
    | .shl => .ar (0 ≤ b) k (shlZ k a b)
    | .shr => .ar (0 ≤ b) k (shrZ k a b)
    | op => bif kEq k k' then binI op k a b else .bad
  | .bool a, .bool b =>
    match (tyAt T t).d with
    | .bool =>
      match op with
      | .eql => .cmp (a = b) inferInstance
      | .neq => .cmp (a ≠ b) inferInstance
      | _ => .bad
    | _ => .bad
  | .string a, .string b =>
    match op with
    | .eql => .cmp ((a.toList == b.toList) = true) inferInstance
    | .neq => .cmp ((a.toList == b.toList) = false) inferInstance
    | .add => .chk (a.size + b.size ≤ 9223372036854775807) (.string (a ++ b))
    | _ => .bad
  | .slice a _ _, .slice none _ _ =>
    match (tyAt T t).d with
    | .slice _ =>
      match op with
      | .eql => .cmp (a = none) inferInstance
      | .neq => .cmp (a ≠ none) inferInstance
      | _ => .bad
    | _ => .bad
  | _, _ => .bad

section
variable {P : Program} {T : TT}
theorem run_intBits (op : BinOp) (k : IntKind) (x y : Int) (w : World) (h : op = .and ∨ op = .or ∨ op = .xor ∨ op = .andNot) :
    (Op.intBits op k x y).run P w = .ok (.int k (bitZ op k x y)) w := by
  rcases h with rfl | rfl | rfl | rfl <;> simp [Op.intBits, bitZ]

theorem binI_sound (op : BinOp) (k : IntKind) (t : TypeId) (x y : Int) (w : World) (h : (binI op k x y).ok) :
    (binOp op t (.int k x) (.int k y)).run P w = .ok (binI op k x y).value w := by
  cases op
  case add => simp only [binOp_add, Op.intArith, Sem.run_pure, binI] at h ⊢; rw [wrap_arI k _ h]
  case sub => simp only [binOp_sub, Op.intArith, Sem.run_pure, binI] at h ⊢; rw [wrap_arI k _ h]
  case mul => simp only [binOp_mul, Op.intArith, Sem.run_pure, binI] at h ⊢; rw [wrap_arI k _ h]
  case quo => simp only [binOp_quo, binI, PR.ok, PR.value, Op.intDiv] at h ⊢; simp [h]
  case rem => simp only [binOp_rem, binI, PR.ok, PR.value, Op.intDiv] at h ⊢; simp [h]
  case and => simp only [binOp_and, binI, PR.value]; rw [run_intBits _ _ _ _ _ (by simp)]
  case or => simp only [binOp_or, binI, PR.value]; rw [run_intBits _ _ _ _ _ (by simp)]
  case xor => simp only [binOp_xor, binI, PR.value]; rw [run_intBits _ _ _ _ _ (by simp)]
  case andNot => simp only [binOp_andNot, binI, PR.value]; rw [run_intBits _ _ _ _ _ (by simp)]
  case shl =>
    simp only [binOp_shl, binI, PR.ok, PR.value, Op.shift, shlZ] at h ⊢
    rw [if_neg (by omega)]; rfl
  case shr =>
    simp only [binOp_shr, binI, PR.ok, PR.value, Op.shift, shrZ] at h ⊢
    rw [if_neg (by omega)]; rfl
  case eql => simp only [binOp_eql, Sem.run_pure, binI, PR.value]; congr 2
  case neq =>
    simp only [binOp_neq, Sem.run_pure, binI, PR.value]; congr 2
    by_cases hxy : x = y <;> simp [hxy]
  case lss => simp only [binOp_lss, Sem.run_pure, binI, PR.value]
  case leq => simp only [binOp_leq, Sem.run_pure, binI, PR.value]
  case gtr => simp only [binOp_gtr, Sem.run_pure, binI, PR.value]
  case geq => simp only [binOp_geq, Sem.run_pure, binI, PR.value]

theorem run_eqGuard_slice (op : BinOp) (t : TypeId) (x y : Operand) (a : Option Addr) (n m : Nat) (v : Value) (w : World) : (eqGuard op t x y (.slice a n m) v).run P w = .ok () w := by
  rw [eqGuard_at_slice]; rfl
theorem run_eqGuard_bool (op : BinOp) (t : TypeId) (x y : Operand) (b : Bool) (v : Value) (w : World) : (eqGuard op t x y (.bool b) v).run P w = .ok () w := by
  rw [eqGuard_at_bool]; rfl

theorem run_equalIn_slice_nil (d : Nat) (t e : TypeId) (a : Option Addr) (n m n' m' : Nat) (h : P.underlying t = some (.slice e)) (w : World) :
    (Op.equalIn (d + 1) t (.slice a n m) (.slice none n' m')).run P w = .ok (decide (a = none)) w := by
  cases a <;> simp [Op.equalIn, run_underlying h]
theorem run_equal_slice_nil (t e : TypeId) (a : Option Addr) (n m n' m' : Nat) (h : P.underlying t = some (.slice e)) (w : World) :
    (Op.equal t (.slice a n m) (.slice none n' m')).run P w = .ok (decide (a = none)) w := run_equalIn_slice_nil 9999 t e a n m n' m' h w

theorem binV_sound (hT : TOk P T) (op : BinOp) (t : TypeId) (o1 o2 : Operand) (x y : Value) (w : World) (h : (binV T op t x y).ok) :
    ((do eqGuard op t o1 o2 x y; binOp op t x y : Sem Value)).run P w = .ok (binV T op t x y).value w := by
  unfold binV at h ⊢
  split at h
  · rename_i k a k' b
    simp only [Sem.run_bind, eqGuard_at_int, Sem.run_pure, Result.andThen]
    split at h
    · simp only [PR.ok, PR.value, binOp_shl, Op.shift, shlZ] at h ⊢; rw [if_neg (by omega)]; rfl
    · simp only [PR.ok, PR.value, binOp_shr, Op.shift, shrZ] at h ⊢; rw [if_neg (by omega)]; rfl
    · rename_i op' h1 h2
      cases hk : kEq k k' with
      | false => simp only [hk, cond_false, PR.ok] at h
      | true =>
        simp only [hk, cond_true] at h ⊢
        obtain rfl := kEq_eq hk
        exact binI_sound (P := P) op k t a b w h
  · rename_i a b
    simp only [Sem.run_bind, eqGuard_at_bool, Sem.run_pure, Result.andThen]
    split at h
    · rename_i hd
      split at h
      · rw [run_eql_bool w t a b (hT.bool hd)]; simp only [PR.value, hd]
        congr 2
      · rw [run_neq_bool w t a b (hT.bool hd)]; simp only [PR.value, hd]
        congr 2
        cases a <;> cases b <;> rfl
      · exact h.elim
    · exact h.elim
  · rename_i a b
    simp only [Sem.run_bind, eqGuard_at_string, Sem.run_pure, Result.andThen]
    split at h
    · simp [binOp, Op.stringOp, PR.value]
      rw [Bool.eq_iff_iff]; simp
    · simp [binOp, Op.stringOp, PR.value]
      cases hh : a.toList == b.toList <;> simp_all
    · simp only [PR.ok] at h
      simp only [binOp, Op.stringOp, PR.value, IntKind.max_i64]
      rw [if_neg (by omega)]; rfl
    · exact h.elim
  · rename_i a n m n' m'
    simp only [Sem.run_bind, eqGuard_at_slice, Sem.run_pure, Result.andThen]
    split at h
    · rename_i e hd
      split at h
      · simp only [binOp, Sem.run_bind, run_equal_slice_nil t e a n m n' m' (hT.slice hd), Result.andThen, Sem.run_pure, PR.value, hd]
      · simp only [binOp, Sem.run_bind, run_equal_slice_nil t e a n m n' m' (hT.slice hd), Result.andThen, Sem.run_pure, PR.value, hd]
        cases a <;> simp
      · exact h.elim
    · exact h.elim
  · exact h.elim
end
end Go.Tw
/-
  A small calculus of conditions, part C: operations one by one, and that the model's run agrees. Helpers; no statement of the program is proved here.
-/
set_option linter.unusedSimpArgs false
set_option linter.unusedVariables false
namespace Go.Tw
open Go Go.RowKit

def evs (e : Env) (l : List Operand) : Option (List Value) :=
  match l with
  | [] => some []
  | x :: l =>
    match ev e x with
    | none => none
    | some v =>
      match evs e l with
      | none => none
      | some vs => some (v :: vs)
/-- Parts of a literal: places and operands. -/
def evp (e : Env) (l : List (Nat × Operand)) : Option (List (Nat × Value)) :=
  match l with
  | [] => some []
  | (i, x) :: l =>
    match ev e x with
    | none => none
    | some v =>
      match evp e l with
      | none => none
      | some vs => some ((i, v) :: vs)
def evO (e : Env) (x : Option Operand) : Option (Option Int) :=
  match x with
  | none => some none
  | some x =>
    match ev e x with
    | some (.int _ i) => some (some i)
    | _ => none

theorem evs_eq {a : Act} {e : Env} (h : Agrees a e) : ∀ {l : List Operand} {vs : List Value}, evs e l = some vs → l.map a.eval = vs
  | [], vs, hs => by simp [evs] at hs; subst hs; rfl
  | x :: l, vs, hs => by
    simp only [evs] at hs
    split at hs
    · cases hs
    · rename_i v hv
      split at hs
      · cases hs
      · rename_i us hus
        simp only [Option.some.injEq] at hs; subst hs
        simp [h.eval hv, evs_eq h hus]
theorem evp_eq {a : Act} {e : Env} (h : Agrees a e) : ∀ {l : List (Nat × Operand)} {vs : List (Nat × Value)}, evp e l = some vs → l.map (fun p => (p.1, a.eval p.2)) = vs
  | [], vs, hs => by simp [evp] at hs; subst hs; rfl
  | (i, x) :: l, vs, hs => by
    simp only [evp] at hs
    split at hs
    · cases hs
    · rename_i v hv
      split at hs
      · cases hs
      · rename_i us hus
        simp only [Option.some.injEq] at hs; subst hs
        simp [h.eval hv, evp_eq h hus]

/-- A list written over another one from a place on. -/
def over (cs vs : List Value) : List Value :=
  match vs with
  | [] => cs
  | v :: vs =>
    match cs with
    | [] => []
    | _ :: cs => v :: over cs vs
def splice (cs : List Value) (o : Nat) (vs : List Value) : List Value :=
  match o with
  | 0 => over cs vs
  | o + 1 =>
    match cs with
    | [] => []
    | c :: cs => c :: splice cs o vs
theorem over_nil (vs : List Value) : over [] vs = [] := by cases vs <;> rfl
theorem splice_nil (o : Nat) (vs : List Value) : splice [] o vs = [] := by cases o <;> simp [splice, over_nil]
theorem splice_none (cs : List Value) (o : Nat) : splice cs o [] = cs := by
  induction cs generalizing o with
  | nil => exact splice_nil o []
  | cons c cs ih => cases o <;> simp [splice, over, ih]
theorem splice_cons (cs : List Value) (o : Nat) (v : Value) (vs : List Value) : splice (cs.set o v) (o + 1) vs = splice cs o (v :: vs) := by
  induction cs generalizing o with
  | nil => simp [splice_nil]
  | cons c cs ih =>
    cases o with
    | zero => simp [splice, over]
    | succ o => simp [splice, ih]
theorem over_length (cs vs : List Value) : (over cs vs).length = cs.length := by
  induction vs generalizing cs with
  | nil => simp [over]
  | cons v vs ih => cases cs <;> simp [over, ih]
theorem splice_length (cs : List Value) (o : Nat) (vs : List Value) : (splice cs o vs).length = cs.length := by
  induction cs generalizing o with
  | nil => simp [splice_nil]
  | cons c cs ih => cases o <;> simp [splice, over_length, ih]

theorem foldl_splice (vs : List Value) : ∀ (k off : Nat) (arr : Array Value), (((vs.zipIdx k).foldl (fun cs (x : Value × Nat) => cs.setIfInBounds (off + x.2) x.1) arr)).toList = splice arr.toList (off + k) vs := by
  induction vs with
  | nil => intro k off arr; simp [splice_none]
  | cons v vs ih =>
    intro k off arr
    simp only [List.zipIdx_cons, List.foldl_cons, ih, Array.toList_setIfInBounds]
    rw [show off + (k + 1) = (off + k) + 1 from by omega, splice_cons]

def fillL (place : Nat → Option (Nat × Nat)) (cells : List Value) (l : List (Nat × Value)) : Option (List Value) :=
  match l with
  | [] => some cells
  | (i, v) :: rest =>
    match place i with
    | none => none
    | some (off, size) => bif Nat.beq v.cells.toList.length size && Nat.ble (off + v.cells.toList.length) cells.length then fillL place (splice cells off v.cells.toList) rest else none
theorem fillL_eq (place : Nat → Option (Nat × Nat)) : ∀ (l : List (Nat × Value)) (cells : Array Value) (r : List Value), fillL place cells.toList l = some r → Instr.fill place cells l = some r.toArray
  | [], cells, r, h => by simp [fillL] at h; subst h; simp [Instr.fill]
  | (i, v) :: rest, cells, r, h => by
    simp only [fillL] at h
    simp only [Instr.fill]
    cases hp : place i with
    | none => rw [hp] at h; cases h
    | some os =>
      obtain ⟨off, size⟩ := os
      rw [hp] at h
      simp only at h ⊢
      cases hb : (Nat.beq v.cells.toList.length size && Nat.ble (off + v.cells.toList.length) cells.toList.length) with
      | false => rw [hb] at h; cases h
      | true =>
        rw [hb] at h
        simp only [Bool.and_eq_true] at hb
        have h1 := Nat.eq_of_beq_eq_true hb.1
        have h2 := Nat.le_of_ble_eq_true hb.2
        simp only [Array.length_toList] at h1 h2
        have hc : ¬ ((decide (v.cells.size ≠ size) || decide (off + v.cells.size > cells.size)) = true) := by simp; omega
        rw [if_neg hc]
        simp only [cond_true] at h
        refine fillL_eq place rest _ r ?_
        rw [← h, ← Array.foldl_toList, Array.toList_zipIdx]
        congr 1
        have := foldl_splice v.cells.toList 0 off cells
        simpa using this

def rep (n : Nat) (z : List Value) : List Value :=
  match n with
  | 0 => []
  | n + 1 => z ++ rep n z
theorem rep_length (n : Nat) (z : List Value) : (rep n z).length = n * z.length := by
  induction n with
  | zero => simp [rep]
  | succ n ih => simp [rep, ih, Nat.succ_mul, Nat.add_comm]
theorem rep_get (n : Nat) (z : List Value) (i : Nat) (h : i < n * z.length) : (rep n z)[i]? = z[i % z.length]? := by
  induction n generalizing i with
  | zero => simp at h
  | succ n ih =>
    have hz : 0 < z.length := by
      rcases Nat.eq_zero_or_pos z.length with h0 | h0
      · rw [h0] at h; simp at h
      · exact h0
    simp only [rep, List.getElem?_append]
    split
    · rename_i hlt; rw [Nat.mod_eq_of_lt hlt]
    · rename_i hge
      have hs : (n + 1) * z.length = n * z.length + z.length := Nat.succ_mul n z.length
      rw [ih (i - z.length) (by omega)]
      congr 1
      exact (Nat.mod_eq_sub_mod (by omega)).symm
theorem rep_range (n : Nat) (z : Array Value) (h : 0 < z.size) : (Array.range (n * z.size)).map (fun i => z[i % z.size]!) = (rep n z.toList).toArray := by
  apply Array.ext_getElem?
  intro i
  by_cases hi : i < n * z.size
  · have hm : i % z.size < z.size := Nat.mod_lt _ h
    have := rep_get n z.toList i (by simpa using hi)
    simp only [List.getElem?_toArray, this]
    simp [hi, hm]
  · have h2 : (rep n z.toList).length ≤ i := by rw [rep_length]; simpa using Nat.le_of_not_lt hi
    rw [Array.getElem?_eq_none (by simpa using Nat.le_of_not_lt hi)]
    simp [h2]

def known (y : Ty) : Bool :=
  match y.d with
  | .other => false
  | _ => true
theorem known_ne {y : Ty} (h : known y = true) : y.d ≠ .other := by
  intro he; simp [known, he] at h

/-! ### operations without memory -/
def intOp (k : IntKind) (n : Int) (op : UnOp) : PR :=
  match op with
  | .neg => arI k (0 - n)
  | .xor => .aw k (bitZ .xor k (if k.signed then -1 else k.max) n)
  | _ => .bad

def pureB (T : TT) (b : Builtin) (argTypes : List Nat) (vs : List Value) : PR :=
  match b with
  | .len =>
    match argTypes, vs with
    | [t], [.slice _ n _] =>
      match (tyAt T t).d with
      | .slice _ => .val (.int .i64 n)
      | _ => .bad
    | [t], [.string s] =>
      match (tyAt T t).d with
      | .str => .val (.int .i64 s.size)
      | _ => .bad
    | _, _ => .bad
  | .max =>
    match vs with
    | [.int k x, .int k' y] => .aw k (if y > x then y else x)
    | _ => .bad
  | .min =>
    match vs with
    | [.int k x, .int k' y] => .aw k (if y < x then y else x)
    | _ => .bad
  | _ => .bad

def pureOp (T : TT) (op : Op) (e : Env) : PR :=
  match op with
  | .move x | .assign x =>
    match ev e x with
    | some v => .val v
    | none => .bad
  | .pick c a b =>
    match ev e c, ev e a, ev e b with
    | some (.bool t), some va, some vb => .val (bif t then va else vb)
    | _, _, _ => .bad
  | .binOp op t x y _ =>
    match ev e x, ev e y with
    | some a, some b => binV T op t a b
    | _, _ => .bad
  | .unOp op _ x =>
    match ev e x with
    | some (.bool b) =>
      match op with
      | .not => .val (.bool (!b))
      | _ => .bad
    | some (.int k n) => intOp k n op
    | _ => .bad
  | .convert s d x =>
    match ev e x with
    | some (.int _ n) =>
      match (tyAt T d).d with
      | .int k => bif known (tyAt T s) then wrI k n else .bad
      | _ => .bad
    | some (.string b) =>
      match (tyAt T d).d, (tyAt T s).d with
      | .str, .str => .val (.string b)
      | _, _ => .bad
    | _ => .bad
  | .extract x i =>
    match ev e x with
    | some (.tuple vs) =>
      match vs.toList[i]? with
      | some v => .val v
      | none => .bad
    | _ => .bad
  | .fieldAddr t x f =>
    match ev e x with
    | some (.pointer (some ⟨b, o, none⟩)) =>
      match (tyAt T t).d with
      | .struct fs =>
        match fs[f]? with
        | some (fo, ft) => bif known (tyAt T ft) && Nat.blt 0 (tyAt T ft).size then .val (.pointer (some ⟨b, o + fo, none⟩)) else .bad
        | none => .bad
      | _ => .bad
    | _ => .bad
  | .field t x f =>
    match ev e x with
    | some (.agg cs) =>
      match (tyAt T t).d with
      | .struct fs =>
        match fs[f]? with
        | some (fo, ft) =>
          bif known (tyAt T ft) then
            (bif (tyAt T ft).agg then .val (.agg ((cs.toList.drop fo).take (tyAt T ft).size).toArray)
            else match cs.toList[fo]? with
              | some v => .val v
              | none => .bad)
          else .bad
        | none => .bad
      | _ => .bad
    | _ => .bad
  | .indexAddr t x i =>
    match ev e x, ev e i with
    | some (.slice a len _), some (.int _ i) =>
      match (tyAt T t).d with
      | .slice el => bif known (tyAt T el) then .idx a len i (tyAt T el).size else .bad
      | _ => .bad
    | _, _ => .bad
  | .slice t x lo hi mx =>
    match mx with
    | some _ => .bad
    | none =>
      match ev e x, evO e lo, evO e hi with
      | some (.slice a len cap), some lo, some hi =>
        match (tyAt T t).d with
        | .slice el => bif known (tyAt T el) then .sl a len cap lo hi (tyAt T el).size else .bad
        | _ => .bad
      | _, _, _ => .bad
  | .build t parts =>
    match (tyAt T t).d, evp e parts.toList with
    | .struct fs, some ps =>
      bif fs.all (fun f => known (tyAt T f.2)) then
        (match fillL (fun i => match fs[i]? with | some (fo, ft) => some (fo, (tyAt T ft).size) | none => none) (tyAt T t).zero ps with
        | some cs => .val (.agg cs.toArray)
        | none => .bad)
      else .bad
    | _, _ => .bad
  | .makeFunc fn first captured =>
    match evs e first.toList, evs e captured.toList with
    | some f, some c => .val (.func fn f.toArray c.toArray)
    | _, _ => .bad
  | .makeInterface t x =>
    match ev e x with
    | some v =>
      match (tyAt T t).d with
      | .iface => .bad
      | .other => .bad
      | _ => .val (.iface t v)
    | none => .bad
  | .call c =>
    match c.callee with
    | .builtin b =>
      match evs e c.args.toList with
      | some vs => pureB T b c.argTypes.toList vs
      | none => .bad
    | _ => .bad
  | _ => .bad

section
variable {P : Program} {T : TT}

theorem toList_eq1 {α : Type} {a : Array α} {x : α} (h : a.toList = [x]) : a = #[x] := by
  cases a; simp at h; subst h; rfl
theorem toList_eq2 {α : Type} {a : Array α} {x y : α} (h : a.toList = [x, y]) : a = #[x, y] := by
  cases a; simp at h; subst h; rfl

theorem intOp_sound (k : IntKind) (n : Int) (op : UnOp) (w : World) (h : (intOp k n op).ok) : (Op.unary op (.int k n)).run P w = .ok (intOp k n op).value w := by
  cases op with
  | neg => simp only [Op.unary, Op.intArith, Sem.run_pure, intOp] at h ⊢; rw [wrap_arI k _ h]
  | xor => simp only [Op.unary, intOp, PR.value]; rw [run_intBits _ _ _ _ _ (by simp)]
  | not => exact h.elim
  | plus => exact h.elim

theorem pureB_sound (hT : TOk P T) (b : Builtin) (ts : Array TypeId) (ty : TypeId) (cs : Array Bool) (vs : Array Value) (w : World) (h : (pureB T b ts.toList vs.toList).ok) :
    (builtin b ts ty cs vs).run P w = .ok (.value (pureB T b ts.toList vs.toList).value) w := by
  unfold pureB at h ⊢
  cases b <;> simp only at h ⊢ <;> try exact h.elim
  case len =>
    split at h
    · rename_i t n1 n2 n3 h1 h2
      split at h
      · rename_i e hd
        obtain rfl := toList_eq1 h1
        obtain rfl := toList_eq1 h2
        simp [builtin, Builtin.len_, run_underlying (hT.slice hd), goInt, PR.value, hd]
      · exact h.elim
    · rename_i t s h1 h2
      split at h
      · rename_i hd
        obtain rfl := toList_eq1 h1
        obtain rfl := toList_eq1 h2
        simp [builtin, Builtin.len_, run_underlying (hT.str hd), goInt, PR.value, hd]
      · exact h.elim
    · exact h.elim
  case max =>
    split at h
    · rename_i k x k' y h2
      obtain rfl := toList_eq2 h2
      simp [builtin, Builtin.max_, Builtin.max2, PR.value]
    · exact h.elim
  case min =>
    split at h
    · rename_i k x k' y h2
      obtain rfl := toList_eq2 h2
      simp [builtin, Builtin.min_, Builtin.min2, PR.value]
    · exact h.elim

theorem run_boundI (i : Int) (k : IntKind) (y : Nat) (code : BoundsCode) (n : Nat) (h : i = n) (hn : n ≤ y) (w : World) : (Instr.sliceBound (.int k i) y code).run P w = .ok n w := by
  subst h
  simp [Instr.sliceBound, asIntOf]
  intro hlt; omega

theorem run_sliceBounds {a : Act} {e : Env} (hag : Agrees a e) {lo hi : Option Operand} {l' h' : Option Int} (hl : evO e lo = some l') (hh : evO e hi = some h') (len cap l h : Nat) (h1 : isNat l' 0 l) (h2 : isNat h' len h)
    (h3 : l ≤ h) (h4 : h ≤ cap) (w : World) :
    (Instr.sliceBounds true len cap (lo.map a.eval) (hi.map a.eval) none).run P w = .ok (l, h, cap) w := by
  cases lo with
  | none =>
    simp only [evO, Option.some.injEq] at hl; subst hl
    simp only [isNat] at h1; subst h1
    cases hi with
    | none =>
      simp only [evO, Option.some.injEq] at hh; subst hh
      simp only [isNat] at h2; subst h2
      simp [Instr.sliceBounds]
    | some x =>
      simp only [evO] at hh
      split at hh
      · rename_i k i hx
        simp only [Option.some.injEq] at hh; subst hh
        simp only [isNat] at h2
        simp [Instr.sliceBounds, hag.eval hx, run_boundI i k cap .sliceAcap h h2 h4]
      · cases hh
  | some y =>
    simp only [evO] at hl
    split at hl
    · rename_i k' j hy
      simp only [Option.some.injEq] at hl; subst hl
      simp only [isNat] at h1
      cases hi with
      | none =>
        simp only [evO, Option.some.injEq] at hh; subst hh
        simp only [isNat] at h2; subst h2
        simp [Instr.sliceBounds, hag.eval hy, run_boundI j k' _ .sliceB l h1 h3]
      | some x =>
        simp only [evO] at hh
        split at hh
        · rename_i k i hx
          simp only [Option.some.injEq] at hh; subst hh
          simp only [isNat] at h2
          simp [Instr.sliceBounds, hag.eval hx, hag.eval hy, run_boundI i k cap .sliceAcap h h2 h4, run_boundI j k' h .sliceB l h1 h3]
        · cases hh
    · cases hl

theorem run_part (hT : TOk P T) {ft fo : Nat} (hk : known (tyAt T ft) = true) (cs : Array Value) (w : World) :
    (part ft cs fo).run P w = if (tyAt T ft).agg then .ok (.agg (cs.extract fo (fo + (tyAt T ft).size))) w else match cs[fo]? with | some v => .ok v w | none => .halt (.stuck "part: no such cell") w := by
  simp only [part, Sem.run_bind, hT.isAgg (known_ne hk), Result.andThen]
  cases (tyAt T ft).agg with
  | true => simp [hT.size (known_ne hk)]
  | false =>
    simp only [Bool.false_eq_true, if_false]
    cases cs[fo]? <;> simp

theorem extract_eq (cs : Array Value) (o n : Nat) : cs.extract o (o + n) = ((cs.toList.drop o).take n).toArray := by
  apply Array.ext'
  simp [List.take_drop]

theorem mapM_places (hT : TOk P T) (w : World) : ∀ (fs : List Field), (∀ f ∈ fs, known (tyAt T f.type) = true) →
    (fs.mapM fun f => do pure (f.offset, ← sizeOf f.type) : Sem (List (Nat × Nat))).run P w = .ok (fs.map fun f => (f.offset, (tyAt T f.type).size)) w
  | [], _ => by simp
  | f :: fs, h => by
    have h1 := hT.size (known_ne (h f (by simp))) w
    have h2 := mapM_places hT w fs (fun g hg => h g (by simp [hg]))
    simp only [List.mapM_cons, Sem.run_bind, h1, Result.andThen, Sem.run_pure, h2, List.map_cons]

theorem run_build (hT : TOk P T) {t : Nat} {fs : List (Nat × Nat)} (hd : (tyAt T t).d = .struct fs) (hk : fs.all (fun f => known (tyAt T f.2)) = true) {ps : Array (Nat × Value)} {cs : List Value}
    (hf : fillL (fun i => match fs[i]? with | some (fo, ft) => some (fo, (tyAt T ft).size) | none => none) (tyAt T t).zero ps.toList = some cs) (w : World) :
    (Instr.build t ps).run P w = .ok (.agg cs.toArray) w := by
  obtain ⟨fl, hu, rfl⟩ := hT.struct hd
  obtain ⟨z, hz, hzl⟩ := hT.zero (t := t) (by rw [hd]; intro h; cases h) w
  have hk' : ∀ f ∈ fl.toList, known (tyAt T f.type) = true := by
    intro f hf'
    rw [List.all_eq_true] at hk
    exact hk (f.offset, f.type) (List.mem_map.2 ⟨f, hf', rfl⟩)
  simp only [Instr.build, Sem.run_bind, hz, Result.andThen, run_underlying hu]
  have hm := mapM_places hT w fl.toList hk'
  have hm2 : (fl.mapM fun f => do pure (f.offset, ← sizeOf f.type) : Sem (Array (Nat × Nat))).run P w = .ok ((fl.toList.map fun f => (f.offset, (tyAt T f.type).size)).toArray) w := by
    rw [Array.mapM_eq_mapM_toList]
    simp only [Sem.run_map, hm, Result.andThen]
  simp only [hm2, Result.andThen]
  have hfe := fillL_eq (fun i => (((fl.toList.map fun f => (f.offset, (tyAt T f.type).size)).toArray)[i]? : Option (Nat × Nat))) ps.toList z.cells cs (by
    rw [hzl, ← hf]
    congr 1
    funext i
    simp only [List.getElem?_toArray, List.getElem?_map]
    cases fl.toList[i]? <;> rfl)
  rw [hfe]
  simp

theorem pureOp_sound (hT : TOk P T) (o : Oper) {e : Env} {a : Act} (hag : Agrees a e) (h : (pureOp T o.op e).ok) (w : World) :
    (execOp a.eval o).run P w = .ok (.value (pureOp T o.op e).value) w := by
  obtain ⟨dst, op, type, pos, after, guard⟩ := o
  cases op with
  | move x =>
    simp only [pureOp] at h ⊢
    split at h
    · rename_i v hv; simp [execOp, hag.eval hv, PR.value, hv]
    · exact h.elim
  | assign x =>
    simp only [pureOp] at h ⊢
    split at h
    · rename_i v hv; simp [execOp, hag.eval hv, PR.value, hv]
    · exact h.elim
  | pick c x y =>
    simp only [pureOp] at h ⊢
    split at h
    · rename_i t va vb hc ha hb
      simp only [execOp, hag.eval hc, hag.eval ha, hag.eval hb, asBool, PR.value, hc, ha, hb]
      cases t <;> simp
    · exact h.elim
  | binOp op t x y yt =>
    simp only [pureOp] at h ⊢
    split at h
    · rename_i va vb ha hb
      have := binV_sound (P := P) hT op t x y va vb w h
      simp only [execOp, hag.eval ha, hag.eval hb, ha, hb, Sem.run_bind]
      simp only [Sem.run_bind] at this
      rw [this]; rfl
    · exact h.elim
  | unOp op t x =>
    simp only [pureOp] at h ⊢
    split at h
    · rename_i b hb
      split at h
      · simp [execOp, hag.eval hb, Op.unary, PR.value, hb]
      · exact h.elim
    · rename_i k n hb
      have := intOp_sound (P := P) k n op w h
      simp only [execOp, hag.eval hb, hb, Sem.run_bind, this, Result.andThen]; rfl
    · exact h.elim
  | convert s d x =>
    simp only [pureOp] at h ⊢
    split at h
    · rename_i k n hx
      split at h
      · rename_i k' hd
        cases hk : known (tyAt T s) with
        | false => simp only [hk, cond_false] at h; exact h.elim
        | true =>
          obtain ⟨_, ds, _, _, hu, _, _⟩ := hT.at (known_ne hk)
          simp only [execOp, hag.eval hx, convert, Sem.run_bind, run_underlying hu, run_underlying (hT.int hd), Result.andThen, Conv.intToInt, Sem.run_pure, hx, hd, hk, cond_true]
          rw [wrap_wrI]
      · exact h.elim
    · rename_i b hx
      split at h
      · rename_i hd hs
        simp only [execOp, hag.eval hx, convert, Sem.run_bind, run_underlying (hT.str hs), run_underlying (hT.str hd), Result.andThen, Sem.run_pure, hx, hd, hs, PR.value]
      · exact h.elim
    · exact h.elim
  | extract x i =>
    simp only [pureOp] at h ⊢
    split at h
    · rename_i vs hx
      split at h
      · rename_i v hv
        have hv' : vs[i]? = some v := by simpa using hv
        simp [execOp, hag.eval hx, Instr.extract, hv', hx, PR.value]
      · exact h.elim
    · exact h.elim
  | fieldAddr t x f =>
    simp only [pureOp] at h ⊢
    split at h
    · rename_i b o hx
      split at h
      · rename_i fs hd
        split at h
        · rename_i fo ft hf
          cases hk : (known (tyAt T ft) && Nat.blt 0 (tyAt T ft).size) with
          | false => rw [hk] at h; exact h.elim
          | true =>
            obtain ⟨hk1, hk2⟩ := Bool.and_eq_true_iff.1 hk
            obtain ⟨fl, hu, rfl⟩ := hT.struct hd
            have hsz : (tyAt T ft).size ≠ 0 := by have : 0 < (tyAt T ft).size := Nat.lt_of_lt_of_le Nat.zero_lt_one (Nat.le_of_ble_eq_true hk2); omega
            rw [List.getElem?_map] at hf
            cases hfl : fl.toList[f]? with
            | none => rw [hfl] at hf; cases hf
            | some g =>
              rw [hfl] at hf
              simp only [Option.map_some, Option.some.injEq, Prod.mk.injEq] at hf
              obtain ⟨rfl, rfl⟩ := hf
              have hfl' : fl[f]? = some g := by simpa using hfl
              simp only [execOp, hag.eval hx, Instr.fieldAt, Sem.run_bind, run_underlying hu, Result.andThen, hfl', Instr.sureAddr, Sem.run_pure, fieldPlace, hT.size (known_ne hk1), hsz, if_false, hx, hd, List.getElem?_map, hfl, Option.map_some, hk, cond_true, PR.value]
              rw [Addr.add_lit]
        · exact h.elim
      · exact h.elim
    · exact h.elim
  | field t x f =>
    simp only [pureOp] at h ⊢
    split at h
    · rename_i cs hx
      split at h
      · rename_i fs hd
        split at h
        · rename_i fo ft hf
          cases hk1 : known (tyAt T ft) with
          | false => rw [hk1] at h; exact h.elim
          | true =>
            rw [hk1] at h
            simp only [cond_true] at h
            obtain ⟨fl, hu, rfl⟩ := hT.struct hd
            rw [List.getElem?_map] at hf
            cases hfl : fl.toList[f]? with
            | none => rw [hfl] at hf; cases hf
            | some g =>
              rw [hfl] at hf
              simp only [Option.map_some, Option.some.injEq, Prod.mk.injEq] at hf
              obtain ⟨rfl, rfl⟩ := hf
              have hfl' : fl[f]? = some g := by simpa using hfl
              simp only [execOp, hag.eval hx, Instr.field, Sem.run_bind, run_underlying hu, Result.andThen, hfl', asAgg, Sem.run_pure, run_part hT hk1, hx, hd, List.getElem?_map, hfl, Option.map_some, hk1, cond_true]
              cases hg : (tyAt T g.type).agg with
              | true => simp [PR.value, extract_eq]
              | false =>
                rw [hg] at h
                simp only [cond_false, Bool.false_eq_true, if_false] at h ⊢
                split at h
                · rename_i v hv
                  have hv' : cs[g.offset]? = some v := by simpa using hv
                  simp [hv', PR.value]
                · exact h.elim
        · exact h.elim
      · exact h.elim
    · exact h.elim
  | indexAddr t x i =>
    simp only [pureOp] at h ⊢
    split at h
    · rename_i b len cap k i' hx hi
      split at h
      · rename_i el hd
        cases hk : known (tyAt T el) with
        | false => rw [hk] at h; exact h.elim
        | true =>
          rw [hk] at h
          simp only [cond_true, PR.ok] at h
          obtain ⟨h0, h1, p, rfl, hp⟩ := h
          simp only [execOp, hag.eval hx, hag.eval hi, Instr.indexAt, Sem.run_bind, asIntOf, Sem.run_pure, Result.andThen, run_underlying (hT.slice hd), hx, hi, hd, hk, cond_true, PR.value]
          simp [h0, h1, hT.size (known_ne hk), add_eq_addrAt hp]
      · exact h.elim
    · exact h.elim
  | slice t x lo hi mx =>
    simp only [pureOp] at h ⊢
    cases mx with
    | some m => exact h.elim
    | none =>
      simp only at h ⊢
      split at h
      · rename_i b len cap l' h' hx hl hh
        split at h
        · rename_i el hd
          cases hk : known (tyAt T el) with
          | false => rw [hk] at h; exact h.elim
          | true =>
            rw [hk] at h
            simp only [cond_true, PR.ok] at h
            obtain ⟨l, hh', h1, h2, h3, h4⟩ := h
            have e1 := isNat_eq h1
            have e2 := isNat_eq h2
            simp only [execOp, hag.eval hx, Instr.sliceAt, Sem.run_bind, Option.map_none, run_underlying (hT.slice hd), Result.andThen, Instr.slice, run_sliceBounds hag hl hh len cap l hh' h1 h2 h3 h4, hT.size (known_ne hk), Sem.run_pure, hx, hl, hh, hd, hk, cond_true, PR.value]
            rw [show ((l'.getD 0).toNat) = l from by simpa using e1.symm, show ((h'.getD (len : Int)).toNat) = hh' from e2.symm]
            rfl
        · exact h.elim
      · exact h.elim
  | build t parts =>
    simp only [pureOp] at h ⊢
    split at h
    · rename_i fs ps hd hp
      cases hk : fs.all (fun f => known (tyAt T f.2)) with
      | false => rw [hk] at h; exact h.elim
      | true =>
        rw [hk] at h
        simp only [cond_true] at h
        split at h
        · rename_i cs hcs
          have he : (parts.map fun x => (x.1, a.eval x.2)).toList = ps := by
            rw [Array.toList_map]; exact evp_eq hag hp
          have := run_build (P := P) hT hd hk (ps := parts.map fun x => (x.1, a.eval x.2)) (cs := cs) (by rw [he]; exact hcs) w
          simp only [execOp, Sem.run_bind, this, Result.andThen, Sem.run_pure, hd, hp, hk, cond_true, hcs, PR.value]
        · exact h.elim
    · exact h.elim
  | makeFunc fn first captured =>
    simp only [pureOp] at h ⊢
    split at h
    · rename_i f c hf hc
      have h1 : first.map a.eval = f.toArray := by apply Array.ext'; rw [Array.toList_map]; simpa using evs_eq hag hf
      have h2 : captured.map a.eval = c.toArray := by apply Array.ext'; rw [Array.toList_map]; simpa using evs_eq hag hc
      simp [execOp, Instr.makeFunc, h1, h2, hf, hc, PR.value]
    · exact h.elim
  | makeInterface t x =>
    simp only [pureOp] at h ⊢
    split at h
    · rename_i v hv
      have hne : ∀ d, P.underlying t = some d → tyDOf d = (tyAt T t).d → (tyAt T t).d ≠ .iface → ∀ ms, d ≠ .interface ms := by
        intro d _ h1 h2 ms h3; subst h3; exact h2 h1.symm
      have hk : (tyAt T t).d ≠ .other ∧ (tyAt T t).d ≠ .iface := by
        constructor <;> (intro hh; rw [hh] at h; exact h.elim)
      obtain ⟨i, d, z, _, hu, _, he⟩ := hT.at hk.1
      have hnd := hne d hu (by rw [he]) hk.2
      have hval : (match (tyAt T t).d with | .iface => PR.bad | .other => .bad | _ => .val (.iface t v)) = .val (.iface t v) := by
        split
        · rename_i hh; exact absurd hh hk.2
        · rename_i hh; exact absurd hh hk.1
        · rfl
      rw [hval]
      simp only [execOp, hag.eval hv, Instr.makeInterface, Sem.run_bind, run_underlying hu, Result.andThen, PR.value]
      cases d <;> first | rfl | exact absurd rfl (hnd _)
    · exact h.elim
  | call c =>
    simp only [pureOp] at h ⊢
    split at h
    · rename_i b hb
      split at h
      · rename_i vs hvs
        have h1 : c.args.map a.eval = vs.toArray := by apply Array.ext'; rw [Array.toList_map]; simpa using evs_eq hag hvs
        have := fun cs => pureB_sound (P := P) hT b c.argTypes type cs vs.toArray w (by simpa using h)
        simp only [execOp, resolve, hb, invoke, Sem.run_bind, Sem.run_pure, Result.andThen, h1, hvs]
        exact this _
      · exact h.elim
    · exact h.elim
  | _ => exact h.elim
end
end Go.Tw
/-
  A small calculus of conditions, part D: operations that read, write or make memory, calls; run one by one in the text's order. Helpers; no statement of the program is proved here.
-/
set_option linter.unusedSimpArgs false
set_option linter.unusedVariables false
namespace Go.Tw
open Go Go.RowKit

/-- Nothing that was there has changed; there may be more. -/
abbrev Ext (w w' : World) : Prop := Below w.heap.size w w'
theorem Ext.rfl (w : World) : Ext w w := Below.refl _ _
theorem Ext.trans' {a b c : World} (h : Ext a b) (k : Ext b c) : Ext a c := Below.trans h (Below.mono k h.size)
theorem Ext.cellEq {w w' : World} (h : Ext w w') {p : Addr} {v : Value} (hc : w.cell? p = some v) : w'.cell? p = some v :=
  (Below.cell h (World.block_lt_of_cell? w p hc)).trans hc

/-- A block is new. -/
structure New (w w' : World) (b t : Nat) (cs : List Value) : Prop where
  ext : Ext w w'
  blk : w'.heap[b]? = some (.cells cs.toArray t)
  isNew : b = w.heap.size
  size : w'.heap.size = w.heap.size + 1
theorem New.alloc (w : World) (t : Nat) (cs : Array Value) : New w (w.alloc (.cells cs t)) w.heap.size t cs.toList :=
  ⟨(Below.refl _ _).alloc (Nat.le_refl _) _, heap_alloc_new w _, rfl, by simp⟩

def setFrom (w : World) (p : Addr) (i : Nat) (vs : List Value) : World :=
  match vs with
  | [] => w
  | v :: vs => setFrom (w.setCell (p.add i) v) p (i + 1) vs
def Stored (w w' : World) (p : Addr) (vs : List Value) : Prop := w' = setFrom w p 0 vs

/-- A variable of type t at p reads as v. -/
def LoadAt (T : TT) (w : World) (t : Nat) (p : Addr) (v : Value) : Prop :=
  known (tyAt T t) = true ∧ (bif (tyAt T t).agg then (∃ cs : List Value, v = .agg cs.toArray ∧ cs.length = (tyAt T t).size ∧ ∀ j u, cs[j]? = some u → w.cell? (p.add j) = some u) else w.cell? p = some v)
/-- A variable of type t at p may be written with v. -/
def StoreOk (T : TT) (w : World) (t : Nat) (p : Addr) (v : Value) : Prop :=
  (known (tyAt T t) && Nat.beq v.cells.toList.length (tyAt T t).size && v.cells.toList.all Value.oneCell') = true ∧ ∀ j, j < (tyAt T t).size → (∃ u, w.cell? (p.add j) = some u) ∧ w.frozen? (p.add j) = false

/-- A call, by its number: entered, or a function without a body that the model answers itself. -/
def callRes (P : Program) (K : Value → World → Prop) (r : Result Next) : Prop :=
  match r with
  | .ok (.value v) w' => K v w'
  | .ok (.enter g as) w' => Calls P g as w' fun e w'' => ∃ v, e = .returned v ∧ K v w''
  | _ => False
structure CallS (P : Program) (f : FuncId) (args : Array Value) (w : World) (K : Value → World → Prop) : Prop where
  of ::
  out : callRes P K ((callFunc f args).run P w)
theorem CallS_iff {P : Program} {f : FuncId} {args : Array Value} {w : World} {K : Value → World → Prop} : CallS P f args w K ↔ callRes P K ((callFunc f args).run P w) := ⟨CallS.out, CallS.of⟩

theorem CallS.mono {P : Program} {f : FuncId} {args : Array Value} {w : World} {K K' : Value → World → Prop} (h : CallS P f args w K) (hk : ∀ v w', K v w' → K' v w') : CallS P f args w K' := by
  rw [CallS_iff] at *
  generalize (callFunc f args).run P w = r at *
  cases r with
  | halt x w' => exact h
  | ok n w' =>
    cases n <;> try exact h
    case value v => exact hk _ _ h
    case enter g as => exact Calls.mono h fun e w' ⟨v, he, hv⟩ => ⟨v, he, hk _ _ hv⟩

/-- Whatever else an operation is: as the model runs it. -/
def rawRes (P : Program) (K : Value → World → Prop) (r : Result Next) : Prop :=
  match r with
  | .ok (.value v) w' => K v w'
  | .ok .skip w' => K undef w'
  | .ok (.enter g as) w' => Calls P g as w' fun e w'' => ∃ v, e = .returned v ∧ K v w''
  | .ok (.row row as) w' => Rows P row as w' fun v w'' => K v w''
  | _ => False
def rawVC (P : Program) (o : Oper) (e : Env) (w : World) (K : Value → World → Prop) : Prop :=
  ∀ r : Operand → Value, (∀ x v, ev e x = some v → r x = v) → rawRes P K ((execOp r o).run P w)

/-- The row behind an append: the same, or a new one. -/
def rowNew (w : World) (s v : Value) : Prop := v.ownBlock = s.ownBlock ∨ ∀ g, v.ownBlock = some g → w.heap.size ≤ g
/-- append of x to s, s of the call's own. -/
def appVC (T : TT) (w : World) (t u : Nat) (s : Value) (x : Value) (K : Value → World → Prop) : Prop :=
  match (tyAt T t).d, (tyAt T u).d, x with
  | .slice el, .slice _, .slice a m _ =>
    (known (tyAt T el) && Nat.blt 0 (tyAt T el).size && Nat.beq (tyAt T el).zero.length (tyAt T el).size) = true ∧
    ∃ (base n : Nat) (xs news : List Value), (w.ownsRow base el (tyAt T el).size s n xs ∧ news.length = m * (tyAt T el).size ∧ (∀ j v, news[j]? = some v → w.cell? (addrAt a j) = some v) ∧ (∀ v ∈ news, v.oneCell' = true) ∧
      (0 < m → okB a) ∧ (n + m) ≤ 9223372036854775807 ∧ (n + m) * (tyAt T el).bytes ≤ 140737488355328 ∧ base ≤ w.heap.size) ∧
      ∀ v' w', w'.ownsRow base el (tyAt T el).size v' (n + m) (xs ++ news) → w.grownBy w' s.ownBlock → rowNew w s v' → K v' w'
  | _, _, _ => False

def opVC (P : Program) (T : TT) (o : Oper) (e : Env) (w : World) (K : Value → World → Prop) : Prop :=
  match o.op with
  | .load t x =>
    match ev e x with
    | some (.pointer (some p)) => ∃ v, LoadAt T w t p v ∧ K v w
    | _ => False
  | .store t x y =>
    match ev e x, ev e y with
    | some (.pointer (some p)), some v => StoreOk T w t p v ∧ ∀ w', Stored w w' p v.cells.toList → K undef w'
    | _, _ => False
  | .alloc t => bif known (tyAt T t) then ∀ b w', New w w' b t (tyAt T t).zero → K (.pointer (some ⟨b, 0, none⟩)) w' else False
  | .box t x =>
    match ev e x with
    | some v => ∀ b w', New w w' b t v.cells.toList → K (.pointer (some ⟨b, 0, none⟩)) w'
    | none => False
  | .buildSlice t n parts =>
    match (tyAt T t).d, evp e parts.toList with
    | .slice el, some ps =>
      bif known (tyAt T el) && Nat.blt 0 (tyAt T el).size && Nat.beq (tyAt T el).zero.length (tyAt T el).size && Nat.ble (n * (tyAt T el).size) 16777216 then
        (match fillL (fun i => some (i * (tyAt T el).size, (tyAt T el).size)) (rep n (tyAt T el).zero) ps with
        | some cs => ∀ b w', New w w' b el cs → K (.slice (some ⟨b, 0, none⟩) n n) w'
        | none => False)
      else False
    | _, _ => False
  | .makeSlice t l c =>
    match (tyAt T t).d, ev e l, ev e c with
    | .slice el, some (.int _ l), some (.int _ c) =>
      bif known (tyAt T el) && Nat.blt 0 (tyAt T el).size && Nat.beq (tyAt T el).zero.length (tyAt T el).size then
        (∃ n k : Nat, (l = (n : Int) ∧ c = (k : Int) ∧ n ≤ k ∧ k * (tyAt T el).bytes ≤ 281474976710656 ∧ k ≤ 9223372036854775807) ∧ ∀ b w', New w w' b el (rep k (tyAt T el).zero) → K (.slice (some ⟨b, 0, none⟩) n k) w')
      else False
    | _, _, _ => False
  | .call c =>
    match c.callee with
    | .value f =>
      match ev e f, evs e c.args.toList with
      | some (.func (.func g) first caps), some vs => CallS P g ((first.toList ++ vs ++ caps.toList).toArray) w K
      | _, _ => False
    | .builtin .append =>
      match c.argTypes.toList, evs e c.args.toList with
      | [t, u], some [s, x] => appVC T w t u s x K
      | _, _ => False
    | .builtin .copy => rawVC P o e w K
    | .builtin .clear => rawVC P o e w K
    | .builtin .delete => rawVC P o e w K
    | .builtin _ => (pureOp T o.op e).vc fun v => K v w
    | .invoke _ _ => rawVC P o e w K
  | .convert _ _ x =>
    match ev e x with
    | some (.slice _ _ _) => rawVC P o e w K
    | _ => (pureOp T o.op e).vc fun v => K v w
  | .makeMap _ _ | .lookup _ _ _ _ | .mapUpdate _ _ _ _ | .insert _ _ _ _ | .range _ _ | .next _ _ | .entry _ | .typeAssert _ _ _ _ | .panic _ | .nilCheck _ | .mapEntry _ _ _ | .entryStore _ _ _ _ | .index _ _ _ | .defer _ => rawVC P o e w K
  | _ => (pureOp T o.op e).vc fun v => K v w

section
variable {P : Program} {T : TT}

theorem run_loadVar (hT : TOk P T) {w : World} {t : Nat} {p : Addr} {v : Value} (h : LoadAt T w t p v) : (loadVar t p).run P w = .ok v w := by
  obtain ⟨hk, h⟩ := h
  simp only [loadVar, Sem.run_bind, hT.isAgg (known_ne hk), Result.andThen]
  cases hg : (tyAt T t).agg with
  | true =>
    rw [hg] at h
    obtain ⟨cs, rfl, hl, hc⟩ := h
    simp only [if_true, Sem.run_bind, hT.size (known_ne hk), Result.andThen, ← hl, run_loadCells_list w p cs hc, Sem.run_pure]
  | false =>
    rw [hg] at h
    simp only [cond_false] at h
    simp [h]

theorem cell?_setCell_isSome {w : World} {p q : Addr} {v u : Value} (h : w.cell? q = some u) : ∃ u', (w.setCell p v).cell? q = some u' := by
  by_cases hpq : p = q
  · subst hpq; exact ⟨v, World.cell?_setCell_same w p v h⟩
  · exact ⟨u, by rw [World.cell?_setCell_other w p q v hpq]; exact h⟩

theorem run_storeFrom (p : Addr) : ∀ (vs : List Value) (i : Nat) (w : World), vs.all Value.oneCell' = true → (∀ j, j < vs.length → (∃ u, w.cell? (p.add (i + j)) = some u) ∧ w.frozen? (p.add (i + j)) = false) →
    (storeCells p vs i).run P w = .ok () (setFrom w p i vs)
  | [], i, w, _, _ => by simp [storeCells, setFrom]
  | v :: vs, i, w, h1, h2 => by
    simp only [List.all_cons, Bool.and_eq_true] at h1
    obtain ⟨⟨u, hu⟩, hf⟩ := h2 0 (by simp)
    simp only [Nat.add_zero] at hu hf
    have ih := run_storeFrom p vs (i + 1) (w.setCell (p.add i) v) h1.2 (fun j hj => by
      obtain ⟨⟨u', hu'⟩, hf'⟩ := h2 (j + 1) (by simp; omega)
      rw [show i + 1 + j = i + (j + 1) from by omega]
      exact ⟨cell?_setCell_isSome hu', by simpa using hf'⟩)
    simp only [storeCells, Sem.run_bind, run_store P w _ v _ h1.1, hu, hf, Bool.false_eq_true, if_false, Result.andThen, ih, setFrom]

theorem run_storeVar (hT : TOk P T) {w : World} {t : Nat} {p : Addr} {v : Value} (h : StoreOk T w t p v) : (storeVar t p v).run P w = .ok () (setFrom w p 0 v.cells.toList) := by
  obtain ⟨h1, h2⟩ := h
  simp only [Bool.and_eq_true] at h1
  obtain ⟨⟨hk, hb⟩, ho⟩ := h1
  have hl := Nat.eq_of_beq_eq_true hb
  simp only [Array.length_toList] at hl
  have := run_storeFrom (P := P) p v.cells.toList 0 w ho (fun j hj => by simpa using h2 j (by simpa [hl] using hj))
  simp only [storeVar, Sem.run_bind, hT.size (known_ne hk), Result.andThen, hl, ne_eq, not_true_eq_false, if_false, this]

theorem run_append_types {t u e e' ty : Nat} (ht : P.underlying t = some (.slice e)) (hu : P.underlying u = some (.slice e')) (args : Array Value) (w : World) :
    (Builtin.append_ #[t, u] ty args).run P w = (Builtin.append_ #[t, t] ty args).run P w := by
  unfold Builtin.append_
  cases args[0]? with
  | none => rfl
  | some s =>
    cases args[1]? with
    | none => rfl
    | some x =>
      simp only [Sem.run_bind, run_underlying ht, Result.andThen, List.getElem?_toArray, List.getElem?_cons_zero, List.getElem?_cons_succ]
      cases s <;> first | rfl | skip
      simp only [Sem.run_bind, run_underlying ht, run_underlying hu, Result.andThen, Sem.run_pure]

theorem run_append_zero {t e ty : Nat} {i : TypeInfo} (ht : P.underlying t = some (.slice e)) (hi : P.info? e = some i) (b a : Option Addr) (n c c' : Nat) (hnc : n ≤ c) (w : World) :
    (Builtin.append_ #[t, t] ty #[.slice b n c, .slice a 0 c']).run P w = .ok (.slice b n c) w := by
  cases a <;> cases b <;> simp [Builtin.append_, run_underlying ht, sizeOf, typeInfo, hi, Builtin.lenOf, Builtin.firstCells, loadCells, loadCellsFrom, hnc, storeCells]

theorem run_append_new (w : World) (base : Nat) (t ty e : TypeId) (i : TypeInfo) (z : Value) (size bytes : Nat) (ht : P.underlying t = some (.slice e)) (hi : P.info? e = some i) (hz : i.zero = some z)
    (hsize : i.size = size) (hby : i.bytes = bytes) (hzs : z.cells.size = size) (hsz : 0 < size)
    (v : Value) (n : Nat) (xs : List Value) (hown : w.ownsRow base e size v n xs)
    (a : Addr) (m c : Nat) (news : List Value) (hl : news.length = m * size) (hnews : ∀ j u, news[j]? = some u → w.cell? (a.add j) = some u) (h1 : ∀ u ∈ news, u.oneCell' = true)
    (h63 : n + m ≤ 9223372036854775807) (hbytes : (n + m) * bytes ≤ 140737488355328) (hm : m ≠ 0) (v' : Value) (w' : World) (hr : (Builtin.append_ #[t, t] ty #[v, .slice (some a) m c]).run P w = .ok v' w') : rowNew w v v' := by
  subst hsize
  subst hby
  rcases hown.2 with ⟨rfl, rfl⟩ | ⟨g, cap, cur, rfl, hbg, hg, hnc, hcm, hcs, htake⟩
  · right
    have hr2 := run_append_nil (P := P) w t ty e i z ht hi hz a m c news hl hnews (by omega) (by omega) (by rw [Nat.zero_add] at hbytes; exact Nat.le_trans hbytes (by omega))
    rw [hr2] at hr
    simp only [Result.ok.injEq] at hr
    intro g hg
    rw [← hr.1] at hg
    simp only [Value.ownBlock, Option.some.injEq] at hg
    omega
  · by_cases hroom : n + m ≤ cap
    · left
      have hfit : n * i.size + news.length ≤ cur.size := by rw [hl, hcs, ← Nat.add_mul]; exact Nat.mul_le_mul_right _ hroom
      have hr2 := run_append_room (P := P) w t ty e i ht hi g n cap cur hg a m c news hl hnews h1 hroom hfit
      rw [hr2] at hr
      simp only [Result.ok.injEq] at hr
      rw [← hr.1]
      rfl
    · right
      have holds : ∀ j u, xs[j]? = some u → w.cell? ((⟨g, 0, none⟩ : Addr).add j) = some u := hown.cells (g := g) rfl
      have hr2 := run_append_grow (P := P) w t ty e i z ht hi hz ⟨g, 0, none⟩ n cap xs hown.1 holds a m c news hl hnews (by omega) (by omega) (growslice_fits (by omega) hbytes)
      rw [hr2] at hr
      simp only [Result.ok.injEq] at hr
      intro g' hg'
      rw [← hr.1] at hg'
      simp only [Value.ownBlock, Option.some.injEq] at hg'
      omega

theorem upon_call {f : FuncId} {args : Array Value} {w : World} {K : Value → World → Prop} (h : CallS P f args w K) (o : Oper) (a : Act) (Q : Exit → Act → World → Prop) :
    o.upon P a (fun a' w' => ∃ v, a' = a.put o.dst v ∧ K v w') Q ((callFunc f args).run P w) := by
  replace h := h.out
  unfold callRes at h
  generalize (callFunc f args).run P w = r at h
  cases r with
  | halt x w' => exact h.elim
  | ok n w' =>
    cases n <;> try exact h.elim
    case value v => exact ⟨v, rfl, h⟩
    case enter g as =>
      refine Calls.mono h ?_
      rintro e w'' ⟨v, rfl, hv⟩
      exact ⟨v, rfl, hv⟩

theorem raw_upon {o : Oper} {e : Env} {w : World} {K : Value → World → Prop} (h : rawVC P o e w K) {a : Act} (hag : Agrees a e) (Q : Exit → Act → World → Prop) :
    o.upon P a (fun a' w' => ∃ v, a' = a.put o.dst v ∧ K v w') Q ((execOp a.eval o).run P w) := by
  have h' := h a.eval (fun x v hx => hag.eval hx)
  unfold rawRes at h'
  generalize (execOp a.eval o).run P w = r at h'
  cases r with
  | halt x w' => exact h'.elim
  | ok n w' =>
    cases n <;> try exact h'.elim
    case value v => exact ⟨v, rfl, h'⟩
    case skip => exact ⟨undef, rfl, h'⟩
    case enter g as =>
      refine Calls.mono h' ?_
      rintro e w'' ⟨v, rfl, hv⟩
      exact ⟨v, rfl, hv⟩
    case row row as => exact Rows.mono h' fun v w'' hv => ⟨v, rfl, hv⟩

theorem ownsRow_le {w : World} {base e size n : Nat} {a : Option Addr} {l c : Nat} {xs : List Value} (h : w.ownsRow base e size (.slice a l c) n xs) : n ≤ c ∧ l = n := by
  rcases h.2 with ⟨he, hn⟩ | ⟨g, cap, cur, he, _, _, hnc, _⟩
  · simp only [Value.slice.injEq] at he; omega
  · simp only [Value.slice.injEq] at he; omega

theorem opVC_sound (hT : TOk P T) (o : Oper) {e : Env} {w : World} {K : Value → World → Prop} {a : Act} (hag : Agrees a e) (h : opVC P T o e w K) :
    o.upon P a (fun a' w' => ∃ v, a' = a.put o.dst v ∧ K v w') (fun _ _ _ => False) ((execOp a.eval o).run P w) := by
  have pure : (pureOp T o.op e).vc (fun v => K v w) → o.upon P a (fun a' w' => ∃ v, a' = a.put o.dst v ∧ K v w') (fun _ _ _ => False) ((execOp a.eval o).run P w) := by
    intro hp
    obtain ⟨h1, h2⟩ := (PR.vc_iff _ _).1 hp
    rw [pureOp_sound hT o hag h1 w]
    exact ⟨_, rfl, h2⟩
  obtain ⟨dst, op, type, pos, after, guard⟩ := o
  cases op with
  | load t x =>
    simp only [opVC] at h
    split at h
    · rename_i p hx
      obtain ⟨v, hl, hk⟩ := h
      simp only [execOp, hag.eval hx, Instr.loadAt, Instr.sureAddr, Sem.run_bind, Sem.run_pure, Result.andThen, run_loadVar hT hl]
      exact ⟨v, rfl, hk⟩
    · exact h.elim
  | store t x y =>
    simp only [opVC] at h
    split at h
    · rename_i p v hx hy
      obtain ⟨hs, hk⟩ := h
      simp only [execOp, hag.eval hx, hag.eval hy, Instr.storeAt, Instr.sureAddr, Sem.run_bind, Sem.run_pure, Result.andThen, run_storeVar hT hs]
      exact ⟨undef, rfl, hk _ rfl⟩
    · exact h.elim
  | alloc t =>
    simp only [opVC] at h
    cases hk : known (tyAt T t) with
    | false => rw [hk] at h; exact h.elim
    | true =>
      rw [hk] at h
      obtain ⟨z, hz, hzl⟩ := hT.zero (known_ne hk) w
      simp only [execOp, Instr.alloc, Sem.run_bind, hz, Result.andThen, newVar, newRow, run_newObj, Sem.run_pure, World.alloc_eq]
      exact ⟨_, rfl, h _ _ (hzl ▸ New.alloc w t z.cells)⟩
  | box t x =>
    simp only [opVC] at h
    split at h
    · rename_i v hx
      simp only [execOp, hag.eval hx, Instr.box, Sem.run_bind, Result.andThen, newVar, newRow, run_newObj, Sem.run_pure, World.alloc_eq]
      exact ⟨_, rfl, h _ _ (New.alloc w t v.cells)⟩
    · exact h.elim
  | buildSlice t n parts =>
    simp only [opVC] at h
    split at h
    · rename_i el ps hd hp
      cases hb : (known (tyAt T el) && Nat.blt 0 (tyAt T el).size && Nat.beq (tyAt T el).zero.length (tyAt T el).size && Nat.ble (n * (tyAt T el).size) 16777216) with
      | false => rw [hb] at h; exact h.elim
      | true =>
        rw [hb] at h
        simp only [Bool.and_eq_true] at hb
        obtain ⟨⟨⟨hk, h0⟩, hz0⟩, h24⟩ := hb
        have hz0 := Nat.eq_of_beq_eq_true hz0
        have h24 := Nat.le_of_ble_eq_true h24
        have h0 : 0 < (tyAt T el).size := Nat.lt_of_lt_of_le Nat.zero_lt_one (Nat.le_of_ble_eq_true h0)
        simp only [cond_true] at h
        split at h
        · rename_i cs hcs
          obtain ⟨z, hz, hzl⟩ := hT.zero (known_ne hk) w
          have hzs : z.cells.size = (tyAt T el).size := by rw [← Array.length_toList, hzl, hz0]
          have he : (parts.map fun x => (x.1, a.eval x.2)).toList = ps := by
            rw [Array.toList_map]; exact evp_eq hag hp
          have hrr := rep_range n z.cells (by rw [hzs]; exact h0)
          rw [hzs, hzl] at hrr
          have hfe := fillL_eq (fun i => some (i * (tyAt T el).size, (tyAt T el).size)) ps (rep n (tyAt T el).zero).toArray cs (by simpa using hcs)
          have hnot : ¬ (n * (tyAt T el).size > 2 ^ 24) := by omega
          have hg : (Instr.buildSlice t n (parts.map fun x => (x.1, a.eval x.2))).run P w = .ok (.slice (some ⟨w.heap.size, 0, none⟩) n n) (w.alloc (.cells cs.toArray el)) := by
            by_cases hz' : n * (tyAt T el).size = 0
            · have hn0 : n = 0 := by
                rcases Nat.mul_eq_zero.1 hz' with h | h
                · exact h
                · omega
              subst hn0
              simp only [rep] at hfe
              have he2 : parts.toList.map (fun x => (x.1, a.eval x.2)) = ps := evp_eq hag hp
              simp [Instr.buildSlice, run_underlying (hT.slice hd), hT.size (known_ne hk), Result.andThen, Array.range_zero', he2, hfe, newRow]
            · simp only [Instr.buildSlice, Sem.run_bind, run_underlying (hT.slice hd), Result.andThen, hT.size (known_ne hk), hnot, if_false, hz', hz, Sem.run_pure, hrr, he, hfe, newRow, run_newObj, World.alloc_eq, hzs]
          simp only [execOp, Sem.run_bind, hg, Result.andThen, Sem.run_pure]
          exact ⟨_, rfl, h _ _ (New.alloc w el cs.toArray)⟩
        · exact h.elim
    · exact h.elim
  | makeSlice t l c =>
    simp only [opVC] at h
    split at h
    · rename_i el kl l' kc c' hd hl hc
      cases hb : (known (tyAt T el) && Nat.blt 0 (tyAt T el).size && Nat.beq (tyAt T el).zero.length (tyAt T el).size) with
      | false => rw [hb] at h; exact h.elim
      | true =>
        rw [hb] at h
        simp only [Bool.and_eq_true] at hb
        obtain ⟨⟨hk, h0⟩, hz0⟩ := hb
        have hz0 := Nat.eq_of_beq_eq_true hz0
        have h0 : 0 < (tyAt T el).size := Nat.lt_of_lt_of_le Nat.zero_lt_one (Nat.le_of_ble_eq_true h0)
        obtain ⟨n, k, ⟨rfl, rfl, hnk, hby, h63⟩, hK⟩ := h
        obtain ⟨i, d, z, hi, _, hz, he⟩ := hT.at (known_ne hk)
        have hsz : i.size = (tyAt T el).size := by rw [he]
        have hbb : i.bytes = (tyAt T el).bytes := by rw [he]
        have hzl : z.cells.toList = (tyAt T el).zero := by rw [he]
        have hzs : z.cells.size = (tyAt T el).size := by rw [← Array.length_toList, hzl, hz0]
        have hr := run_make (P := P) w t el i z (hT.slice hd) hi hz kl kc n k (by omega) (by omega) (by
          have h3 : ((k * (tyAt T el).bytes : Nat) : Int) ≤ 281474976710656 := by omega
          rw [Int.natCast_mul] at h3
          rw [hbb, Int.mul_comm]; exact h3) (by omega)
        have hrr := rep_range k z.cells (by rw [hzs]; exact h0)
        simp only [execOp, hag.eval hl, hag.eval hc, Sem.run_bind, hr, Result.andThen, Sem.run_pure]
        have hm : madeCells z.cells (((k : Int)).toNat * i.size) = (rep k (tyAt T el).zero).toArray := by
          unfold madeCells
          rw [← hzl, ← hrr, hsz, ← hzs]; rfl
        rw [hm]
        exact ⟨_, rfl, hK _ _ (New.alloc w el (rep k (tyAt T el).zero).toArray)⟩
    · exact h.elim
  | call c =>
    simp only [opVC] at h
    split at h
    · rename_i f hf
      split at h
      · rename_i g first caps vs hfv hvs
        have h1 : c.args.map a.eval = vs.toArray := by apply Array.ext'; rw [Array.toList_map]; simpa using evs_eq hag hvs
        have hx : (execOp a.eval ⟨dst, .call c, type, pos, after, guard⟩).run P w = (callFunc g ((first.toList ++ vs ++ caps.toList).toArray)).run P w := by
          simp only [execOp, resolve, hf, Sem.run_bind, hag.eval hfv, Deferred.ofValue, Sem.run_pure, Result.andThen, invoke, h1]
          congr 2
          apply Array.ext'; simp
        rw [hx]
        exact upon_call h _ a _
      · exact h.elim
    · rename_i hf
      split at h
      · rename_i t u s x hts hvs
        have h1 : c.args.map a.eval = #[s, x] := by apply Array.ext'; rw [Array.toList_map]; simpa using evs_eq hag hvs
        have ht : c.argTypes = #[t, u] := toList_eq2 hts
        unfold appVC at h
        split at h
        · rename_i el el' ax m cx hdt hdu
          obtain ⟨hb, base, n, xs, news, ⟨hown, hnl, hnews, hone, hok, h63, hbytes, hbase⟩, hK⟩ := h
          simp only [Bool.and_eq_true] at hb
          obtain ⟨⟨hk, h0⟩, hz0⟩ := hb
          have hz0 := Nat.eq_of_beq_eq_true hz0
          have h0 : 0 < (tyAt T el).size := Nat.lt_of_lt_of_le Nat.zero_lt_one (Nat.le_of_ble_eq_true h0)
          obtain ⟨i, d, z, hi, _, hz, he⟩ := hT.at (known_ne hk)
          have hsz : i.size = (tyAt T el).size := by rw [he]
          have hbb : i.bytes = (tyAt T el).bytes := by rw [he]
          have hzl : z.cells.toList = (tyAt T el).zero := by rw [he]
          have hzs : z.cells.size = (tyAt T el).size := by rw [← Array.length_toList, hzl, hz0]
          have hx : (execOp a.eval ⟨dst, .call c, type, pos, after, guard⟩).run P w = ((Builtin.append_ #[t, t] type #[s, .slice ax m cx]).run P w).andThen fun v w' => .ok (.value v) w' := by
            simp only [execOp, resolve, hf, Sem.run_bind, Sem.run_pure, Result.andThen, invoke, h1, builtin, ht, run_append_types (hT.slice hdt) (hT.slice hdu)]
          rw [hx]
          by_cases hm : m = 0
          · subst hm
            have hn0 : news = [] := List.eq_nil_of_length_eq_zero (by simpa using hnl)
            subst hn0
            have hsl : ∃ b l k, s = .slice b l k := by
              rcases hown.2 with ⟨rfl, _⟩ | ⟨g, cap, cur, rfl, _⟩
              · exact ⟨_, _, _, rfl⟩
              · exact ⟨_, _, _, rfl⟩
            obtain ⟨b, l, k, rfl⟩ := hsl
            obtain ⟨hle, rfl⟩ := ownsRow_le hown
            rw [run_append_zero (hT.slice hdt) hi b ax l k cx hle w]
            refine ⟨_, rfl, hK _ _ (by simpa using hown) ⟨rfl, rfl, rfl, Nat.le_refl _, fun _ _ _ => rfl⟩ (.inl rfl)⟩
          · obtain ⟨p, rfl, hp⟩ := hok (by omega)
            obtain ⟨v', w', hr, hown', hg, _⟩ := run_append_own (P := P) w base t type el i z (tyAt T el).size (tyAt T el).bytes (hT.slice hdt) hi hz hsz hbb hzs h0 s n xs hown p m cx news hnl
              (fun j v hj => by rw [add_eq_addrAt hp]; exact hnews j v hj) hone h63 hbytes hbase
            have hnew := run_append_new (P := P) w base t type el i z (tyAt T el).size (tyAt T el).bytes (hT.slice hdt) hi hz hsz hbb hzs h0 s n xs hown p m cx news hnl
              (fun j v hj => by rw [add_eq_addrAt hp]; exact hnews j v hj) hone h63 hbytes hm v' w' hr
            rw [hr]
            exact ⟨_, rfl, hK _ _ hown' hg hnew⟩
        · exact h.elim
      · exact h.elim
    · exact raw_upon h hag _
    · exact raw_upon h hag _
    · exact raw_upon h hag _
    · exact pure h
    · exact raw_upon h hag _
  | convert s d x =>
    simp only [opVC] at h
    split at h
    · exact raw_upon h hag _
    · exact pure h
  | makeMap _ _ => exact raw_upon h hag _
  | lookup _ _ _ _ => exact raw_upon h hag _
  | mapUpdate _ _ _ _ => exact raw_upon h hag _
  | insert _ _ _ _ => exact raw_upon h hag _
  | range _ _ => exact raw_upon h hag _
  | next _ _ => exact raw_upon h hag _
  | entry _ => exact raw_upon h hag _
  | typeAssert _ _ _ _ => exact raw_upon h hag _
  | panic _ => exact raw_upon h hag _
  | nilCheck _ => exact raw_upon h hag _
  | mapEntry _ _ _ => exact raw_upon h hag _
  | entryStore _ _ _ _ => exact raw_upon h hag _
  | index _ _ _ => exact raw_upon h hag _
  | «defer» _ => exact raw_upon h hag _
  | _ => exact pure h

end
end Go.Tw
