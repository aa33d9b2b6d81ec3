/-
  No cell of these rows narrows 'for every input' (looked for: loops, veiled, ifaces, maps, wideKeys, modest, calm, conditions, laid).
  DERIVED. THE GIVEN ROWS OF THIS SEAT. 9 by the template 'for every input the law returns true; each argument reads behind the call as it read before'; 0 by the template 'total and deterministic' (their statements: YtlfdobjdlgebbaaTotals.lean).
  GIVEN WITH THE SEED: the statements are not yours to turn. If you find one false, say at which input.
  Laid BY PROGRAM, IN A SANDBOX (cutbox-rows.mjs): the forced cells as the released guide's own fill.sh prints them over the translation ee4add34668d590b… (all of the seat's roots in one cut). By AI agents, Wed Nov 11 2026. No macro, syntax, notation, axiom, sorry.
-/
import Derived.Test.YtlfdobjdlgebbaaChecked
import GoSem.Claim
import GoSem.ClaimJoined
import GoSem.ClaimMapViews
import Derived.JoinedTies
import Derived.KernelRfl
namespace Go.Proofs.Ytlfdobjdlgebbaa
/- THE CELL 'sum', in the pinned program and in every row, IS THE sha256 OF THE DUMP (.gsa) THAT YtlfdobjdlgebbaaProg.lean LOADS. Nothing in Lean hashes anything: it is a label: what it is worth is what the hold of that sum in a sandbox is worth. -/
noncomputable def Try.pinned : Pinned := { name := "ytlfdobjdlgebbaa", sum := "ee4add34668d590b92af8d9efbbe3c9fe34554a49d0d2831e9a192a1f84f1fa6", checked := Try.checked }
namespace Rows
def none {H : Type} : Left H := { results := [], args := [] }

/-- 'tripwirelaw15.ProgramLimits': WHATEVER THE INPUT: true; the input reads as it did. -/
def programLimitsSpec : ChangeSpec := { name := "programLimits", fn := fun _ => fun
  | [d1, d2] => { results := [.lit (.bool true)], args := [d1, d2] }
  | _ => none }
def programLimitsRow : OpenClaim := { program := "ytlfdobjdlgebbaa", sum := "ee4add34668d590b92af8d9efbbe3c9fe34554a49d0d2831e9a192a1f84f1fa6", func := "tripwire/tripwirelaw15.ProgramLimits", spec := "programLimits", inPlace := ["math/bits.Add64", "math/bits.Sub64"], unfollowed := true, recurses := true, named := ["math/bits.divideError", "math/bits.overflowError"], apart := false }
def ProgramLimitsSaid : Prop := programLimitsRow.holds Try.pinned (OpenSpec.ofChange programLimitsSpec)

/-- ITS FALSE NEIGHBOUR: 'it returns false'. Refute it at one input. -/
def programLimitsWrong : ChangeSpec := { name := "programLimits", fn := fun _ => fun
  | [d1, d2] => { results := [.lit (.bool false)], args := [d1, d2] }
  | _ => none }
def ProgramLimitsWrongFalsely : Prop := programLimitsRow.holds Try.pinned (OpenSpec.ofChange programLimitsWrong)

/-- 'tripwirelaw05.SparseSpace': WHATEVER THE INPUT: true; the input reads as it did. -/
def sparseSpaceSpec : ChangeSpec := { name := "sparseSpace", fn := fun _ => fun
  | [d1, d2, d3, d4, d5, d6] => { results := [.lit (.bool true)], args := [d1, d2, d3, d4, d5, d6] }
  | _ => none }
def sparseSpaceRow : OpenClaim := { program := "ytlfdobjdlgebbaa", sum := "ee4add34668d590b92af8d9efbbe3c9fe34554a49d0d2831e9a192a1f84f1fa6", func := "tripwire/tripwirelaw05.SparseSpace", spec := "sparseSpace", inPlace := ["math/bits.Add64", "math/bits.Sub64"], unfollowed := true, recurses := true, named := ["math/bits.divideError", "math/bits.overflowError"], apart := false }
def SparseSpaceSaid : Prop := sparseSpaceRow.holds Try.pinned (OpenSpec.ofChange sparseSpaceSpec)

/-- ITS FALSE NEIGHBOUR: 'it returns false'. Refute it at one input. -/
def sparseSpaceWrong : ChangeSpec := { name := "sparseSpace", fn := fun _ => fun
  | [d1, d2, d3, d4, d5, d6] => { results := [.lit (.bool false)], args := [d1, d2, d3, d4, d5, d6] }
  | _ => none }
def SparseSpaceWrongFalsely : Prop := sparseSpaceRow.holds Try.pinned (OpenSpec.ofChange sparseSpaceWrong)

/-- 'tripwirelaw06.MatrixOrders': WHATEVER THE INPUT: true; the input reads as it did. -/
def matrixOrdersSpec : ChangeSpec := { name := "matrixOrders", fn := fun _ => fun
  | [d1, d2, d3] => { results := [.lit (.bool true)], args := [d1, d2, d3] }
  | _ => none }
def matrixOrdersRow : OpenClaim := { program := "ytlfdobjdlgebbaa", sum := "ee4add34668d590b92af8d9efbbe3c9fe34554a49d0d2831e9a192a1f84f1fa6", func := "tripwire/tripwirelaw06.MatrixOrders", spec := "matrixOrders", inPlace := ["math/bits.Add64", "math/bits.Sub64"], unfollowed := true, recurses := true, named := ["math/bits.divideError", "math/bits.overflowError"], apart := false }
def MatrixOrdersSaid : Prop := matrixOrdersRow.holds Try.pinned (OpenSpec.ofChange matrixOrdersSpec)

/-- ITS FALSE NEIGHBOUR: 'it returns false'. Refute it at one input. -/
def matrixOrdersWrong : ChangeSpec := { name := "matrixOrders", fn := fun _ => fun
  | [d1, d2, d3] => { results := [.lit (.bool false)], args := [d1, d2, d3] }
  | _ => none }
def MatrixOrdersWrongFalsely : Prop := matrixOrdersRow.holds Try.pinned (OpenSpec.ofChange matrixOrdersWrong)

/-- 'tripwirelaw06.MatrixNumbers': WHATEVER THE INPUT: true; the input reads as it did. -/
def matrixNumbersSpec : ChangeSpec := { name := "matrixNumbers", fn := fun _ => fun
  | [] => { results := [.lit (.bool true)], args := [] }
  | _ => none }
def matrixNumbersRow : OpenClaim := { program := "ytlfdobjdlgebbaa", sum := "ee4add34668d590b92af8d9efbbe3c9fe34554a49d0d2831e9a192a1f84f1fa6", func := "tripwire/tripwirelaw06.MatrixNumbers", spec := "matrixNumbers", inPlace := ["math/bits.Add64", "math/bits.Sub64"], unfollowed := true, recurses := true, named := ["math/bits.divideError", "math/bits.overflowError"], apart := false }
def MatrixNumbersSaid : Prop := matrixNumbersRow.holds Try.pinned (OpenSpec.ofChange matrixNumbersSpec)

/-- ITS FALSE NEIGHBOUR: 'it returns false'. Refute it at one input. -/
def matrixNumbersWrong : ChangeSpec := { name := "matrixNumbers", fn := fun _ => fun
  | [] => { results := [.lit (.bool false)], args := [] }
  | _ => none }
def MatrixNumbersWrongFalsely : Prop := matrixNumbersRow.holds Try.pinned (OpenSpec.ofChange matrixNumbersWrong)

/-- 'tripwirelaw06.MatrixBoth': WHATEVER THE INPUT: true; the input reads as it did. -/
def matrixBothSpec : ChangeSpec := { name := "matrixBoth", fn := fun _ => fun
  | [d1, d2, d3, d4, d5, d6] => { results := [.lit (.bool true)], args := [d1, d2, d3, d4, d5, d6] }
  | _ => none }
def matrixBothRow : OpenClaim := { program := "ytlfdobjdlgebbaa", sum := "ee4add34668d590b92af8d9efbbe3c9fe34554a49d0d2831e9a192a1f84f1fa6", func := "tripwire/tripwirelaw06.MatrixBoth", spec := "matrixBoth", inPlace := ["math/bits.Add64", "math/bits.Sub64"], unfollowed := true, recurses := true, named := ["math/bits.divideError", "math/bits.overflowError"], apart := false }
def MatrixBothSaid : Prop := matrixBothRow.holds Try.pinned (OpenSpec.ofChange matrixBothSpec)

/-- ITS FALSE NEIGHBOUR: 'it returns false'. Refute it at one input. -/
def matrixBothWrong : ChangeSpec := { name := "matrixBoth", fn := fun _ => fun
  | [d1, d2, d3, d4, d5, d6] => { results := [.lit (.bool false)], args := [d1, d2, d3, d4, d5, d6] }
  | _ => none }
def MatrixBothWrongFalsely : Prop := matrixBothRow.holds Try.pinned (OpenSpec.ofChange matrixBothWrong)

/-- 'tripwirelaw05.SparseNumbers': WHATEVER THE INPUT: true; the input reads as it did. -/
def sparseNumbersSpec : ChangeSpec := { name := "sparseNumbers", fn := fun _ => fun
  | [] => { results := [.lit (.bool true)], args := [] }
  | _ => none }
def sparseNumbersRow : OpenClaim := { program := "ytlfdobjdlgebbaa", sum := "ee4add34668d590b92af8d9efbbe3c9fe34554a49d0d2831e9a192a1f84f1fa6", func := "tripwire/tripwirelaw05.SparseNumbers", spec := "sparseNumbers", inPlace := ["math/bits.Add64", "math/bits.Sub64"], unfollowed := true, recurses := true, named := ["math/bits.divideError", "math/bits.overflowError"], apart := false }
def SparseNumbersSaid : Prop := sparseNumbersRow.holds Try.pinned (OpenSpec.ofChange sparseNumbersSpec)

/-- ITS FALSE NEIGHBOUR: 'it returns false'. Refute it at one input. -/
def sparseNumbersWrong : ChangeSpec := { name := "sparseNumbers", fn := fun _ => fun
  | [] => { results := [.lit (.bool false)], args := [] }
  | _ => none }
def SparseNumbersWrongFalsely : Prop := sparseNumbersRow.holds Try.pinned (OpenSpec.ofChange sparseNumbersWrong)

/-- 'tripwirelaw15.ProgramSpans': WHATEVER THE INPUT: true; the input reads as it did. -/
def programSpansSpec : ChangeSpec := { name := "programSpans", fn := fun _ => fun
  | [d1, d2, d3] => { results := [.lit (.bool true)], args := [d1, d2, d3] }
  | _ => none }
def programSpansRow : OpenClaim := { program := "ytlfdobjdlgebbaa", sum := "ee4add34668d590b92af8d9efbbe3c9fe34554a49d0d2831e9a192a1f84f1fa6", func := "tripwire/tripwirelaw15.ProgramSpans", spec := "programSpans", inPlace := ["math/bits.Add64", "math/bits.Sub64"], unfollowed := true, recurses := true, named := ["math/bits.divideError", "math/bits.overflowError"], apart := false }
def ProgramSpansSaid : Prop := programSpansRow.holds Try.pinned (OpenSpec.ofChange programSpansSpec)

/-- ITS FALSE NEIGHBOUR: 'it returns false'. Refute it at one input. -/
def programSpansWrong : ChangeSpec := { name := "programSpans", fn := fun _ => fun
  | [d1, d2, d3] => { results := [.lit (.bool false)], args := [d1, d2, d3] }
  | _ => none }
def ProgramSpansWrongFalsely : Prop := programSpansRow.holds Try.pinned (OpenSpec.ofChange programSpansWrong)

/-- 'tripwirelaw15.ProgramForms': WHATEVER THE INPUT: true; the input reads as it did. -/
def programFormsSpec : ChangeSpec := { name := "programForms", fn := fun _ => fun
  | [d1, d2] => { results := [.lit (.bool true)], args := [d1, d2] }
  | _ => none }
def programFormsRow : OpenClaim := { program := "ytlfdobjdlgebbaa", sum := "ee4add34668d590b92af8d9efbbe3c9fe34554a49d0d2831e9a192a1f84f1fa6", func := "tripwire/tripwirelaw15.ProgramForms", spec := "programForms", inPlace := ["math/bits.Add64", "math/bits.Sub64"], unfollowed := true, recurses := true, named := ["math/bits.divideError", "math/bits.overflowError"], apart := false }
def ProgramFormsSaid : Prop := programFormsRow.holds Try.pinned (OpenSpec.ofChange programFormsSpec)

/-- ITS FALSE NEIGHBOUR: 'it returns false'. Refute it at one input. -/
def programFormsWrong : ChangeSpec := { name := "programForms", fn := fun _ => fun
  | [d1, d2] => { results := [.lit (.bool false)], args := [d1, d2] }
  | _ => none }
def ProgramFormsWrongFalsely : Prop := programFormsRow.holds Try.pinned (OpenSpec.ofChange programFormsWrong)

/-- 'tripwirelaw07.LuNone': WHATEVER THE INPUT: true; the input reads as it did. -/
def luNoneSpec : ChangeSpec := { name := "luNone", fn := fun _ => fun
  | [d] => { results := [.lit (.bool true)], args := [d] }
  | _ => none }
def luNoneRow : OpenClaim := { program := "ytlfdobjdlgebbaa", sum := "ee4add34668d590b92af8d9efbbe3c9fe34554a49d0d2831e9a192a1f84f1fa6", func := "tripwire/tripwirelaw07.LuNone", spec := "luNone", inPlace := ["math/bits.Add64", "math/bits.Sub64"], unfollowed := true, recurses := true, named := ["math/bits.divideError", "math/bits.overflowError"], apart := false }
def LuNoneSaid : Prop := luNoneRow.holds Try.pinned (OpenSpec.ofChange luNoneSpec)

/-- ITS FALSE NEIGHBOUR: 'it returns false'. Refute it at one input. -/
def luNoneWrong : ChangeSpec := { name := "luNone", fn := fun _ => fun
  | [d] => { results := [.lit (.bool false)], args := [d] }
  | _ => none }
def LuNoneWrongFalsely : Prop := luNoneRow.holds Try.pinned (OpenSpec.ofChange luNoneWrong)

/- THE SECOND FORM. 'bulk': how many values and letters a reading holds, each counted each time it is reached (what is shared counts as often as it is met; a slice's spare places count too). A statement '..UptoSaid' is the law's where the arguments, and the package variables that the reading takes, are together of bulk at most 1048576: NARROWER than '..Said'. Prove '..Said' where nothing that the law and all that it calls make is longer than what came in: it says more and counts as full. Else prove '..UptoSaid'. A law counts once. -/
mutual
def uptoBulk {H : Type} : DataW H → Nat
  | .lit (.string bytes) => bytes.length + 1
  | .lit _ => 1
  | .nil => 1
  | .ptr d => uptoBulk d + 1
  | .slice elems spare => uptoBulkAll elems + uptoBulkAll spare + 1
  | .agg parts => uptoBulkAll parts + 1
  | .iface _ d => uptoBulk d + 1
  | .map entries => uptoBulkEntries entries + 1
  | .held _ => 1
def uptoBulkAll {H : Type} : List (DataW H) → Nat
  | [] => 0
  | d :: r => uptoBulk d + uptoBulkAll r
def uptoBulkEntries {H : Type} : List (Lit × DataW H) → Nat
  | [] => 0
  | x :: r => uptoBulkEntry x + uptoBulkEntries r
def uptoBulkEntry {H : Type} : Lit × DataW H → Nat
  | (.string bytes, d) => bytes.length + uptoBulk d + 1
  | (_, d) => uptoBulk d + 1
 end
def uptoSmall : (H : Type) → List (DataW H) → Bool := fun _ ds => decide (uptoBulkAll ds ≤ 1048576)
def OpenSpec.upto (s : _root_.Go.ChangeSpec) : _root_.Go.OpenSpec := { _root_.Go.OpenSpec.ofChange s with cond := some uptoSmall }

/-- 'tripwirelaw15.ProgramLimits', WHERE WHAT IT READS IS OF BULK AT MOST 1048576: true; the input reads as it did. -/
def programLimitsUptoRow : OpenClaim := { program := "ytlfdobjdlgebbaa", sum := "ee4add34668d590b92af8d9efbbe3c9fe34554a49d0d2831e9a192a1f84f1fa6", func := "tripwire/tripwirelaw15.ProgramLimits", spec := "programLimits", inPlace := ["math/bits.Add64", "math/bits.Sub64"], unfollowed := true, recurses := true, named := ["math/bits.divideError", "math/bits.overflowError"], apart := false, narrowed := true }
def ProgramLimitsUptoSaid : Prop := programLimitsUptoRow.holds Try.pinned (OpenSpec.upto programLimitsSpec)

/-- 'tripwirelaw05.SparseSpace', WHERE WHAT IT READS IS OF BULK AT MOST 1048576: true; the input reads as it did. -/
def sparseSpaceUptoRow : OpenClaim := { program := "ytlfdobjdlgebbaa", sum := "ee4add34668d590b92af8d9efbbe3c9fe34554a49d0d2831e9a192a1f84f1fa6", func := "tripwire/tripwirelaw05.SparseSpace", spec := "sparseSpace", inPlace := ["math/bits.Add64", "math/bits.Sub64"], unfollowed := true, recurses := true, named := ["math/bits.divideError", "math/bits.overflowError"], apart := false, narrowed := true }
def SparseSpaceUptoSaid : Prop := sparseSpaceUptoRow.holds Try.pinned (OpenSpec.upto sparseSpaceSpec)

/-- 'tripwirelaw06.MatrixOrders', WHERE WHAT IT READS IS OF BULK AT MOST 1048576: true; the input reads as it did. -/
def matrixOrdersUptoRow : OpenClaim := { program := "ytlfdobjdlgebbaa", sum := "ee4add34668d590b92af8d9efbbe3c9fe34554a49d0d2831e9a192a1f84f1fa6", func := "tripwire/tripwirelaw06.MatrixOrders", spec := "matrixOrders", inPlace := ["math/bits.Add64", "math/bits.Sub64"], unfollowed := true, recurses := true, named := ["math/bits.divideError", "math/bits.overflowError"], apart := false, narrowed := true }
def MatrixOrdersUptoSaid : Prop := matrixOrdersUptoRow.holds Try.pinned (OpenSpec.upto matrixOrdersSpec)

/-- 'tripwirelaw06.MatrixNumbers', WHERE WHAT IT READS IS OF BULK AT MOST 1048576: true; the input reads as it did. -/
def matrixNumbersUptoRow : OpenClaim := { program := "ytlfdobjdlgebbaa", sum := "ee4add34668d590b92af8d9efbbe3c9fe34554a49d0d2831e9a192a1f84f1fa6", func := "tripwire/tripwirelaw06.MatrixNumbers", spec := "matrixNumbers", inPlace := ["math/bits.Add64", "math/bits.Sub64"], unfollowed := true, recurses := true, named := ["math/bits.divideError", "math/bits.overflowError"], apart := false, narrowed := true }
def MatrixNumbersUptoSaid : Prop := matrixNumbersUptoRow.holds Try.pinned (OpenSpec.upto matrixNumbersSpec)

/-- 'tripwirelaw06.MatrixBoth', WHERE WHAT IT READS IS OF BULK AT MOST 1048576: true; the input reads as it did. -/
def matrixBothUptoRow : OpenClaim := { program := "ytlfdobjdlgebbaa", sum := "ee4add34668d590b92af8d9efbbe3c9fe34554a49d0d2831e9a192a1f84f1fa6", func := "tripwire/tripwirelaw06.MatrixBoth", spec := "matrixBoth", inPlace := ["math/bits.Add64", "math/bits.Sub64"], unfollowed := true, recurses := true, named := ["math/bits.divideError", "math/bits.overflowError"], apart := false, narrowed := true }
def MatrixBothUptoSaid : Prop := matrixBothUptoRow.holds Try.pinned (OpenSpec.upto matrixBothSpec)

/-- 'tripwirelaw05.SparseNumbers', WHERE WHAT IT READS IS OF BULK AT MOST 1048576: true; the input reads as it did. -/
def sparseNumbersUptoRow : OpenClaim := { program := "ytlfdobjdlgebbaa", sum := "ee4add34668d590b92af8d9efbbe3c9fe34554a49d0d2831e9a192a1f84f1fa6", func := "tripwire/tripwirelaw05.SparseNumbers", spec := "sparseNumbers", inPlace := ["math/bits.Add64", "math/bits.Sub64"], unfollowed := true, recurses := true, named := ["math/bits.divideError", "math/bits.overflowError"], apart := false, narrowed := true }
def SparseNumbersUptoSaid : Prop := sparseNumbersUptoRow.holds Try.pinned (OpenSpec.upto sparseNumbersSpec)

/-- 'tripwirelaw15.ProgramSpans', WHERE WHAT IT READS IS OF BULK AT MOST 1048576: true; the input reads as it did. -/
def programSpansUptoRow : OpenClaim := { program := "ytlfdobjdlgebbaa", sum := "ee4add34668d590b92af8d9efbbe3c9fe34554a49d0d2831e9a192a1f84f1fa6", func := "tripwire/tripwirelaw15.ProgramSpans", spec := "programSpans", inPlace := ["math/bits.Add64", "math/bits.Sub64"], unfollowed := true, recurses := true, named := ["math/bits.divideError", "math/bits.overflowError"], apart := false, narrowed := true }
def ProgramSpansUptoSaid : Prop := programSpansUptoRow.holds Try.pinned (OpenSpec.upto programSpansSpec)

/-- 'tripwirelaw15.ProgramForms', WHERE WHAT IT READS IS OF BULK AT MOST 1048576: true; the input reads as it did. -/
def programFormsUptoRow : OpenClaim := { program := "ytlfdobjdlgebbaa", sum := "ee4add34668d590b92af8d9efbbe3c9fe34554a49d0d2831e9a192a1f84f1fa6", func := "tripwire/tripwirelaw15.ProgramForms", spec := "programForms", inPlace := ["math/bits.Add64", "math/bits.Sub64"], unfollowed := true, recurses := true, named := ["math/bits.divideError", "math/bits.overflowError"], apart := false, narrowed := true }
def ProgramFormsUptoSaid : Prop := programFormsUptoRow.holds Try.pinned (OpenSpec.upto programFormsSpec)

/-- 'tripwirelaw07.LuNone', WHERE WHAT IT READS IS OF BULK AT MOST 1048576: true; the input reads as it did. -/
def luNoneUptoRow : OpenClaim := { program := "ytlfdobjdlgebbaa", sum := "ee4add34668d590b92af8d9efbbe3c9fe34554a49d0d2831e9a192a1f84f1fa6", func := "tripwire/tripwirelaw07.LuNone", spec := "luNone", inPlace := ["math/bits.Add64", "math/bits.Sub64"], unfollowed := true, recurses := true, named := ["math/bits.divideError", "math/bits.overflowError"], apart := false, narrowed := true }
def LuNoneUptoSaid : Prop := luNoneUptoRow.holds Try.pinned (OpenSpec.upto luNoneSpec)

end Rows
end Go.Proofs.Ytlfdobjdlgebbaa
