/-
  NARROWER THAN 'FOR EVERY INPUT', by the rows' own cells (each row's printed sentence says how): FnExactHardyValue: loops · FnExactDescendOnce: loops · FnExactDivideOrdinals: loops · FnExactPowerOfOrdinals: loops · FnExactOppositeWord: loops · FnExactLengthOfWord: loops · FnExactPlusesIn: loops · FnExactAddSurreals: loops · FnExactScaleSurreal: loops.
  DERIVED. THE GIVEN ROWS OF THIS SEAT. 12 by the template 'for every input the law returns true; each argument reads behind the call as it read before'; 0 by the template 'total and deterministic' (their statements: YtglgpldmibamnaaTotals.lean).
  GIVEN WITH THE SEED: the statements are not yours to turn. If you find one false, say at which input.
  Laid BY PROGRAM, IN A SANDBOX (cutbox-rows.mjs): the forced cells as the released guide's own fill.sh prints them over the translation 376bcf3cbe753958… (all of the seat's roots in one cut). By AI agents, Wed Nov 11 2026. No macro, syntax, notation, axiom, sorry.
-/
import Derived.Test.YtglgpldmibamnaaChecked
import GoSem.Claim
import GoSem.ClaimJoined
import GoSem.ClaimMapViews
import Derived.JoinedTies
import Derived.KernelRfl
namespace Go.Proofs.Ytglgpldmibamnaa
/- THE CELL 'sum', in the pinned program and in every row, IS THE sha256 OF THE DUMP (.gsa) THAT YtglgpldmibamnaaProg.lean LOADS. Nothing in Lean hashes anything: it is a label: what it is worth is what the hold of that sum in a sandbox is worth. -/
noncomputable def Try.pinned : Pinned := { name := "ytglgpldmibamnaa", sum := "376bcf3cbe753958dd0a4c300eb740b89b4967c5b0da20ebbc9985e2db076187", checked := Try.checked }
namespace Rows
def none {H : Type} : Left H := { results := [], args := [] }

/-- 'laws.FnNaturalOrdinals': WHATEVER THE INPUT: true; the input reads as it did. -/
def fnNaturalOrdinalsSpec : ChangeSpec := { name := "fnNaturalOrdinals", fn := fun _ => fun
  | [d1, d2] => { results := [.lit (.bool true)], args := [d1, d2] }
  | _ => none }
def fnNaturalOrdinalsRow : OpenClaim := { program := "ytglgpldmibamnaa", sum := "376bcf3cbe753958dd0a4c300eb740b89b4967c5b0da20ebbc9985e2db076187", func := "loop.example/g01096/laws.FnNaturalOrdinals", spec := "fnNaturalOrdinals", unfollowed := true, recurses := true, apart := false }
def FnNaturalOrdinalsSaid : Prop := fnNaturalOrdinalsRow.holds Try.pinned (OpenSpec.ofChange fnNaturalOrdinalsSpec)

/-- ITS FALSE NEIGHBOUR: 'it returns false'. Refute it at one input. -/
def fnNaturalOrdinalsWrong : ChangeSpec := { name := "fnNaturalOrdinals", fn := fun _ => fun
  | [d1, d2] => { results := [.lit (.bool false)], args := [d1, d2] }
  | _ => none }
def FnNaturalOrdinalsWrongFalsely : Prop := fnNaturalOrdinalsRow.holds Try.pinned (OpenSpec.ofChange fnNaturalOrdinalsWrong)

/-- 'laws.FnExactHardyValue': WHATEVER THE INPUT: true; the input reads as it did. -/
def fnExactHardyValueSpec : ChangeSpec := { name := "fnExactHardyValue", fn := fun _ => fun
  | [d1, d2, d3] => { results := [.lit (.bool true)], args := [d1, d2, d3] }
  | _ => none }
def fnExactHardyValueRow : OpenClaim := { program := "ytglgpldmibamnaa", sum := "376bcf3cbe753958dd0a4c300eb740b89b4967c5b0da20ebbc9985e2db076187", func := "loop.example/g01096/laws.FnExactHardyValue", spec := "fnExactHardyValue", unfollowed := true, recurses := true, loops := true, apart := false }
def FnExactHardyValueSaid : Prop := fnExactHardyValueRow.holds Try.pinned (OpenSpec.ofChange fnExactHardyValueSpec)

/-- ITS FALSE NEIGHBOUR: 'it returns false'. Refute it at one input. -/
def fnExactHardyValueWrong : ChangeSpec := { name := "fnExactHardyValue", fn := fun _ => fun
  | [d1, d2, d3] => { results := [.lit (.bool false)], args := [d1, d2, d3] }
  | _ => none }
def FnExactHardyValueWrongFalsely : Prop := fnExactHardyValueRow.holds Try.pinned (OpenSpec.ofChange fnExactHardyValueWrong)

/-- 'laws.FnExactDescendOnce': WHATEVER THE INPUT: true; the input reads as it did. -/
def fnExactDescendOnceSpec : ChangeSpec := { name := "fnExactDescendOnce", fn := fun _ => fun
  | [d1, d2] => { results := [.lit (.bool true)], args := [d1, d2] }
  | _ => none }
def fnExactDescendOnceRow : OpenClaim := { program := "ytglgpldmibamnaa", sum := "376bcf3cbe753958dd0a4c300eb740b89b4967c5b0da20ebbc9985e2db076187", func := "loop.example/g01096/laws.FnExactDescendOnce", spec := "fnExactDescendOnce", unfollowed := true, recurses := true, loops := true, apart := false }
def FnExactDescendOnceSaid : Prop := fnExactDescendOnceRow.holds Try.pinned (OpenSpec.ofChange fnExactDescendOnceSpec)

/-- ITS FALSE NEIGHBOUR: 'it returns false'. Refute it at one input. -/
def fnExactDescendOnceWrong : ChangeSpec := { name := "fnExactDescendOnce", fn := fun _ => fun
  | [d1, d2] => { results := [.lit (.bool false)], args := [d1, d2] }
  | _ => none }
def FnExactDescendOnceWrongFalsely : Prop := fnExactDescendOnceRow.holds Try.pinned (OpenSpec.ofChange fnExactDescendOnceWrong)

/-- 'laws.FnLimits': WHATEVER THE INPUT: true; the input reads as it did. -/
def fnLimitsSpec : ChangeSpec := { name := "fnLimits", fn := fun _ => fun
  | [d1, d2] => { results := [.lit (.bool true)], args := [d1, d2] }
  | _ => none }
def fnLimitsRow : OpenClaim := { program := "ytglgpldmibamnaa", sum := "376bcf3cbe753958dd0a4c300eb740b89b4967c5b0da20ebbc9985e2db076187", func := "loop.example/g01096/laws.FnLimits", spec := "fnLimits", unfollowed := true, recurses := true, apart := false }
def FnLimitsSaid : Prop := fnLimitsRow.holds Try.pinned (OpenSpec.ofChange fnLimitsSpec)

/-- ITS FALSE NEIGHBOUR: 'it returns false'. Refute it at one input. -/
def fnLimitsWrong : ChangeSpec := { name := "fnLimits", fn := fun _ => fun
  | [d1, d2] => { results := [.lit (.bool false)], args := [d1, d2] }
  | _ => none }
def FnLimitsWrongFalsely : Prop := fnLimitsRow.holds Try.pinned (OpenSpec.ofChange fnLimitsWrong)

/-- 'laws.FnExactDivideOrdinals': WHATEVER THE INPUT: true; the input reads as it did. -/
def fnExactDivideOrdinalsSpec : ChangeSpec := { name := "fnExactDivideOrdinals", fn := fun _ => fun
  | [d1, d2] => { results := [.lit (.bool true)], args := [d1, d2] }
  | _ => none }
def fnExactDivideOrdinalsRow : OpenClaim := { program := "ytglgpldmibamnaa", sum := "376bcf3cbe753958dd0a4c300eb740b89b4967c5b0da20ebbc9985e2db076187", func := "loop.example/g01096/laws.FnExactDivideOrdinals", spec := "fnExactDivideOrdinals", unfollowed := true, recurses := true, loops := true, apart := false }
def FnExactDivideOrdinalsSaid : Prop := fnExactDivideOrdinalsRow.holds Try.pinned (OpenSpec.ofChange fnExactDivideOrdinalsSpec)

/-- ITS FALSE NEIGHBOUR: 'it returns false'. Refute it at one input. -/
def fnExactDivideOrdinalsWrong : ChangeSpec := { name := "fnExactDivideOrdinals", fn := fun _ => fun
  | [d1, d2] => { results := [.lit (.bool false)], args := [d1, d2] }
  | _ => none }
def FnExactDivideOrdinalsWrongFalsely : Prop := fnExactDivideOrdinalsRow.holds Try.pinned (OpenSpec.ofChange fnExactDivideOrdinalsWrong)

/-- 'laws.FnOrdinalProducts': WHATEVER THE INPUT: true; the input reads as it did. -/
def fnOrdinalProductsSpec : ChangeSpec := { name := "fnOrdinalProducts", fn := fun _ => fun
  | [d1, d2] => { results := [.lit (.bool true)], args := [d1, d2] }
  | _ => none }
def fnOrdinalProductsRow : OpenClaim := { program := "ytglgpldmibamnaa", sum := "376bcf3cbe753958dd0a4c300eb740b89b4967c5b0da20ebbc9985e2db076187", func := "loop.example/g01096/laws.FnOrdinalProducts", spec := "fnOrdinalProducts", unfollowed := true, recurses := true, apart := false }
def FnOrdinalProductsSaid : Prop := fnOrdinalProductsRow.holds Try.pinned (OpenSpec.ofChange fnOrdinalProductsSpec)

/-- ITS FALSE NEIGHBOUR: 'it returns false'. Refute it at one input. -/
def fnOrdinalProductsWrong : ChangeSpec := { name := "fnOrdinalProducts", fn := fun _ => fun
  | [d1, d2] => { results := [.lit (.bool false)], args := [d1, d2] }
  | _ => none }
def FnOrdinalProductsWrongFalsely : Prop := fnOrdinalProductsRow.holds Try.pinned (OpenSpec.ofChange fnOrdinalProductsWrong)

/-- 'laws.FnExactPowerOfOrdinals': WHATEVER THE INPUT: true; the input reads as it did. -/
def fnExactPowerOfOrdinalsSpec : ChangeSpec := { name := "fnExactPowerOfOrdinals", fn := fun _ => fun
  | [d1, d2] => { results := [.lit (.bool true)], args := [d1, d2] }
  | _ => none }
def fnExactPowerOfOrdinalsRow : OpenClaim := { program := "ytglgpldmibamnaa", sum := "376bcf3cbe753958dd0a4c300eb740b89b4967c5b0da20ebbc9985e2db076187", func := "loop.example/g01096/laws.FnExactPowerOfOrdinals", spec := "fnExactPowerOfOrdinals", unfollowed := true, recurses := true, loops := true, apart := false }
def FnExactPowerOfOrdinalsSaid : Prop := fnExactPowerOfOrdinalsRow.holds Try.pinned (OpenSpec.ofChange fnExactPowerOfOrdinalsSpec)

/-- ITS FALSE NEIGHBOUR: 'it returns false'. Refute it at one input. -/
def fnExactPowerOfOrdinalsWrong : ChangeSpec := { name := "fnExactPowerOfOrdinals", fn := fun _ => fun
  | [d1, d2] => { results := [.lit (.bool false)], args := [d1, d2] }
  | _ => none }
def FnExactPowerOfOrdinalsWrongFalsely : Prop := fnExactPowerOfOrdinalsRow.holds Try.pinned (OpenSpec.ofChange fnExactPowerOfOrdinalsWrong)

/-- 'laws.FnExactOppositeWord': WHATEVER THE INPUT: true; the input reads as it did. -/
def fnExactOppositeWordSpec : ChangeSpec := { name := "fnExactOppositeWord", fn := fun _ => fun
  | [d] => { results := [.lit (.bool true)], args := [d] }
  | _ => none }
def fnExactOppositeWordRow : OpenClaim := { program := "ytglgpldmibamnaa", sum := "376bcf3cbe753958dd0a4c300eb740b89b4967c5b0da20ebbc9985e2db076187", func := "loop.example/g01096/laws.FnExactOppositeWord", spec := "fnExactOppositeWord", unfollowed := true, recurses := true, loops := true, apart := false }
def FnExactOppositeWordSaid : Prop := fnExactOppositeWordRow.holds Try.pinned (OpenSpec.ofChange fnExactOppositeWordSpec)

/-- ITS FALSE NEIGHBOUR: 'it returns false'. Refute it at one input. -/
def fnExactOppositeWordWrong : ChangeSpec := { name := "fnExactOppositeWord", fn := fun _ => fun
  | [d] => { results := [.lit (.bool false)], args := [d] }
  | _ => none }
def FnExactOppositeWordWrongFalsely : Prop := fnExactOppositeWordRow.holds Try.pinned (OpenSpec.ofChange fnExactOppositeWordWrong)

/-- 'laws.FnExactLengthOfWord': WHATEVER THE INPUT: true; the input reads as it did. -/
def fnExactLengthOfWordSpec : ChangeSpec := { name := "fnExactLengthOfWord", fn := fun _ => fun
  | [d] => { results := [.lit (.bool true)], args := [d] }
  | _ => none }
def fnExactLengthOfWordRow : OpenClaim := { program := "ytglgpldmibamnaa", sum := "376bcf3cbe753958dd0a4c300eb740b89b4967c5b0da20ebbc9985e2db076187", func := "loop.example/g01096/laws.FnExactLengthOfWord", spec := "fnExactLengthOfWord", unfollowed := true, recurses := true, loops := true, apart := false }
def FnExactLengthOfWordSaid : Prop := fnExactLengthOfWordRow.holds Try.pinned (OpenSpec.ofChange fnExactLengthOfWordSpec)

/-- ITS FALSE NEIGHBOUR: 'it returns false'. Refute it at one input. -/
def fnExactLengthOfWordWrong : ChangeSpec := { name := "fnExactLengthOfWord", fn := fun _ => fun
  | [d] => { results := [.lit (.bool false)], args := [d] }
  | _ => none }
def FnExactLengthOfWordWrongFalsely : Prop := fnExactLengthOfWordRow.holds Try.pinned (OpenSpec.ofChange fnExactLengthOfWordWrong)

/-- 'laws.FnExactPlusesIn': WHATEVER THE INPUT: true; the input reads as it did. -/
def fnExactPlusesInSpec : ChangeSpec := { name := "fnExactPlusesIn", fn := fun _ => fun
  | [d] => { results := [.lit (.bool true)], args := [d] }
  | _ => none }
def fnExactPlusesInRow : OpenClaim := { program := "ytglgpldmibamnaa", sum := "376bcf3cbe753958dd0a4c300eb740b89b4967c5b0da20ebbc9985e2db076187", func := "loop.example/g01096/laws.FnExactPlusesIn", spec := "fnExactPlusesIn", unfollowed := true, recurses := true, loops := true, apart := false }
def FnExactPlusesInSaid : Prop := fnExactPlusesInRow.holds Try.pinned (OpenSpec.ofChange fnExactPlusesInSpec)

/-- ITS FALSE NEIGHBOUR: 'it returns false'. Refute it at one input. -/
def fnExactPlusesInWrong : ChangeSpec := { name := "fnExactPlusesIn", fn := fun _ => fun
  | [d] => { results := [.lit (.bool false)], args := [d] }
  | _ => none }
def FnExactPlusesInWrongFalsely : Prop := fnExactPlusesInRow.holds Try.pinned (OpenSpec.ofChange fnExactPlusesInWrong)

/-- 'laws.FnExactAddSurreals': WHATEVER THE INPUT: true; the input reads as it did. -/
def fnExactAddSurrealsSpec : ChangeSpec := { name := "fnExactAddSurreals", fn := fun _ => fun
  | [d1, d2] => { results := [.lit (.bool true)], args := [d1, d2] }
  | _ => none }
def fnExactAddSurrealsRow : OpenClaim := { program := "ytglgpldmibamnaa", sum := "376bcf3cbe753958dd0a4c300eb740b89b4967c5b0da20ebbc9985e2db076187", func := "loop.example/g01096/laws.FnExactAddSurreals", spec := "fnExactAddSurreals", unfollowed := true, recurses := true, loops := true, apart := false }
def FnExactAddSurrealsSaid : Prop := fnExactAddSurrealsRow.holds Try.pinned (OpenSpec.ofChange fnExactAddSurrealsSpec)

/-- ITS FALSE NEIGHBOUR: 'it returns false'. Refute it at one input. -/
def fnExactAddSurrealsWrong : ChangeSpec := { name := "fnExactAddSurreals", fn := fun _ => fun
  | [d1, d2] => { results := [.lit (.bool false)], args := [d1, d2] }
  | _ => none }
def FnExactAddSurrealsWrongFalsely : Prop := fnExactAddSurrealsRow.holds Try.pinned (OpenSpec.ofChange fnExactAddSurrealsWrong)

/-- 'laws.FnExactScaleSurreal': WHATEVER THE INPUT: true; the input reads as it did. -/
def fnExactScaleSurrealSpec : ChangeSpec := { name := "fnExactScaleSurreal", fn := fun _ => fun
  | [d1, d2] => { results := [.lit (.bool true)], args := [d1, d2] }
  | _ => none }
def fnExactScaleSurrealRow : OpenClaim := { program := "ytglgpldmibamnaa", sum := "376bcf3cbe753958dd0a4c300eb740b89b4967c5b0da20ebbc9985e2db076187", func := "loop.example/g01096/laws.FnExactScaleSurreal", spec := "fnExactScaleSurreal", unfollowed := true, recurses := true, loops := true, apart := false }
def FnExactScaleSurrealSaid : Prop := fnExactScaleSurrealRow.holds Try.pinned (OpenSpec.ofChange fnExactScaleSurrealSpec)

/-- ITS FALSE NEIGHBOUR: 'it returns false'. Refute it at one input. -/
def fnExactScaleSurrealWrong : ChangeSpec := { name := "fnExactScaleSurreal", fn := fun _ => fun
  | [d1, d2] => { results := [.lit (.bool false)], args := [d1, d2] }
  | _ => none }
def FnExactScaleSurrealWrongFalsely : Prop := fnExactScaleSurrealRow.holds Try.pinned (OpenSpec.ofChange fnExactScaleSurrealWrong)

/- THE SECOND FORM. 'bulk': how many values and letters a reading holds, each counted each time it is reached (what is shared counts as often as it is met; a slice's spare places count too). A statement '..UptoSaid' is the law's where the arguments, and the package variables that the reading takes, are together of bulk at most 1048576: NARROWER than '..Said'. Prove '..Said' where nothing that the law and all that it calls make is longer than what came in: it says more and counts as full. Else prove '..UptoSaid'. A law counts once. -/
mutual
def uptoBulk {H : Type} : DataW H → Nat
  | .lit (.string bytes) => bytes.length + 1
  | .lit _ => 1
  | .nil => 1
  | .ptr d => uptoBulk d + 1
  | .slice elems spare => uptoBulkAll elems + uptoBulkAll spare + 1
  | .agg parts => uptoBulkAll parts + 1
  | .iface _ d => uptoBulk d + 1
  | .map entries => uptoBulkEntries entries + 1
  | .held _ => 1
def uptoBulkAll {H : Type} : List (DataW H) → Nat
  | [] => 0
  | d :: r => uptoBulk d + uptoBulkAll r
def uptoBulkEntries {H : Type} : List (Lit × DataW H) → Nat
  | [] => 0
  | x :: r => uptoBulkEntry x + uptoBulkEntries r
def uptoBulkEntry {H : Type} : Lit × DataW H → Nat
  | (.string bytes, d) => bytes.length + uptoBulk d + 1
  | (_, d) => uptoBulk d + 1
 end
def uptoSmall : (H : Type) → List (DataW H) → Bool := fun _ ds => decide (uptoBulkAll ds ≤ 1048576)
def OpenSpec.upto (s : _root_.Go.ChangeSpec) : _root_.Go.OpenSpec := { _root_.Go.OpenSpec.ofChange s with cond := some uptoSmall }

/-- 'laws.FnNaturalOrdinals', WHERE WHAT IT READS IS OF BULK AT MOST 1048576: true; the input reads as it did. -/
def fnNaturalOrdinalsUptoRow : OpenClaim := { program := "ytglgpldmibamnaa", sum := "376bcf3cbe753958dd0a4c300eb740b89b4967c5b0da20ebbc9985e2db076187", func := "loop.example/g01096/laws.FnNaturalOrdinals", spec := "fnNaturalOrdinals", unfollowed := true, recurses := true, apart := false, narrowed := true }
def FnNaturalOrdinalsUptoSaid : Prop := fnNaturalOrdinalsUptoRow.holds Try.pinned (OpenSpec.upto fnNaturalOrdinalsSpec)

/-- 'laws.FnExactHardyValue', WHERE WHAT IT READS IS OF BULK AT MOST 1048576: true; the input reads as it did. -/
def fnExactHardyValueUptoRow : OpenClaim := { program := "ytglgpldmibamnaa", sum := "376bcf3cbe753958dd0a4c300eb740b89b4967c5b0da20ebbc9985e2db076187", func := "loop.example/g01096/laws.FnExactHardyValue", spec := "fnExactHardyValue", unfollowed := true, recurses := true, loops := true, apart := false, narrowed := true }
def FnExactHardyValueUptoSaid : Prop := fnExactHardyValueUptoRow.holds Try.pinned (OpenSpec.upto fnExactHardyValueSpec)

/-- 'laws.FnExactDescendOnce', WHERE WHAT IT READS IS OF BULK AT MOST 1048576: true; the input reads as it did. -/
def fnExactDescendOnceUptoRow : OpenClaim := { program := "ytglgpldmibamnaa", sum := "376bcf3cbe753958dd0a4c300eb740b89b4967c5b0da20ebbc9985e2db076187", func := "loop.example/g01096/laws.FnExactDescendOnce", spec := "fnExactDescendOnce", unfollowed := true, recurses := true, loops := true, apart := false, narrowed := true }
def FnExactDescendOnceUptoSaid : Prop := fnExactDescendOnceUptoRow.holds Try.pinned (OpenSpec.upto fnExactDescendOnceSpec)

/-- 'laws.FnLimits', WHERE WHAT IT READS IS OF BULK AT MOST 1048576: true; the input reads as it did. -/
def fnLimitsUptoRow : OpenClaim := { program := "ytglgpldmibamnaa", sum := "376bcf3cbe753958dd0a4c300eb740b89b4967c5b0da20ebbc9985e2db076187", func := "loop.example/g01096/laws.FnLimits", spec := "fnLimits", unfollowed := true, recurses := true, apart := false, narrowed := true }
def FnLimitsUptoSaid : Prop := fnLimitsUptoRow.holds Try.pinned (OpenSpec.upto fnLimitsSpec)

/-- 'laws.FnExactDivideOrdinals', WHERE WHAT IT READS IS OF BULK AT MOST 1048576: true; the input reads as it did. -/
def fnExactDivideOrdinalsUptoRow : OpenClaim := { program := "ytglgpldmibamnaa", sum := "376bcf3cbe753958dd0a4c300eb740b89b4967c5b0da20ebbc9985e2db076187", func := "loop.example/g01096/laws.FnExactDivideOrdinals", spec := "fnExactDivideOrdinals", unfollowed := true, recurses := true, loops := true, apart := false, narrowed := true }
def FnExactDivideOrdinalsUptoSaid : Prop := fnExactDivideOrdinalsUptoRow.holds Try.pinned (OpenSpec.upto fnExactDivideOrdinalsSpec)

/-- 'laws.FnOrdinalProducts', WHERE WHAT IT READS IS OF BULK AT MOST 1048576: true; the input reads as it did. -/
def fnOrdinalProductsUptoRow : OpenClaim := { program := "ytglgpldmibamnaa", sum := "376bcf3cbe753958dd0a4c300eb740b89b4967c5b0da20ebbc9985e2db076187", func := "loop.example/g01096/laws.FnOrdinalProducts", spec := "fnOrdinalProducts", unfollowed := true, recurses := true, apart := false, narrowed := true }
def FnOrdinalProductsUptoSaid : Prop := fnOrdinalProductsUptoRow.holds Try.pinned (OpenSpec.upto fnOrdinalProductsSpec)

/-- 'laws.FnExactPowerOfOrdinals', WHERE WHAT IT READS IS OF BULK AT MOST 1048576: true; the input reads as it did. -/
def fnExactPowerOfOrdinalsUptoRow : OpenClaim := { program := "ytglgpldmibamnaa", sum := "376bcf3cbe753958dd0a4c300eb740b89b4967c5b0da20ebbc9985e2db076187", func := "loop.example/g01096/laws.FnExactPowerOfOrdinals", spec := "fnExactPowerOfOrdinals", unfollowed := true, recurses := true, loops := true, apart := false, narrowed := true }
def FnExactPowerOfOrdinalsUptoSaid : Prop := fnExactPowerOfOrdinalsUptoRow.holds Try.pinned (OpenSpec.upto fnExactPowerOfOrdinalsSpec)

/-- 'laws.FnExactOppositeWord', WHERE WHAT IT READS IS OF BULK AT MOST 1048576: true; the input reads as it did. -/
def fnExactOppositeWordUptoRow : OpenClaim := { program := "ytglgpldmibamnaa", sum := "376bcf3cbe753958dd0a4c300eb740b89b4967c5b0da20ebbc9985e2db076187", func := "loop.example/g01096/laws.FnExactOppositeWord", spec := "fnExactOppositeWord", unfollowed := true, recurses := true, loops := true, apart := false, narrowed := true }
def FnExactOppositeWordUptoSaid : Prop := fnExactOppositeWordUptoRow.holds Try.pinned (OpenSpec.upto fnExactOppositeWordSpec)

/-- 'laws.FnExactLengthOfWord', WHERE WHAT IT READS IS OF BULK AT MOST 1048576: true; the input reads as it did. -/
def fnExactLengthOfWordUptoRow : OpenClaim := { program := "ytglgpldmibamnaa", sum := "376bcf3cbe753958dd0a4c300eb740b89b4967c5b0da20ebbc9985e2db076187", func := "loop.example/g01096/laws.FnExactLengthOfWord", spec := "fnExactLengthOfWord", unfollowed := true, recurses := true, loops := true, apart := false, narrowed := true }
def FnExactLengthOfWordUptoSaid : Prop := fnExactLengthOfWordUptoRow.holds Try.pinned (OpenSpec.upto fnExactLengthOfWordSpec)

/-- 'laws.FnExactPlusesIn', WHERE WHAT IT READS IS OF BULK AT MOST 1048576: true; the input reads as it did. -/
def fnExactPlusesInUptoRow : OpenClaim := { program := "ytglgpldmibamnaa", sum := "376bcf3cbe753958dd0a4c300eb740b89b4967c5b0da20ebbc9985e2db076187", func := "loop.example/g01096/laws.FnExactPlusesIn", spec := "fnExactPlusesIn", unfollowed := true, recurses := true, loops := true, apart := false, narrowed := true }
def FnExactPlusesInUptoSaid : Prop := fnExactPlusesInUptoRow.holds Try.pinned (OpenSpec.upto fnExactPlusesInSpec)

/-- 'laws.FnExactAddSurreals', WHERE WHAT IT READS IS OF BULK AT MOST 1048576: true; the input reads as it did. -/
def fnExactAddSurrealsUptoRow : OpenClaim := { program := "ytglgpldmibamnaa", sum := "376bcf3cbe753958dd0a4c300eb740b89b4967c5b0da20ebbc9985e2db076187", func := "loop.example/g01096/laws.FnExactAddSurreals", spec := "fnExactAddSurreals", unfollowed := true, recurses := true, loops := true, apart := false, narrowed := true }
def FnExactAddSurrealsUptoSaid : Prop := fnExactAddSurrealsUptoRow.holds Try.pinned (OpenSpec.upto fnExactAddSurrealsSpec)

/-- 'laws.FnExactScaleSurreal', WHERE WHAT IT READS IS OF BULK AT MOST 1048576: true; the input reads as it did. -/
def fnExactScaleSurrealUptoRow : OpenClaim := { program := "ytglgpldmibamnaa", sum := "376bcf3cbe753958dd0a4c300eb740b89b4967c5b0da20ebbc9985e2db076187", func := "loop.example/g01096/laws.FnExactScaleSurreal", spec := "fnExactScaleSurreal", unfollowed := true, recurses := true, loops := true, apart := false, narrowed := true }
def FnExactScaleSurrealUptoSaid : Prop := fnExactScaleSurrealUptoRow.holds Try.pinned (OpenSpec.upto fnExactScaleSurrealSpec)

end Rows
end Go.Proofs.Ytglgpldmibamnaa
