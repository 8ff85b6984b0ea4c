/-
  NARROWER THAN 'FOR EVERY INPUT', by the rows' own cells (each row's printed sentence says how): FnExactExpTerms: loops · FnExactQuotientTerms: loops · FnExactExactQuotient: loops · FnExactEntryOf: loops · FnExactDropEntry: loops.
  DERIVED. THE GIVEN ROWS OF THIS SEAT. 7 by the template 'for every input the law returns true; each argument reads behind the call as it read before'; 0 by the template 'total and deterministic' (their statements: YtbjompalpjeikaaTotals.lean).
  GIVEN WITH THE SEED: the statements are not yours to turn. If you find one false, say at which input.
  Laid BY PROGRAM, IN A SANDBOX (cutbox-rows.mjs): the forced cells as the released guide's own fill.sh prints them over the translation 6a297ab697c53735… (all of the seat's roots in one cut). By AI agents, Wed Nov 11 2026. No macro, syntax, notation, axiom, sorry.
-/
import Derived.Test.YtbjompalpjeikaaChecked
import GoSem.Claim
import GoSem.ClaimJoined
import GoSem.ClaimMapViews
import Derived.JoinedTies
import Derived.KernelRfl
namespace Go.Proofs.Ytbjompalpjeikaa
/- THE CELL 'sum', in the pinned program and in every row, IS THE sha256 OF THE DUMP (.gsa) THAT YtbjompalpjeikaaProg.lean LOADS. Nothing in Lean hashes anything: it is a label: what it is worth is what the hold of that sum in a sandbox is worth. -/
noncomputable def Try.pinned : Pinned := { name := "ytbjompalpjeikaa", sum := "6a297ab697c53735e444f15f988f6ad2432f04754f9b203d54404d1b14fbf1e4", checked := Try.checked }
namespace Rows
def none {H : Type} : Left H := { results := [], args := [] }

/-- 'laws.FnExactExpTerms': WHATEVER THE INPUT: true; the input reads as it did. -/
def fnExactExpTermsSpec : ChangeSpec := { name := "fnExactExpTerms", fn := fun _ => fun
  | [d1, d2] => { results := [.lit (.bool true)], args := [d1, d2] }
  | _ => none }
def fnExactExpTermsRow : OpenClaim := { program := "ytbjompalpjeikaa", sum := "6a297ab697c53735e444f15f988f6ad2432f04754f9b203d54404d1b14fbf1e4", func := "loop.example/g01096/laws.FnExactExpTerms", spec := "fnExactExpTerms", unfollowed := true, recurses := true, loops := true, apart := false }
def FnExactExpTermsSaid : Prop := fnExactExpTermsRow.holds Try.pinned (OpenSpec.ofChange fnExactExpTermsSpec)

/-- ITS FALSE NEIGHBOUR: 'it returns false'. Refute it at one input. -/
def fnExactExpTermsWrong : ChangeSpec := { name := "fnExactExpTerms", fn := fun _ => fun
  | [d1, d2] => { results := [.lit (.bool false)], args := [d1, d2] }
  | _ => none }
def FnExactExpTermsWrongFalsely : Prop := fnExactExpTermsRow.holds Try.pinned (OpenSpec.ofChange fnExactExpTermsWrong)

/-- 'laws.FnExactQuotientTerms': WHATEVER THE INPUT: true; the input reads as it did. -/
def fnExactQuotientTermsSpec : ChangeSpec := { name := "fnExactQuotientTerms", fn := fun _ => fun
  | [d1, d2, d3] => { results := [.lit (.bool true)], args := [d1, d2, d3] }
  | _ => none }
def fnExactQuotientTermsRow : OpenClaim := { program := "ytbjompalpjeikaa", sum := "6a297ab697c53735e444f15f988f6ad2432f04754f9b203d54404d1b14fbf1e4", func := "loop.example/g01096/laws.FnExactQuotientTerms", spec := "fnExactQuotientTerms", unfollowed := true, recurses := true, loops := true, apart := false }
def FnExactQuotientTermsSaid : Prop := fnExactQuotientTermsRow.holds Try.pinned (OpenSpec.ofChange fnExactQuotientTermsSpec)

/-- ITS FALSE NEIGHBOUR: 'it returns false'. Refute it at one input. -/
def fnExactQuotientTermsWrong : ChangeSpec := { name := "fnExactQuotientTerms", fn := fun _ => fun
  | [d1, d2, d3] => { results := [.lit (.bool false)], args := [d1, d2, d3] }
  | _ => none }
def FnExactQuotientTermsWrongFalsely : Prop := fnExactQuotientTermsRow.holds Try.pinned (OpenSpec.ofChange fnExactQuotientTermsWrong)

/-- 'laws.FnExactExactQuotient': WHATEVER THE INPUT: true; the input reads as it did. -/
def fnExactExactQuotientSpec : ChangeSpec := { name := "fnExactExactQuotient", fn := fun _ => fun
  | [d1, d2] => { results := [.lit (.bool true)], args := [d1, d2] }
  | _ => none }
def fnExactExactQuotientRow : OpenClaim := { program := "ytbjompalpjeikaa", sum := "6a297ab697c53735e444f15f988f6ad2432f04754f9b203d54404d1b14fbf1e4", func := "loop.example/g01096/laws.FnExactExactQuotient", spec := "fnExactExactQuotient", unfollowed := true, recurses := true, loops := true, apart := false }
def FnExactExactQuotientSaid : Prop := fnExactExactQuotientRow.holds Try.pinned (OpenSpec.ofChange fnExactExactQuotientSpec)

/-- ITS FALSE NEIGHBOUR: 'it returns false'. Refute it at one input. -/
def fnExactExactQuotientWrong : ChangeSpec := { name := "fnExactExactQuotient", fn := fun _ => fun
  | [d1, d2] => { results := [.lit (.bool false)], args := [d1, d2] }
  | _ => none }
def FnExactExactQuotientWrongFalsely : Prop := fnExactExactQuotientRow.holds Try.pinned (OpenSpec.ofChange fnExactExactQuotientWrong)

/-- 'laws.FnExactEntryOf': WHATEVER THE INPUT: true; the input reads as it did. -/
def fnExactEntryOfSpec : ChangeSpec := { name := "fnExactEntryOf", fn := fun _ => fun
  | [d1, d2] => { results := [.lit (.bool true)], args := [d1, d2] }
  | _ => none }
def fnExactEntryOfRow : OpenClaim := { program := "ytbjompalpjeikaa", sum := "6a297ab697c53735e444f15f988f6ad2432f04754f9b203d54404d1b14fbf1e4", func := "loop.example/g01096/laws.FnExactEntryOf", spec := "fnExactEntryOf", inPlace := ["internal/bytealg.abigen_runtime_cmpstring"], unfollowed := true, recurses := true, loops := true, apart := false }
def FnExactEntryOfSaid : Prop := fnExactEntryOfRow.holds Try.pinned (OpenSpec.ofChange fnExactEntryOfSpec)

/-- ITS FALSE NEIGHBOUR: 'it returns false'. Refute it at one input. -/
def fnExactEntryOfWrong : ChangeSpec := { name := "fnExactEntryOf", fn := fun _ => fun
  | [d1, d2] => { results := [.lit (.bool false)], args := [d1, d2] }
  | _ => none }
def FnExactEntryOfWrongFalsely : Prop := fnExactEntryOfRow.holds Try.pinned (OpenSpec.ofChange fnExactEntryOfWrong)

/-- 'laws.FnExactDropEntry': WHATEVER THE INPUT: true; the input reads as it did. -/
def fnExactDropEntrySpec : ChangeSpec := { name := "fnExactDropEntry", fn := fun _ => fun
  | [d1, d2] => { results := [.lit (.bool true)], args := [d1, d2] }
  | _ => none }
def fnExactDropEntryRow : OpenClaim := { program := "ytbjompalpjeikaa", sum := "6a297ab697c53735e444f15f988f6ad2432f04754f9b203d54404d1b14fbf1e4", func := "loop.example/g01096/laws.FnExactDropEntry", spec := "fnExactDropEntry", inPlace := ["internal/bytealg.abigen_runtime_cmpstring"], unfollowed := true, recurses := true, loops := true, apart := false }
def FnExactDropEntrySaid : Prop := fnExactDropEntryRow.holds Try.pinned (OpenSpec.ofChange fnExactDropEntrySpec)

/-- ITS FALSE NEIGHBOUR: 'it returns false'. Refute it at one input. -/
def fnExactDropEntryWrong : ChangeSpec := { name := "fnExactDropEntry", fn := fun _ => fun
  | [d1, d2] => { results := [.lit (.bool false)], args := [d1, d2] }
  | _ => none }
def FnExactDropEntryWrongFalsely : Prop := fnExactDropEntryRow.holds Try.pinned (OpenSpec.ofChange fnExactDropEntryWrong)

/-- 'laws.FnPolynomials': WHATEVER THE INPUT: true; the input reads as it did. -/
def fnPolynomialsSpec : ChangeSpec := { name := "fnPolynomials", fn := fun _ => fun
  | [d1, d2] => { results := [.lit (.bool true)], args := [d1, d2] }
  | _ => none }
def fnPolynomialsRow : OpenClaim := { program := "ytbjompalpjeikaa", sum := "6a297ab697c53735e444f15f988f6ad2432f04754f9b203d54404d1b14fbf1e4", func := "loop.example/g01096/laws.FnPolynomials", spec := "fnPolynomials", unfollowed := true, recurses := true, apart := false }
def FnPolynomialsSaid : Prop := fnPolynomialsRow.holds Try.pinned (OpenSpec.ofChange fnPolynomialsSpec)

/-- ITS FALSE NEIGHBOUR: 'it returns false'. Refute it at one input. -/
def fnPolynomialsWrong : ChangeSpec := { name := "fnPolynomials", fn := fun _ => fun
  | [d1, d2] => { results := [.lit (.bool false)], args := [d1, d2] }
  | _ => none }
def FnPolynomialsWrongFalsely : Prop := fnPolynomialsRow.holds Try.pinned (OpenSpec.ofChange fnPolynomialsWrong)

/-- 'laws.FnCutsOfFractions': WHATEVER THE INPUT: true; the input reads as it did. -/
def fnCutsOfFractionsSpec : ChangeSpec := { name := "fnCutsOfFractions", fn := fun _ => fun
  | [d1, d2] => { results := [.lit (.bool true)], args := [d1, d2] }
  | _ => none }
def fnCutsOfFractionsRow : OpenClaim := { program := "ytbjompalpjeikaa", sum := "6a297ab697c53735e444f15f988f6ad2432f04754f9b203d54404d1b14fbf1e4", func := "loop.example/g01096/laws.FnCutsOfFractions", spec := "fnCutsOfFractions", unfollowed := true, recurses := true, apart := false }
def FnCutsOfFractionsSaid : Prop := fnCutsOfFractionsRow.holds Try.pinned (OpenSpec.ofChange fnCutsOfFractionsSpec)

/-- ITS FALSE NEIGHBOUR: 'it returns false'. Refute it at one input. -/
def fnCutsOfFractionsWrong : ChangeSpec := { name := "fnCutsOfFractions", fn := fun _ => fun
  | [d1, d2] => { results := [.lit (.bool false)], args := [d1, d2] }
  | _ => none }
def FnCutsOfFractionsWrongFalsely : Prop := fnCutsOfFractionsRow.holds Try.pinned (OpenSpec.ofChange fnCutsOfFractionsWrong)

/- THE SECOND FORM. 'bulk': how many values and letters a reading holds, each counted each time it is reached (what is shared counts as often as it is met; a slice's spare places count too). A statement '..UptoSaid' is the law's where the arguments, and the package variables that the reading takes, are together of bulk at most 1048576: NARROWER than '..Said'. Prove '..Said' where nothing that the law and all that it calls make is longer than what came in: it says more and counts as full. Else prove '..UptoSaid'. A law counts once. -/
mutual
def uptoBulk {H : Type} : DataW H → Nat
  | .lit (.string bytes) => bytes.length + 1
  | .lit _ => 1
  | .nil => 1
  | .ptr d => uptoBulk d + 1
  | .slice elems spare => uptoBulkAll elems + uptoBulkAll spare + 1
  | .agg parts => uptoBulkAll parts + 1
  | .iface _ d => uptoBulk d + 1
  | .map entries => uptoBulkEntries entries + 1
  | .held _ => 1
def uptoBulkAll {H : Type} : List (DataW H) → Nat
  | [] => 0
  | d :: r => uptoBulk d + uptoBulkAll r
def uptoBulkEntries {H : Type} : List (Lit × DataW H) → Nat
  | [] => 0
  | x :: r => uptoBulkEntry x + uptoBulkEntries r
def uptoBulkEntry {H : Type} : Lit × DataW H → Nat
  | (.string bytes, d) => bytes.length + uptoBulk d + 1
  | (_, d) => uptoBulk d + 1
 end
def uptoSmall : (H : Type) → List (DataW H) → Bool := fun _ ds => decide (uptoBulkAll ds ≤ 1048576)
def OpenSpec.upto (s : _root_.Go.ChangeSpec) : _root_.Go.OpenSpec := { _root_.Go.OpenSpec.ofChange s with cond := some uptoSmall }

/-- 'laws.FnExactExpTerms', WHERE WHAT IT READS IS OF BULK AT MOST 1048576: true; the input reads as it did. -/
def fnExactExpTermsUptoRow : OpenClaim := { program := "ytbjompalpjeikaa", sum := "6a297ab697c53735e444f15f988f6ad2432f04754f9b203d54404d1b14fbf1e4", func := "loop.example/g01096/laws.FnExactExpTerms", spec := "fnExactExpTerms", unfollowed := true, recurses := true, loops := true, apart := false, narrowed := true }
def FnExactExpTermsUptoSaid : Prop := fnExactExpTermsUptoRow.holds Try.pinned (OpenSpec.upto fnExactExpTermsSpec)

/-- 'laws.FnExactQuotientTerms', WHERE WHAT IT READS IS OF BULK AT MOST 1048576: true; the input reads as it did. -/
def fnExactQuotientTermsUptoRow : OpenClaim := { program := "ytbjompalpjeikaa", sum := "6a297ab697c53735e444f15f988f6ad2432f04754f9b203d54404d1b14fbf1e4", func := "loop.example/g01096/laws.FnExactQuotientTerms", spec := "fnExactQuotientTerms", unfollowed := true, recurses := true, loops := true, apart := false, narrowed := true }
def FnExactQuotientTermsUptoSaid : Prop := fnExactQuotientTermsUptoRow.holds Try.pinned (OpenSpec.upto fnExactQuotientTermsSpec)

/-- 'laws.FnExactExactQuotient', WHERE WHAT IT READS IS OF BULK AT MOST 1048576: true; the input reads as it did. -/
def fnExactExactQuotientUptoRow : OpenClaim := { program := "ytbjompalpjeikaa", sum := "6a297ab697c53735e444f15f988f6ad2432f04754f9b203d54404d1b14fbf1e4", func := "loop.example/g01096/laws.FnExactExactQuotient", spec := "fnExactExactQuotient", unfollowed := true, recurses := true, loops := true, apart := false, narrowed := true }
def FnExactExactQuotientUptoSaid : Prop := fnExactExactQuotientUptoRow.holds Try.pinned (OpenSpec.upto fnExactExactQuotientSpec)

/-- 'laws.FnExactEntryOf', WHERE WHAT IT READS IS OF BULK AT MOST 1048576: true; the input reads as it did. -/
def fnExactEntryOfUptoRow : OpenClaim := { program := "ytbjompalpjeikaa", sum := "6a297ab697c53735e444f15f988f6ad2432f04754f9b203d54404d1b14fbf1e4", func := "loop.example/g01096/laws.FnExactEntryOf", spec := "fnExactEntryOf", inPlace := ["internal/bytealg.abigen_runtime_cmpstring"], unfollowed := true, recurses := true, loops := true, apart := false, narrowed := true }
def FnExactEntryOfUptoSaid : Prop := fnExactEntryOfUptoRow.holds Try.pinned (OpenSpec.upto fnExactEntryOfSpec)

/-- 'laws.FnExactDropEntry', WHERE WHAT IT READS IS OF BULK AT MOST 1048576: true; the input reads as it did. -/
def fnExactDropEntryUptoRow : OpenClaim := { program := "ytbjompalpjeikaa", sum := "6a297ab697c53735e444f15f988f6ad2432f04754f9b203d54404d1b14fbf1e4", func := "loop.example/g01096/laws.FnExactDropEntry", spec := "fnExactDropEntry", inPlace := ["internal/bytealg.abigen_runtime_cmpstring"], unfollowed := true, recurses := true, loops := true, apart := false, narrowed := true }
def FnExactDropEntryUptoSaid : Prop := fnExactDropEntryUptoRow.holds Try.pinned (OpenSpec.upto fnExactDropEntrySpec)

/-- 'laws.FnPolynomials', WHERE WHAT IT READS IS OF BULK AT MOST 1048576: true; the input reads as it did. -/
def fnPolynomialsUptoRow : OpenClaim := { program := "ytbjompalpjeikaa", sum := "6a297ab697c53735e444f15f988f6ad2432f04754f9b203d54404d1b14fbf1e4", func := "loop.example/g01096/laws.FnPolynomials", spec := "fnPolynomials", unfollowed := true, recurses := true, apart := false, narrowed := true }
def FnPolynomialsUptoSaid : Prop := fnPolynomialsUptoRow.holds Try.pinned (OpenSpec.upto fnPolynomialsSpec)

/-- 'laws.FnCutsOfFractions', WHERE WHAT IT READS IS OF BULK AT MOST 1048576: true; the input reads as it did. -/
def fnCutsOfFractionsUptoRow : OpenClaim := { program := "ytbjompalpjeikaa", sum := "6a297ab697c53735e444f15f988f6ad2432f04754f9b203d54404d1b14fbf1e4", func := "loop.example/g01096/laws.FnCutsOfFractions", spec := "fnCutsOfFractions", unfollowed := true, recurses := true, apart := false, narrowed := true }
def FnCutsOfFractionsUptoSaid : Prop := fnCutsOfFractionsUptoRow.holds Try.pinned (OpenSpec.upto fnCutsOfFractionsSpec)

end Rows
end Go.Proofs.Ytbjompalpjeikaa
