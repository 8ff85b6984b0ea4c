/-
  NARROWER THAN 'FOR EVERY INPUT', by the rows' own cells (each row's printed sentence says how): FnExactDropEntry: loops.
  DERIVED. THE GIVEN ROWS OF THIS SEAT. 4 by the template 'for every input the law returns true; each argument reads behind the call as it read before'; 0 by the template 'total and deterministic' (their statements: YtmihoieaiojbhaaTotals.lean).
  GIVEN WITH THE SEED: the statements are not yours to turn. If you find one false, say at which input.
  Laid BY PROGRAM, IN A SANDBOX (cutbox-rows.mjs): the forced cells as the released guide's own fill.sh prints them over the translation 43c481db7475d7b9… (all of the seat's roots in one cut). By AI agents, Wed Nov 11 2026. No macro, syntax, notation, axiom, sorry.
-/
import Derived.Test.YtmihoieaiojbhaaChecked
import GoSem.Claim
import GoSem.ClaimJoined
import GoSem.ClaimMapViews
import Derived.JoinedTies
import Derived.KernelRfl
namespace Go.Proofs.Ytmihoieaiojbhaa
/- THE CELL 'sum', in the pinned program and in every row, IS THE sha256 OF THE DUMP (.gsa) THAT YtmihoieaiojbhaaProg.lean LOADS. Nothing in Lean hashes anything: it is a label: what it is worth is what the hold of that sum in a sandbox is worth. -/
noncomputable def Try.pinned : Pinned := { name := "ytmihoieaiojbhaa", sum := "43c481db7475d7b959d5b19bdadd6332512d0bf57a85826dd44c2dbf0e94df8f", checked := Try.checked }
namespace Rows
def none {H : Type} : Left H := { results := [], args := [] }

/-- 'laws.FnCutsOfFractions': WHATEVER THE INPUT: true; the input reads as it did. -/
def fnCutsOfFractionsSpec : ChangeSpec := { name := "fnCutsOfFractions", fn := fun _ => fun
  | [d1, d2] => { results := [.lit (.bool true)], args := [d1, d2] }
  | _ => none }
def fnCutsOfFractionsRow : OpenClaim := { program := "ytmihoieaiojbhaa", sum := "43c481db7475d7b959d5b19bdadd6332512d0bf57a85826dd44c2dbf0e94df8f", func := "loop.example/g01096/laws.FnCutsOfFractions", spec := "fnCutsOfFractions", unfollowed := true, recurses := true, apart := false }
def FnCutsOfFractionsSaid : Prop := fnCutsOfFractionsRow.holds Try.pinned (OpenSpec.ofChange fnCutsOfFractionsSpec)

/-- ITS FALSE NEIGHBOUR: 'it returns false'. Refute it at one input. -/
def fnCutsOfFractionsWrong : ChangeSpec := { name := "fnCutsOfFractions", fn := fun _ => fun
  | [d1, d2] => { results := [.lit (.bool false)], args := [d1, d2] }
  | _ => none }
def FnCutsOfFractionsWrongFalsely : Prop := fnCutsOfFractionsRow.holds Try.pinned (OpenSpec.ofChange fnCutsOfFractionsWrong)

/-- 'laws.FnPolynomials': WHATEVER THE INPUT: true; the input reads as it did. -/
def fnPolynomialsSpec : ChangeSpec := { name := "fnPolynomials", fn := fun _ => fun
  | [d1, d2] => { results := [.lit (.bool true)], args := [d1, d2] }
  | _ => none }
def fnPolynomialsRow : OpenClaim := { program := "ytmihoieaiojbhaa", sum := "43c481db7475d7b959d5b19bdadd6332512d0bf57a85826dd44c2dbf0e94df8f", func := "loop.example/g01096/laws.FnPolynomials", spec := "fnPolynomials", unfollowed := true, recurses := true, apart := false }
def FnPolynomialsSaid : Prop := fnPolynomialsRow.holds Try.pinned (OpenSpec.ofChange fnPolynomialsSpec)

/-- ITS FALSE NEIGHBOUR: 'it returns false'. Refute it at one input. -/
def fnPolynomialsWrong : ChangeSpec := { name := "fnPolynomials", fn := fun _ => fun
  | [d1, d2] => { results := [.lit (.bool false)], args := [d1, d2] }
  | _ => none }
def FnPolynomialsWrongFalsely : Prop := fnPolynomialsRow.holds Try.pinned (OpenSpec.ofChange fnPolynomialsWrong)

/-- 'laws.FnGoodsteinFalls': WHATEVER THE INPUT: true; the input reads as it did. -/
def fnGoodsteinFallsSpec : ChangeSpec := { name := "fnGoodsteinFalls", fn := fun _ => fun
  | [d1, d2] => { results := [.lit (.bool true)], args := [d1, d2] }
  | _ => none }
def fnGoodsteinFallsRow : OpenClaim := { program := "ytmihoieaiojbhaa", sum := "43c481db7475d7b959d5b19bdadd6332512d0bf57a85826dd44c2dbf0e94df8f", func := "loop.example/g01096/laws.FnGoodsteinFalls", spec := "fnGoodsteinFalls", unfollowed := true, recurses := true, apart := false }
def FnGoodsteinFallsSaid : Prop := fnGoodsteinFallsRow.holds Try.pinned (OpenSpec.ofChange fnGoodsteinFallsSpec)

/-- ITS FALSE NEIGHBOUR: 'it returns false'. Refute it at one input. -/
def fnGoodsteinFallsWrong : ChangeSpec := { name := "fnGoodsteinFalls", fn := fun _ => fun
  | [d1, d2] => { results := [.lit (.bool false)], args := [d1, d2] }
  | _ => none }
def FnGoodsteinFallsWrongFalsely : Prop := fnGoodsteinFallsRow.holds Try.pinned (OpenSpec.ofChange fnGoodsteinFallsWrong)

/-- 'laws.FnExactDropEntry': WHATEVER THE INPUT: true; the input reads as it did. -/
def fnExactDropEntrySpec : ChangeSpec := { name := "fnExactDropEntry", fn := fun _ => fun
  | [d1, d2] => { results := [.lit (.bool true)], args := [d1, d2] }
  | _ => none }
def fnExactDropEntryRow : OpenClaim := { program := "ytmihoieaiojbhaa", sum := "43c481db7475d7b959d5b19bdadd6332512d0bf57a85826dd44c2dbf0e94df8f", func := "loop.example/g01096/laws.FnExactDropEntry", spec := "fnExactDropEntry", inPlace := ["internal/bytealg.abigen_runtime_cmpstring"], unfollowed := true, recurses := true, loops := true, apart := false }
def FnExactDropEntrySaid : Prop := fnExactDropEntryRow.holds Try.pinned (OpenSpec.ofChange fnExactDropEntrySpec)

/-- ITS FALSE NEIGHBOUR: 'it returns false'. Refute it at one input. -/
def fnExactDropEntryWrong : ChangeSpec := { name := "fnExactDropEntry", fn := fun _ => fun
  | [d1, d2] => { results := [.lit (.bool false)], args := [d1, d2] }
  | _ => none }
def FnExactDropEntryWrongFalsely : Prop := fnExactDropEntryRow.holds Try.pinned (OpenSpec.ofChange fnExactDropEntryWrong)

/- THE SECOND FORM. 'bulk': how many values and letters a reading holds, each counted each time it is reached (what is shared counts as often as it is met; a slice's spare places count too). A statement '..UptoSaid' is the law's where the arguments, and the package variables that the reading takes, are together of bulk at most 1048576: NARROWER than '..Said'. Prove '..Said' where nothing that the law and all that it calls make is longer than what came in: it says more and counts as full. Else prove '..UptoSaid'. A law counts once. -/
mutual
def uptoBulk {H : Type} : DataW H → Nat
  | .lit (.string bytes) => bytes.length + 1
  | .lit _ => 1
  | .nil => 1
  | .ptr d => uptoBulk d + 1
  | .slice elems spare => uptoBulkAll elems + uptoBulkAll spare + 1
  | .agg parts => uptoBulkAll parts + 1
  | .iface _ d => uptoBulk d + 1
  | .map entries => uptoBulkEntries entries + 1
  | .held _ => 1
def uptoBulkAll {H : Type} : List (DataW H) → Nat
  | [] => 0
  | d :: r => uptoBulk d + uptoBulkAll r
def uptoBulkEntries {H : Type} : List (Lit × DataW H) → Nat
  | [] => 0
  | x :: r => uptoBulkEntry x + uptoBulkEntries r
def uptoBulkEntry {H : Type} : Lit × DataW H → Nat
  | (.string bytes, d) => bytes.length + uptoBulk d + 1
  | (_, d) => uptoBulk d + 1
 end
def uptoSmall : (H : Type) → List (DataW H) → Bool := fun _ ds => decide (uptoBulkAll ds ≤ 1048576)
def OpenSpec.upto (s : _root_.Go.ChangeSpec) : _root_.Go.OpenSpec := { _root_.Go.OpenSpec.ofChange s with cond := some uptoSmall }

/-- 'laws.FnCutsOfFractions', WHERE WHAT IT READS IS OF BULK AT MOST 1048576: true; the input reads as it did. -/
def fnCutsOfFractionsUptoRow : OpenClaim := { program := "ytmihoieaiojbhaa", sum := "43c481db7475d7b959d5b19bdadd6332512d0bf57a85826dd44c2dbf0e94df8f", func := "loop.example/g01096/laws.FnCutsOfFractions", spec := "fnCutsOfFractions", unfollowed := true, recurses := true, apart := false, narrowed := true }
def FnCutsOfFractionsUptoSaid : Prop := fnCutsOfFractionsUptoRow.holds Try.pinned (OpenSpec.upto fnCutsOfFractionsSpec)

/-- 'laws.FnPolynomials', WHERE WHAT IT READS IS OF BULK AT MOST 1048576: true; the input reads as it did. -/
def fnPolynomialsUptoRow : OpenClaim := { program := "ytmihoieaiojbhaa", sum := "43c481db7475d7b959d5b19bdadd6332512d0bf57a85826dd44c2dbf0e94df8f", func := "loop.example/g01096/laws.FnPolynomials", spec := "fnPolynomials", unfollowed := true, recurses := true, apart := false, narrowed := true }
def FnPolynomialsUptoSaid : Prop := fnPolynomialsUptoRow.holds Try.pinned (OpenSpec.upto fnPolynomialsSpec)

/-- 'laws.FnGoodsteinFalls', WHERE WHAT IT READS IS OF BULK AT MOST 1048576: true; the input reads as it did. -/
def fnGoodsteinFallsUptoRow : OpenClaim := { program := "ytmihoieaiojbhaa", sum := "43c481db7475d7b959d5b19bdadd6332512d0bf57a85826dd44c2dbf0e94df8f", func := "loop.example/g01096/laws.FnGoodsteinFalls", spec := "fnGoodsteinFalls", unfollowed := true, recurses := true, apart := false, narrowed := true }
def FnGoodsteinFallsUptoSaid : Prop := fnGoodsteinFallsUptoRow.holds Try.pinned (OpenSpec.upto fnGoodsteinFallsSpec)

/-- 'laws.FnExactDropEntry', WHERE WHAT IT READS IS OF BULK AT MOST 1048576: true; the input reads as it did. -/
def fnExactDropEntryUptoRow : OpenClaim := { program := "ytmihoieaiojbhaa", sum := "43c481db7475d7b959d5b19bdadd6332512d0bf57a85826dd44c2dbf0e94df8f", func := "loop.example/g01096/laws.FnExactDropEntry", spec := "fnExactDropEntry", inPlace := ["internal/bytealg.abigen_runtime_cmpstring"], unfollowed := true, recurses := true, loops := true, apart := false, narrowed := true }
def FnExactDropEntryUptoSaid : Prop := fnExactDropEntryUptoRow.holds Try.pinned (OpenSpec.upto fnExactDropEntrySpec)

end Rows
end Go.Proofs.Ytmihoieaiojbhaa
