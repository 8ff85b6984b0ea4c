/-
  NARROWER THAN 'FOR EVERY INPUT', by the rows' own cells (each row's printed sentence says how): FnExactPowerOfOrdinals: loops · FnExactPowerOfSurreal: loops · FnExactPolynomialAt: loops.
  DERIVED. THE GIVEN ROWS OF THIS SEAT. 8 by the template 'for every input the law returns true; each argument reads behind the call as it read before'; 0 by the template 'total and deterministic' (their statements: YtlhdcdnbiodphaaTotals.lean).
  GIVEN WITH THE SEED: the statements are not yours to turn. If you find one false, say at which input.
  Laid BY PROGRAM, IN A SANDBOX (cutbox-rows.mjs): the forced cells as the released guide's own fill.sh prints them over the translation 2966d25db6b620f2… (all of the seat's roots in one cut). By AI agents, Wed Nov 11 2026. No macro, syntax, notation, axiom, sorry.
-/
import Derived.Test.YtlhdcdnbiodphaaChecked
import GoSem.Claim
import GoSem.ClaimJoined
import GoSem.ClaimMapViews
import Derived.JoinedTies
import Derived.KernelRfl
namespace Go.Proofs.Ytlhdcdnbiodphaa
/- THE CELL 'sum', in the pinned program and in every row, IS THE sha256 OF THE DUMP (.gsa) THAT YtlhdcdnbiodphaaProg.lean LOADS. Nothing in Lean hashes anything: it is a label: what it is worth is what the hold of that sum in a sandbox is worth. -/
noncomputable def Try.pinned : Pinned := { name := "ytlhdcdnbiodphaa", sum := "2966d25db6b620f26593c47ea030bc2bab43563300a451b64ab5c337d36babcc", checked := Try.checked }
namespace Rows
def none {H : Type} : Left H := { results := [], args := [] }

/-- 'laws.FnHardyAdds': WHATEVER THE INPUT: true; the input reads as it did. -/
def fnHardyAddsSpec : ChangeSpec := { name := "fnHardyAdds", fn := fun _ => fun
  | [d1, d2] => { results := [.lit (.bool true)], args := [d1, d2] }
  | _ => none }
def fnHardyAddsRow : OpenClaim := { program := "ytlhdcdnbiodphaa", sum := "2966d25db6b620f26593c47ea030bc2bab43563300a451b64ab5c337d36babcc", func := "loop.example/g01096/laws.FnHardyAdds", spec := "fnHardyAdds", unfollowed := true, recurses := true, apart := false }
def FnHardyAddsSaid : Prop := fnHardyAddsRow.holds Try.pinned (OpenSpec.ofChange fnHardyAddsSpec)

/-- ITS FALSE NEIGHBOUR: 'it returns false'. Refute it at one input. -/
def fnHardyAddsWrong : ChangeSpec := { name := "fnHardyAdds", fn := fun _ => fun
  | [d1, d2] => { results := [.lit (.bool false)], args := [d1, d2] }
  | _ => none }
def FnHardyAddsWrongFalsely : Prop := fnHardyAddsRow.holds Try.pinned (OpenSpec.ofChange fnHardyAddsWrong)

/-- 'laws.FnExactPowerOfOrdinals': WHATEVER THE INPUT: true; the input reads as it did. -/
def fnExactPowerOfOrdinalsSpec : ChangeSpec := { name := "fnExactPowerOfOrdinals", fn := fun _ => fun
  | [d1, d2] => { results := [.lit (.bool true)], args := [d1, d2] }
  | _ => none }
def fnExactPowerOfOrdinalsRow : OpenClaim := { program := "ytlhdcdnbiodphaa", sum := "2966d25db6b620f26593c47ea030bc2bab43563300a451b64ab5c337d36babcc", func := "loop.example/g01096/laws.FnExactPowerOfOrdinals", spec := "fnExactPowerOfOrdinals", unfollowed := true, recurses := true, loops := true, apart := false }
def FnExactPowerOfOrdinalsSaid : Prop := fnExactPowerOfOrdinalsRow.holds Try.pinned (OpenSpec.ofChange fnExactPowerOfOrdinalsSpec)

/-- ITS FALSE NEIGHBOUR: 'it returns false'. Refute it at one input. -/
def fnExactPowerOfOrdinalsWrong : ChangeSpec := { name := "fnExactPowerOfOrdinals", fn := fun _ => fun
  | [d1, d2] => { results := [.lit (.bool false)], args := [d1, d2] }
  | _ => none }
def FnExactPowerOfOrdinalsWrongFalsely : Prop := fnExactPowerOfOrdinalsRow.holds Try.pinned (OpenSpec.ofChange fnExactPowerOfOrdinalsWrong)

/-- 'laws.FnOrdinalPowers': WHATEVER THE INPUT: true; the input reads as it did. -/
def fnOrdinalPowersSpec : ChangeSpec := { name := "fnOrdinalPowers", fn := fun _ => fun
  | [d1, d2] => { results := [.lit (.bool true)], args := [d1, d2] }
  | _ => none }
def fnOrdinalPowersRow : OpenClaim := { program := "ytlhdcdnbiodphaa", sum := "2966d25db6b620f26593c47ea030bc2bab43563300a451b64ab5c337d36babcc", func := "loop.example/g01096/laws.FnOrdinalPowers", spec := "fnOrdinalPowers", unfollowed := true, recurses := true, apart := false }
def FnOrdinalPowersSaid : Prop := fnOrdinalPowersRow.holds Try.pinned (OpenSpec.ofChange fnOrdinalPowersSpec)

/-- ITS FALSE NEIGHBOUR: 'it returns false'. Refute it at one input. -/
def fnOrdinalPowersWrong : ChangeSpec := { name := "fnOrdinalPowers", fn := fun _ => fun
  | [d1, d2] => { results := [.lit (.bool false)], args := [d1, d2] }
  | _ => none }
def FnOrdinalPowersWrongFalsely : Prop := fnOrdinalPowersRow.holds Try.pinned (OpenSpec.ofChange fnOrdinalPowersWrong)

/-- 'laws.FnOrdinalsAsNumbers': WHATEVER THE INPUT: true; the input reads as it did. -/
def fnOrdinalsAsNumbersSpec : ChangeSpec := { name := "fnOrdinalsAsNumbers", fn := fun _ => fun
  | [d1, d2] => { results := [.lit (.bool true)], args := [d1, d2] }
  | _ => none }
def fnOrdinalsAsNumbersRow : OpenClaim := { program := "ytlhdcdnbiodphaa", sum := "2966d25db6b620f26593c47ea030bc2bab43563300a451b64ab5c337d36babcc", func := "loop.example/g01096/laws.FnOrdinalsAsNumbers", spec := "fnOrdinalsAsNumbers", unfollowed := true, recurses := true, apart := false }
def FnOrdinalsAsNumbersSaid : Prop := fnOrdinalsAsNumbersRow.holds Try.pinned (OpenSpec.ofChange fnOrdinalsAsNumbersSpec)

/-- ITS FALSE NEIGHBOUR: 'it returns false'. Refute it at one input. -/
def fnOrdinalsAsNumbersWrong : ChangeSpec := { name := "fnOrdinalsAsNumbers", fn := fun _ => fun
  | [d1, d2] => { results := [.lit (.bool false)], args := [d1, d2] }
  | _ => none }
def FnOrdinalsAsNumbersWrongFalsely : Prop := fnOrdinalsAsNumbersRow.holds Try.pinned (OpenSpec.ofChange fnOrdinalsAsNumbersWrong)

/-- 'laws.FnExactPowerOfSurreal': WHATEVER THE INPUT: true; the input reads as it did. -/
def fnExactPowerOfSurrealSpec : ChangeSpec := { name := "fnExactPowerOfSurreal", fn := fun _ => fun
  | [d1, d2] => { results := [.lit (.bool true)], args := [d1, d2] }
  | _ => none }
def fnExactPowerOfSurrealRow : OpenClaim := { program := "ytlhdcdnbiodphaa", sum := "2966d25db6b620f26593c47ea030bc2bab43563300a451b64ab5c337d36babcc", func := "loop.example/g01096/laws.FnExactPowerOfSurreal", spec := "fnExactPowerOfSurreal", unfollowed := true, recurses := true, loops := true, apart := false }
def FnExactPowerOfSurrealSaid : Prop := fnExactPowerOfSurrealRow.holds Try.pinned (OpenSpec.ofChange fnExactPowerOfSurrealSpec)

/-- ITS FALSE NEIGHBOUR: 'it returns false'. Refute it at one input. -/
def fnExactPowerOfSurrealWrong : ChangeSpec := { name := "fnExactPowerOfSurreal", fn := fun _ => fun
  | [d1, d2] => { results := [.lit (.bool false)], args := [d1, d2] }
  | _ => none }
def FnExactPowerOfSurrealWrongFalsely : Prop := fnExactPowerOfSurrealRow.holds Try.pinned (OpenSpec.ofChange fnExactPowerOfSurrealWrong)

/-- 'laws.FnExactPolynomialAt': WHATEVER THE INPUT: true; the input reads as it did. -/
def fnExactPolynomialAtSpec : ChangeSpec := { name := "fnExactPolynomialAt", fn := fun _ => fun
  | [d1, d2] => { results := [.lit (.bool true)], args := [d1, d2] }
  | _ => none }
def fnExactPolynomialAtRow : OpenClaim := { program := "ytlhdcdnbiodphaa", sum := "2966d25db6b620f26593c47ea030bc2bab43563300a451b64ab5c337d36babcc", func := "loop.example/g01096/laws.FnExactPolynomialAt", spec := "fnExactPolynomialAt", unfollowed := true, recurses := true, loops := true, apart := false }
def FnExactPolynomialAtSaid : Prop := fnExactPolynomialAtRow.holds Try.pinned (OpenSpec.ofChange fnExactPolynomialAtSpec)

/-- ITS FALSE NEIGHBOUR: 'it returns false'. Refute it at one input. -/
def fnExactPolynomialAtWrong : ChangeSpec := { name := "fnExactPolynomialAt", fn := fun _ => fun
  | [d1, d2] => { results := [.lit (.bool false)], args := [d1, d2] }
  | _ => none }
def FnExactPolynomialAtWrongFalsely : Prop := fnExactPolynomialAtRow.holds Try.pinned (OpenSpec.ofChange fnExactPolynomialAtWrong)

/-- 'laws.FnSurrealOrder': WHATEVER THE INPUT: true; the input reads as it did. -/
def fnSurrealOrderSpec : ChangeSpec := { name := "fnSurrealOrder", fn := fun _ => fun
  | [d1, d2] => { results := [.lit (.bool true)], args := [d1, d2] }
  | _ => none }
def fnSurrealOrderRow : OpenClaim := { program := "ytlhdcdnbiodphaa", sum := "2966d25db6b620f26593c47ea030bc2bab43563300a451b64ab5c337d36babcc", func := "loop.example/g01096/laws.FnSurrealOrder", spec := "fnSurrealOrder", unfollowed := true, recurses := true, apart := false }
def FnSurrealOrderSaid : Prop := fnSurrealOrderRow.holds Try.pinned (OpenSpec.ofChange fnSurrealOrderSpec)

/-- ITS FALSE NEIGHBOUR: 'it returns false'. Refute it at one input. -/
def fnSurrealOrderWrong : ChangeSpec := { name := "fnSurrealOrder", fn := fun _ => fun
  | [d1, d2] => { results := [.lit (.bool false)], args := [d1, d2] }
  | _ => none }
def FnSurrealOrderWrongFalsely : Prop := fnSurrealOrderRow.holds Try.pinned (OpenSpec.ofChange fnSurrealOrderWrong)

/-- 'laws.FnGoodsteinFalls': WHATEVER THE INPUT: true; the input reads as it did. -/
def fnGoodsteinFallsSpec : ChangeSpec := { name := "fnGoodsteinFalls", fn := fun _ => fun
  | [d1, d2] => { results := [.lit (.bool true)], args := [d1, d2] }
  | _ => none }
def fnGoodsteinFallsRow : OpenClaim := { program := "ytlhdcdnbiodphaa", sum := "2966d25db6b620f26593c47ea030bc2bab43563300a451b64ab5c337d36babcc", func := "loop.example/g01096/laws.FnGoodsteinFalls", spec := "fnGoodsteinFalls", unfollowed := true, recurses := true, apart := false }
def FnGoodsteinFallsSaid : Prop := fnGoodsteinFallsRow.holds Try.pinned (OpenSpec.ofChange fnGoodsteinFallsSpec)

/-- ITS FALSE NEIGHBOUR: 'it returns false'. Refute it at one input. -/
def fnGoodsteinFallsWrong : ChangeSpec := { name := "fnGoodsteinFalls", fn := fun _ => fun
  | [d1, d2] => { results := [.lit (.bool false)], args := [d1, d2] }
  | _ => none }
def FnGoodsteinFallsWrongFalsely : Prop := fnGoodsteinFallsRow.holds Try.pinned (OpenSpec.ofChange fnGoodsteinFallsWrong)

/- THE SECOND FORM. 'bulk': how many values and letters a reading holds, each counted each time it is reached (what is shared counts as often as it is met; a slice's spare places count too). A statement '..UptoSaid' is the law's where the arguments, and the package variables that the reading takes, are together of bulk at most 1048576: NARROWER than '..Said'. Prove '..Said' where nothing that the law and all that it calls make is longer than what came in: it says more and counts as full. Else prove '..UptoSaid'. A law counts once. -/
mutual
def uptoBulk {H : Type} : DataW H → Nat
  | .lit (.string bytes) => bytes.length + 1
  | .lit _ => 1
  | .nil => 1
  | .ptr d => uptoBulk d + 1
  | .slice elems spare => uptoBulkAll elems + uptoBulkAll spare + 1
  | .agg parts => uptoBulkAll parts + 1
  | .iface _ d => uptoBulk d + 1
  | .map entries => uptoBulkEntries entries + 1
  | .held _ => 1
def uptoBulkAll {H : Type} : List (DataW H) → Nat
  | [] => 0
  | d :: r => uptoBulk d + uptoBulkAll r
def uptoBulkEntries {H : Type} : List (Lit × DataW H) → Nat
  | [] => 0
  | x :: r => uptoBulkEntry x + uptoBulkEntries r
def uptoBulkEntry {H : Type} : Lit × DataW H → Nat
  | (.string bytes, d) => bytes.length + uptoBulk d + 1
  | (_, d) => uptoBulk d + 1
 end
def uptoSmall : (H : Type) → List (DataW H) → Bool := fun _ ds => decide (uptoBulkAll ds ≤ 1048576)
def OpenSpec.upto (s : _root_.Go.ChangeSpec) : _root_.Go.OpenSpec := { _root_.Go.OpenSpec.ofChange s with cond := some uptoSmall }

/-- 'laws.FnHardyAdds', WHERE WHAT IT READS IS OF BULK AT MOST 1048576: true; the input reads as it did. -/
def fnHardyAddsUptoRow : OpenClaim := { program := "ytlhdcdnbiodphaa", sum := "2966d25db6b620f26593c47ea030bc2bab43563300a451b64ab5c337d36babcc", func := "loop.example/g01096/laws.FnHardyAdds", spec := "fnHardyAdds", unfollowed := true, recurses := true, apart := false, narrowed := true }
def FnHardyAddsUptoSaid : Prop := fnHardyAddsUptoRow.holds Try.pinned (OpenSpec.upto fnHardyAddsSpec)

/-- 'laws.FnExactPowerOfOrdinals', WHERE WHAT IT READS IS OF BULK AT MOST 1048576: true; the input reads as it did. -/
def fnExactPowerOfOrdinalsUptoRow : OpenClaim := { program := "ytlhdcdnbiodphaa", sum := "2966d25db6b620f26593c47ea030bc2bab43563300a451b64ab5c337d36babcc", func := "loop.example/g01096/laws.FnExactPowerOfOrdinals", spec := "fnExactPowerOfOrdinals", unfollowed := true, recurses := true, loops := true, apart := false, narrowed := true }
def FnExactPowerOfOrdinalsUptoSaid : Prop := fnExactPowerOfOrdinalsUptoRow.holds Try.pinned (OpenSpec.upto fnExactPowerOfOrdinalsSpec)

/-- 'laws.FnOrdinalPowers', WHERE WHAT IT READS IS OF BULK AT MOST 1048576: true; the input reads as it did. -/
def fnOrdinalPowersUptoRow : OpenClaim := { program := "ytlhdcdnbiodphaa", sum := "2966d25db6b620f26593c47ea030bc2bab43563300a451b64ab5c337d36babcc", func := "loop.example/g01096/laws.FnOrdinalPowers", spec := "fnOrdinalPowers", unfollowed := true, recurses := true, apart := false, narrowed := true }
def FnOrdinalPowersUptoSaid : Prop := fnOrdinalPowersUptoRow.holds Try.pinned (OpenSpec.upto fnOrdinalPowersSpec)

/-- 'laws.FnOrdinalsAsNumbers', WHERE WHAT IT READS IS OF BULK AT MOST 1048576: true; the input reads as it did. -/
def fnOrdinalsAsNumbersUptoRow : OpenClaim := { program := "ytlhdcdnbiodphaa", sum := "2966d25db6b620f26593c47ea030bc2bab43563300a451b64ab5c337d36babcc", func := "loop.example/g01096/laws.FnOrdinalsAsNumbers", spec := "fnOrdinalsAsNumbers", unfollowed := true, recurses := true, apart := false, narrowed := true }
def FnOrdinalsAsNumbersUptoSaid : Prop := fnOrdinalsAsNumbersUptoRow.holds Try.pinned (OpenSpec.upto fnOrdinalsAsNumbersSpec)

/-- 'laws.FnExactPowerOfSurreal', WHERE WHAT IT READS IS OF BULK AT MOST 1048576: true; the input reads as it did. -/
def fnExactPowerOfSurrealUptoRow : OpenClaim := { program := "ytlhdcdnbiodphaa", sum := "2966d25db6b620f26593c47ea030bc2bab43563300a451b64ab5c337d36babcc", func := "loop.example/g01096/laws.FnExactPowerOfSurreal", spec := "fnExactPowerOfSurreal", unfollowed := true, recurses := true, loops := true, apart := false, narrowed := true }
def FnExactPowerOfSurrealUptoSaid : Prop := fnExactPowerOfSurrealUptoRow.holds Try.pinned (OpenSpec.upto fnExactPowerOfSurrealSpec)

/-- 'laws.FnExactPolynomialAt', WHERE WHAT IT READS IS OF BULK AT MOST 1048576: true; the input reads as it did. -/
def fnExactPolynomialAtUptoRow : OpenClaim := { program := "ytlhdcdnbiodphaa", sum := "2966d25db6b620f26593c47ea030bc2bab43563300a451b64ab5c337d36babcc", func := "loop.example/g01096/laws.FnExactPolynomialAt", spec := "fnExactPolynomialAt", unfollowed := true, recurses := true, loops := true, apart := false, narrowed := true }
def FnExactPolynomialAtUptoSaid : Prop := fnExactPolynomialAtUptoRow.holds Try.pinned (OpenSpec.upto fnExactPolynomialAtSpec)

/-- 'laws.FnSurrealOrder', WHERE WHAT IT READS IS OF BULK AT MOST 1048576: true; the input reads as it did. -/
def fnSurrealOrderUptoRow : OpenClaim := { program := "ytlhdcdnbiodphaa", sum := "2966d25db6b620f26593c47ea030bc2bab43563300a451b64ab5c337d36babcc", func := "loop.example/g01096/laws.FnSurrealOrder", spec := "fnSurrealOrder", unfollowed := true, recurses := true, apart := false, narrowed := true }
def FnSurrealOrderUptoSaid : Prop := fnSurrealOrderUptoRow.holds Try.pinned (OpenSpec.upto fnSurrealOrderSpec)

/-- 'laws.FnGoodsteinFalls', WHERE WHAT IT READS IS OF BULK AT MOST 1048576: true; the input reads as it did. -/
def fnGoodsteinFallsUptoRow : OpenClaim := { program := "ytlhdcdnbiodphaa", sum := "2966d25db6b620f26593c47ea030bc2bab43563300a451b64ab5c337d36babcc", func := "loop.example/g01096/laws.FnGoodsteinFalls", spec := "fnGoodsteinFalls", unfollowed := true, recurses := true, apart := false, narrowed := true }
def FnGoodsteinFallsUptoSaid : Prop := fnGoodsteinFallsUptoRow.holds Try.pinned (OpenSpec.upto fnGoodsteinFallsSpec)

end Rows
end Go.Proofs.Ytlhdcdnbiodphaa
