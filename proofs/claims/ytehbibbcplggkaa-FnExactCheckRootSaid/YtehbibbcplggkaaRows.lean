/-
  NARROWER THAN 'FOR EVERY INPUT', by the rows' own cells (each row's printed sentence says how): FnExactPowerOfSurreal: loops · FnExactCheckQuotient: loops · FnExactCheckRoot: loops · FnExactPolynomialAt: loops.
  DERIVED. THE GIVEN ROWS OF THIS SEAT. 4 by the template 'for every input the law returns true; each argument reads behind the call as it read before'; 0 by the template 'total and deterministic' (their statements: YtehbibbcplggkaaTotals.lean).
  GIVEN WITH THE SEED: the statements are not yours to turn. If you find one false, say at which input.
  Laid BY PROGRAM, IN A SANDBOX (cutbox-rows.mjs): the forced cells as the released guide's own fill.sh prints them over the translation 86dd544f94d4747a… (all of the seat's roots in one cut). By AI agents, Wed Nov 11 2026. No macro, syntax, notation, axiom, sorry.
-/
import Derived.Test.YtehbibbcplggkaaChecked
import GoSem.Claim
import GoSem.ClaimJoined
import GoSem.ClaimMapViews
import Derived.JoinedTies
import Derived.KernelRfl
namespace Go.Proofs.Ytehbibbcplggkaa
/- THE CELL 'sum', in the pinned program and in every row, IS THE sha256 OF THE DUMP (.gsa) THAT YtehbibbcplggkaaProg.lean LOADS. Nothing in Lean hashes anything: it is a label: what it is worth is what the hold of that sum in a sandbox is worth. -/
noncomputable def Try.pinned : Pinned := { name := "ytehbibbcplggkaa", sum := "86dd544f94d4747a4928b8f626c0f05f53f2faf410916e378bfc6695f1fbee33", checked := Try.checked }
namespace Rows
def none {H : Type} : Left H := { results := [], args := [] }

/-- 'laws.FnExactPowerOfSurreal': WHATEVER THE INPUT: true; the input reads as it did. -/
def fnExactPowerOfSurrealSpec : ChangeSpec := { name := "fnExactPowerOfSurreal", fn := fun _ => fun
  | [d1, d2] => { results := [.lit (.bool true)], args := [d1, d2] }
  | _ => none }
def fnExactPowerOfSurrealRow : OpenClaim := { program := "ytehbibbcplggkaa", sum := "86dd544f94d4747a4928b8f626c0f05f53f2faf410916e378bfc6695f1fbee33", func := "loop.example/g01096/laws.FnExactPowerOfSurreal", spec := "fnExactPowerOfSurreal", unfollowed := true, recurses := true, loops := true, apart := false }
def FnExactPowerOfSurrealSaid : Prop := fnExactPowerOfSurrealRow.holds Try.pinned (OpenSpec.ofChange fnExactPowerOfSurrealSpec)

/-- ITS FALSE NEIGHBOUR: 'it returns false'. Refute it at one input. -/
def fnExactPowerOfSurrealWrong : ChangeSpec := { name := "fnExactPowerOfSurreal", fn := fun _ => fun
  | [d1, d2] => { results := [.lit (.bool false)], args := [d1, d2] }
  | _ => none }
def FnExactPowerOfSurrealWrongFalsely : Prop := fnExactPowerOfSurrealRow.holds Try.pinned (OpenSpec.ofChange fnExactPowerOfSurrealWrong)

/-- 'laws.FnExactCheckQuotient': WHATEVER THE INPUT: true; the input reads as it did. -/
def fnExactCheckQuotientSpec : ChangeSpec := { name := "fnExactCheckQuotient", fn := fun _ => fun
  | [d1, d2, d3, d4] => { results := [.lit (.bool true)], args := [d1, d2, d3, d4] }
  | _ => none }
def fnExactCheckQuotientRow : OpenClaim := { program := "ytehbibbcplggkaa", sum := "86dd544f94d4747a4928b8f626c0f05f53f2faf410916e378bfc6695f1fbee33", func := "loop.example/g01096/laws.FnExactCheckQuotient", spec := "fnExactCheckQuotient", unfollowed := true, recurses := true, loops := true, apart := false }
def FnExactCheckQuotientSaid : Prop := fnExactCheckQuotientRow.holds Try.pinned (OpenSpec.ofChange fnExactCheckQuotientSpec)

/-- ITS FALSE NEIGHBOUR: 'it returns false'. Refute it at one input. -/
def fnExactCheckQuotientWrong : ChangeSpec := { name := "fnExactCheckQuotient", fn := fun _ => fun
  | [d1, d2, d3, d4] => { results := [.lit (.bool false)], args := [d1, d2, d3, d4] }
  | _ => none }
def FnExactCheckQuotientWrongFalsely : Prop := fnExactCheckQuotientRow.holds Try.pinned (OpenSpec.ofChange fnExactCheckQuotientWrong)

/-- 'laws.FnExactCheckRoot': WHATEVER THE INPUT: true; the input reads as it did. -/
def fnExactCheckRootSpec : ChangeSpec := { name := "fnExactCheckRoot", fn := fun _ => fun
  | [d1, d2, d3, d4] => { results := [.lit (.bool true)], args := [d1, d2, d3, d4] }
  | _ => none }
def fnExactCheckRootRow : OpenClaim := { program := "ytehbibbcplggkaa", sum := "86dd544f94d4747a4928b8f626c0f05f53f2faf410916e378bfc6695f1fbee33", func := "loop.example/g01096/laws.FnExactCheckRoot", spec := "fnExactCheckRoot", unfollowed := true, recurses := true, loops := true, apart := false }
def FnExactCheckRootSaid : Prop := fnExactCheckRootRow.holds Try.pinned (OpenSpec.ofChange fnExactCheckRootSpec)

/-- ITS FALSE NEIGHBOUR: 'it returns false'. Refute it at one input. -/
def fnExactCheckRootWrong : ChangeSpec := { name := "fnExactCheckRoot", fn := fun _ => fun
  | [d1, d2, d3, d4] => { results := [.lit (.bool false)], args := [d1, d2, d3, d4] }
  | _ => none }
def FnExactCheckRootWrongFalsely : Prop := fnExactCheckRootRow.holds Try.pinned (OpenSpec.ofChange fnExactCheckRootWrong)

/-- 'laws.FnExactPolynomialAt': WHATEVER THE INPUT: true; the input reads as it did. -/
def fnExactPolynomialAtSpec : ChangeSpec := { name := "fnExactPolynomialAt", fn := fun _ => fun
  | [d1, d2] => { results := [.lit (.bool true)], args := [d1, d2] }
  | _ => none }
def fnExactPolynomialAtRow : OpenClaim := { program := "ytehbibbcplggkaa", sum := "86dd544f94d4747a4928b8f626c0f05f53f2faf410916e378bfc6695f1fbee33", func := "loop.example/g01096/laws.FnExactPolynomialAt", spec := "fnExactPolynomialAt", unfollowed := true, recurses := true, loops := true, apart := false }
def FnExactPolynomialAtSaid : Prop := fnExactPolynomialAtRow.holds Try.pinned (OpenSpec.ofChange fnExactPolynomialAtSpec)

/-- ITS FALSE NEIGHBOUR: 'it returns false'. Refute it at one input. -/
def fnExactPolynomialAtWrong : ChangeSpec := { name := "fnExactPolynomialAt", fn := fun _ => fun
  | [d1, d2] => { results := [.lit (.bool false)], args := [d1, d2] }
  | _ => none }
def FnExactPolynomialAtWrongFalsely : Prop := fnExactPolynomialAtRow.holds Try.pinned (OpenSpec.ofChange fnExactPolynomialAtWrong)

/- THE SECOND FORM. 'bulk': how many values and letters a reading holds, each counted each time it is reached (what is shared counts as often as it is met; a slice's spare places count too). A statement '..UptoSaid' is the law's where the arguments, and the package variables that the reading takes, are together of bulk at most 1048576: NARROWER than '..Said'. Prove '..Said' where nothing that the law and all that it calls make is longer than what came in: it says more and counts as full. Else prove '..UptoSaid'. A law counts once. -/
mutual
def uptoBulk {H : Type} : DataW H → Nat
  | .lit (.string bytes) => bytes.length + 1
  | .lit _ => 1
  | .nil => 1
  | .ptr d => uptoBulk d + 1
  | .slice elems spare => uptoBulkAll elems + uptoBulkAll spare + 1
  | .agg parts => uptoBulkAll parts + 1
  | .iface _ d => uptoBulk d + 1
  | .map entries => uptoBulkEntries entries + 1
  | .held _ => 1
def uptoBulkAll {H : Type} : List (DataW H) → Nat
  | [] => 0
  | d :: r => uptoBulk d + uptoBulkAll r
def uptoBulkEntries {H : Type} : List (Lit × DataW H) → Nat
  | [] => 0
  | x :: r => uptoBulkEntry x + uptoBulkEntries r
def uptoBulkEntry {H : Type} : Lit × DataW H → Nat
  | (.string bytes, d) => bytes.length + uptoBulk d + 1
  | (_, d) => uptoBulk d + 1
 end
def uptoSmall : (H : Type) → List (DataW H) → Bool := fun _ ds => decide (uptoBulkAll ds ≤ 1048576)
def OpenSpec.upto (s : _root_.Go.ChangeSpec) : _root_.Go.OpenSpec := { _root_.Go.OpenSpec.ofChange s with cond := some uptoSmall }

/-- 'laws.FnExactPowerOfSurreal', WHERE WHAT IT READS IS OF BULK AT MOST 1048576: true; the input reads as it did. -/
def fnExactPowerOfSurrealUptoRow : OpenClaim := { program := "ytehbibbcplggkaa", sum := "86dd544f94d4747a4928b8f626c0f05f53f2faf410916e378bfc6695f1fbee33", func := "loop.example/g01096/laws.FnExactPowerOfSurreal", spec := "fnExactPowerOfSurreal", unfollowed := true, recurses := true, loops := true, apart := false, narrowed := true }
def FnExactPowerOfSurrealUptoSaid : Prop := fnExactPowerOfSurrealUptoRow.holds Try.pinned (OpenSpec.upto fnExactPowerOfSurrealSpec)

/-- 'laws.FnExactCheckQuotient', WHERE WHAT IT READS IS OF BULK AT MOST 1048576: true; the input reads as it did. -/
def fnExactCheckQuotientUptoRow : OpenClaim := { program := "ytehbibbcplggkaa", sum := "86dd544f94d4747a4928b8f626c0f05f53f2faf410916e378bfc6695f1fbee33", func := "loop.example/g01096/laws.FnExactCheckQuotient", spec := "fnExactCheckQuotient", unfollowed := true, recurses := true, loops := true, apart := false, narrowed := true }
def FnExactCheckQuotientUptoSaid : Prop := fnExactCheckQuotientUptoRow.holds Try.pinned (OpenSpec.upto fnExactCheckQuotientSpec)

/-- 'laws.FnExactCheckRoot', WHERE WHAT IT READS IS OF BULK AT MOST 1048576: true; the input reads as it did. -/
def fnExactCheckRootUptoRow : OpenClaim := { program := "ytehbibbcplggkaa", sum := "86dd544f94d4747a4928b8f626c0f05f53f2faf410916e378bfc6695f1fbee33", func := "loop.example/g01096/laws.FnExactCheckRoot", spec := "fnExactCheckRoot", unfollowed := true, recurses := true, loops := true, apart := false, narrowed := true }
def FnExactCheckRootUptoSaid : Prop := fnExactCheckRootUptoRow.holds Try.pinned (OpenSpec.upto fnExactCheckRootSpec)

/-- 'laws.FnExactPolynomialAt', WHERE WHAT IT READS IS OF BULK AT MOST 1048576: true; the input reads as it did. -/
def fnExactPolynomialAtUptoRow : OpenClaim := { program := "ytehbibbcplggkaa", sum := "86dd544f94d4747a4928b8f626c0f05f53f2faf410916e378bfc6695f1fbee33", func := "loop.example/g01096/laws.FnExactPolynomialAt", spec := "fnExactPolynomialAt", unfollowed := true, recurses := true, loops := true, apart := false, narrowed := true }
def FnExactPolynomialAtUptoSaid : Prop := fnExactPolynomialAtUptoRow.holds Try.pinned (OpenSpec.upto fnExactPolynomialAtSpec)

end Rows
end Go.Proofs.Ytehbibbcplggkaa
