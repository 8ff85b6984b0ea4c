/-
  NARROWER THAN 'FOR EVERY INPUT', by the rows' own cells (each row's printed sentence says how): FnExactShortOfWord: loops · FnExactEntryOf: loops.
  DERIVED. THE GIVEN ROWS OF THIS SEAT. 3 by the template 'for every input the law returns true; each argument reads behind the call as it read before'; 0 by the template 'total and deterministic' (their statements: YthboihanakagnaaTotals.lean).
  GIVEN WITH THE SEED: the statements are not yours to turn. If you find one false, say at which input.
  Laid BY PROGRAM, IN A SANDBOX (cutbox-rows.mjs): the forced cells as the released guide's own fill.sh prints them over the translation 7fc175f431da0cab… (all of the seat's roots in one cut). By AI agents, Wed Nov 11 2026. No macro, syntax, notation, axiom, sorry.
-/
import Derived.Test.YthboihanakagnaaChecked
import GoSem.Claim
import GoSem.ClaimJoined
import GoSem.ClaimMapViews
import Derived.JoinedTies
import Derived.KernelRfl
namespace Go.Proofs.Ythboihanakagnaa
/- THE CELL 'sum', in the pinned program and in every row, IS THE sha256 OF THE DUMP (.gsa) THAT YthboihanakagnaaProg.lean LOADS. Nothing in Lean hashes anything: it is a label: what it is worth is what the hold of that sum in a sandbox is worth. -/
noncomputable def Try.pinned : Pinned := { name := "ythboihanakagnaa", sum := "7fc175f431da0cab658e07228746dda10f0daa8faa2a70668eb5ba7d63ec792a", checked := Try.checked }
namespace Rows
def none {H : Type} : Left H := { results := [], args := [] }

/-- 'laws.FnNumbersCutOff': WHATEVER THE INPUT: true; the input reads as it did. -/
def fnNumbersCutOffSpec : ChangeSpec := { name := "fnNumbersCutOff", fn := fun _ => fun
  | [d1, d2] => { results := [.lit (.bool true)], args := [d1, d2] }
  | _ => none }
def fnNumbersCutOffRow : OpenClaim := { program := "ythboihanakagnaa", sum := "7fc175f431da0cab658e07228746dda10f0daa8faa2a70668eb5ba7d63ec792a", func := "loop.example/g01096/laws.FnNumbersCutOff", spec := "fnNumbersCutOff", unfollowed := true, recurses := true, apart := false }
def FnNumbersCutOffSaid : Prop := fnNumbersCutOffRow.holds Try.pinned (OpenSpec.ofChange fnNumbersCutOffSpec)

/-- ITS FALSE NEIGHBOUR: 'it returns false'. Refute it at one input. -/
def fnNumbersCutOffWrong : ChangeSpec := { name := "fnNumbersCutOff", fn := fun _ => fun
  | [d1, d2] => { results := [.lit (.bool false)], args := [d1, d2] }
  | _ => none }
def FnNumbersCutOffWrongFalsely : Prop := fnNumbersCutOffRow.holds Try.pinned (OpenSpec.ofChange fnNumbersCutOffWrong)

/-- 'laws.FnExactShortOfWord': WHATEVER THE INPUT: true; the input reads as it did. -/
def fnExactShortOfWordSpec : ChangeSpec := { name := "fnExactShortOfWord", fn := fun _ => fun
  | [d] => { results := [.lit (.bool true)], args := [d] }
  | _ => none }
def fnExactShortOfWordRow : OpenClaim := { program := "ythboihanakagnaa", sum := "7fc175f431da0cab658e07228746dda10f0daa8faa2a70668eb5ba7d63ec792a", func := "loop.example/g01096/laws.FnExactShortOfWord", spec := "fnExactShortOfWord", inPlace := ["internal/abi.NoEscape", "internal/bytealg.MakeNoZero"], unfollowed := true, recurses := true, loops := true, apart := false }
def FnExactShortOfWordSaid : Prop := fnExactShortOfWordRow.holds Try.pinned (OpenSpec.ofChange fnExactShortOfWordSpec)

/-- ITS FALSE NEIGHBOUR: 'it returns false'. Refute it at one input. -/
def fnExactShortOfWordWrong : ChangeSpec := { name := "fnExactShortOfWord", fn := fun _ => fun
  | [d] => { results := [.lit (.bool false)], args := [d] }
  | _ => none }
def FnExactShortOfWordWrongFalsely : Prop := fnExactShortOfWordRow.holds Try.pinned (OpenSpec.ofChange fnExactShortOfWordWrong)

/-- 'laws.FnExactEntryOf': WHATEVER THE INPUT: true; the input reads as it did. -/
def fnExactEntryOfSpec : ChangeSpec := { name := "fnExactEntryOf", fn := fun _ => fun
  | [d1, d2] => { results := [.lit (.bool true)], args := [d1, d2] }
  | _ => none }
def fnExactEntryOfRow : OpenClaim := { program := "ythboihanakagnaa", sum := "7fc175f431da0cab658e07228746dda10f0daa8faa2a70668eb5ba7d63ec792a", func := "loop.example/g01096/laws.FnExactEntryOf", spec := "fnExactEntryOf", inPlace := ["internal/bytealg.abigen_runtime_cmpstring"], unfollowed := true, recurses := true, loops := true, apart := false }
def FnExactEntryOfSaid : Prop := fnExactEntryOfRow.holds Try.pinned (OpenSpec.ofChange fnExactEntryOfSpec)

/-- ITS FALSE NEIGHBOUR: 'it returns false'. Refute it at one input. -/
def fnExactEntryOfWrong : ChangeSpec := { name := "fnExactEntryOf", fn := fun _ => fun
  | [d1, d2] => { results := [.lit (.bool false)], args := [d1, d2] }
  | _ => none }
def FnExactEntryOfWrongFalsely : Prop := fnExactEntryOfRow.holds Try.pinned (OpenSpec.ofChange fnExactEntryOfWrong)

/- THE SECOND FORM. 'bulk': how many values and letters a reading holds, each counted each time it is reached (what is shared counts as often as it is met; a slice's spare places count too). A statement '..UptoSaid' is the law's where the arguments, and the package variables that the reading takes, are together of bulk at most 1048576: NARROWER than '..Said'. Prove '..Said' where nothing that the law and all that it calls make is longer than what came in: it says more and counts as full. Else prove '..UptoSaid'. A law counts once. -/
mutual
def uptoBulk {H : Type} : DataW H → Nat
  | .lit (.string bytes) => bytes.length + 1
  | .lit _ => 1
  | .nil => 1
  | .ptr d => uptoBulk d + 1
  | .slice elems spare => uptoBulkAll elems + uptoBulkAll spare + 1
  | .agg parts => uptoBulkAll parts + 1
  | .iface _ d => uptoBulk d + 1
  | .map entries => uptoBulkEntries entries + 1
  | .held _ => 1
def uptoBulkAll {H : Type} : List (DataW H) → Nat
  | [] => 0
  | d :: r => uptoBulk d + uptoBulkAll r
def uptoBulkEntries {H : Type} : List (Lit × DataW H) → Nat
  | [] => 0
  | x :: r => uptoBulkEntry x + uptoBulkEntries r
def uptoBulkEntry {H : Type} : Lit × DataW H → Nat
  | (.string bytes, d) => bytes.length + uptoBulk d + 1
  | (_, d) => uptoBulk d + 1
 end
def uptoSmall : (H : Type) → List (DataW H) → Bool := fun _ ds => decide (uptoBulkAll ds ≤ 1048576)
def OpenSpec.upto (s : _root_.Go.ChangeSpec) : _root_.Go.OpenSpec := { _root_.Go.OpenSpec.ofChange s with cond := some uptoSmall }

/-- 'laws.FnNumbersCutOff', WHERE WHAT IT READS IS OF BULK AT MOST 1048576: true; the input reads as it did. -/
def fnNumbersCutOffUptoRow : OpenClaim := { program := "ythboihanakagnaa", sum := "7fc175f431da0cab658e07228746dda10f0daa8faa2a70668eb5ba7d63ec792a", func := "loop.example/g01096/laws.FnNumbersCutOff", spec := "fnNumbersCutOff", unfollowed := true, recurses := true, apart := false, narrowed := true }
def FnNumbersCutOffUptoSaid : Prop := fnNumbersCutOffUptoRow.holds Try.pinned (OpenSpec.upto fnNumbersCutOffSpec)

/-- 'laws.FnExactShortOfWord', WHERE WHAT IT READS IS OF BULK AT MOST 1048576: true; the input reads as it did. -/
def fnExactShortOfWordUptoRow : OpenClaim := { program := "ythboihanakagnaa", sum := "7fc175f431da0cab658e07228746dda10f0daa8faa2a70668eb5ba7d63ec792a", func := "loop.example/g01096/laws.FnExactShortOfWord", spec := "fnExactShortOfWord", inPlace := ["internal/abi.NoEscape", "internal/bytealg.MakeNoZero"], unfollowed := true, recurses := true, loops := true, apart := false, narrowed := true }
def FnExactShortOfWordUptoSaid : Prop := fnExactShortOfWordUptoRow.holds Try.pinned (OpenSpec.upto fnExactShortOfWordSpec)

/-- 'laws.FnExactEntryOf', WHERE WHAT IT READS IS OF BULK AT MOST 1048576: true; the input reads as it did. -/
def fnExactEntryOfUptoRow : OpenClaim := { program := "ythboihanakagnaa", sum := "7fc175f431da0cab658e07228746dda10f0daa8faa2a70668eb5ba7d63ec792a", func := "loop.example/g01096/laws.FnExactEntryOf", spec := "fnExactEntryOf", inPlace := ["internal/bytealg.abigen_runtime_cmpstring"], unfollowed := true, recurses := true, loops := true, apart := false, narrowed := true }
def FnExactEntryOfUptoSaid : Prop := fnExactEntryOfUptoRow.holds Try.pinned (OpenSpec.upto fnExactEntryOfSpec)

end Rows
end Go.Proofs.Ythboihanakagnaa
