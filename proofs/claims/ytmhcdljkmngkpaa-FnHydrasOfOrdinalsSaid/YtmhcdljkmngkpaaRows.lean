/-
  No cell of these rows narrows 'for every input' (looked for: loops, veiled, ifaces, maps, wideKeys, modest, calm, conditions, laid).
  DERIVED. THE GIVEN ROWS OF THIS SEAT. 6 by the template 'for every input the law returns true; each argument reads behind the call as it read before'; 0 by the template 'total and deterministic' (their statements: YtmhcdljkmngkpaaTotals.lean).
  GIVEN WITH THE SEED: the statements are not yours to turn. If you find one false, say at which input.
  Laid BY PROGRAM, IN A SANDBOX (cutbox-rows.mjs): the forced cells as the released guide's own fill.sh prints them over the translation 6c99b5100213e8a3… (all of the seat's roots in one cut). By AI agents, Wed Nov 11 2026. No macro, syntax, notation, axiom, sorry.
-/
import Derived.Test.YtmhcdljkmngkpaaChecked
import GoSem.Claim
import GoSem.ClaimJoined
import GoSem.ClaimMapViews
import Derived.JoinedTies
import Derived.KernelRfl
namespace Go.Proofs.Ytmhcdljkmngkpaa
/- THE CELL 'sum', in the pinned program and in every row, IS THE sha256 OF THE DUMP (.gsa) THAT YtmhcdljkmngkpaaProg.lean LOADS. Nothing in Lean hashes anything: it is a label: what it is worth is what the hold of that sum in a sandbox is worth. -/
noncomputable def Try.pinned : Pinned := { name := "ytmhcdljkmngkpaa", sum := "6c99b5100213e8a3e2cdb96c9fd13b6a735d80fa0e0dc0f31c4f52cf8f8feddb", checked := Try.checked }
namespace Rows
def none {H : Type} : Left H := { results := [], args := [] }

/-- 'laws.FnExactHydraOrdinal': WHATEVER THE INPUT: true; the input reads as it did. -/
def fnExactHydraOrdinalSpec : ChangeSpec := { name := "fnExactHydraOrdinal", fn := fun _ => fun
  | [d] => { results := [.lit (.bool true)], args := [d] }
  | _ => none }
def fnExactHydraOrdinalRow : OpenClaim := { program := "ytmhcdljkmngkpaa", sum := "6c99b5100213e8a3e2cdb96c9fd13b6a735d80fa0e0dc0f31c4f52cf8f8feddb", func := "loop.example/g01096/laws.FnExactHydraOrdinal", spec := "fnExactHydraOrdinal", unfollowed := true, recurses := true, apart := false }
def FnExactHydraOrdinalSaid : Prop := fnExactHydraOrdinalRow.holds Try.pinned (OpenSpec.ofChange fnExactHydraOrdinalSpec)

/-- ITS FALSE NEIGHBOUR: 'it returns false'. Refute it at one input. -/
def fnExactHydraOrdinalWrong : ChangeSpec := { name := "fnExactHydraOrdinal", fn := fun _ => fun
  | [d] => { results := [.lit (.bool false)], args := [d] }
  | _ => none }
def FnExactHydraOrdinalWrongFalsely : Prop := fnExactHydraOrdinalRow.holds Try.pinned (OpenSpec.ofChange fnExactHydraOrdinalWrong)

/-- 'laws.FnChopsLower': WHATEVER THE INPUT: true; the input reads as it did. -/
def fnChopsLowerSpec : ChangeSpec := { name := "fnChopsLower", fn := fun _ => fun
  | [d1, d2] => { results := [.lit (.bool true)], args := [d1, d2] }
  | _ => none }
def fnChopsLowerRow : OpenClaim := { program := "ytmhcdljkmngkpaa", sum := "6c99b5100213e8a3e2cdb96c9fd13b6a735d80fa0e0dc0f31c4f52cf8f8feddb", func := "loop.example/g01096/laws.FnChopsLower", spec := "fnChopsLower", unfollowed := true, recurses := true, apart := false }
def FnChopsLowerSaid : Prop := fnChopsLowerRow.holds Try.pinned (OpenSpec.ofChange fnChopsLowerSpec)

/-- ITS FALSE NEIGHBOUR: 'it returns false'. Refute it at one input. -/
def fnChopsLowerWrong : ChangeSpec := { name := "fnChopsLower", fn := fun _ => fun
  | [d1, d2] => { results := [.lit (.bool false)], args := [d1, d2] }
  | _ => none }
def FnChopsLowerWrongFalsely : Prop := fnChopsLowerRow.holds Try.pinned (OpenSpec.ofChange fnChopsLowerWrong)

/-- 'laws.FnPlayedHydras': WHATEVER THE INPUT: true; the input reads as it did. -/
def fnPlayedHydrasSpec : ChangeSpec := { name := "fnPlayedHydras", fn := fun _ => fun
  | [d1, d2] => { results := [.lit (.bool true)], args := [d1, d2] }
  | _ => none }
def fnPlayedHydrasRow : OpenClaim := { program := "ytmhcdljkmngkpaa", sum := "6c99b5100213e8a3e2cdb96c9fd13b6a735d80fa0e0dc0f31c4f52cf8f8feddb", func := "loop.example/g01096/laws.FnPlayedHydras", spec := "fnPlayedHydras", unfollowed := true, recurses := true, apart := false }
def FnPlayedHydrasSaid : Prop := fnPlayedHydrasRow.holds Try.pinned (OpenSpec.ofChange fnPlayedHydrasSpec)

/-- ITS FALSE NEIGHBOUR: 'it returns false'. Refute it at one input. -/
def fnPlayedHydrasWrong : ChangeSpec := { name := "fnPlayedHydras", fn := fun _ => fun
  | [d1, d2] => { results := [.lit (.bool false)], args := [d1, d2] }
  | _ => none }
def FnPlayedHydrasWrongFalsely : Prop := fnPlayedHydrasRow.holds Try.pinned (OpenSpec.ofChange fnPlayedHydrasWrong)

/-- 'laws.FnExactBestHead': WHATEVER THE INPUT: true; the input reads as it did. -/
def fnExactBestHeadSpec : ChangeSpec := { name := "fnExactBestHead", fn := fun _ => fun
  | [d1, d2] => { results := [.lit (.bool true)], args := [d1, d2] }
  | _ => none }
def fnExactBestHeadRow : OpenClaim := { program := "ytmhcdljkmngkpaa", sum := "6c99b5100213e8a3e2cdb96c9fd13b6a735d80fa0e0dc0f31c4f52cf8f8feddb", func := "loop.example/g01096/laws.FnExactBestHead", spec := "fnExactBestHead", unfollowed := true, recurses := true, apart := false }
def FnExactBestHeadSaid : Prop := fnExactBestHeadRow.holds Try.pinned (OpenSpec.ofChange fnExactBestHeadSpec)

/-- ITS FALSE NEIGHBOUR: 'it returns false'. Refute it at one input. -/
def fnExactBestHeadWrong : ChangeSpec := { name := "fnExactBestHead", fn := fun _ => fun
  | [d1, d2] => { results := [.lit (.bool false)], args := [d1, d2] }
  | _ => none }
def FnExactBestHeadWrongFalsely : Prop := fnExactBestHeadRow.holds Try.pinned (OpenSpec.ofChange fnExactBestHeadWrong)

/-- 'laws.FnHydrasOfOrdinals': WHATEVER THE INPUT: true; the input reads as it did. -/
def fnHydrasOfOrdinalsSpec : ChangeSpec := { name := "fnHydrasOfOrdinals", fn := fun _ => fun
  | [d1, d2] => { results := [.lit (.bool true)], args := [d1, d2] }
  | _ => none }
def fnHydrasOfOrdinalsRow : OpenClaim := { program := "ytmhcdljkmngkpaa", sum := "6c99b5100213e8a3e2cdb96c9fd13b6a735d80fa0e0dc0f31c4f52cf8f8feddb", func := "loop.example/g01096/laws.FnHydrasOfOrdinals", spec := "fnHydrasOfOrdinals", inPlace := ["internal/abi.NoEscape"], unfollowed := true, recurses := true, apart := false }
def FnHydrasOfOrdinalsSaid : Prop := fnHydrasOfOrdinalsRow.holds Try.pinned (OpenSpec.ofChange fnHydrasOfOrdinalsSpec)

/-- ITS FALSE NEIGHBOUR: 'it returns false'. Refute it at one input. -/
def fnHydrasOfOrdinalsWrong : ChangeSpec := { name := "fnHydrasOfOrdinals", fn := fun _ => fun
  | [d1, d2] => { results := [.lit (.bool false)], args := [d1, d2] }
  | _ => none }
def FnHydrasOfOrdinalsWrongFalsely : Prop := fnHydrasOfOrdinalsRow.holds Try.pinned (OpenSpec.ofChange fnHydrasOfOrdinalsWrong)

/-- 'laws.FnBestHeads': WHATEVER THE INPUT: true; the input reads as it did. -/
def fnBestHeadsSpec : ChangeSpec := { name := "fnBestHeads", fn := fun _ => fun
  | [d1, d2] => { results := [.lit (.bool true)], args := [d1, d2] }
  | _ => none }
def fnBestHeadsRow : OpenClaim := { program := "ytmhcdljkmngkpaa", sum := "6c99b5100213e8a3e2cdb96c9fd13b6a735d80fa0e0dc0f31c4f52cf8f8feddb", func := "loop.example/g01096/laws.FnBestHeads", spec := "fnBestHeads", unfollowed := true, recurses := true, apart := false }
def FnBestHeadsSaid : Prop := fnBestHeadsRow.holds Try.pinned (OpenSpec.ofChange fnBestHeadsSpec)

/-- ITS FALSE NEIGHBOUR: 'it returns false'. Refute it at one input. -/
def fnBestHeadsWrong : ChangeSpec := { name := "fnBestHeads", fn := fun _ => fun
  | [d1, d2] => { results := [.lit (.bool false)], args := [d1, d2] }
  | _ => none }
def FnBestHeadsWrongFalsely : Prop := fnBestHeadsRow.holds Try.pinned (OpenSpec.ofChange fnBestHeadsWrong)

/- THE SECOND FORM. 'bulk': how many values and letters a reading holds, each counted each time it is reached (what is shared counts as often as it is met; a slice's spare places count too). A statement '..UptoSaid' is the law's where the arguments, and the package variables that the reading takes, are together of bulk at most 1048576: NARROWER than '..Said'. Prove '..Said' where nothing that the law and all that it calls make is longer than what came in: it says more and counts as full. Else prove '..UptoSaid'. A law counts once. -/
mutual
def uptoBulk {H : Type} : DataW H → Nat
  | .lit (.string bytes) => bytes.length + 1
  | .lit _ => 1
  | .nil => 1
  | .ptr d => uptoBulk d + 1
  | .slice elems spare => uptoBulkAll elems + uptoBulkAll spare + 1
  | .agg parts => uptoBulkAll parts + 1
  | .iface _ d => uptoBulk d + 1
  | .map entries => uptoBulkEntries entries + 1
  | .held _ => 1
def uptoBulkAll {H : Type} : List (DataW H) → Nat
  | [] => 0
  | d :: r => uptoBulk d + uptoBulkAll r
def uptoBulkEntries {H : Type} : List (Lit × DataW H) → Nat
  | [] => 0
  | x :: r => uptoBulkEntry x + uptoBulkEntries r
def uptoBulkEntry {H : Type} : Lit × DataW H → Nat
  | (.string bytes, d) => bytes.length + uptoBulk d + 1
  | (_, d) => uptoBulk d + 1
 end
def uptoSmall : (H : Type) → List (DataW H) → Bool := fun _ ds => decide (uptoBulkAll ds ≤ 1048576)
def OpenSpec.upto (s : _root_.Go.ChangeSpec) : _root_.Go.OpenSpec := { _root_.Go.OpenSpec.ofChange s with cond := some uptoSmall }

/-- 'laws.FnExactHydraOrdinal', WHERE WHAT IT READS IS OF BULK AT MOST 1048576: true; the input reads as it did. -/
def fnExactHydraOrdinalUptoRow : OpenClaim := { program := "ytmhcdljkmngkpaa", sum := "6c99b5100213e8a3e2cdb96c9fd13b6a735d80fa0e0dc0f31c4f52cf8f8feddb", func := "loop.example/g01096/laws.FnExactHydraOrdinal", spec := "fnExactHydraOrdinal", unfollowed := true, recurses := true, apart := false, narrowed := true }
def FnExactHydraOrdinalUptoSaid : Prop := fnExactHydraOrdinalUptoRow.holds Try.pinned (OpenSpec.upto fnExactHydraOrdinalSpec)

/-- 'laws.FnChopsLower', WHERE WHAT IT READS IS OF BULK AT MOST 1048576: true; the input reads as it did. -/
def fnChopsLowerUptoRow : OpenClaim := { program := "ytmhcdljkmngkpaa", sum := "6c99b5100213e8a3e2cdb96c9fd13b6a735d80fa0e0dc0f31c4f52cf8f8feddb", func := "loop.example/g01096/laws.FnChopsLower", spec := "fnChopsLower", unfollowed := true, recurses := true, apart := false, narrowed := true }
def FnChopsLowerUptoSaid : Prop := fnChopsLowerUptoRow.holds Try.pinned (OpenSpec.upto fnChopsLowerSpec)

/-- 'laws.FnPlayedHydras', WHERE WHAT IT READS IS OF BULK AT MOST 1048576: true; the input reads as it did. -/
def fnPlayedHydrasUptoRow : OpenClaim := { program := "ytmhcdljkmngkpaa", sum := "6c99b5100213e8a3e2cdb96c9fd13b6a735d80fa0e0dc0f31c4f52cf8f8feddb", func := "loop.example/g01096/laws.FnPlayedHydras", spec := "fnPlayedHydras", unfollowed := true, recurses := true, apart := false, narrowed := true }
def FnPlayedHydrasUptoSaid : Prop := fnPlayedHydrasUptoRow.holds Try.pinned (OpenSpec.upto fnPlayedHydrasSpec)

/-- 'laws.FnExactBestHead', WHERE WHAT IT READS IS OF BULK AT MOST 1048576: true; the input reads as it did. -/
def fnExactBestHeadUptoRow : OpenClaim := { program := "ytmhcdljkmngkpaa", sum := "6c99b5100213e8a3e2cdb96c9fd13b6a735d80fa0e0dc0f31c4f52cf8f8feddb", func := "loop.example/g01096/laws.FnExactBestHead", spec := "fnExactBestHead", unfollowed := true, recurses := true, apart := false, narrowed := true }
def FnExactBestHeadUptoSaid : Prop := fnExactBestHeadUptoRow.holds Try.pinned (OpenSpec.upto fnExactBestHeadSpec)

/-- 'laws.FnHydrasOfOrdinals', WHERE WHAT IT READS IS OF BULK AT MOST 1048576: true; the input reads as it did. -/
def fnHydrasOfOrdinalsUptoRow : OpenClaim := { program := "ytmhcdljkmngkpaa", sum := "6c99b5100213e8a3e2cdb96c9fd13b6a735d80fa0e0dc0f31c4f52cf8f8feddb", func := "loop.example/g01096/laws.FnHydrasOfOrdinals", spec := "fnHydrasOfOrdinals", inPlace := ["internal/abi.NoEscape"], unfollowed := true, recurses := true, apart := false, narrowed := true }
def FnHydrasOfOrdinalsUptoSaid : Prop := fnHydrasOfOrdinalsUptoRow.holds Try.pinned (OpenSpec.upto fnHydrasOfOrdinalsSpec)

/-- 'laws.FnBestHeads', WHERE WHAT IT READS IS OF BULK AT MOST 1048576: true; the input reads as it did. -/
def fnBestHeadsUptoRow : OpenClaim := { program := "ytmhcdljkmngkpaa", sum := "6c99b5100213e8a3e2cdb96c9fd13b6a735d80fa0e0dc0f31c4f52cf8f8feddb", func := "loop.example/g01096/laws.FnBestHeads", spec := "fnBestHeads", unfollowed := true, recurses := true, apart := false, narrowed := true }
def FnBestHeadsUptoSaid : Prop := fnBestHeadsUptoRow.holds Try.pinned (OpenSpec.upto fnBestHeadsSpec)

end Rows
end Go.Proofs.Ytmhcdljkmngkpaa
