/-
  NARROWER THAN 'FOR EVERY INPUT', by the rows' own cells (each row's printed sentence says how): FnExactFromOrdinal: loops · FnExactFundamentalAt: loops.
  DERIVED. THE GIVEN ROWS OF THIS SEAT. 3 by the template 'for every input the law returns true; each argument reads behind the call as it read before'; 0 by the template 'total and deterministic' (their statements: YtkloidpjgdlpkaaTotals.lean).
  GIVEN WITH THE SEED: the statements are not yours to turn. If you find one false, say at which input.
  Laid BY PROGRAM, IN A SANDBOX (cutbox-rows.mjs): the forced cells as the released guide's own fill.sh prints them over the translation 1c478304aebd0749… (all of the seat's roots in one cut). By AI agents, Wed Nov 11 2026. No macro, syntax, notation, axiom, sorry.
-/
import Derived.Test.YtkloidpjgdlpkaaChecked
import GoSem.Claim
import GoSem.ClaimJoined
import GoSem.ClaimMapViews
import Derived.JoinedTies
import Derived.KernelRfl
namespace Go.Proofs.Ytkloidpjgdlpkaa
/- THE CELL 'sum', in the pinned program and in every row, IS THE sha256 OF THE DUMP (.gsa) THAT YtkloidpjgdlpkaaProg.lean LOADS. Nothing in Lean hashes anything: it is a label: what it is worth is what the hold of that sum in a sandbox is worth. -/
noncomputable def Try.pinned : Pinned := { name := "ytkloidpjgdlpkaa", sum := "1c478304aebd0749d71913f4a954b9435faf110e89fbbc19fb214fe30e6153ac", checked := Try.checked }
namespace Rows
def none {H : Type} : Left H := { results := [], args := [] }

/-- 'laws.FnOrdinalSums': WHATEVER THE INPUT: true; the input reads as it did. -/
def fnOrdinalSumsSpec : ChangeSpec := { name := "fnOrdinalSums", fn := fun _ => fun
  | [d1, d2] => { results := [.lit (.bool true)], args := [d1, d2] }
  | _ => none }
def fnOrdinalSumsRow : OpenClaim := { program := "ytkloidpjgdlpkaa", sum := "1c478304aebd0749d71913f4a954b9435faf110e89fbbc19fb214fe30e6153ac", func := "loop.example/g01096/laws.FnOrdinalSums", spec := "fnOrdinalSums", unfollowed := true, recurses := true, apart := false }
def FnOrdinalSumsSaid : Prop := fnOrdinalSumsRow.holds Try.pinned (OpenSpec.ofChange fnOrdinalSumsSpec)

/-- ITS FALSE NEIGHBOUR: 'it returns false'. Refute it at one input. -/
def fnOrdinalSumsWrong : ChangeSpec := { name := "fnOrdinalSums", fn := fun _ => fun
  | [d1, d2] => { results := [.lit (.bool false)], args := [d1, d2] }
  | _ => none }
def FnOrdinalSumsWrongFalsely : Prop := fnOrdinalSumsRow.holds Try.pinned (OpenSpec.ofChange fnOrdinalSumsWrong)

/-- 'laws.FnExactFromOrdinal': WHATEVER THE INPUT: true; the input reads as it did. -/
def fnExactFromOrdinalSpec : ChangeSpec := { name := "fnExactFromOrdinal", fn := fun _ => fun
  | [d] => { results := [.lit (.bool true)], args := [d] }
  | _ => none }
def fnExactFromOrdinalRow : OpenClaim := { program := "ytkloidpjgdlpkaa", sum := "1c478304aebd0749d71913f4a954b9435faf110e89fbbc19fb214fe30e6153ac", func := "loop.example/g01096/laws.FnExactFromOrdinal", spec := "fnExactFromOrdinal", unfollowed := true, recurses := true, loops := true, apart := false }
def FnExactFromOrdinalSaid : Prop := fnExactFromOrdinalRow.holds Try.pinned (OpenSpec.ofChange fnExactFromOrdinalSpec)

/-- ITS FALSE NEIGHBOUR: 'it returns false'. Refute it at one input. -/
def fnExactFromOrdinalWrong : ChangeSpec := { name := "fnExactFromOrdinal", fn := fun _ => fun
  | [d] => { results := [.lit (.bool false)], args := [d] }
  | _ => none }
def FnExactFromOrdinalWrongFalsely : Prop := fnExactFromOrdinalRow.holds Try.pinned (OpenSpec.ofChange fnExactFromOrdinalWrong)

/-- 'laws.FnExactFundamentalAt': WHATEVER THE INPUT: true; the input reads as it did. -/
def fnExactFundamentalAtSpec : ChangeSpec := { name := "fnExactFundamentalAt", fn := fun _ => fun
  | [d1, d2] => { results := [.lit (.bool true)], args := [d1, d2] }
  | _ => none }
def fnExactFundamentalAtRow : OpenClaim := { program := "ytkloidpjgdlpkaa", sum := "1c478304aebd0749d71913f4a954b9435faf110e89fbbc19fb214fe30e6153ac", func := "loop.example/g01096/laws.FnExactFundamentalAt", spec := "fnExactFundamentalAt", unfollowed := true, recurses := true, loops := true, apart := false }
def FnExactFundamentalAtSaid : Prop := fnExactFundamentalAtRow.holds Try.pinned (OpenSpec.ofChange fnExactFundamentalAtSpec)

/-- ITS FALSE NEIGHBOUR: 'it returns false'. Refute it at one input. -/
def fnExactFundamentalAtWrong : ChangeSpec := { name := "fnExactFundamentalAt", fn := fun _ => fun
  | [d1, d2] => { results := [.lit (.bool false)], args := [d1, d2] }
  | _ => none }
def FnExactFundamentalAtWrongFalsely : Prop := fnExactFundamentalAtRow.holds Try.pinned (OpenSpec.ofChange fnExactFundamentalAtWrong)

/- THE SECOND FORM. 'bulk': how many values and letters a reading holds, each counted each time it is reached (what is shared counts as often as it is met; a slice's spare places count too). A statement '..UptoSaid' is the law's where the arguments, and the package variables that the reading takes, are together of bulk at most 1048576: NARROWER than '..Said'. Prove '..Said' where nothing that the law and all that it calls make is longer than what came in: it says more and counts as full. Else prove '..UptoSaid'. A law counts once. -/
mutual
def uptoBulk {H : Type} : DataW H → Nat
  | .lit (.string bytes) => bytes.length + 1
  | .lit _ => 1
  | .nil => 1
  | .ptr d => uptoBulk d + 1
  | .slice elems spare => uptoBulkAll elems + uptoBulkAll spare + 1
  | .agg parts => uptoBulkAll parts + 1
  | .iface _ d => uptoBulk d + 1
  | .map entries => uptoBulkEntries entries + 1
  | .held _ => 1
def uptoBulkAll {H : Type} : List (DataW H) → Nat
  | [] => 0
  | d :: r => uptoBulk d + uptoBulkAll r
def uptoBulkEntries {H : Type} : List (Lit × DataW H) → Nat
  | [] => 0
  | x :: r => uptoBulkEntry x + uptoBulkEntries r
def uptoBulkEntry {H : Type} : Lit × DataW H → Nat
  | (.string bytes, d) => bytes.length + uptoBulk d + 1
  | (_, d) => uptoBulk d + 1
 end
def uptoSmall : (H : Type) → List (DataW H) → Bool := fun _ ds => decide (uptoBulkAll ds ≤ 1048576)
def OpenSpec.upto (s : _root_.Go.ChangeSpec) : _root_.Go.OpenSpec := { _root_.Go.OpenSpec.ofChange s with cond := some uptoSmall }

/-- 'laws.FnOrdinalSums', WHERE WHAT IT READS IS OF BULK AT MOST 1048576: true; the input reads as it did. -/
def fnOrdinalSumsUptoRow : OpenClaim := { program := "ytkloidpjgdlpkaa", sum := "1c478304aebd0749d71913f4a954b9435faf110e89fbbc19fb214fe30e6153ac", func := "loop.example/g01096/laws.FnOrdinalSums", spec := "fnOrdinalSums", unfollowed := true, recurses := true, apart := false, narrowed := true }
def FnOrdinalSumsUptoSaid : Prop := fnOrdinalSumsUptoRow.holds Try.pinned (OpenSpec.upto fnOrdinalSumsSpec)

/-- 'laws.FnExactFromOrdinal', WHERE WHAT IT READS IS OF BULK AT MOST 1048576: true; the input reads as it did. -/
def fnExactFromOrdinalUptoRow : OpenClaim := { program := "ytkloidpjgdlpkaa", sum := "1c478304aebd0749d71913f4a954b9435faf110e89fbbc19fb214fe30e6153ac", func := "loop.example/g01096/laws.FnExactFromOrdinal", spec := "fnExactFromOrdinal", unfollowed := true, recurses := true, loops := true, apart := false, narrowed := true }
def FnExactFromOrdinalUptoSaid : Prop := fnExactFromOrdinalUptoRow.holds Try.pinned (OpenSpec.upto fnExactFromOrdinalSpec)

/-- 'laws.FnExactFundamentalAt', WHERE WHAT IT READS IS OF BULK AT MOST 1048576: true; the input reads as it did. -/
def fnExactFundamentalAtUptoRow : OpenClaim := { program := "ytkloidpjgdlpkaa", sum := "1c478304aebd0749d71913f4a954b9435faf110e89fbbc19fb214fe30e6153ac", func := "loop.example/g01096/laws.FnExactFundamentalAt", spec := "fnExactFundamentalAt", unfollowed := true, recurses := true, loops := true, apart := false, narrowed := true }
def FnExactFundamentalAtUptoSaid : Prop := fnExactFundamentalAtUptoRow.holds Try.pinned (OpenSpec.upto fnExactFundamentalAtSpec)

end Rows
end Go.Proofs.Ytkloidpjgdlpkaa
