/-
  NARROWER THAN 'FOR EVERY INPUT', by the rows' own cells (each row's printed sentence says how): FnExactToOrdinal: loops · FnExactSubtractSurreals: loops · FnExactIntegerPart: loops · FnExactLetterAt: loops · FnExactJoinWords: loops · FnExactMultiplySurreals: loops · FnExactMeetOfWords: loops · FnExactIsBeginning: loops · FnExactCompareWords: loops · FnExactCutWord: loops · FnExactShortOfWord: loops · FnExactWordOfOmega: loops.
  DERIVED. THE GIVEN ROWS OF THIS SEAT. 12 by the template 'for every input the law returns true; each argument reads behind the call as it read before'; 0 by the template 'total and deterministic' (their statements: YtnphoocghfgjcaaTotals.lean).
  GIVEN WITH THE SEED: the statements are not yours to turn. If you find one false, say at which input.
  Laid BY PROGRAM, IN A SANDBOX (cutbox-rows.mjs): the forced cells as the released guide's own fill.sh prints them over the translation e72dfa24a0fcec35… (all of the seat's roots in one cut). By AI agents, Wed Nov 11 2026. No macro, syntax, notation, axiom, sorry.
-/
import Derived.Test.YtnphoocghfgjcaaChecked
import GoSem.Claim
import GoSem.ClaimJoined
import GoSem.ClaimMapViews
import Derived.JoinedTies
import Derived.KernelRfl
namespace Go.Proofs.Ytnphoocghfgjcaa
/- THE CELL 'sum', in the pinned program and in every row, IS THE sha256 OF THE DUMP (.gsa) THAT YtnphoocghfgjcaaProg.lean LOADS. Nothing in Lean hashes anything: it is a label: what it is worth is what the hold of that sum in a sandbox is worth. -/
noncomputable def Try.pinned : Pinned := { name := "ytnphoocghfgjcaa", sum := "e72dfa24a0fcec351a7851fa0382399898d85ef85fe7e85f43af20627c6bc558", checked := Try.checked }
namespace Rows
def none {H : Type} : Left H := { results := [], args := [] }

/-- 'laws.FnExactToOrdinal': WHATEVER THE INPUT: true; the input reads as it did. -/
def fnExactToOrdinalSpec : ChangeSpec := { name := "fnExactToOrdinal", fn := fun _ => fun
  | [d] => { results := [.lit (.bool true)], args := [d] }
  | _ => none }
def fnExactToOrdinalRow : OpenClaim := { program := "ytnphoocghfgjcaa", sum := "e72dfa24a0fcec351a7851fa0382399898d85ef85fe7e85f43af20627c6bc558", func := "loop.example/g01096/laws.FnExactToOrdinal", spec := "fnExactToOrdinal", unfollowed := true, recurses := true, loops := true, apart := false }
def FnExactToOrdinalSaid : Prop := fnExactToOrdinalRow.holds Try.pinned (OpenSpec.ofChange fnExactToOrdinalSpec)

/-- ITS FALSE NEIGHBOUR: 'it returns false'. Refute it at one input. -/
def fnExactToOrdinalWrong : ChangeSpec := { name := "fnExactToOrdinal", fn := fun _ => fun
  | [d] => { results := [.lit (.bool false)], args := [d] }
  | _ => none }
def FnExactToOrdinalWrongFalsely : Prop := fnExactToOrdinalRow.holds Try.pinned (OpenSpec.ofChange fnExactToOrdinalWrong)

/-- 'laws.FnExactSubtractSurreals': WHATEVER THE INPUT: true; the input reads as it did. -/
def fnExactSubtractSurrealsSpec : ChangeSpec := { name := "fnExactSubtractSurreals", fn := fun _ => fun
  | [d1, d2] => { results := [.lit (.bool true)], args := [d1, d2] }
  | _ => none }
def fnExactSubtractSurrealsRow : OpenClaim := { program := "ytnphoocghfgjcaa", sum := "e72dfa24a0fcec351a7851fa0382399898d85ef85fe7e85f43af20627c6bc558", func := "loop.example/g01096/laws.FnExactSubtractSurreals", spec := "fnExactSubtractSurreals", unfollowed := true, recurses := true, loops := true, apart := false }
def FnExactSubtractSurrealsSaid : Prop := fnExactSubtractSurrealsRow.holds Try.pinned (OpenSpec.ofChange fnExactSubtractSurrealsSpec)

/-- ITS FALSE NEIGHBOUR: 'it returns false'. Refute it at one input. -/
def fnExactSubtractSurrealsWrong : ChangeSpec := { name := "fnExactSubtractSurreals", fn := fun _ => fun
  | [d1, d2] => { results := [.lit (.bool false)], args := [d1, d2] }
  | _ => none }
def FnExactSubtractSurrealsWrongFalsely : Prop := fnExactSubtractSurrealsRow.holds Try.pinned (OpenSpec.ofChange fnExactSubtractSurrealsWrong)

/-- 'laws.FnExactIntegerPart': WHATEVER THE INPUT: true; the input reads as it did. -/
def fnExactIntegerPartSpec : ChangeSpec := { name := "fnExactIntegerPart", fn := fun _ => fun
  | [d] => { results := [.lit (.bool true)], args := [d] }
  | _ => none }
def fnExactIntegerPartRow : OpenClaim := { program := "ytnphoocghfgjcaa", sum := "e72dfa24a0fcec351a7851fa0382399898d85ef85fe7e85f43af20627c6bc558", func := "loop.example/g01096/laws.FnExactIntegerPart", spec := "fnExactIntegerPart", unfollowed := true, recurses := true, loops := true, apart := false }
def FnExactIntegerPartSaid : Prop := fnExactIntegerPartRow.holds Try.pinned (OpenSpec.ofChange fnExactIntegerPartSpec)

/-- ITS FALSE NEIGHBOUR: 'it returns false'. Refute it at one input. -/
def fnExactIntegerPartWrong : ChangeSpec := { name := "fnExactIntegerPart", fn := fun _ => fun
  | [d] => { results := [.lit (.bool false)], args := [d] }
  | _ => none }
def FnExactIntegerPartWrongFalsely : Prop := fnExactIntegerPartRow.holds Try.pinned (OpenSpec.ofChange fnExactIntegerPartWrong)

/-- 'laws.FnExactLetterAt': WHATEVER THE INPUT: true; the input reads as it did. -/
def fnExactLetterAtSpec : ChangeSpec := { name := "fnExactLetterAt", fn := fun _ => fun
  | [d1, d2] => { results := [.lit (.bool true)], args := [d1, d2] }
  | _ => none }
def fnExactLetterAtRow : OpenClaim := { program := "ytnphoocghfgjcaa", sum := "e72dfa24a0fcec351a7851fa0382399898d85ef85fe7e85f43af20627c6bc558", func := "loop.example/g01096/laws.FnExactLetterAt", spec := "fnExactLetterAt", unfollowed := true, recurses := true, loops := true, apart := false }
def FnExactLetterAtSaid : Prop := fnExactLetterAtRow.holds Try.pinned (OpenSpec.ofChange fnExactLetterAtSpec)

/-- ITS FALSE NEIGHBOUR: 'it returns false'. Refute it at one input. -/
def fnExactLetterAtWrong : ChangeSpec := { name := "fnExactLetterAt", fn := fun _ => fun
  | [d1, d2] => { results := [.lit (.bool false)], args := [d1, d2] }
  | _ => none }
def FnExactLetterAtWrongFalsely : Prop := fnExactLetterAtRow.holds Try.pinned (OpenSpec.ofChange fnExactLetterAtWrong)

/-- 'laws.FnExactJoinWords': WHATEVER THE INPUT: true; the input reads as it did. -/
def fnExactJoinWordsSpec : ChangeSpec := { name := "fnExactJoinWords", fn := fun _ => fun
  | [d1, d2] => { results := [.lit (.bool true)], args := [d1, d2] }
  | _ => none }
def fnExactJoinWordsRow : OpenClaim := { program := "ytnphoocghfgjcaa", sum := "e72dfa24a0fcec351a7851fa0382399898d85ef85fe7e85f43af20627c6bc558", func := "loop.example/g01096/laws.FnExactJoinWords", spec := "fnExactJoinWords", unfollowed := true, recurses := true, loops := true, apart := false }
def FnExactJoinWordsSaid : Prop := fnExactJoinWordsRow.holds Try.pinned (OpenSpec.ofChange fnExactJoinWordsSpec)

/-- ITS FALSE NEIGHBOUR: 'it returns false'. Refute it at one input. -/
def fnExactJoinWordsWrong : ChangeSpec := { name := "fnExactJoinWords", fn := fun _ => fun
  | [d1, d2] => { results := [.lit (.bool false)], args := [d1, d2] }
  | _ => none }
def FnExactJoinWordsWrongFalsely : Prop := fnExactJoinWordsRow.holds Try.pinned (OpenSpec.ofChange fnExactJoinWordsWrong)

/-- 'laws.FnExactMultiplySurreals': WHATEVER THE INPUT: true; the input reads as it did. -/
def fnExactMultiplySurrealsSpec : ChangeSpec := { name := "fnExactMultiplySurreals", fn := fun _ => fun
  | [d1, d2] => { results := [.lit (.bool true)], args := [d1, d2] }
  | _ => none }
def fnExactMultiplySurrealsRow : OpenClaim := { program := "ytnphoocghfgjcaa", sum := "e72dfa24a0fcec351a7851fa0382399898d85ef85fe7e85f43af20627c6bc558", func := "loop.example/g01096/laws.FnExactMultiplySurreals", spec := "fnExactMultiplySurreals", unfollowed := true, recurses := true, loops := true, apart := false }
def FnExactMultiplySurrealsSaid : Prop := fnExactMultiplySurrealsRow.holds Try.pinned (OpenSpec.ofChange fnExactMultiplySurrealsSpec)

/-- ITS FALSE NEIGHBOUR: 'it returns false'. Refute it at one input. -/
def fnExactMultiplySurrealsWrong : ChangeSpec := { name := "fnExactMultiplySurreals", fn := fun _ => fun
  | [d1, d2] => { results := [.lit (.bool false)], args := [d1, d2] }
  | _ => none }
def FnExactMultiplySurrealsWrongFalsely : Prop := fnExactMultiplySurrealsRow.holds Try.pinned (OpenSpec.ofChange fnExactMultiplySurrealsWrong)

/-- 'laws.FnExactMeetOfWords': WHATEVER THE INPUT: true; the input reads as it did. -/
def fnExactMeetOfWordsSpec : ChangeSpec := { name := "fnExactMeetOfWords", fn := fun _ => fun
  | [d1, d2] => { results := [.lit (.bool true)], args := [d1, d2] }
  | _ => none }
def fnExactMeetOfWordsRow : OpenClaim := { program := "ytnphoocghfgjcaa", sum := "e72dfa24a0fcec351a7851fa0382399898d85ef85fe7e85f43af20627c6bc558", func := "loop.example/g01096/laws.FnExactMeetOfWords", spec := "fnExactMeetOfWords", unfollowed := true, recurses := true, loops := true, apart := false }
def FnExactMeetOfWordsSaid : Prop := fnExactMeetOfWordsRow.holds Try.pinned (OpenSpec.ofChange fnExactMeetOfWordsSpec)

/-- ITS FALSE NEIGHBOUR: 'it returns false'. Refute it at one input. -/
def fnExactMeetOfWordsWrong : ChangeSpec := { name := "fnExactMeetOfWords", fn := fun _ => fun
  | [d1, d2] => { results := [.lit (.bool false)], args := [d1, d2] }
  | _ => none }
def FnExactMeetOfWordsWrongFalsely : Prop := fnExactMeetOfWordsRow.holds Try.pinned (OpenSpec.ofChange fnExactMeetOfWordsWrong)

/-- 'laws.FnExactIsBeginning': WHATEVER THE INPUT: true; the input reads as it did. -/
def fnExactIsBeginningSpec : ChangeSpec := { name := "fnExactIsBeginning", fn := fun _ => fun
  | [d1, d2] => { results := [.lit (.bool true)], args := [d1, d2] }
  | _ => none }
def fnExactIsBeginningRow : OpenClaim := { program := "ytnphoocghfgjcaa", sum := "e72dfa24a0fcec351a7851fa0382399898d85ef85fe7e85f43af20627c6bc558", func := "loop.example/g01096/laws.FnExactIsBeginning", spec := "fnExactIsBeginning", unfollowed := true, recurses := true, loops := true, apart := false }
def FnExactIsBeginningSaid : Prop := fnExactIsBeginningRow.holds Try.pinned (OpenSpec.ofChange fnExactIsBeginningSpec)

/-- ITS FALSE NEIGHBOUR: 'it returns false'. Refute it at one input. -/
def fnExactIsBeginningWrong : ChangeSpec := { name := "fnExactIsBeginning", fn := fun _ => fun
  | [d1, d2] => { results := [.lit (.bool false)], args := [d1, d2] }
  | _ => none }
def FnExactIsBeginningWrongFalsely : Prop := fnExactIsBeginningRow.holds Try.pinned (OpenSpec.ofChange fnExactIsBeginningWrong)

/-- 'laws.FnExactCompareWords': WHATEVER THE INPUT: true; the input reads as it did. -/
def fnExactCompareWordsSpec : ChangeSpec := { name := "fnExactCompareWords", fn := fun _ => fun
  | [d1, d2] => { results := [.lit (.bool true)], args := [d1, d2] }
  | _ => none }
def fnExactCompareWordsRow : OpenClaim := { program := "ytnphoocghfgjcaa", sum := "e72dfa24a0fcec351a7851fa0382399898d85ef85fe7e85f43af20627c6bc558", func := "loop.example/g01096/laws.FnExactCompareWords", spec := "fnExactCompareWords", unfollowed := true, recurses := true, loops := true, apart := false }
def FnExactCompareWordsSaid : Prop := fnExactCompareWordsRow.holds Try.pinned (OpenSpec.ofChange fnExactCompareWordsSpec)

/-- ITS FALSE NEIGHBOUR: 'it returns false'. Refute it at one input. -/
def fnExactCompareWordsWrong : ChangeSpec := { name := "fnExactCompareWords", fn := fun _ => fun
  | [d1, d2] => { results := [.lit (.bool false)], args := [d1, d2] }
  | _ => none }
def FnExactCompareWordsWrongFalsely : Prop := fnExactCompareWordsRow.holds Try.pinned (OpenSpec.ofChange fnExactCompareWordsWrong)

/-- 'laws.FnExactCutWord': WHATEVER THE INPUT: true; the input reads as it did. -/
def fnExactCutWordSpec : ChangeSpec := { name := "fnExactCutWord", fn := fun _ => fun
  | [d1, d2] => { results := [.lit (.bool true)], args := [d1, d2] }
  | _ => none }
def fnExactCutWordRow : OpenClaim := { program := "ytnphoocghfgjcaa", sum := "e72dfa24a0fcec351a7851fa0382399898d85ef85fe7e85f43af20627c6bc558", func := "loop.example/g01096/laws.FnExactCutWord", spec := "fnExactCutWord", unfollowed := true, recurses := true, loops := true, apart := false }
def FnExactCutWordSaid : Prop := fnExactCutWordRow.holds Try.pinned (OpenSpec.ofChange fnExactCutWordSpec)

/-- ITS FALSE NEIGHBOUR: 'it returns false'. Refute it at one input. -/
def fnExactCutWordWrong : ChangeSpec := { name := "fnExactCutWord", fn := fun _ => fun
  | [d1, d2] => { results := [.lit (.bool false)], args := [d1, d2] }
  | _ => none }
def FnExactCutWordWrongFalsely : Prop := fnExactCutWordRow.holds Try.pinned (OpenSpec.ofChange fnExactCutWordWrong)

/-- 'laws.FnExactShortOfWord': WHATEVER THE INPUT: true; the input reads as it did. -/
def fnExactShortOfWordSpec : ChangeSpec := { name := "fnExactShortOfWord", fn := fun _ => fun
  | [d] => { results := [.lit (.bool true)], args := [d] }
  | _ => none }
def fnExactShortOfWordRow : OpenClaim := { program := "ytnphoocghfgjcaa", sum := "e72dfa24a0fcec351a7851fa0382399898d85ef85fe7e85f43af20627c6bc558", func := "loop.example/g01096/laws.FnExactShortOfWord", spec := "fnExactShortOfWord", inPlace := ["internal/abi.NoEscape", "internal/bytealg.MakeNoZero"], unfollowed := true, recurses := true, loops := true, apart := false }
def FnExactShortOfWordSaid : Prop := fnExactShortOfWordRow.holds Try.pinned (OpenSpec.ofChange fnExactShortOfWordSpec)

/-- ITS FALSE NEIGHBOUR: 'it returns false'. Refute it at one input. -/
def fnExactShortOfWordWrong : ChangeSpec := { name := "fnExactShortOfWord", fn := fun _ => fun
  | [d] => { results := [.lit (.bool false)], args := [d] }
  | _ => none }
def FnExactShortOfWordWrongFalsely : Prop := fnExactShortOfWordRow.holds Try.pinned (OpenSpec.ofChange fnExactShortOfWordWrong)

/-- 'laws.FnExactWordOfOmega': WHATEVER THE INPUT: true; the input reads as it did. -/
def fnExactWordOfOmegaSpec : ChangeSpec := { name := "fnExactWordOfOmega", fn := fun _ => fun
  | [d] => { results := [.lit (.bool true)], args := [d] }
  | _ => none }
def fnExactWordOfOmegaRow : OpenClaim := { program := "ytnphoocghfgjcaa", sum := "e72dfa24a0fcec351a7851fa0382399898d85ef85fe7e85f43af20627c6bc558", func := "loop.example/g01096/laws.FnExactWordOfOmega", spec := "fnExactWordOfOmega", unfollowed := true, recurses := true, loops := true, apart := false }
def FnExactWordOfOmegaSaid : Prop := fnExactWordOfOmegaRow.holds Try.pinned (OpenSpec.ofChange fnExactWordOfOmegaSpec)

/-- ITS FALSE NEIGHBOUR: 'it returns false'. Refute it at one input. -/
def fnExactWordOfOmegaWrong : ChangeSpec := { name := "fnExactWordOfOmega", fn := fun _ => fun
  | [d] => { results := [.lit (.bool false)], args := [d] }
  | _ => none }
def FnExactWordOfOmegaWrongFalsely : Prop := fnExactWordOfOmegaRow.holds Try.pinned (OpenSpec.ofChange fnExactWordOfOmegaWrong)

/- THE SECOND FORM. 'bulk': how many values and letters a reading holds, each counted each time it is reached (what is shared counts as often as it is met; a slice's spare places count too). A statement '..UptoSaid' is the law's where the arguments, and the package variables that the reading takes, are together of bulk at most 1048576: NARROWER than '..Said'. Prove '..Said' where nothing that the law and all that it calls make is longer than what came in: it says more and counts as full. Else prove '..UptoSaid'. A law counts once. -/
mutual
def uptoBulk {H : Type} : DataW H → Nat
  | .lit (.string bytes) => bytes.length + 1
  | .lit _ => 1
  | .nil => 1
  | .ptr d => uptoBulk d + 1
  | .slice elems spare => uptoBulkAll elems + uptoBulkAll spare + 1
  | .agg parts => uptoBulkAll parts + 1
  | .iface _ d => uptoBulk d + 1
  | .map entries => uptoBulkEntries entries + 1
  | .held _ => 1
def uptoBulkAll {H : Type} : List (DataW H) → Nat
  | [] => 0
  | d :: r => uptoBulk d + uptoBulkAll r
def uptoBulkEntries {H : Type} : List (Lit × DataW H) → Nat
  | [] => 0
  | x :: r => uptoBulkEntry x + uptoBulkEntries r
def uptoBulkEntry {H : Type} : Lit × DataW H → Nat
  | (.string bytes, d) => bytes.length + uptoBulk d + 1
  | (_, d) => uptoBulk d + 1
 end
def uptoSmall : (H : Type) → List (DataW H) → Bool := fun _ ds => decide (uptoBulkAll ds ≤ 1048576)
def OpenSpec.upto (s : _root_.Go.ChangeSpec) : _root_.Go.OpenSpec := { _root_.Go.OpenSpec.ofChange s with cond := some uptoSmall }

/-- 'laws.FnExactToOrdinal', WHERE WHAT IT READS IS OF BULK AT MOST 1048576: true; the input reads as it did. -/
def fnExactToOrdinalUptoRow : OpenClaim := { program := "ytnphoocghfgjcaa", sum := "e72dfa24a0fcec351a7851fa0382399898d85ef85fe7e85f43af20627c6bc558", func := "loop.example/g01096/laws.FnExactToOrdinal", spec := "fnExactToOrdinal", unfollowed := true, recurses := true, loops := true, apart := false, narrowed := true }
def FnExactToOrdinalUptoSaid : Prop := fnExactToOrdinalUptoRow.holds Try.pinned (OpenSpec.upto fnExactToOrdinalSpec)

/-- 'laws.FnExactSubtractSurreals', WHERE WHAT IT READS IS OF BULK AT MOST 1048576: true; the input reads as it did. -/
def fnExactSubtractSurrealsUptoRow : OpenClaim := { program := "ytnphoocghfgjcaa", sum := "e72dfa24a0fcec351a7851fa0382399898d85ef85fe7e85f43af20627c6bc558", func := "loop.example/g01096/laws.FnExactSubtractSurreals", spec := "fnExactSubtractSurreals", unfollowed := true, recurses := true, loops := true, apart := false, narrowed := true }
def FnExactSubtractSurrealsUptoSaid : Prop := fnExactSubtractSurrealsUptoRow.holds Try.pinned (OpenSpec.upto fnExactSubtractSurrealsSpec)

/-- 'laws.FnExactIntegerPart', WHERE WHAT IT READS IS OF BULK AT MOST 1048576: true; the input reads as it did. -/
def fnExactIntegerPartUptoRow : OpenClaim := { program := "ytnphoocghfgjcaa", sum := "e72dfa24a0fcec351a7851fa0382399898d85ef85fe7e85f43af20627c6bc558", func := "loop.example/g01096/laws.FnExactIntegerPart", spec := "fnExactIntegerPart", unfollowed := true, recurses := true, loops := true, apart := false, narrowed := true }
def FnExactIntegerPartUptoSaid : Prop := fnExactIntegerPartUptoRow.holds Try.pinned (OpenSpec.upto fnExactIntegerPartSpec)

/-- 'laws.FnExactLetterAt', WHERE WHAT IT READS IS OF BULK AT MOST 1048576: true; the input reads as it did. -/
def fnExactLetterAtUptoRow : OpenClaim := { program := "ytnphoocghfgjcaa", sum := "e72dfa24a0fcec351a7851fa0382399898d85ef85fe7e85f43af20627c6bc558", func := "loop.example/g01096/laws.FnExactLetterAt", spec := "fnExactLetterAt", unfollowed := true, recurses := true, loops := true, apart := false, narrowed := true }
def FnExactLetterAtUptoSaid : Prop := fnExactLetterAtUptoRow.holds Try.pinned (OpenSpec.upto fnExactLetterAtSpec)

/-- 'laws.FnExactJoinWords', WHERE WHAT IT READS IS OF BULK AT MOST 1048576: true; the input reads as it did. -/
def fnExactJoinWordsUptoRow : OpenClaim := { program := "ytnphoocghfgjcaa", sum := "e72dfa24a0fcec351a7851fa0382399898d85ef85fe7e85f43af20627c6bc558", func := "loop.example/g01096/laws.FnExactJoinWords", spec := "fnExactJoinWords", unfollowed := true, recurses := true, loops := true, apart := false, narrowed := true }
def FnExactJoinWordsUptoSaid : Prop := fnExactJoinWordsUptoRow.holds Try.pinned (OpenSpec.upto fnExactJoinWordsSpec)

/-- 'laws.FnExactMultiplySurreals', WHERE WHAT IT READS IS OF BULK AT MOST 1048576: true; the input reads as it did. -/
def fnExactMultiplySurrealsUptoRow : OpenClaim := { program := "ytnphoocghfgjcaa", sum := "e72dfa24a0fcec351a7851fa0382399898d85ef85fe7e85f43af20627c6bc558", func := "loop.example/g01096/laws.FnExactMultiplySurreals", spec := "fnExactMultiplySurreals", unfollowed := true, recurses := true, loops := true, apart := false, narrowed := true }
def FnExactMultiplySurrealsUptoSaid : Prop := fnExactMultiplySurrealsUptoRow.holds Try.pinned (OpenSpec.upto fnExactMultiplySurrealsSpec)

/-- 'laws.FnExactMeetOfWords', WHERE WHAT IT READS IS OF BULK AT MOST 1048576: true; the input reads as it did. -/
def fnExactMeetOfWordsUptoRow : OpenClaim := { program := "ytnphoocghfgjcaa", sum := "e72dfa24a0fcec351a7851fa0382399898d85ef85fe7e85f43af20627c6bc558", func := "loop.example/g01096/laws.FnExactMeetOfWords", spec := "fnExactMeetOfWords", unfollowed := true, recurses := true, loops := true, apart := false, narrowed := true }
def FnExactMeetOfWordsUptoSaid : Prop := fnExactMeetOfWordsUptoRow.holds Try.pinned (OpenSpec.upto fnExactMeetOfWordsSpec)

/-- 'laws.FnExactIsBeginning', WHERE WHAT IT READS IS OF BULK AT MOST 1048576: true; the input reads as it did. -/
def fnExactIsBeginningUptoRow : OpenClaim := { program := "ytnphoocghfgjcaa", sum := "e72dfa24a0fcec351a7851fa0382399898d85ef85fe7e85f43af20627c6bc558", func := "loop.example/g01096/laws.FnExactIsBeginning", spec := "fnExactIsBeginning", unfollowed := true, recurses := true, loops := true, apart := false, narrowed := true }
def FnExactIsBeginningUptoSaid : Prop := fnExactIsBeginningUptoRow.holds Try.pinned (OpenSpec.upto fnExactIsBeginningSpec)

/-- 'laws.FnExactCompareWords', WHERE WHAT IT READS IS OF BULK AT MOST 1048576: true; the input reads as it did. -/
def fnExactCompareWordsUptoRow : OpenClaim := { program := "ytnphoocghfgjcaa", sum := "e72dfa24a0fcec351a7851fa0382399898d85ef85fe7e85f43af20627c6bc558", func := "loop.example/g01096/laws.FnExactCompareWords", spec := "fnExactCompareWords", unfollowed := true, recurses := true, loops := true, apart := false, narrowed := true }
def FnExactCompareWordsUptoSaid : Prop := fnExactCompareWordsUptoRow.holds Try.pinned (OpenSpec.upto fnExactCompareWordsSpec)

/-- 'laws.FnExactCutWord', WHERE WHAT IT READS IS OF BULK AT MOST 1048576: true; the input reads as it did. -/
def fnExactCutWordUptoRow : OpenClaim := { program := "ytnphoocghfgjcaa", sum := "e72dfa24a0fcec351a7851fa0382399898d85ef85fe7e85f43af20627c6bc558", func := "loop.example/g01096/laws.FnExactCutWord", spec := "fnExactCutWord", unfollowed := true, recurses := true, loops := true, apart := false, narrowed := true }
def FnExactCutWordUptoSaid : Prop := fnExactCutWordUptoRow.holds Try.pinned (OpenSpec.upto fnExactCutWordSpec)

/-- 'laws.FnExactShortOfWord', WHERE WHAT IT READS IS OF BULK AT MOST 1048576: true; the input reads as it did. -/
def fnExactShortOfWordUptoRow : OpenClaim := { program := "ytnphoocghfgjcaa", sum := "e72dfa24a0fcec351a7851fa0382399898d85ef85fe7e85f43af20627c6bc558", func := "loop.example/g01096/laws.FnExactShortOfWord", spec := "fnExactShortOfWord", inPlace := ["internal/abi.NoEscape", "internal/bytealg.MakeNoZero"], unfollowed := true, recurses := true, loops := true, apart := false, narrowed := true }
def FnExactShortOfWordUptoSaid : Prop := fnExactShortOfWordUptoRow.holds Try.pinned (OpenSpec.upto fnExactShortOfWordSpec)

/-- 'laws.FnExactWordOfOmega', WHERE WHAT IT READS IS OF BULK AT MOST 1048576: true; the input reads as it did. -/
def fnExactWordOfOmegaUptoRow : OpenClaim := { program := "ytnphoocghfgjcaa", sum := "e72dfa24a0fcec351a7851fa0382399898d85ef85fe7e85f43af20627c6bc558", func := "loop.example/g01096/laws.FnExactWordOfOmega", spec := "fnExactWordOfOmega", unfollowed := true, recurses := true, loops := true, apart := false, narrowed := true }
def FnExactWordOfOmegaUptoSaid : Prop := fnExactWordOfOmegaUptoRow.holds Try.pinned (OpenSpec.upto fnExactWordOfOmegaSpec)

end Rows
end Go.Proofs.Ytnphoocghfgjcaa
