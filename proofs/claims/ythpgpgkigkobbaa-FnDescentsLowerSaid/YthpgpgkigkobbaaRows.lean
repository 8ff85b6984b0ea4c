/-
  NARROWER THAN 'FOR EVERY INPUT', by the rows' own cells (each row's printed sentence says how): FnExactFundamentalAt: loops · FnExactFromOrdinal: loops.
  DERIVED. THE GIVEN ROWS OF THIS SEAT. 5 by the template 'for every input the law returns true; each argument reads behind the call as it read before'; 0 by the template 'total and deterministic' (their statements: YthpgpgkigkobbaaTotals.lean).
  GIVEN WITH THE SEED: the statements are not yours to turn. If you find one false, say at which input.
  Laid BY PROGRAM, IN A SANDBOX (cutbox-rows.mjs): the forced cells as the released guide's own fill.sh prints them over the translation f14ece8228a76ea4… (all of the seat's roots in one cut). By AI agents, Wed Nov 11 2026. No macro, syntax, notation, axiom, sorry.
-/
import Derived.Test.YthpgpgkigkobbaaChecked
import GoSem.Claim
import GoSem.ClaimJoined
import GoSem.ClaimMapViews
import Derived.JoinedTies
import Derived.KernelRfl
namespace Go.Proofs.Ythpgpgkigkobbaa
/- THE CELL 'sum', in the pinned program and in every row, IS THE sha256 OF THE DUMP (.gsa) THAT YthpgpgkigkobbaaProg.lean LOADS. Nothing in Lean hashes anything: it is a label: what it is worth is what the hold of that sum in a sandbox is worth. -/
noncomputable def Try.pinned : Pinned := { name := "ythpgpgkigkobbaa", sum := "f14ece8228a76ea49b2905c24643c16ca5ecd79c3894ad042a17d88bbe47c502", checked := Try.checked }
namespace Rows
def none {H : Type} : Left H := { results := [], args := [] }

/-- 'laws.FnExactFundamentalAt': WHATEVER THE INPUT: true; the input reads as it did. -/
def fnExactFundamentalAtSpec : ChangeSpec := { name := "fnExactFundamentalAt", fn := fun _ => fun
  | [d1, d2] => { results := [.lit (.bool true)], args := [d1, d2] }
  | _ => none }
def fnExactFundamentalAtRow : OpenClaim := { program := "ythpgpgkigkobbaa", sum := "f14ece8228a76ea49b2905c24643c16ca5ecd79c3894ad042a17d88bbe47c502", func := "loop.example/g01096/laws.FnExactFundamentalAt", spec := "fnExactFundamentalAt", unfollowed := true, recurses := true, loops := true, apart := false }
def FnExactFundamentalAtSaid : Prop := fnExactFundamentalAtRow.holds Try.pinned (OpenSpec.ofChange fnExactFundamentalAtSpec)

/-- ITS FALSE NEIGHBOUR: 'it returns false'. Refute it at one input. -/
def fnExactFundamentalAtWrong : ChangeSpec := { name := "fnExactFundamentalAt", fn := fun _ => fun
  | [d1, d2] => { results := [.lit (.bool false)], args := [d1, d2] }
  | _ => none }
def FnExactFundamentalAtWrongFalsely : Prop := fnExactFundamentalAtRow.holds Try.pinned (OpenSpec.ofChange fnExactFundamentalAtWrong)

/-- 'laws.FnDescentsLower': WHATEVER THE INPUT: true; the input reads as it did. -/
def fnDescentsLowerSpec : ChangeSpec := { name := "fnDescentsLower", fn := fun _ => fun
  | [d1, d2] => { results := [.lit (.bool true)], args := [d1, d2] }
  | _ => none }
def fnDescentsLowerRow : OpenClaim := { program := "ythpgpgkigkobbaa", sum := "f14ece8228a76ea49b2905c24643c16ca5ecd79c3894ad042a17d88bbe47c502", func := "loop.example/g01096/laws.FnDescentsLower", spec := "fnDescentsLower", unfollowed := true, recurses := true, apart := false }
def FnDescentsLowerSaid : Prop := fnDescentsLowerRow.holds Try.pinned (OpenSpec.ofChange fnDescentsLowerSpec)

/-- ITS FALSE NEIGHBOUR: 'it returns false'. Refute it at one input. -/
def fnDescentsLowerWrong : ChangeSpec := { name := "fnDescentsLower", fn := fun _ => fun
  | [d1, d2] => { results := [.lit (.bool false)], args := [d1, d2] }
  | _ => none }
def FnDescentsLowerWrongFalsely : Prop := fnDescentsLowerRow.holds Try.pinned (OpenSpec.ofChange fnDescentsLowerWrong)

/-- 'laws.FnHardyAdds': WHATEVER THE INPUT: true; the input reads as it did. -/
def fnHardyAddsSpec : ChangeSpec := { name := "fnHardyAdds", fn := fun _ => fun
  | [d1, d2] => { results := [.lit (.bool true)], args := [d1, d2] }
  | _ => none }
def fnHardyAddsRow : OpenClaim := { program := "ythpgpgkigkobbaa", sum := "f14ece8228a76ea49b2905c24643c16ca5ecd79c3894ad042a17d88bbe47c502", func := "loop.example/g01096/laws.FnHardyAdds", spec := "fnHardyAdds", unfollowed := true, recurses := true, apart := false }
def FnHardyAddsSaid : Prop := fnHardyAddsRow.holds Try.pinned (OpenSpec.ofChange fnHardyAddsSpec)

/-- ITS FALSE NEIGHBOUR: 'it returns false'. Refute it at one input. -/
def fnHardyAddsWrong : ChangeSpec := { name := "fnHardyAdds", fn := fun _ => fun
  | [d1, d2] => { results := [.lit (.bool false)], args := [d1, d2] }
  | _ => none }
def FnHardyAddsWrongFalsely : Prop := fnHardyAddsRow.holds Try.pinned (OpenSpec.ofChange fnHardyAddsWrong)

/-- 'laws.FnOrdinalPowers': WHATEVER THE INPUT: true; the input reads as it did. -/
def fnOrdinalPowersSpec : ChangeSpec := { name := "fnOrdinalPowers", fn := fun _ => fun
  | [d1, d2] => { results := [.lit (.bool true)], args := [d1, d2] }
  | _ => none }
def fnOrdinalPowersRow : OpenClaim := { program := "ythpgpgkigkobbaa", sum := "f14ece8228a76ea49b2905c24643c16ca5ecd79c3894ad042a17d88bbe47c502", func := "loop.example/g01096/laws.FnOrdinalPowers", spec := "fnOrdinalPowers", unfollowed := true, recurses := true, apart := false }
def FnOrdinalPowersSaid : Prop := fnOrdinalPowersRow.holds Try.pinned (OpenSpec.ofChange fnOrdinalPowersSpec)

/-- ITS FALSE NEIGHBOUR: 'it returns false'. Refute it at one input. -/
def fnOrdinalPowersWrong : ChangeSpec := { name := "fnOrdinalPowers", fn := fun _ => fun
  | [d1, d2] => { results := [.lit (.bool false)], args := [d1, d2] }
  | _ => none }
def FnOrdinalPowersWrongFalsely : Prop := fnOrdinalPowersRow.holds Try.pinned (OpenSpec.ofChange fnOrdinalPowersWrong)

/-- 'laws.FnExactFromOrdinal': WHATEVER THE INPUT: true; the input reads as it did. -/
def fnExactFromOrdinalSpec : ChangeSpec := { name := "fnExactFromOrdinal", fn := fun _ => fun
  | [d] => { results := [.lit (.bool true)], args := [d] }
  | _ => none }
def fnExactFromOrdinalRow : OpenClaim := { program := "ythpgpgkigkobbaa", sum := "f14ece8228a76ea49b2905c24643c16ca5ecd79c3894ad042a17d88bbe47c502", func := "loop.example/g01096/laws.FnExactFromOrdinal", spec := "fnExactFromOrdinal", unfollowed := true, recurses := true, loops := true, apart := false }
def FnExactFromOrdinalSaid : Prop := fnExactFromOrdinalRow.holds Try.pinned (OpenSpec.ofChange fnExactFromOrdinalSpec)

/-- ITS FALSE NEIGHBOUR: 'it returns false'. Refute it at one input. -/
def fnExactFromOrdinalWrong : ChangeSpec := { name := "fnExactFromOrdinal", fn := fun _ => fun
  | [d] => { results := [.lit (.bool false)], args := [d] }
  | _ => none }
def FnExactFromOrdinalWrongFalsely : Prop := fnExactFromOrdinalRow.holds Try.pinned (OpenSpec.ofChange fnExactFromOrdinalWrong)

/- THE SECOND FORM. 'bulk': how many values and letters a reading holds, each counted each time it is reached (what is shared counts as often as it is met; a slice's spare places count too). A statement '..UptoSaid' is the law's where the arguments, and the package variables that the reading takes, are together of bulk at most 1048576: NARROWER than '..Said'. Prove '..Said' where nothing that the law and all that it calls make is longer than what came in: it says more and counts as full. Else prove '..UptoSaid'. A law counts once. -/
mutual
def uptoBulk {H : Type} : DataW H → Nat
  | .lit (.string bytes) => bytes.length + 1
  | .lit _ => 1
  | .nil => 1
  | .ptr d => uptoBulk d + 1
  | .slice elems spare => uptoBulkAll elems + uptoBulkAll spare + 1
  | .agg parts => uptoBulkAll parts + 1
  | .iface _ d => uptoBulk d + 1
  | .map entries => uptoBulkEntries entries + 1
  | .held _ => 1
def uptoBulkAll {H : Type} : List (DataW H) → Nat
  | [] => 0
  | d :: r => uptoBulk d + uptoBulkAll r
def uptoBulkEntries {H : Type} : List (Lit × DataW H) → Nat
  | [] => 0
  | x :: r => uptoBulkEntry x + uptoBulkEntries r
def uptoBulkEntry {H : Type} : Lit × DataW H → Nat
  | (.string bytes, d) => bytes.length + uptoBulk d + 1
  | (_, d) => uptoBulk d + 1
 end
def uptoSmall : (H : Type) → List (DataW H) → Bool := fun _ ds => decide (uptoBulkAll ds ≤ 1048576)
def OpenSpec.upto (s : _root_.Go.ChangeSpec) : _root_.Go.OpenSpec := { _root_.Go.OpenSpec.ofChange s with cond := some uptoSmall }

/-- 'laws.FnExactFundamentalAt', WHERE WHAT IT READS IS OF BULK AT MOST 1048576: true; the input reads as it did. -/
def fnExactFundamentalAtUptoRow : OpenClaim := { program := "ythpgpgkigkobbaa", sum := "f14ece8228a76ea49b2905c24643c16ca5ecd79c3894ad042a17d88bbe47c502", func := "loop.example/g01096/laws.FnExactFundamentalAt", spec := "fnExactFundamentalAt", unfollowed := true, recurses := true, loops := true, apart := false, narrowed := true }
def FnExactFundamentalAtUptoSaid : Prop := fnExactFundamentalAtUptoRow.holds Try.pinned (OpenSpec.upto fnExactFundamentalAtSpec)

/-- 'laws.FnDescentsLower', WHERE WHAT IT READS IS OF BULK AT MOST 1048576: true; the input reads as it did. -/
def fnDescentsLowerUptoRow : OpenClaim := { program := "ythpgpgkigkobbaa", sum := "f14ece8228a76ea49b2905c24643c16ca5ecd79c3894ad042a17d88bbe47c502", func := "loop.example/g01096/laws.FnDescentsLower", spec := "fnDescentsLower", unfollowed := true, recurses := true, apart := false, narrowed := true }
def FnDescentsLowerUptoSaid : Prop := fnDescentsLowerUptoRow.holds Try.pinned (OpenSpec.upto fnDescentsLowerSpec)

/-- 'laws.FnHardyAdds', WHERE WHAT IT READS IS OF BULK AT MOST 1048576: true; the input reads as it did. -/
def fnHardyAddsUptoRow : OpenClaim := { program := "ythpgpgkigkobbaa", sum := "f14ece8228a76ea49b2905c24643c16ca5ecd79c3894ad042a17d88bbe47c502", func := "loop.example/g01096/laws.FnHardyAdds", spec := "fnHardyAdds", unfollowed := true, recurses := true, apart := false, narrowed := true }
def FnHardyAddsUptoSaid : Prop := fnHardyAddsUptoRow.holds Try.pinned (OpenSpec.upto fnHardyAddsSpec)

/-- 'laws.FnOrdinalPowers', WHERE WHAT IT READS IS OF BULK AT MOST 1048576: true; the input reads as it did. -/
def fnOrdinalPowersUptoRow : OpenClaim := { program := "ythpgpgkigkobbaa", sum := "f14ece8228a76ea49b2905c24643c16ca5ecd79c3894ad042a17d88bbe47c502", func := "loop.example/g01096/laws.FnOrdinalPowers", spec := "fnOrdinalPowers", unfollowed := true, recurses := true, apart := false, narrowed := true }
def FnOrdinalPowersUptoSaid : Prop := fnOrdinalPowersUptoRow.holds Try.pinned (OpenSpec.upto fnOrdinalPowersSpec)

/-- 'laws.FnExactFromOrdinal', WHERE WHAT IT READS IS OF BULK AT MOST 1048576: true; the input reads as it did. -/
def fnExactFromOrdinalUptoRow : OpenClaim := { program := "ythpgpgkigkobbaa", sum := "f14ece8228a76ea49b2905c24643c16ca5ecd79c3894ad042a17d88bbe47c502", func := "loop.example/g01096/laws.FnExactFromOrdinal", spec := "fnExactFromOrdinal", unfollowed := true, recurses := true, loops := true, apart := false, narrowed := true }
def FnExactFromOrdinalUptoSaid : Prop := fnExactFromOrdinalUptoRow.holds Try.pinned (OpenSpec.upto fnExactFromOrdinalSpec)

end Rows
end Go.Proofs.Ythpgpgkigkobbaa
