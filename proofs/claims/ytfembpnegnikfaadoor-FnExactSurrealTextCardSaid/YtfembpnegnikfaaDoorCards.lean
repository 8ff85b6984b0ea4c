/-
  DERIVED. GIVEN WITH THE SEED: THE CARDS: each row of YtfembpnegnikfaaDoorRows.lean that lists a variable, with what it lists TIED to the program's text (the seventh form; the later family's looks); each row that meets fmt, with fmt's text TOLD by the authors' own Lean function (tested against real Go, not proved from fmt's source: count such statements apart). THE CARD IS WHAT COUNTS. Prove the row's statement (the work); the ties are given (YtfembpnegnikfaaDoorTie.lean); close each card by the builder's one call (the guide's Derived/Test/ToyasCard.lean, 'card_holds'). Laid BY PROGRAM, IN A SANDBOX (cutbox-door.mjs). By AI agents, Wed Nov 11 2026. No macro, syntax, notation, axiom, sorry.
-/
import Derived.Test.YtfembpnegnikfaaDoorRows
import GoSem.ClaimSeven
namespace Go.Proofs.YtfembpnegnikfaaDoor
namespace Rows

/-- THE TIED CARD OF 'laws.FnExactHereditaryText'. -/
def fnExactHereditaryTextCard : Claim7 := { stood := { row := fnExactHereditaryTextRow, standIns := [], harness := (true, "726357cf4ed284c09f4b475d99e0d0bbb2fc5e5ccbeb038a419229bd2826b760"), looks := false }, kinds := [], alts := [], laidByText := true, laidKinds := [.data, .data, .data], laidTests := true, laidLooks := .later }
def FnExactHereditaryTextCardSaid : Prop := Claim7.holds Tryd.pinned (.plain (OpenSpec.ofChange fnExactHereditaryTextSpec)) fnExactHereditaryTextCard

/-- THE TIED CARD OF 'laws.FnExactOrdinalText'. -/
def fnExactOrdinalTextCard : Claim7 := { stood := { row := fnExactOrdinalTextRow, standIns := [], harness := (true, "726357cf4ed284c09f4b475d99e0d0bbb2fc5e5ccbeb038a419229bd2826b760"), looks := false }, kinds := [], alts := [], laidByText := true, laidKinds := [.data, .data, .data], laidTests := true, laidLooks := .later }
def FnExactOrdinalTextCardSaid : Prop := Claim7.holds Tryd.pinned (.plain (OpenSpec.ofChange fnExactOrdinalTextSpec)) fnExactOrdinalTextCard

/-- THE TIED CARD OF 'laws.FnExactSurrealText'. -/
def fnExactSurrealTextCard : Claim7 := { stood := { row := fnExactSurrealTextRow, standIns := [], harness := (true, "726357cf4ed284c09f4b475d99e0d0bbb2fc5e5ccbeb038a419229bd2826b760"), looks := false }, kinds := [], alts := [], laidByText := true, laidKinds := [.data, .data, .data], laidTests := true, laidLooks := .later }
def FnExactSurrealTextCardSaid : Prop := Claim7.holds Tryd.pinned (.plain (OpenSpec.ofChange fnExactSurrealTextSpec)) fnExactSurrealTextCard

/-- THE TIED CARD OF 'laws.FnHereditaryTexts'. -/
def fnHereditaryTextsCard : Claim7 := { stood := { row := fnHereditaryTextsRow, standIns := [], harness := (true, "726357cf4ed284c09f4b475d99e0d0bbb2fc5e5ccbeb038a419229bd2826b760"), looks := false }, kinds := [], alts := [], laidByText := true, laidKinds := [.data, .data, .data], laidTests := true, laidLooks := .later }
def FnHereditaryTextsCardSaid : Prop := Claim7.holds Tryd.pinned (.plain (OpenSpec.ofChange fnHereditaryTextsSpec)) fnHereditaryTextsCard

/-- THE SECOND FORM's CARD OF 'laws.FnExactHereditaryText'. -/
def fnExactHereditaryTextUptoCard : Claim7 := { stood := { row := fnExactHereditaryTextUptoRow, standIns := [], harness := (true, "726357cf4ed284c09f4b475d99e0d0bbb2fc5e5ccbeb038a419229bd2826b760"), looks := false }, kinds := [], alts := [], laidByText := true, laidKinds := [.data, .data, .data], laidTests := true, laidLooks := .later }
def FnExactHereditaryTextUptoCardSaid : Prop := Claim7.holds Tryd.pinned (.plain (OpenSpec.upto fnExactHereditaryTextSpec)) fnExactHereditaryTextUptoCard

/-- THE SECOND FORM's CARD OF 'laws.FnExactOrdinalText'. -/
def fnExactOrdinalTextUptoCard : Claim7 := { stood := { row := fnExactOrdinalTextUptoRow, standIns := [], harness := (true, "726357cf4ed284c09f4b475d99e0d0bbb2fc5e5ccbeb038a419229bd2826b760"), looks := false }, kinds := [], alts := [], laidByText := true, laidKinds := [.data, .data, .data], laidTests := true, laidLooks := .later }
def FnExactOrdinalTextUptoCardSaid : Prop := Claim7.holds Tryd.pinned (.plain (OpenSpec.upto fnExactOrdinalTextSpec)) fnExactOrdinalTextUptoCard

/-- THE SECOND FORM's CARD OF 'laws.FnExactSurrealText'. -/
def fnExactSurrealTextUptoCard : Claim7 := { stood := { row := fnExactSurrealTextUptoRow, standIns := [], harness := (true, "726357cf4ed284c09f4b475d99e0d0bbb2fc5e5ccbeb038a419229bd2826b760"), looks := false }, kinds := [], alts := [], laidByText := true, laidKinds := [.data, .data, .data], laidTests := true, laidLooks := .later }
def FnExactSurrealTextUptoCardSaid : Prop := Claim7.holds Tryd.pinned (.plain (OpenSpec.upto fnExactSurrealTextSpec)) fnExactSurrealTextUptoCard

/-- THE SECOND FORM's CARD OF 'laws.FnHereditaryTexts'. -/
def fnHereditaryTextsUptoCard : Claim7 := { stood := { row := fnHereditaryTextsUptoRow, standIns := [], harness := (true, "726357cf4ed284c09f4b475d99e0d0bbb2fc5e5ccbeb038a419229bd2826b760"), looks := false }, kinds := [], alts := [], laidByText := true, laidKinds := [.data, .data, .data], laidTests := true, laidLooks := .later }
def FnHereditaryTextsUptoCardSaid : Prop := Claim7.holds Tryd.pinned (.plain (OpenSpec.upto fnHereditaryTextsSpec)) fnHereditaryTextsUptoCard
end Rows
end Go.Proofs.YtfembpnegnikfaaDoor
