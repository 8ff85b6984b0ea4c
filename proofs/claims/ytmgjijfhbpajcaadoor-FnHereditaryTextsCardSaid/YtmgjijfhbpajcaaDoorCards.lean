/-
  DERIVED. GIVEN WITH THE SEED: THE CARDS: each row of YtmgjijfhbpajcaaDoorRows.lean that lists a variable, with what it lists TIED to the program's text (the seventh form; the later family's looks); each row that meets fmt, with fmt's text TOLD by the authors' own Lean function (tested against real Go, not proved from fmt's source: count such statements apart). THE CARD IS WHAT COUNTS. Prove the row's statement (the work); the ties are given (YtmgjijfhbpajcaaDoorTie.lean); close each card by the builder's one call (the guide's Derived/Test/ToyasCard.lean, 'card_holds'). Laid BY PROGRAM, IN A SANDBOX (cutbox-door.mjs). By AI agents, Wed Nov 11 2026. No macro, syntax, notation, axiom, sorry.
-/
import Derived.Test.YtmgjijfhbpajcaaDoorRows
import GoSem.ClaimSeven
namespace Go.Proofs.YtmgjijfhbpajcaaDoor
namespace Rows

/-- THE TIED CARD OF 'laws.FnShortWords'. -/
def fnShortWordsCard : Claim7 := { stood := { row := fnShortWordsRow, standIns := [], harness := (true, "0d1589aafd91d7830409e7d5a846473836932cec6cd79de15e9c7a25eef228bd"), looks := false }, kinds := [], alts := [], laidByText := true, laidKinds := [.data, .pinned], laidTests := true, laidLooks := .later }
def FnShortWordsCardSaid : Prop := Claim7.holds Tryd.pinned (.plain (OpenSpec.ofChange fnShortWordsSpec)) fnShortWordsCard

/-- THE TIED CARD OF 'laws.FnExactHereditaryText'. -/
def fnExactHereditaryTextCard : Claim7 := { stood := { row := fnExactHereditaryTextRow, standIns := [], harness := (true, "0d1589aafd91d7830409e7d5a846473836932cec6cd79de15e9c7a25eef228bd"), looks := false }, kinds := [], alts := [], laidByText := true, laidKinds := [.data, .data, .data], laidTests := true, laidLooks := .later }
def FnExactHereditaryTextCardSaid : Prop := Claim7.holds Tryd.pinned (.plain (OpenSpec.ofChange fnExactHereditaryTextSpec)) fnExactHereditaryTextCard

/-- THE TIED CARD OF 'laws.FnHereditaryTexts'. -/
def fnHereditaryTextsCard : Claim7 := { stood := { row := fnHereditaryTextsRow, standIns := [], harness := (true, "0d1589aafd91d7830409e7d5a846473836932cec6cd79de15e9c7a25eef228bd"), looks := false }, kinds := [], alts := [], laidByText := true, laidKinds := [.data, .data, .data], laidTests := true, laidLooks := .later }
def FnHereditaryTextsCardSaid : Prop := Claim7.holds Tryd.pinned (.plain (OpenSpec.ofChange fnHereditaryTextsSpec)) fnHereditaryTextsCard

/-- THE SECOND FORM's CARD OF 'laws.FnShortWords'. -/
def fnShortWordsUptoCard : Claim7 := { stood := { row := fnShortWordsUptoRow, standIns := [], harness := (true, "0d1589aafd91d7830409e7d5a846473836932cec6cd79de15e9c7a25eef228bd"), looks := false }, kinds := [], alts := [], laidByText := true, laidKinds := [.data, .pinned], laidTests := true, laidLooks := .later }
def FnShortWordsUptoCardSaid : Prop := Claim7.holds Tryd.pinned (.plain (OpenSpec.upto fnShortWordsSpec)) fnShortWordsUptoCard

/-- THE SECOND FORM's CARD OF 'laws.FnExactHereditaryText'. -/
def fnExactHereditaryTextUptoCard : Claim7 := { stood := { row := fnExactHereditaryTextUptoRow, standIns := [], harness := (true, "0d1589aafd91d7830409e7d5a846473836932cec6cd79de15e9c7a25eef228bd"), looks := false }, kinds := [], alts := [], laidByText := true, laidKinds := [.data, .data, .data], laidTests := true, laidLooks := .later }
def FnExactHereditaryTextUptoCardSaid : Prop := Claim7.holds Tryd.pinned (.plain (OpenSpec.upto fnExactHereditaryTextSpec)) fnExactHereditaryTextUptoCard

/-- THE SECOND FORM's CARD OF 'laws.FnHereditaryTexts'. -/
def fnHereditaryTextsUptoCard : Claim7 := { stood := { row := fnHereditaryTextsUptoRow, standIns := [], harness := (true, "0d1589aafd91d7830409e7d5a846473836932cec6cd79de15e9c7a25eef228bd"), looks := false }, kinds := [], alts := [], laidByText := true, laidKinds := [.data, .data, .data], laidTests := true, laidLooks := .later }
def FnHereditaryTextsUptoCardSaid : Prop := Claim7.holds Tryd.pinned (.plain (OpenSpec.upto fnHereditaryTextsSpec)) fnHereditaryTextsUptoCard
end Rows
end Go.Proofs.YtmgjijfhbpajcaaDoor
