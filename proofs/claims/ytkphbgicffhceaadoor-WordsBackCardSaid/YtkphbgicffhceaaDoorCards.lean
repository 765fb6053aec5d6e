/-
  DERIVED. GIVEN WITH THE SEED: THE CARDS: each row of YtkphbgicffhceaaDoorRows.lean that lists a variable, with what it lists TIED to the program's text (the seventh form; the later family's looks); each row that meets fmt, with fmt's text TOLD by the authors' own Lean function (tested against real Go, not proved from fmt's source: count such statements apart). THE CARD IS WHAT COUNTS. Prove the row's statement (the work); the ties are given (YtkphbgicffhceaaDoorTie.lean); close each card by the builder's one call (the guide's Derived/Test/ToyasCard.lean, 'card_holds'). Laid BY PROGRAM, IN A SANDBOX (cutbox-door.mjs). By AI agents, Wed Nov 11 2026. No macro, syntax, notation, axiom, sorry.
-/
import Derived.Test.YtkphbgicffhceaaDoorRows
import GoSem.ClaimSeven
namespace Go.Proofs.YtkphbgicffhceaaDoor
namespace Rows

/-- THE TIED CARD OF 'anabranchlaw42.WordsNumbers'. -/
def wordsNumbersCard : Claim7 := { stood := { row := wordsNumbersRow, standIns := [], harness := (true, "cd774846d133880280b64608d5889f29d1dba59a402ceb44e9cb1e46e30b2f5b"), looks := false }, kinds := [], alts := [], laidByText := true, laidKinds := [.data, .data, .data], laidTests := true, laidLooks := .later }
def WordsNumbersCardSaid : Prop := Claim7.holds Tryd.pinned (.plain (OpenSpec.ofChange wordsNumbersSpec)) wordsNumbersCard

/-- THE TIED CARD OF 'anabranchlaw42.WordsFields'. -/
def wordsFieldsCard : Claim7 := { stood := { row := wordsFieldsRow, standIns := [], harness := (true, "cd774846d133880280b64608d5889f29d1dba59a402ceb44e9cb1e46e30b2f5b"), looks := false }, kinds := [], alts := [], laidByText := true, laidKinds := [.data, .data, .data], laidTests := true, laidLooks := .later }
def WordsFieldsCardSaid : Prop := Claim7.holds Tryd.pinned (.plain (OpenSpec.ofChange wordsFieldsSpec)) wordsFieldsCard

/-- THE TIED CARD OF 'anabranchlaw42.WordsBytes'. -/
def wordsBytesCard : Claim7 := { stood := { row := wordsBytesRow, standIns := [], harness := (true, "cd774846d133880280b64608d5889f29d1dba59a402ceb44e9cb1e46e30b2f5b"), looks := false }, kinds := [], alts := [], laidByText := true, laidKinds := [.data, .data, .data], laidTests := true, laidLooks := .later }
def WordsBytesCardSaid : Prop := Claim7.holds Tryd.pinned (.plain (OpenSpec.ofChange wordsBytesSpec)) wordsBytesCard

/-- THE TIED CARD OF 'anabranchlaw42.WordsBack'. -/
def wordsBackCard : Claim7 := { stood := { row := wordsBackRow, standIns := [], harness := (true, "cd774846d133880280b64608d5889f29d1dba59a402ceb44e9cb1e46e30b2f5b"), looks := false }, kinds := [], alts := [], laidByText := true, laidKinds := [.data, .data, .data], laidTests := true, laidLooks := .later }
def WordsBackCardSaid : Prop := Claim7.holds Tryd.pinned (.plain (OpenSpec.ofChange wordsBackSpec)) wordsBackCard

/-- THE SECOND FORM's CARD OF 'anabranchlaw42.WordsNumbers'. -/
def wordsNumbersUptoCard : Claim7 := { stood := { row := wordsNumbersUptoRow, standIns := [], harness := (true, "cd774846d133880280b64608d5889f29d1dba59a402ceb44e9cb1e46e30b2f5b"), looks := false }, kinds := [], alts := [], laidByText := true, laidKinds := [.data, .data, .data], laidTests := true, laidLooks := .later }
def WordsNumbersUptoCardSaid : Prop := Claim7.holds Tryd.pinned (.plain (OpenSpec.upto wordsNumbersSpec)) wordsNumbersUptoCard

/-- THE SECOND FORM's CARD OF 'anabranchlaw42.WordsFields'. -/
def wordsFieldsUptoCard : Claim7 := { stood := { row := wordsFieldsUptoRow, standIns := [], harness := (true, "cd774846d133880280b64608d5889f29d1dba59a402ceb44e9cb1e46e30b2f5b"), looks := false }, kinds := [], alts := [], laidByText := true, laidKinds := [.data, .data, .data], laidTests := true, laidLooks := .later }
def WordsFieldsUptoCardSaid : Prop := Claim7.holds Tryd.pinned (.plain (OpenSpec.upto wordsFieldsSpec)) wordsFieldsUptoCard

/-- THE SECOND FORM's CARD OF 'anabranchlaw42.WordsBytes'. -/
def wordsBytesUptoCard : Claim7 := { stood := { row := wordsBytesUptoRow, standIns := [], harness := (true, "cd774846d133880280b64608d5889f29d1dba59a402ceb44e9cb1e46e30b2f5b"), looks := false }, kinds := [], alts := [], laidByText := true, laidKinds := [.data, .data, .data], laidTests := true, laidLooks := .later }
def WordsBytesUptoCardSaid : Prop := Claim7.holds Tryd.pinned (.plain (OpenSpec.upto wordsBytesSpec)) wordsBytesUptoCard

/-- THE SECOND FORM's CARD OF 'anabranchlaw42.WordsBack'. -/
def wordsBackUptoCard : Claim7 := { stood := { row := wordsBackUptoRow, standIns := [], harness := (true, "cd774846d133880280b64608d5889f29d1dba59a402ceb44e9cb1e46e30b2f5b"), looks := false }, kinds := [], alts := [], laidByText := true, laidKinds := [.data, .data, .data], laidTests := true, laidLooks := .later }
def WordsBackUptoCardSaid : Prop := Claim7.holds Tryd.pinned (.plain (OpenSpec.upto wordsBackSpec)) wordsBackUptoCard
end Rows
end Go.Proofs.YtkphbgicffhceaaDoor
