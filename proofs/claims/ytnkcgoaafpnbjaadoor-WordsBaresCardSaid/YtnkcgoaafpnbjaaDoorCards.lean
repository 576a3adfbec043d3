/-
  DERIVED. GIVEN WITH THE SEED: THE CARDS: each row of YtnkcgoaafpnbjaaDoorRows.lean that lists a variable, with what it lists TIED to the program's text (the seventh form; the later family's looks); each row that meets fmt, with fmt's text TOLD by the authors' own Lean function (tested against real Go, not proved from fmt's source: count such statements apart). THE CARD IS WHAT COUNTS. Prove the row's statement (the work); the ties are given (YtnkcgoaafpnbjaaDoorTie.lean); close each card by the builder's one call (the guide's Derived/Test/ToyasCard.lean, 'card_holds'). Laid BY PROGRAM, IN A SANDBOX (cutbox-door.mjs). By AI agents, Wed Nov 11 2026. No macro, syntax, notation, axiom, sorry.
-/
import Derived.Test.YtnkcgoaafpnbjaaDoorRows
import GoSem.ClaimSeven
namespace Go.Proofs.YtnkcgoaafpnbjaaDoor
namespace Rows

/-- THE TIED CARD OF 'ossuarylaw34.WordsParses'. -/
def wordsParsesCard : Claim7 := { stood := { row := wordsParsesRow, standIns := [], harness := (true, "3d6150d80ad7b37f5974326dfeb3c7ab753de397f7057da4093b30357f878ad5"), looks := true }, kinds := [], alts := [], laidByText := true, laidKinds := [.data, .pinned], laidTests := true, laidLooks := .later }
def WordsParsesCardSaid : Prop := Claim7.holds Tryd.pinned (.plain (OpenSpec.ofChange wordsParsesSpec)) wordsParsesCard

/-- THE TIED CARD OF 'ossuarylaw34.WordsReads'. -/
def wordsReadsCard : Claim7 := { stood := { row := wordsReadsRow, standIns := [], harness := (true, "3d6150d80ad7b37f5974326dfeb3c7ab753de397f7057da4093b30357f878ad5"), looks := true }, kinds := [], alts := [], laidByText := true, laidKinds := [.data, .pinned], laidTests := true, laidLooks := .later }
def WordsReadsCardSaid : Prop := Claim7.holds Tryd.pinned (.plain (OpenSpec.ofChange wordsReadsSpec)) wordsReadsCard

/-- THE TIED CARD OF 'ossuarylaw34.WordsBares'. -/
def wordsBaresCard : Claim7 := { stood := { row := wordsBaresRow, standIns := [], harness := (true, "3d6150d80ad7b37f5974326dfeb3c7ab753de397f7057da4093b30357f878ad5"), looks := true }, kinds := [], alts := [], laidByText := true, laidKinds := [.data, .pinned], laidTests := true, laidLooks := .later }
def WordsBaresCardSaid : Prop := Claim7.holds Tryd.pinned (.plain (OpenSpec.ofChange wordsBaresSpec)) wordsBaresCard

/-- THE SECOND FORM's CARD OF 'ossuarylaw34.WordsParses'. -/
def wordsParsesUptoCard : Claim7 := { stood := { row := wordsParsesUptoRow, standIns := [], harness := (true, "3d6150d80ad7b37f5974326dfeb3c7ab753de397f7057da4093b30357f878ad5"), looks := true }, kinds := [], alts := [], laidByText := true, laidKinds := [.data, .pinned], laidTests := true, laidLooks := .later }
def WordsParsesUptoCardSaid : Prop := Claim7.holds Tryd.pinned (.plain (OpenSpec.upto wordsParsesSpec)) wordsParsesUptoCard

/-- THE SECOND FORM's CARD OF 'ossuarylaw34.WordsReads'. -/
def wordsReadsUptoCard : Claim7 := { stood := { row := wordsReadsUptoRow, standIns := [], harness := (true, "3d6150d80ad7b37f5974326dfeb3c7ab753de397f7057da4093b30357f878ad5"), looks := true }, kinds := [], alts := [], laidByText := true, laidKinds := [.data, .pinned], laidTests := true, laidLooks := .later }
def WordsReadsUptoCardSaid : Prop := Claim7.holds Tryd.pinned (.plain (OpenSpec.upto wordsReadsSpec)) wordsReadsUptoCard

/-- THE SECOND FORM's CARD OF 'ossuarylaw34.WordsBares'. -/
def wordsBaresUptoCard : Claim7 := { stood := { row := wordsBaresUptoRow, standIns := [], harness := (true, "3d6150d80ad7b37f5974326dfeb3c7ab753de397f7057da4093b30357f878ad5"), looks := true }, kinds := [], alts := [], laidByText := true, laidKinds := [.data, .pinned], laidTests := true, laidLooks := .later }
def WordsBaresUptoCardSaid : Prop := Claim7.holds Tryd.pinned (.plain (OpenSpec.upto wordsBaresSpec)) wordsBaresUptoCard
end Rows
end Go.Proofs.YtnkcgoaafpnbjaaDoor
