/-
  DERIVED. GIVEN WITH THE SEED: THE CARDS: each row of YtlkcoljkmocejaaDoorRows.lean that lists a variable, with what it lists TIED to the program's text (the seventh form; the later family's looks); each row that meets fmt, with fmt's text TOLD by the authors' own Lean function (tested against real Go, not proved from fmt's source: count such statements apart). THE CARD IS WHAT COUNTS. Prove the row's statement (the work); the ties are given (YtlkcoljkmocejaaDoorTie.lean); close each card by the builder's one call (the guide's Derived/Test/ToyasCard.lean, 'card_holds'). Laid BY PROGRAM, IN A SANDBOX (cutbox-door.mjs). By AI agents, Wed Nov 11 2026. No macro, syntax, notation, axiom, sorry.
-/
import Derived.Test.YtlkcoljkmocejaaDoorRows
import GoSem.ClaimSeven
namespace Go.Proofs.YtlkcoljkmocejaaDoor
namespace Rows

/-- THE TIED CARD OF 'chirographlaw02.ShaSums'. -/
def shaSumsCard : Claim7 := { stood := { row := shaSumsRow, standIns := [], harness := (true, "e0bf0db07e5a6cd17236333987fd3c18148874779e20c00a90be81071a98d932"), looks := false }, kinds := [], alts := [], laidByText := true, laidKinds := [.data], laidTests := true, laidLooks := .later }
def ShaSumsCardSaid : Prop := Claim7.holds Tryd.pinned (.plain (OpenSpec.ofChange shaSumsSpec)) shaSumsCard

/-- THE TIED CARD OF 'chirographlaw02.ShaExamples'. -/
def shaExamplesCard : Claim7 := { stood := { row := shaExamplesRow, standIns := [], harness := (true, "e0bf0db07e5a6cd17236333987fd3c18148874779e20c00a90be81071a98d932"), looks := false }, kinds := [], alts := [], laidByText := true, laidKinds := [.data], laidTests := true, laidLooks := .later }
def ShaExamplesCardSaid : Prop := Claim7.holds Tryd.pinned (.plain (OpenSpec.ofChange shaExamplesSpec)) shaExamplesCard

/-- THE TIED CARD OF 'chirographlaw02.ShaParts'. -/
def shaPartsCard : Claim7 := { stood := { row := shaPartsRow, standIns := [], harness := (true, "e0bf0db07e5a6cd17236333987fd3c18148874779e20c00a90be81071a98d932"), looks := false }, kinds := [], alts := [], laidByText := true, laidKinds := [.data], laidTests := true, laidLooks := .later }
def ShaPartsCardSaid : Prop := Claim7.holds Tryd.pinned (.plain (OpenSpec.ofChange shaPartsSpec)) shaPartsCard

/-- THE TIED CARD OF 'chirographlaw02.ShaCopies'. -/
def shaCopiesCard : Claim7 := { stood := { row := shaCopiesRow, standIns := [], harness := (true, "e0bf0db07e5a6cd17236333987fd3c18148874779e20c00a90be81071a98d932"), looks := false }, kinds := [], alts := [], laidByText := true, laidKinds := [.data], laidTests := true, laidLooks := .later }
def ShaCopiesCardSaid : Prop := Claim7.holds Tryd.pinned (.plain (OpenSpec.ofChange shaCopiesSpec)) shaCopiesCard

/-- THE SECOND FORM's CARD OF 'chirographlaw02.ShaSums'. -/
def shaSumsUptoCard : Claim7 := { stood := { row := shaSumsUptoRow, standIns := [], harness := (true, "e0bf0db07e5a6cd17236333987fd3c18148874779e20c00a90be81071a98d932"), looks := false }, kinds := [], alts := [], laidByText := true, laidKinds := [.data], laidTests := true, laidLooks := .later }
def ShaSumsUptoCardSaid : Prop := Claim7.holds Tryd.pinned (.plain (OpenSpec.upto shaSumsSpec)) shaSumsUptoCard

/-- THE SECOND FORM's CARD OF 'chirographlaw02.ShaExamples'. -/
def shaExamplesUptoCard : Claim7 := { stood := { row := shaExamplesUptoRow, standIns := [], harness := (true, "e0bf0db07e5a6cd17236333987fd3c18148874779e20c00a90be81071a98d932"), looks := false }, kinds := [], alts := [], laidByText := true, laidKinds := [.data], laidTests := true, laidLooks := .later }
def ShaExamplesUptoCardSaid : Prop := Claim7.holds Tryd.pinned (.plain (OpenSpec.upto shaExamplesSpec)) shaExamplesUptoCard

/-- THE SECOND FORM's CARD OF 'chirographlaw02.ShaParts'. -/
def shaPartsUptoCard : Claim7 := { stood := { row := shaPartsUptoRow, standIns := [], harness := (true, "e0bf0db07e5a6cd17236333987fd3c18148874779e20c00a90be81071a98d932"), looks := false }, kinds := [], alts := [], laidByText := true, laidKinds := [.data], laidTests := true, laidLooks := .later }
def ShaPartsUptoCardSaid : Prop := Claim7.holds Tryd.pinned (.plain (OpenSpec.upto shaPartsSpec)) shaPartsUptoCard

/-- THE SECOND FORM's CARD OF 'chirographlaw02.ShaCopies'. -/
def shaCopiesUptoCard : Claim7 := { stood := { row := shaCopiesUptoRow, standIns := [], harness := (true, "e0bf0db07e5a6cd17236333987fd3c18148874779e20c00a90be81071a98d932"), looks := false }, kinds := [], alts := [], laidByText := true, laidKinds := [.data], laidTests := true, laidLooks := .later }
def ShaCopiesUptoCardSaid : Prop := Claim7.holds Tryd.pinned (.plain (OpenSpec.upto shaCopiesSpec)) shaCopiesUptoCard
end Rows
end Go.Proofs.YtlkcoljkmocejaaDoor
