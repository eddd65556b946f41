/-
  DERIVED. GIVEN WITH THE SEED: THE CARDS: each row of YtgibonhlhpkfkaaDoorRows.lean that lists a variable, with what it lists TIED to the program's text (the seventh form; the later family's looks); each row that meets fmt, with fmt's text TOLD by the authors' own Lean function (tested against real Go, not proved from fmt's source: count such statements apart). THE CARD IS WHAT COUNTS. Prove the row's statement (the work); the ties are given (YtgibonhlhpkfkaaDoorTie.lean); close each card by the builder's one call (the guide's Derived/Test/ToyasCard.lean, 'card_holds'). Laid BY PROGRAM, IN A SANDBOX (cutbox-door.mjs). By AI agents, Wed Nov 11 2026. No macro, syntax, notation, axiom, sorry.
-/
import Derived.Test.YtgibonhlhpkfkaaDoorRows
import GoSem.ClaimSeven
namespace Go.Proofs.YtgibonhlhpkfkaaDoor
namespace Rows

/-- THE TIED CARD OF 'chirographlaw03.HmacSums'. -/
def hmacSumsCard : Claim7 := { stood := { row := hmacSumsRow, standIns := [], harness := (true, "0772a42c7622a0b63f13cba5f294cdf4c17b373bc39ddd870035120d6e08da28"), looks := false }, kinds := [], alts := [], laidByText := true, laidKinds := [.data], laidTests := true, laidLooks := .later }
def HmacSumsCardSaid : Prop := Claim7.holds Tryd.pinned (.plain (OpenSpec.ofChange hmacSumsSpec)) hmacSumsCard

/-- THE TIED CARD OF 'chirographlaw03.HmacExamples'. -/
def hmacExamplesCard : Claim7 := { stood := { row := hmacExamplesRow, standIns := [], harness := (true, "0772a42c7622a0b63f13cba5f294cdf4c17b373bc39ddd870035120d6e08da28"), looks := false }, kinds := [], alts := [], laidByText := true, laidKinds := [.data], laidTests := true, laidLooks := .later }
def HmacExamplesCardSaid : Prop := Claim7.holds Tryd.pinned (.plain (OpenSpec.ofChange hmacExamplesSpec)) hmacExamplesCard

/-- THE TIED CARD OF 'chirographlaw03.HmacReady'. -/
def hmacReadyCard : Claim7 := { stood := { row := hmacReadyRow, standIns := [], harness := (true, "0772a42c7622a0b63f13cba5f294cdf4c17b373bc39ddd870035120d6e08da28"), looks := false }, kinds := [], alts := [], laidByText := true, laidKinds := [.data], laidTests := true, laidLooks := .later }
def HmacReadyCardSaid : Prop := Claim7.holds Tryd.pinned (.plain (OpenSpec.ofChange hmacReadySpec)) hmacReadyCard

/-- THE TIED CARD OF 'chirographlaw03.HmacKeys'. -/
def hmacKeysCard : Claim7 := { stood := { row := hmacKeysRow, standIns := [], harness := (true, "0772a42c7622a0b63f13cba5f294cdf4c17b373bc39ddd870035120d6e08da28"), looks := false }, kinds := [], alts := [], laidByText := true, laidKinds := [.data], laidTests := true, laidLooks := .later }
def HmacKeysCardSaid : Prop := Claim7.holds Tryd.pinned (.plain (OpenSpec.ofChange hmacKeysSpec)) hmacKeysCard

/-- THE TIED CARD OF 'chirographlaw03.HmacSame'. -/
def hmacSameCard : Claim7 := { stood := { row := hmacSameRow, standIns := [], harness := (true, "0772a42c7622a0b63f13cba5f294cdf4c17b373bc39ddd870035120d6e08da28"), looks := false }, kinds := [], alts := [], laidByText := true, laidKinds := [.data], laidTests := true, laidLooks := .later }
def HmacSameCardSaid : Prop := Claim7.holds Tryd.pinned (.plain (OpenSpec.ofChange hmacSameSpec)) hmacSameCard

/-- THE SECOND FORM's CARD OF 'chirographlaw03.HmacSums'. -/
def hmacSumsUptoCard : Claim7 := { stood := { row := hmacSumsUptoRow, standIns := [], harness := (true, "0772a42c7622a0b63f13cba5f294cdf4c17b373bc39ddd870035120d6e08da28"), looks := false }, kinds := [], alts := [], laidByText := true, laidKinds := [.data], laidTests := true, laidLooks := .later }
def HmacSumsUptoCardSaid : Prop := Claim7.holds Tryd.pinned (.plain (OpenSpec.upto hmacSumsSpec)) hmacSumsUptoCard

/-- THE SECOND FORM's CARD OF 'chirographlaw03.HmacExamples'. -/
def hmacExamplesUptoCard : Claim7 := { stood := { row := hmacExamplesUptoRow, standIns := [], harness := (true, "0772a42c7622a0b63f13cba5f294cdf4c17b373bc39ddd870035120d6e08da28"), looks := false }, kinds := [], alts := [], laidByText := true, laidKinds := [.data], laidTests := true, laidLooks := .later }
def HmacExamplesUptoCardSaid : Prop := Claim7.holds Tryd.pinned (.plain (OpenSpec.upto hmacExamplesSpec)) hmacExamplesUptoCard

/-- THE SECOND FORM's CARD OF 'chirographlaw03.HmacReady'. -/
def hmacReadyUptoCard : Claim7 := { stood := { row := hmacReadyUptoRow, standIns := [], harness := (true, "0772a42c7622a0b63f13cba5f294cdf4c17b373bc39ddd870035120d6e08da28"), looks := false }, kinds := [], alts := [], laidByText := true, laidKinds := [.data], laidTests := true, laidLooks := .later }
def HmacReadyUptoCardSaid : Prop := Claim7.holds Tryd.pinned (.plain (OpenSpec.upto hmacReadySpec)) hmacReadyUptoCard

/-- THE SECOND FORM's CARD OF 'chirographlaw03.HmacKeys'. -/
def hmacKeysUptoCard : Claim7 := { stood := { row := hmacKeysUptoRow, standIns := [], harness := (true, "0772a42c7622a0b63f13cba5f294cdf4c17b373bc39ddd870035120d6e08da28"), looks := false }, kinds := [], alts := [], laidByText := true, laidKinds := [.data], laidTests := true, laidLooks := .later }
def HmacKeysUptoCardSaid : Prop := Claim7.holds Tryd.pinned (.plain (OpenSpec.upto hmacKeysSpec)) hmacKeysUptoCard

/-- THE SECOND FORM's CARD OF 'chirographlaw03.HmacSame'. -/
def hmacSameUptoCard : Claim7 := { stood := { row := hmacSameUptoRow, standIns := [], harness := (true, "0772a42c7622a0b63f13cba5f294cdf4c17b373bc39ddd870035120d6e08da28"), looks := false }, kinds := [], alts := [], laidByText := true, laidKinds := [.data], laidTests := true, laidLooks := .later }
def HmacSameUptoCardSaid : Prop := Claim7.holds Tryd.pinned (.plain (OpenSpec.upto hmacSameSpec)) hmacSameUptoCard
end Rows
end Go.Proofs.YtgibonhlhpkfkaaDoor
