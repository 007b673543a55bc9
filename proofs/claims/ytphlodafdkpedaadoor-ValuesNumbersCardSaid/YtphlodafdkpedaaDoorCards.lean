/-
  DERIVED. GIVEN WITH THE SEED: THE CARDS: each row of YtphlodafdkpedaaDoorRows.lean that lists a variable, with what it lists TIED to the program's text (the seventh form; the later family's looks); each row that meets fmt, with fmt's text TOLD by the authors' own Lean function (tested against real Go, not proved from fmt's source: count such statements apart). THE CARD IS WHAT COUNTS. Prove the row's statement (the work); the ties are given (YtphlodafdkpedaaDoorTie.lean); close each card by the builder's one call (the guide's Derived/Test/ToyasCard.lean, 'card_holds'). Laid BY PROGRAM, IN A SANDBOX (cutbox-door.mjs). By AI agents, Wed Nov 11 2026. No macro, syntax, notation, axiom, sorry.
-/
import Derived.Test.YtphlodafdkpedaaDoorRows
import GoSem.ClaimSeven
namespace Go.Proofs.YtphlodafdkpedaaDoor
namespace Rows

/-- THE TIED CARD OF 'belfrylaw11.ValuesTells'. -/
def valuesTellsCard : Claim7 := { stood := { row := valuesTellsRow, standIns := [], harness := (true, "141dc40af59047066afb577ad26ad74168de4a0390d5886f417655e8126e112f"), looks := false }, kinds := [], alts := [], laidByText := true, laidKinds := [.data, .data, .data], laidTests := true, laidLooks := .later }
def ValuesTellsCardSaid : Prop := Claim7.holds Tryd.pinned (.plain (OpenSpec.ofChange valuesTellsSpec)) valuesTellsCard

/-- THE TIED CARD OF 'belfrylaw11.ValuesNumbers'. -/
def valuesNumbersCard : Claim7 := { stood := { row := valuesNumbersRow, standIns := [], harness := (true, "141dc40af59047066afb577ad26ad74168de4a0390d5886f417655e8126e112f"), looks := false }, kinds := [], alts := [], laidByText := true, laidKinds := [.data, .data, .data], laidTests := true, laidLooks := .later }
def ValuesNumbersCardSaid : Prop := Claim7.holds Tryd.pinned (.plain (OpenSpec.ofChange valuesNumbersSpec)) valuesNumbersCard

/-- THE TIED CARD OF 'belfrylaw11.ValuesOrder'. -/
def valuesOrderCard : Claim7 := { stood := { row := valuesOrderRow, standIns := [], harness := (true, "141dc40af59047066afb577ad26ad74168de4a0390d5886f417655e8126e112f"), looks := false }, kinds := [], alts := [], laidByText := true, laidKinds := [.data, .data, .data], laidTests := true, laidLooks := .later }
def ValuesOrderCardSaid : Prop := Claim7.holds Tryd.pinned (.plain (OpenSpec.ofChange valuesOrderSpec)) valuesOrderCard

/-- THE TIED CARD OF 'belfrylaw11.ValuesYes'. -/
def valuesYesCard : Claim7 := { stood := { row := valuesYesRow, standIns := [], harness := (true, "141dc40af59047066afb577ad26ad74168de4a0390d5886f417655e8126e112f"), looks := false }, kinds := [], alts := [], laidByText := true, laidKinds := [.data, .data, .data], laidTests := true, laidLooks := .later }
def ValuesYesCardSaid : Prop := Claim7.holds Tryd.pinned (.plain (OpenSpec.ofChange valuesYesSpec)) valuesYesCard

/-- THE TIED CARD OF 'belfrylaw11.ValuesMay'. -/
def valuesMayCard : Claim7 := { stood := { row := valuesMayRow, standIns := [], harness := (true, "141dc40af59047066afb577ad26ad74168de4a0390d5886f417655e8126e112f"), looks := false }, kinds := [], alts := [], laidByText := true, laidKinds := [.data, .data, .data], laidTests := true, laidLooks := .later }
def ValuesMayCardSaid : Prop := Claim7.holds Tryd.pinned (.plain (OpenSpec.ofChange valuesMaySpec)) valuesMayCard

/-- THE TIED CARD OF 'belfrylaw11.ValuesTold'. -/
def valuesToldCard : Claim7 := { stood := { row := valuesToldRow, standIns := [], harness := (true, "141dc40af59047066afb577ad26ad74168de4a0390d5886f417655e8126e112f"), looks := false }, kinds := [], alts := [], laidByText := true, laidKinds := [.data, .data, .data], laidTests := true, laidLooks := .later }
def ValuesToldCardSaid : Prop := Claim7.holds Tryd.pinned (.plain (OpenSpec.ofChange valuesToldSpec)) valuesToldCard

/-- THE TIED CARD OF 'belfrylaw11.ValuesRing'. -/
def valuesRingCard : Claim7 := { stood := { row := valuesRingRow, standIns := [], harness := (true, "141dc40af59047066afb577ad26ad74168de4a0390d5886f417655e8126e112f"), looks := false }, kinds := [], alts := [], laidByText := true, laidKinds := [.data, .data, .data], laidTests := true, laidLooks := .later }
def ValuesRingCardSaid : Prop := Claim7.holds Tryd.pinned (.plain (OpenSpec.ofChange valuesRingSpec)) valuesRingCard

/-- THE SECOND FORM's CARD OF 'belfrylaw11.ValuesTells'. -/
def valuesTellsUptoCard : Claim7 := { stood := { row := valuesTellsUptoRow, standIns := [], harness := (true, "141dc40af59047066afb577ad26ad74168de4a0390d5886f417655e8126e112f"), looks := false }, kinds := [], alts := [], laidByText := true, laidKinds := [.data, .data, .data], laidTests := true, laidLooks := .later }
def ValuesTellsUptoCardSaid : Prop := Claim7.holds Tryd.pinned (.plain (OpenSpec.upto valuesTellsSpec)) valuesTellsUptoCard

/-- THE SECOND FORM's CARD OF 'belfrylaw11.ValuesNumbers'. -/
def valuesNumbersUptoCard : Claim7 := { stood := { row := valuesNumbersUptoRow, standIns := [], harness := (true, "141dc40af59047066afb577ad26ad74168de4a0390d5886f417655e8126e112f"), looks := false }, kinds := [], alts := [], laidByText := true, laidKinds := [.data, .data, .data], laidTests := true, laidLooks := .later }
def ValuesNumbersUptoCardSaid : Prop := Claim7.holds Tryd.pinned (.plain (OpenSpec.upto valuesNumbersSpec)) valuesNumbersUptoCard

/-- THE SECOND FORM's CARD OF 'belfrylaw11.ValuesOrder'. -/
def valuesOrderUptoCard : Claim7 := { stood := { row := valuesOrderUptoRow, standIns := [], harness := (true, "141dc40af59047066afb577ad26ad74168de4a0390d5886f417655e8126e112f"), looks := false }, kinds := [], alts := [], laidByText := true, laidKinds := [.data, .data, .data], laidTests := true, laidLooks := .later }
def ValuesOrderUptoCardSaid : Prop := Claim7.holds Tryd.pinned (.plain (OpenSpec.upto valuesOrderSpec)) valuesOrderUptoCard

/-- THE SECOND FORM's CARD OF 'belfrylaw11.ValuesYes'. -/
def valuesYesUptoCard : Claim7 := { stood := { row := valuesYesUptoRow, standIns := [], harness := (true, "141dc40af59047066afb577ad26ad74168de4a0390d5886f417655e8126e112f"), looks := false }, kinds := [], alts := [], laidByText := true, laidKinds := [.data, .data, .data], laidTests := true, laidLooks := .later }
def ValuesYesUptoCardSaid : Prop := Claim7.holds Tryd.pinned (.plain (OpenSpec.upto valuesYesSpec)) valuesYesUptoCard

/-- THE SECOND FORM's CARD OF 'belfrylaw11.ValuesMay'. -/
def valuesMayUptoCard : Claim7 := { stood := { row := valuesMayUptoRow, standIns := [], harness := (true, "141dc40af59047066afb577ad26ad74168de4a0390d5886f417655e8126e112f"), looks := false }, kinds := [], alts := [], laidByText := true, laidKinds := [.data, .data, .data], laidTests := true, laidLooks := .later }
def ValuesMayUptoCardSaid : Prop := Claim7.holds Tryd.pinned (.plain (OpenSpec.upto valuesMaySpec)) valuesMayUptoCard

/-- THE SECOND FORM's CARD OF 'belfrylaw11.ValuesTold'. -/
def valuesToldUptoCard : Claim7 := { stood := { row := valuesToldUptoRow, standIns := [], harness := (true, "141dc40af59047066afb577ad26ad74168de4a0390d5886f417655e8126e112f"), looks := false }, kinds := [], alts := [], laidByText := true, laidKinds := [.data, .data, .data], laidTests := true, laidLooks := .later }
def ValuesToldUptoCardSaid : Prop := Claim7.holds Tryd.pinned (.plain (OpenSpec.upto valuesToldSpec)) valuesToldUptoCard

/-- THE SECOND FORM's CARD OF 'belfrylaw11.ValuesRing'. -/
def valuesRingUptoCard : Claim7 := { stood := { row := valuesRingUptoRow, standIns := [], harness := (true, "141dc40af59047066afb577ad26ad74168de4a0390d5886f417655e8126e112f"), looks := false }, kinds := [], alts := [], laidByText := true, laidKinds := [.data, .data, .data], laidTests := true, laidLooks := .later }
def ValuesRingUptoCardSaid : Prop := Claim7.holds Tryd.pinned (.plain (OpenSpec.upto valuesRingSpec)) valuesRingUptoCard
end Rows
end Go.Proofs.YtphlodafdkpedaaDoor
