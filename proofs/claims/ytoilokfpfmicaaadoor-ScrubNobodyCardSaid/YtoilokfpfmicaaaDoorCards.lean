/-
  DERIVED. GIVEN WITH THE SEED: THE CARDS: each row of YtoilokfpfmicaaaDoorRows.lean that lists a variable, with what it lists TIED to the program's text (the seventh form; the later family's looks); each row that meets fmt, with fmt's text TOLD by the authors' own Lean function (tested against real Go, not proved from fmt's source: count such statements apart). THE CARD IS WHAT COUNTS. Prove the row's statement (the work); the ties are given (YtoilokfpfmicaaaDoorTie.lean); close each card by the builder's one call (the guide's Derived/Test/ToyasCard.lean, 'card_holds'). Laid BY PROGRAM, IN A SANDBOX (cutbox-door.mjs). By AI agents, Wed Nov 11 2026. No macro, syntax, notation, axiom, sorry.
-/
import Derived.Test.YtoilokfpfmicaaaDoorRows
import GoSem.ClaimSeven
namespace Go.Proofs.YtoilokfpfmicaaaDoor
namespace Rows

/-- THE TIED CARD OF 'dryrotlaw20.ScrubLedger'. -/
def scrubLedgerCard : Claim7 := { stood := { row := scrubLedgerRow, standIns := [], harness := (true, "ba0aacf7a1df22f051d26e6376cf8425f27f8e4ca757d7dd5696ae1735871c18"), looks := true }, kinds := [], alts := [], laidByText := true, laidKinds := [.data, .data, .data], laidTests := true, laidLooks := .later }
def ScrubLedgerCardSaid : Prop := Claim7.holds Tryd.pinned (.plain (OpenSpec.ofChange scrubLedgerSpec)) scrubLedgerCard

/-- THE TIED CARD OF 'dryrotlaw20.ScrubNotes'. -/
def scrubNotesCard : Claim7 := { stood := { row := scrubNotesRow, standIns := [], harness := (true, "ba0aacf7a1df22f051d26e6376cf8425f27f8e4ca757d7dd5696ae1735871c18"), looks := true }, kinds := [], alts := [], laidByText := true, laidKinds := [.data, .data, .data], laidTests := true, laidLooks := .later }
def ScrubNotesCardSaid : Prop := Claim7.holds Tryd.pinned (.plain (OpenSpec.ofChange scrubNotesSpec)) scrubNotesCard

/-- THE TIED CARD OF 'dryrotlaw20.ScrubNobody'. -/
def scrubNobodyCard : Claim7 := { stood := { row := scrubNobodyRow, standIns := [], harness := (true, "ba0aacf7a1df22f051d26e6376cf8425f27f8e4ca757d7dd5696ae1735871c18"), looks := true }, kinds := [], alts := [], laidByText := true, laidKinds := [.data, .data, .data, .data, .data, .pinned], laidTests := true, laidLooks := .later }
def ScrubNobodyCardSaid : Prop := Claim7.holds Tryd.pinned (.plain (OpenSpec.ofChange scrubNobodySpec)) scrubNobodyCard

/-- THE SECOND FORM's CARD OF 'dryrotlaw20.ScrubLedger'. -/
def scrubLedgerUptoCard : Claim7 := { stood := { row := scrubLedgerUptoRow, standIns := [], harness := (true, "ba0aacf7a1df22f051d26e6376cf8425f27f8e4ca757d7dd5696ae1735871c18"), looks := true }, kinds := [], alts := [], laidByText := true, laidKinds := [.data, .data, .data], laidTests := true, laidLooks := .later }
def ScrubLedgerUptoCardSaid : Prop := Claim7.holds Tryd.pinned (.plain (OpenSpec.upto scrubLedgerSpec)) scrubLedgerUptoCard

/-- THE SECOND FORM's CARD OF 'dryrotlaw20.ScrubNotes'. -/
def scrubNotesUptoCard : Claim7 := { stood := { row := scrubNotesUptoRow, standIns := [], harness := (true, "ba0aacf7a1df22f051d26e6376cf8425f27f8e4ca757d7dd5696ae1735871c18"), looks := true }, kinds := [], alts := [], laidByText := true, laidKinds := [.data, .data, .data], laidTests := true, laidLooks := .later }
def ScrubNotesUptoCardSaid : Prop := Claim7.holds Tryd.pinned (.plain (OpenSpec.upto scrubNotesSpec)) scrubNotesUptoCard

/-- THE SECOND FORM's CARD OF 'dryrotlaw20.ScrubNobody'. -/
def scrubNobodyUptoCard : Claim7 := { stood := { row := scrubNobodyUptoRow, standIns := [], harness := (true, "ba0aacf7a1df22f051d26e6376cf8425f27f8e4ca757d7dd5696ae1735871c18"), looks := true }, kinds := [], alts := [], laidByText := true, laidKinds := [.data, .data, .data, .data, .data, .pinned], laidTests := true, laidLooks := .later }
def ScrubNobodyUptoCardSaid : Prop := Claim7.holds Tryd.pinned (.plain (OpenSpec.upto scrubNobodySpec)) scrubNobodyUptoCard
end Rows
end Go.Proofs.YtoilokfpfmicaaaDoor
