/-
  DERIVED. GIVEN WITH THE SEED: THE CARDS: each row of YtnkbhpnflfhhnaaGreatDoorRows.lean that lists a variable, with what it lists TIED to the program's text (the seventh form; the later family's looks); each row that meets fmt, with fmt's text TOLD by the authors' own Lean function (tested against real Go, not proved from fmt's source: count such statements apart). THE CARD IS WHAT COUNTS. Prove the row's statement (the work); the ties are given (YtnkbhpnflfhhnaaGreatDoorTie.lean); close each card by the builder's one call (the guide's Derived/Test/ToyasCard.lean, 'card_holds'). Laid BY PROGRAM, IN A SANDBOX (cutbox-door.mjs). By AI agents, Wed Nov 11 2026. No macro, syntax, notation, axiom, sorry.
-/
import Derived.Test.YtnkbhpnflfhhnaaGreatDoorRows
import GoSem.ClaimSeven
namespace Go.Proofs.YtnkbhpnflfhhnaaGreatDoor
namespace Rows

/-- THE TIED CARD OF 'hostlerlaw32.ScriptPrints'. -/
def scriptPrintsCard : Claim7 := { stood := { row := scriptPrintsRow, standIns := [], harness := (true, "c7b16e500c3b2e1b39aff42c63a68e9f2f31dfe9bfbe8d64318b8587707e9b6f"), looks := true }, kinds := [], alts := [], laidByText := true, laidKinds := [.data, .data, .data, .data, .sentinel, .sentinel, .pinned], laidTests := true, laidLooks := .later }
def ScriptPrintsCardSaid : Prop := Claim7.holds Tryz.pinned (.plain (OpenSpec.ofChange scriptPrintsSpec)) scriptPrintsCard

/-- THE TIED CARD OF 'hostlerlaw37.PrioKnown'. -/
def prioKnownCard : Claim7 := { stood := { row := prioKnownRow, standIns := [], harness := (true, "c7b16e500c3b2e1b39aff42c63a68e9f2f31dfe9bfbe8d64318b8587707e9b6f"), looks := true }, kinds := [], alts := [], laidByText := true, laidKinds := [.data, .data, .data, .data, .sentinel, .sentinel, .pinned], laidTests := true, laidLooks := .later }
def PrioKnownCardSaid : Prop := Claim7.holds Tryz.pinned (.plain (OpenSpec.ofChange prioKnownSpec)) prioKnownCard

/-- THE TIED CARD OF 'hostlerlaw37.PrioPlays'. -/
def prioPlaysCard : Claim7 := { stood := { row := prioPlaysRow, standIns := [], harness := (true, "c7b16e500c3b2e1b39aff42c63a68e9f2f31dfe9bfbe8d64318b8587707e9b6f"), looks := true }, kinds := [], alts := [], laidByText := true, laidKinds := [.data, .data, .data, .data, .sentinel, .sentinel, .pinned], laidTests := true, laidLooks := .later }
def PrioPlaysCardSaid : Prop := Claim7.holds Tryz.pinned (.plain (OpenSpec.ofChange prioPlaysSpec)) prioPlaysCard

/-- THE TIED CARD OF 'hostlerlaw37.PrioFirst'. -/
def prioFirstCard : Claim7 := { stood := { row := prioFirstRow, standIns := [], harness := (true, "c7b16e500c3b2e1b39aff42c63a68e9f2f31dfe9bfbe8d64318b8587707e9b6f"), looks := true }, kinds := [], alts := [], laidByText := true, laidKinds := [.data, .data, .data, .data, .sentinel, .sentinel, .pinned], laidTests := true, laidLooks := .later }
def PrioFirstCardSaid : Prop := Claim7.holds Tryz.pinned (.plain (OpenSpec.ofChange prioFirstSpec)) prioFirstCard

/-- THE TIED CARD OF 'hostlerlaw37.PrioTurns'. -/
def prioTurnsCard : Claim7 := { stood := { row := prioTurnsRow, standIns := [], harness := (true, "c7b16e500c3b2e1b39aff42c63a68e9f2f31dfe9bfbe8d64318b8587707e9b6f"), looks := true }, kinds := [], alts := [], laidByText := true, laidKinds := [.data, .data, .data, .data, .sentinel, .sentinel, .pinned], laidTests := true, laidLooks := .later }
def PrioTurnsCardSaid : Prop := Claim7.holds Tryz.pinned (.plain (OpenSpec.ofChange prioTurnsSpec)) prioTurnsCard

/-- THE TIED CARD OF 'hostlerlaw38.TraceKnown'. -/
def traceKnownCard : Claim7 := { stood := { row := traceKnownRow, standIns := [], harness := (true, "c7b16e500c3b2e1b39aff42c63a68e9f2f31dfe9bfbe8d64318b8587707e9b6f"), looks := true }, kinds := [], alts := [], laidByText := true, laidKinds := [.data, .data, .data, .data, .sentinel, .sentinel, .pinned], laidTests := true, laidLooks := .later }
def TraceKnownCardSaid : Prop := Claim7.holds Tryz.pinned (.plain (OpenSpec.ofChange traceKnownSpec)) traceKnownCard

/-- THE SECOND FORM's CARD OF 'hostlerlaw32.ScriptPrints'. -/
def scriptPrintsUptoCard : Claim7 := { stood := { row := scriptPrintsUptoRow, standIns := [], harness := (true, "c7b16e500c3b2e1b39aff42c63a68e9f2f31dfe9bfbe8d64318b8587707e9b6f"), looks := true }, kinds := [], alts := [], laidByText := true, laidKinds := [.data, .data, .data, .data, .sentinel, .sentinel, .pinned], laidTests := true, laidLooks := .later }
def ScriptPrintsUptoCardSaid : Prop := Claim7.holds Tryz.pinned (.plain (OpenSpec.upto scriptPrintsSpec)) scriptPrintsUptoCard

/-- THE SECOND FORM's CARD OF 'hostlerlaw37.PrioKnown'. -/
def prioKnownUptoCard : Claim7 := { stood := { row := prioKnownUptoRow, standIns := [], harness := (true, "c7b16e500c3b2e1b39aff42c63a68e9f2f31dfe9bfbe8d64318b8587707e9b6f"), looks := true }, kinds := [], alts := [], laidByText := true, laidKinds := [.data, .data, .data, .data, .sentinel, .sentinel, .pinned], laidTests := true, laidLooks := .later }
def PrioKnownUptoCardSaid : Prop := Claim7.holds Tryz.pinned (.plain (OpenSpec.upto prioKnownSpec)) prioKnownUptoCard

/-- THE SECOND FORM's CARD OF 'hostlerlaw37.PrioPlays'. -/
def prioPlaysUptoCard : Claim7 := { stood := { row := prioPlaysUptoRow, standIns := [], harness := (true, "c7b16e500c3b2e1b39aff42c63a68e9f2f31dfe9bfbe8d64318b8587707e9b6f"), looks := true }, kinds := [], alts := [], laidByText := true, laidKinds := [.data, .data, .data, .data, .sentinel, .sentinel, .pinned], laidTests := true, laidLooks := .later }
def PrioPlaysUptoCardSaid : Prop := Claim7.holds Tryz.pinned (.plain (OpenSpec.upto prioPlaysSpec)) prioPlaysUptoCard

/-- THE SECOND FORM's CARD OF 'hostlerlaw37.PrioFirst'. -/
def prioFirstUptoCard : Claim7 := { stood := { row := prioFirstUptoRow, standIns := [], harness := (true, "c7b16e500c3b2e1b39aff42c63a68e9f2f31dfe9bfbe8d64318b8587707e9b6f"), looks := true }, kinds := [], alts := [], laidByText := true, laidKinds := [.data, .data, .data, .data, .sentinel, .sentinel, .pinned], laidTests := true, laidLooks := .later }
def PrioFirstUptoCardSaid : Prop := Claim7.holds Tryz.pinned (.plain (OpenSpec.upto prioFirstSpec)) prioFirstUptoCard

/-- THE SECOND FORM's CARD OF 'hostlerlaw37.PrioTurns'. -/
def prioTurnsUptoCard : Claim7 := { stood := { row := prioTurnsUptoRow, standIns := [], harness := (true, "c7b16e500c3b2e1b39aff42c63a68e9f2f31dfe9bfbe8d64318b8587707e9b6f"), looks := true }, kinds := [], alts := [], laidByText := true, laidKinds := [.data, .data, .data, .data, .sentinel, .sentinel, .pinned], laidTests := true, laidLooks := .later }
def PrioTurnsUptoCardSaid : Prop := Claim7.holds Tryz.pinned (.plain (OpenSpec.upto prioTurnsSpec)) prioTurnsUptoCard

/-- THE SECOND FORM's CARD OF 'hostlerlaw38.TraceKnown'. -/
def traceKnownUptoCard : Claim7 := { stood := { row := traceKnownUptoRow, standIns := [], harness := (true, "c7b16e500c3b2e1b39aff42c63a68e9f2f31dfe9bfbe8d64318b8587707e9b6f"), looks := true }, kinds := [], alts := [], laidByText := true, laidKinds := [.data, .data, .data, .data, .sentinel, .sentinel, .pinned], laidTests := true, laidLooks := .later }
def TraceKnownUptoCardSaid : Prop := Claim7.holds Tryz.pinned (.plain (OpenSpec.upto traceKnownSpec)) traceKnownUptoCard
end Rows
end Go.Proofs.YtnkbhpnflfhhnaaGreatDoor
