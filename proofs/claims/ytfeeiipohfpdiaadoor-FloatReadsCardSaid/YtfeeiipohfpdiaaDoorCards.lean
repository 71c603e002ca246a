/-
  DERIVED. GIVEN WITH THE SEED: THE CARDS: each row of YtfeeiipohfpdiaaDoorRows.lean that lists a variable, with what it lists TIED to the program's text (the seventh form; the later family's looks); each row that meets fmt, with fmt's text TOLD by the authors' own Lean function (tested against real Go, not proved from fmt's source: count such statements apart). THE CARD IS WHAT COUNTS. Prove the row's statement (the work); the ties are given (YtfeeiipohfpdiaaDoorTie.lean); close each card by the builder's one call (the guide's Derived/Test/ToyasCard.lean, 'card_holds'). Laid BY PROGRAM, IN A SANDBOX (cutbox-door.mjs). By AI agents, Wed Nov 11 2026. No macro, syntax, notation, axiom, sorry.
-/
import Derived.Test.YtfeeiipohfpdiaaDoorRows
import GoSem.ClaimSeven
namespace Go.Proofs.YtfeeiipohfpdiaaDoor
namespace Rows

/-- THE TIED CARD OF 'typecaselaw.FloatReads'. -/
def floatReadsCard : Claim7 := { stood := { row := floatReadsRow, standIns := [], harness := (true, "25a3755fbd931cf5c6e5cb31f46dd746b0be59906b4ba826ff19a7ec969cee9a"), looks := false }, kinds := [], alts := [], laidByText := true, laidKinds := [.data, .pinned], laidTests := true, laidLooks := .later }
def FloatReadsCardSaid : Prop := Claim7.holds Tryd.pinned (.plain (OpenSpec.ofChange floatReadsSpec)) floatReadsCard

/-- THE TIED CARD OF 'typecaselaw.FloatShorts'. -/
def floatShortsCard : Claim7 := { stood := { row := floatShortsRow, standIns := [], harness := (true, "25a3755fbd931cf5c6e5cb31f46dd746b0be59906b4ba826ff19a7ec969cee9a"), looks := false }, kinds := [], alts := [], laidByText := true, laidKinds := [.data, .pinned], laidTests := true, laidLooks := .later }
def FloatShortsCardSaid : Prop := Claim7.holds Tryd.pinned (.plain (OpenSpec.ofChange floatShortsSpec)) floatShortsCard

/-- THE TIED CARD OF 'typecaselaw.DiffTells'. -/
def diffTellsCard : Claim7 := { stood := { row := diffTellsRow, standIns := [], harness := (true, "25a3755fbd931cf5c6e5cb31f46dd746b0be59906b4ba826ff19a7ec969cee9a"), looks := false }, kinds := [], alts := [], laidByText := true, laidKinds := [.data, .pinned], laidTests := true, laidLooks := .later }
def DiffTellsCardSaid : Prop := Claim7.holds Tryd.pinned (.plain (OpenSpec.ofChange diffTellsSpec)) diffTellsCard

/-- THE TIED CARD OF 'typecaselaw.MergeTells'. -/
def mergeTellsCard : Claim7 := { stood := { row := mergeTellsRow, standIns := [], harness := (true, "25a3755fbd931cf5c6e5cb31f46dd746b0be59906b4ba826ff19a7ec969cee9a"), looks := false }, kinds := [], alts := [], laidByText := true, laidKinds := [.data, .pinned], laidTests := true, laidLooks := .later }
def MergeTellsCardSaid : Prop := Claim7.holds Tryd.pinned (.plain (OpenSpec.ofChange mergeTellsSpec)) mergeTellsCard

/-- THE TIED CARD OF 'typecaselaw.FloatTells'. -/
def floatTellsCard : Claim7 := { stood := { row := floatTellsRow, standIns := [], harness := (true, "25a3755fbd931cf5c6e5cb31f46dd746b0be59906b4ba826ff19a7ec969cee9a"), looks := false }, kinds := [], alts := [], laidByText := true, laidKinds := [.data, .data, .data, .data, .pinned], laidTests := true, laidLooks := .later }
def FloatTellsCardSaid : Prop := Claim7.holds Tryd.pinned (.plain (OpenSpec.ofChange floatTellsSpec)) floatTellsCard

/-- THE SECOND FORM's CARD OF 'typecaselaw.FloatReads'. -/
def floatReadsUptoCard : Claim7 := { stood := { row := floatReadsUptoRow, standIns := [], harness := (true, "25a3755fbd931cf5c6e5cb31f46dd746b0be59906b4ba826ff19a7ec969cee9a"), looks := false }, kinds := [], alts := [], laidByText := true, laidKinds := [.data, .pinned], laidTests := true, laidLooks := .later }
def FloatReadsUptoCardSaid : Prop := Claim7.holds Tryd.pinned (.plain (OpenSpec.upto floatReadsSpec)) floatReadsUptoCard

/-- THE SECOND FORM's CARD OF 'typecaselaw.FloatShorts'. -/
def floatShortsUptoCard : Claim7 := { stood := { row := floatShortsUptoRow, standIns := [], harness := (true, "25a3755fbd931cf5c6e5cb31f46dd746b0be59906b4ba826ff19a7ec969cee9a"), looks := false }, kinds := [], alts := [], laidByText := true, laidKinds := [.data, .pinned], laidTests := true, laidLooks := .later }
def FloatShortsUptoCardSaid : Prop := Claim7.holds Tryd.pinned (.plain (OpenSpec.upto floatShortsSpec)) floatShortsUptoCard

/-- THE SECOND FORM's CARD OF 'typecaselaw.DiffTells'. -/
def diffTellsUptoCard : Claim7 := { stood := { row := diffTellsUptoRow, standIns := [], harness := (true, "25a3755fbd931cf5c6e5cb31f46dd746b0be59906b4ba826ff19a7ec969cee9a"), looks := false }, kinds := [], alts := [], laidByText := true, laidKinds := [.data, .pinned], laidTests := true, laidLooks := .later }
def DiffTellsUptoCardSaid : Prop := Claim7.holds Tryd.pinned (.plain (OpenSpec.upto diffTellsSpec)) diffTellsUptoCard

/-- THE SECOND FORM's CARD OF 'typecaselaw.MergeTells'. -/
def mergeTellsUptoCard : Claim7 := { stood := { row := mergeTellsUptoRow, standIns := [], harness := (true, "25a3755fbd931cf5c6e5cb31f46dd746b0be59906b4ba826ff19a7ec969cee9a"), looks := false }, kinds := [], alts := [], laidByText := true, laidKinds := [.data, .pinned], laidTests := true, laidLooks := .later }
def MergeTellsUptoCardSaid : Prop := Claim7.holds Tryd.pinned (.plain (OpenSpec.upto mergeTellsSpec)) mergeTellsUptoCard

/-- THE SECOND FORM's CARD OF 'typecaselaw.FloatTells'. -/
def floatTellsUptoCard : Claim7 := { stood := { row := floatTellsUptoRow, standIns := [], harness := (true, "25a3755fbd931cf5c6e5cb31f46dd746b0be59906b4ba826ff19a7ec969cee9a"), looks := false }, kinds := [], alts := [], laidByText := true, laidKinds := [.data, .data, .data, .data, .pinned], laidTests := true, laidLooks := .later }
def FloatTellsUptoCardSaid : Prop := Claim7.holds Tryd.pinned (.plain (OpenSpec.upto floatTellsSpec)) floatTellsUptoCard
end Rows
end Go.Proofs.YtfeeiipohfpdiaaDoor
