/-
  DERIVED. GIVEN WITH THE SEED: THE CARDS: each row of YtejpdfenejbjdaaGreatDoorRows.lean that lists a variable, with what it lists TIED to the program's text (the seventh form; the later family's looks); each row that meets fmt, with fmt's text TOLD by the authors' own Lean function (tested against real Go, not proved from fmt's source: count such statements apart). THE CARD IS WHAT COUNTS. Prove the row's statement (the work); the ties are given (YtejpdfenejbjdaaGreatDoorTie.lean); close each card by the builder's one call (the guide's Derived/Test/ToyasCard.lean, 'card_holds'). Laid BY PROGRAM, IN A SANDBOX (cutbox-door.mjs). By AI agents, Wed Nov 11 2026. No macro, syntax, notation, axiom, sorry.
-/
import Derived.Test.YtejpdfenejbjdaaGreatDoorRows
import GoSem.ClaimSeven
namespace Go.Proofs.YtejpdfenejbjdaaGreatDoor
namespace Rows

/-- THE TIED CARD OF 'parleylaw28.TraceRights'. -/
def traceRightsCard : Claim7 := { stood := { row := traceRightsRow, standIns := [], harness := (true, "c8cd1fd1f2aedf20c2f2eaa4c7495ca9323dd544733fd24e90e340e87b10c3cd"), looks := true }, kinds := [], alts := [], laidByText := true, laidKinds := [.data, .data, .data, .data, .sentinel, .sentinel, .pinned], laidTests := true, laidLooks := .later }
def TraceRightsCardSaid : Prop := Claim7.holds Tryz.pinned (.plain (OpenSpec.ofChange traceRightsSpec)) traceRightsCard

/-- THE TIED CARD OF 'parleylaw28.TraceReads'. -/
def traceReadsCard : Claim7 := { stood := { row := traceReadsRow, standIns := [], harness := (true, "c8cd1fd1f2aedf20c2f2eaa4c7495ca9323dd544733fd24e90e340e87b10c3cd"), looks := true }, kinds := [], alts := [], laidByText := true, laidKinds := [.data, .data, .data, .data, .sentinel, .sentinel, .pinned], laidTests := true, laidLooks := .later }
def TraceReadsCardSaid : Prop := Claim7.holds Tryz.pinned (.plain (OpenSpec.ofChange traceReadsSpec)) traceReadsCard

/-- THE TIED CARD OF 'parleylaw28.TraceWrites'. -/
def traceWritesCard : Claim7 := { stood := { row := traceWritesRow, standIns := [], harness := (true, "c8cd1fd1f2aedf20c2f2eaa4c7495ca9323dd544733fd24e90e340e87b10c3cd"), looks := true }, kinds := [], alts := [], laidByText := true, laidKinds := [.data, .data, .data, .data, .sentinel, .sentinel, .pinned], laidTests := true, laidLooks := .later }
def TraceWritesCardSaid : Prop := Claim7.holds Tryz.pinned (.plain (OpenSpec.ofChange traceWritesSpec)) traceWritesCard

/-- THE TIED CARD OF 'parleylaw28.TraceFull'. -/
def traceFullCard : Claim7 := { stood := { row := traceFullRow, standIns := [], harness := (true, "c8cd1fd1f2aedf20c2f2eaa4c7495ca9323dd544733fd24e90e340e87b10c3cd"), looks := true }, kinds := [], alts := [], laidByText := true, laidKinds := [.data, .data, .data, .data, .sentinel, .sentinel, .pinned], laidTests := true, laidLooks := .later }
def TraceFullCardSaid : Prop := Claim7.holds Tryz.pinned (.plain (OpenSpec.ofChange traceFullSpec)) traceFullCard

/-- THE TIED CARD OF 'parleylaw28.TraceNil'. -/
def traceNilCard : Claim7 := { stood := { row := traceNilRow, standIns := [], harness := (true, "c8cd1fd1f2aedf20c2f2eaa4c7495ca9323dd544733fd24e90e340e87b10c3cd"), looks := true }, kinds := [], alts := [], laidByText := true, laidKinds := [.data, .data, .data, .data, .sentinel, .sentinel, .pinned], laidTests := true, laidLooks := .later }
def TraceNilCardSaid : Prop := Claim7.holds Tryz.pinned (.plain (OpenSpec.ofChange traceNilSpec)) traceNilCard

/-- THE TIED CARD OF 'parleylaw28.TraceKeeps'. -/
def traceKeepsCard : Claim7 := { stood := { row := traceKeepsRow, standIns := [], harness := (true, "c8cd1fd1f2aedf20c2f2eaa4c7495ca9323dd544733fd24e90e340e87b10c3cd"), looks := true }, kinds := [], alts := [], laidByText := true, laidKinds := [.data, .data, .data, .data, .sentinel, .sentinel, .pinned], laidTests := true, laidLooks := .later }
def TraceKeepsCardSaid : Prop := Claim7.holds Tryz.pinned (.plain (OpenSpec.ofChange traceKeepsSpec)) traceKeepsCard

/-- THE SECOND FORM's CARD OF 'parleylaw28.TraceRights'. -/
def traceRightsUptoCard : Claim7 := { stood := { row := traceRightsUptoRow, standIns := [], harness := (true, "c8cd1fd1f2aedf20c2f2eaa4c7495ca9323dd544733fd24e90e340e87b10c3cd"), looks := true }, kinds := [], alts := [], laidByText := true, laidKinds := [.data, .data, .data, .data, .sentinel, .sentinel, .pinned], laidTests := true, laidLooks := .later }
def TraceRightsUptoCardSaid : Prop := Claim7.holds Tryz.pinned (.plain (OpenSpec.upto traceRightsSpec)) traceRightsUptoCard

/-- THE SECOND FORM's CARD OF 'parleylaw28.TraceReads'. -/
def traceReadsUptoCard : Claim7 := { stood := { row := traceReadsUptoRow, standIns := [], harness := (true, "c8cd1fd1f2aedf20c2f2eaa4c7495ca9323dd544733fd24e90e340e87b10c3cd"), looks := true }, kinds := [], alts := [], laidByText := true, laidKinds := [.data, .data, .data, .data, .sentinel, .sentinel, .pinned], laidTests := true, laidLooks := .later }
def TraceReadsUptoCardSaid : Prop := Claim7.holds Tryz.pinned (.plain (OpenSpec.upto traceReadsSpec)) traceReadsUptoCard

/-- THE SECOND FORM's CARD OF 'parleylaw28.TraceWrites'. -/
def traceWritesUptoCard : Claim7 := { stood := { row := traceWritesUptoRow, standIns := [], harness := (true, "c8cd1fd1f2aedf20c2f2eaa4c7495ca9323dd544733fd24e90e340e87b10c3cd"), looks := true }, kinds := [], alts := [], laidByText := true, laidKinds := [.data, .data, .data, .data, .sentinel, .sentinel, .pinned], laidTests := true, laidLooks := .later }
def TraceWritesUptoCardSaid : Prop := Claim7.holds Tryz.pinned (.plain (OpenSpec.upto traceWritesSpec)) traceWritesUptoCard

/-- THE SECOND FORM's CARD OF 'parleylaw28.TraceFull'. -/
def traceFullUptoCard : Claim7 := { stood := { row := traceFullUptoRow, standIns := [], harness := (true, "c8cd1fd1f2aedf20c2f2eaa4c7495ca9323dd544733fd24e90e340e87b10c3cd"), looks := true }, kinds := [], alts := [], laidByText := true, laidKinds := [.data, .data, .data, .data, .sentinel, .sentinel, .pinned], laidTests := true, laidLooks := .later }
def TraceFullUptoCardSaid : Prop := Claim7.holds Tryz.pinned (.plain (OpenSpec.upto traceFullSpec)) traceFullUptoCard

/-- THE SECOND FORM's CARD OF 'parleylaw28.TraceNil'. -/
def traceNilUptoCard : Claim7 := { stood := { row := traceNilUptoRow, standIns := [], harness := (true, "c8cd1fd1f2aedf20c2f2eaa4c7495ca9323dd544733fd24e90e340e87b10c3cd"), looks := true }, kinds := [], alts := [], laidByText := true, laidKinds := [.data, .data, .data, .data, .sentinel, .sentinel, .pinned], laidTests := true, laidLooks := .later }
def TraceNilUptoCardSaid : Prop := Claim7.holds Tryz.pinned (.plain (OpenSpec.upto traceNilSpec)) traceNilUptoCard

/-- THE SECOND FORM's CARD OF 'parleylaw28.TraceKeeps'. -/
def traceKeepsUptoCard : Claim7 := { stood := { row := traceKeepsUptoRow, standIns := [], harness := (true, "c8cd1fd1f2aedf20c2f2eaa4c7495ca9323dd544733fd24e90e340e87b10c3cd"), looks := true }, kinds := [], alts := [], laidByText := true, laidKinds := [.data, .data, .data, .data, .sentinel, .sentinel, .pinned], laidTests := true, laidLooks := .later }
def TraceKeepsUptoCardSaid : Prop := Claim7.holds Tryz.pinned (.plain (OpenSpec.upto traceKeepsSpec)) traceKeepsUptoCard
end Rows
end Go.Proofs.YtejpdfenejbjdaaGreatDoor
