/-
  DERIVED. GIVEN WITH THE SEED: THE CARDS: each row of YtfnahihdkbgleaaGreatDoorRows.lean that lists a variable, with what it lists TIED to the program's text (the seventh form; the later family's looks); each row that meets fmt, with fmt's text TOLD by the authors' own Lean function (tested against real Go, not proved from fmt's source: count such statements apart). THE CARD IS WHAT COUNTS. Prove the row's statement (the work); the ties are given (YtfnahihdkbgleaaGreatDoorTie.lean); close each card by the builder's one call (the guide's Derived/Test/ToyasCard.lean, 'card_holds'). Laid BY PROGRAM, IN A SANDBOX (cutbox-door.mjs). By AI agents, Wed Nov 11 2026. No macro, syntax, notation, axiom, sorry.
-/
import Derived.Test.YtfnahihdkbgleaaGreatDoorRows
import GoSem.ClaimSeven
namespace Go.Proofs.YtfnahihdkbgleaaGreatDoor
namespace Rows

/-- THE TIED CARD OF 'inquestlaw37.StoreBack'. -/
def storeBackCard : Claim7 := { stood := { row := storeBackRow, standIns := [], harness := (true, "0f9117b12fb94a0016141841cbda314ea88b4081691c99204c2c62009ccba0d5"), looks := true }, kinds := [], alts := [], laidByText := true, laidKinds := [.data, .data, .data, .data, .sentinel, .sentinel, .sentinel, .pinned], laidTests := true, laidLooks := .later }
def StoreBackCardSaid : Prop := Claim7.holds Tryz.pinned (.plain (OpenSpec.ofChange storeBackSpec)) storeBackCard

/-- THE TIED CARD OF 'inquestlaw37.StoreGuards'. -/
def storeGuardsCard : Claim7 := { stood := { row := storeGuardsRow, standIns := [], harness := (true, "0f9117b12fb94a0016141841cbda314ea88b4081691c99204c2c62009ccba0d5"), looks := true }, kinds := [], alts := [], laidByText := true, laidKinds := [.data, .data, .data, .data, .sentinel, .sentinel, .sentinel, .pinned], laidTests := true, laidLooks := .later }
def StoreGuardsCardSaid : Prop := Claim7.holds Tryz.pinned (.plain (OpenSpec.ofChange storeGuardsSpec)) storeGuardsCard

/-- THE SECOND FORM's CARD OF 'inquestlaw37.StoreBack'. -/
def storeBackUptoCard : Claim7 := { stood := { row := storeBackUptoRow, standIns := [], harness := (true, "0f9117b12fb94a0016141841cbda314ea88b4081691c99204c2c62009ccba0d5"), looks := true }, kinds := [], alts := [], laidByText := true, laidKinds := [.data, .data, .data, .data, .sentinel, .sentinel, .sentinel, .pinned], laidTests := true, laidLooks := .later }
def StoreBackUptoCardSaid : Prop := Claim7.holds Tryz.pinned (.plain (OpenSpec.upto storeBackSpec)) storeBackUptoCard

/-- THE SECOND FORM's CARD OF 'inquestlaw37.StoreGuards'. -/
def storeGuardsUptoCard : Claim7 := { stood := { row := storeGuardsUptoRow, standIns := [], harness := (true, "0f9117b12fb94a0016141841cbda314ea88b4081691c99204c2c62009ccba0d5"), looks := true }, kinds := [], alts := [], laidByText := true, laidKinds := [.data, .data, .data, .data, .sentinel, .sentinel, .sentinel, .pinned], laidTests := true, laidLooks := .later }
def StoreGuardsUptoCardSaid : Prop := Claim7.holds Tryz.pinned (.plain (OpenSpec.upto storeGuardsSpec)) storeGuardsUptoCard
end Rows
end Go.Proofs.YtfnahihdkbgleaaGreatDoor
