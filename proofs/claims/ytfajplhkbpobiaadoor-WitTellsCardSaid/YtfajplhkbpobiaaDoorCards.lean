/-
  DERIVED. GIVEN WITH THE SEED: THE CARDS: each row of YtfajplhkbpobiaaDoorRows.lean that lists a variable, with what it lists TIED to the program's text (the seventh form; the later family's looks); each row that meets fmt, with fmt's text TOLD by the authors' own Lean function (tested against real Go, not proved from fmt's source: count such statements apart). THE CARD IS WHAT COUNTS. Prove the row's statement (the work); the ties are given (YtfajplhkbpobiaaDoorTie.lean); close each card by the builder's one call (the guide's Derived/Test/ToyasCard.lean, 'card_holds'). Laid BY PROGRAM, IN A SANDBOX (cutbox-door.mjs). By AI agents, Wed Nov 11 2026. No macro, syntax, notation, axiom, sorry.
-/
import Derived.Test.YtfajplhkbpobiaaDoorRows
import GoSem.ClaimSeven
namespace Go.Proofs.YtfajplhkbpobiaaDoor
namespace Rows

/-- THE TIED CARD OF 'inquestlaw05.WitTells'. -/
def witTellsCard : Claim7 := { stood := { row := witTellsRow, standIns := [], harness := (true, "08ef5866eb04440734e0f47b02263cea5b801ef849456214da9aafc597448d42"), looks := true }, kinds := [], alts := [], laidByText := true, laidKinds := [.data, .data, .data, .data, .sentinel, .sentinel, .pinned], laidTests := true, laidLooks := .later }
def WitTellsCardSaid : Prop := Claim7.holds Tryd.pinned (.plain (OpenSpec.ofChange witTellsSpec)) witTellsCard

/-- THE TIED CARD OF 'inquestlaw05.WitBack'. -/
def witBackCard : Claim7 := { stood := { row := witBackRow, standIns := [], harness := (true, "08ef5866eb04440734e0f47b02263cea5b801ef849456214da9aafc597448d42"), looks := true }, kinds := [], alts := [], laidByText := true, laidKinds := [.data, .data, .data, .data, .sentinel, .sentinel, .pinned], laidTests := true, laidLooks := .later }
def WitBackCardSaid : Prop := Claim7.holds Tryd.pinned (.plain (OpenSpec.ofChange witBackSpec)) witBackCard

/-- THE TIED CARD OF 'inquestlaw05.WitOnce'. -/
def witOnceCard : Claim7 := { stood := { row := witOnceRow, standIns := [], harness := (true, "08ef5866eb04440734e0f47b02263cea5b801ef849456214da9aafc597448d42"), looks := true }, kinds := [], alts := [], laidByText := true, laidKinds := [.data, .data, .data, .data, .sentinel, .sentinel, .pinned], laidTests := true, laidLooks := .later }
def WitOnceCardSaid : Prop := Claim7.holds Tryd.pinned (.plain (OpenSpec.ofChange witOnceSpec)) witOnceCard

/-- THE SECOND FORM's CARD OF 'inquestlaw05.WitTells'. -/
def witTellsUptoCard : Claim7 := { stood := { row := witTellsUptoRow, standIns := [], harness := (true, "08ef5866eb04440734e0f47b02263cea5b801ef849456214da9aafc597448d42"), looks := true }, kinds := [], alts := [], laidByText := true, laidKinds := [.data, .data, .data, .data, .sentinel, .sentinel, .pinned], laidTests := true, laidLooks := .later }
def WitTellsUptoCardSaid : Prop := Claim7.holds Tryd.pinned (.plain (OpenSpec.upto witTellsSpec)) witTellsUptoCard

/-- THE SECOND FORM's CARD OF 'inquestlaw05.WitBack'. -/
def witBackUptoCard : Claim7 := { stood := { row := witBackUptoRow, standIns := [], harness := (true, "08ef5866eb04440734e0f47b02263cea5b801ef849456214da9aafc597448d42"), looks := true }, kinds := [], alts := [], laidByText := true, laidKinds := [.data, .data, .data, .data, .sentinel, .sentinel, .pinned], laidTests := true, laidLooks := .later }
def WitBackUptoCardSaid : Prop := Claim7.holds Tryd.pinned (.plain (OpenSpec.upto witBackSpec)) witBackUptoCard

/-- THE SECOND FORM's CARD OF 'inquestlaw05.WitOnce'. -/
def witOnceUptoCard : Claim7 := { stood := { row := witOnceUptoRow, standIns := [], harness := (true, "08ef5866eb04440734e0f47b02263cea5b801ef849456214da9aafc597448d42"), looks := true }, kinds := [], alts := [], laidByText := true, laidKinds := [.data, .data, .data, .data, .sentinel, .sentinel, .pinned], laidTests := true, laidLooks := .later }
def WitOnceUptoCardSaid : Prop := Claim7.holds Tryd.pinned (.plain (OpenSpec.upto witOnceSpec)) witOnceUptoCard
end Rows
end Go.Proofs.YtfajplhkbpobiaaDoor
