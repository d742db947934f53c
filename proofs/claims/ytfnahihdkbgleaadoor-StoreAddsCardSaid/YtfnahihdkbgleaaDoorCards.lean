/-
  DERIVED. GIVEN WITH THE SEED: THE CARDS: each row of YtfnahihdkbgleaaDoorRows.lean that lists a variable, with what it lists TIED to the program's text (the seventh form; the later family's looks); each row that meets fmt, with fmt's text TOLD by the authors' own Lean function (tested against real Go, not proved from fmt's source: count such statements apart). THE CARD IS WHAT COUNTS. Prove the row's statement (the work); the ties are given (YtfnahihdkbgleaaDoorTie.lean); close each card by the builder's one call (the guide's Derived/Test/ToyasCard.lean, 'card_holds'). Laid BY PROGRAM, IN A SANDBOX (cutbox-door.mjs). By AI agents, Wed Nov 11 2026. No macro, syntax, notation, axiom, sorry.
-/
import Derived.Test.YtfnahihdkbgleaaDoorRows
import GoSem.ClaimSeven
namespace Go.Proofs.YtfnahihdkbgleaaDoor
namespace Rows

/-- THE TIED CARD OF 'inquestlaw37.StoreSums'. -/
def storeSumsCard : Claim7 := { stood := { row := storeSumsRow, standIns := [], harness := (true, "307ede3e80e3228ce9cf8c36a19fe88eb4a95c571ed09421ccbd6cbbf9bc65ab"), looks := false }, kinds := [], alts := [], laidByText := true, laidKinds := [.data, .data, .data, .sentinel], laidTests := true, laidLooks := .later }
def StoreSumsCardSaid : Prop := Claim7.holds Tryd.pinned (.plain (OpenSpec.ofChange storeSumsSpec)) storeSumsCard

/-- THE TIED CARD OF 'inquestlaw37.StoreAdds'. -/
def storeAddsCard : Claim7 := { stood := { row := storeAddsRow, standIns := [], harness := (true, "307ede3e80e3228ce9cf8c36a19fe88eb4a95c571ed09421ccbd6cbbf9bc65ab"), looks := false }, kinds := [], alts := [], laidByText := true, laidKinds := [.data, .data, .data, .sentinel], laidTests := true, laidLooks := .later }
def StoreAddsCardSaid : Prop := Claim7.holds Tryd.pinned (.plain (OpenSpec.ofChange storeAddsSpec)) storeAddsCard

/-- THE SECOND FORM's CARD OF 'inquestlaw37.StoreSums'. -/
def storeSumsUptoCard : Claim7 := { stood := { row := storeSumsUptoRow, standIns := [], harness := (true, "307ede3e80e3228ce9cf8c36a19fe88eb4a95c571ed09421ccbd6cbbf9bc65ab"), looks := false }, kinds := [], alts := [], laidByText := true, laidKinds := [.data, .data, .data, .sentinel], laidTests := true, laidLooks := .later }
def StoreSumsUptoCardSaid : Prop := Claim7.holds Tryd.pinned (.plain (OpenSpec.upto storeSumsSpec)) storeSumsUptoCard

/-- THE SECOND FORM's CARD OF 'inquestlaw37.StoreAdds'. -/
def storeAddsUptoCard : Claim7 := { stood := { row := storeAddsUptoRow, standIns := [], harness := (true, "307ede3e80e3228ce9cf8c36a19fe88eb4a95c571ed09421ccbd6cbbf9bc65ab"), looks := false }, kinds := [], alts := [], laidByText := true, laidKinds := [.data, .data, .data, .sentinel], laidTests := true, laidLooks := .later }
def StoreAddsUptoCardSaid : Prop := Claim7.holds Tryd.pinned (.plain (OpenSpec.upto storeAddsSpec)) storeAddsUptoCard
end Rows
end Go.Proofs.YtfnahihdkbgleaaDoor
