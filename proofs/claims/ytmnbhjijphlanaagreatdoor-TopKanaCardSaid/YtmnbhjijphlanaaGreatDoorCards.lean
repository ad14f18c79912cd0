/-
  DERIVED. GIVEN WITH THE SEED: THE CARDS: each row of YtmnbhjijphlanaaGreatDoorRows.lean that lists a variable, with what it lists TIED to the program's text (the seventh form; the later family's looks); each row that meets fmt, with fmt's text TOLD by the authors' own Lean function (tested against real Go, not proved from fmt's source: count such statements apart). THE CARD IS WHAT COUNTS. Prove the row's statement (the work); the ties are given (YtmnbhjijphlanaaGreatDoorTie.lean); close each card by the builder's one call (the guide's Derived/Test/ToyasCard.lean, 'card_holds'). Laid BY PROGRAM, IN A SANDBOX (cutbox-door.mjs). By AI agents, Wed Nov 11 2026. No macro, syntax, notation, axiom, sorry.
-/
import Derived.Test.YtmnbhjijphlanaaGreatDoorRows
import GoSem.ClaimSeven
namespace Go.Proofs.YtmnbhjijphlanaaGreatDoor
namespace Rows

/-- THE TIED CARD OF 'henkantop.TopKana'. -/
def topKanaCard : Claim7 := { stood := { row := topKanaRow, standIns := [], harness := (true, "f21c9b8c9fe0bdf6e325f19f03cd4f57b2e7c3fa9f6638334bcf9d3b2fe6887e"), looks := false }, kinds := [], alts := [], laidByText := true, laidKinds := [.data, .pinned], laidTests := true, laidLooks := .later }
def TopKanaCardSaid : Prop := Claim7.holds Tryz.pinned (.plain (OpenSpec.ofChange topKanaSpec)) topKanaCard

/-- THE SECOND FORM's CARD OF 'henkantop.TopKana'. -/
def topKanaUptoCard : Claim7 := { stood := { row := topKanaUptoRow, standIns := [], harness := (true, "f21c9b8c9fe0bdf6e325f19f03cd4f57b2e7c3fa9f6638334bcf9d3b2fe6887e"), looks := false }, kinds := [], alts := [], laidByText := true, laidKinds := [.data, .pinned], laidTests := true, laidLooks := .later }
def TopKanaUptoCardSaid : Prop := Claim7.holds Tryz.pinned (.plain (OpenSpec.upto topKanaSpec)) topKanaUptoCard
end Rows
end Go.Proofs.YtmnbhjijphlanaaGreatDoor
