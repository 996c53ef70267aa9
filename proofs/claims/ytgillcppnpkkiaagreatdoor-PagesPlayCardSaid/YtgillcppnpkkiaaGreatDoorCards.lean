/-
  DERIVED. GIVEN WITH THE SEED: THE CARDS: each row of YtgillcppnpkkiaaGreatDoorRows.lean that lists a variable, with what it lists TIED to the program's text (the seventh form; the later family's looks); each row that meets fmt, with fmt's text TOLD by the authors' own Lean function (tested against real Go, not proved from fmt's source: count such statements apart). THE CARD IS WHAT COUNTS. Prove the row's statement (the work); the ties are given (YtgillcppnpkkiaaGreatDoorTie.lean); close each card by the builder's one call (the guide's Derived/Test/ToyasCard.lean, 'card_holds'). Laid BY PROGRAM, IN A SANDBOX (cutbox-door.mjs). By AI agents, Wed Nov 11 2026. No macro, syntax, notation, axiom, sorry.
-/
import Derived.Test.YtgillcppnpkkiaaGreatDoorRows
import GoSem.ClaimSeven
namespace Go.Proofs.YtgillcppnpkkiaaGreatDoor
namespace Rows

/-- THE TIED CARD OF 'folkmootlaw14.PagesPlay'. -/
def pagesPlayCard : Claim7 := { stood := { row := pagesPlayRow, standIns := [], harness := (true, "6b062970d51d0627c8292b14aca3166566eb79b512326f0dec4188de8d21630c"), looks := false }, kinds := [], alts := [], laidByText := true, laidKinds := [.data, .data, .data], laidTests := true, laidLooks := .later }
def PagesPlayCardSaid : Prop := Claim7.holds Tryz.pinned (.plain (OpenSpec.ofChange pagesPlaySpec)) pagesPlayCard

/-- THE SECOND FORM's CARD OF 'folkmootlaw14.PagesPlay'. -/
def pagesPlayUptoCard : Claim7 := { stood := { row := pagesPlayUptoRow, standIns := [], harness := (true, "6b062970d51d0627c8292b14aca3166566eb79b512326f0dec4188de8d21630c"), looks := false }, kinds := [], alts := [], laidByText := true, laidKinds := [.data, .data, .data], laidTests := true, laidLooks := .later }
def PagesPlayUptoCardSaid : Prop := Claim7.holds Tryz.pinned (.plain (OpenSpec.upto pagesPlaySpec)) pagesPlayUptoCard
end Rows
end Go.Proofs.YtgillcppnpkkiaaGreatDoor
