/-
  DERIVED. GIVEN WITH THE SEED: THE CARDS: each row of YtjgjcjohbdibnaaGreatDoorRows.lean that lists a variable, with what it lists TIED to the program's text (the seventh form; the later family's looks); each row that meets fmt, with fmt's text TOLD by the authors' own Lean function (tested against real Go, not proved from fmt's source: count such statements apart). THE CARD IS WHAT COUNTS. Prove the row's statement (the work); the ties are given (YtjgjcjohbdibnaaGreatDoorTie.lean); close each card by the builder's one call (the guide's Derived/Test/ToyasCard.lean, 'card_holds'). Laid BY PROGRAM, IN A SANDBOX (cutbox-door.mjs). By AI agents, Wed Nov 11 2026. No macro, syntax, notation, axiom, sorry.
-/
import Derived.Test.YtjgjcjohbdibnaaGreatDoorRows
import GoSem.ClaimSeven
namespace Go.Proofs.YtjgjcjohbdibnaaGreatDoor
namespace Rows

/-- THE TIED CARD OF 'braidtop.TopMerged'. -/
def topMergedCard : Claim7 := { stood := { row := topMergedRow, standIns := [], harness := (true, "b20397090b9d387f9c95aad58910e017095b42f93945bed2eee3e27916fcef28"), looks := false }, kinds := [], alts := [], laidByText := true, laidKinds := [.data], laidTests := true, laidLooks := .later }
def TopMergedCardSaid : Prop := Claim7.holds Tryz.pinned (.plain (OpenSpec.ofChange topMergedSpec)) topMergedCard

/-- THE SECOND FORM's CARD OF 'braidtop.TopMerged'. -/
def topMergedUptoCard : Claim7 := { stood := { row := topMergedUptoRow, standIns := [], harness := (true, "b20397090b9d387f9c95aad58910e017095b42f93945bed2eee3e27916fcef28"), looks := false }, kinds := [], alts := [], laidByText := true, laidKinds := [.data], laidTests := true, laidLooks := .later }
def TopMergedUptoCardSaid : Prop := Claim7.holds Tryz.pinned (.plain (OpenSpec.upto topMergedSpec)) topMergedUptoCard
end Rows
end Go.Proofs.YtjgjcjohbdibnaaGreatDoor
