/-
  DERIVED. GIVEN WITH THE SEED: THE CARDS: each row of YtgmmalddlpmjdaaGreatDoorRows.lean that lists a variable, with what it lists TIED to the program's text (the seventh form; the later family's looks); each row that meets fmt, with fmt's text TOLD by the authors' own Lean function (tested against real Go, not proved from fmt's source: count such statements apart). THE CARD IS WHAT COUNTS. Prove the row's statement (the work); the ties are given (YtgmmalddlpmjdaaGreatDoorTie.lean); close each card by the builder's one call (the guide's Derived/Test/ToyasCard.lean, 'card_holds'). Laid BY PROGRAM, IN A SANDBOX (cutbox-door.mjs). By AI agents, Wed Nov 11 2026. No macro, syntax, notation, axiom, sorry.
-/
import Derived.Test.YtgmmalddlpmjdaaGreatDoorRows
import GoSem.ClaimSeven
namespace Go.Proofs.YtgmmalddlpmjdaaGreatDoor
namespace Rows

/-- THE TIED CARD OF 'underpinlaw07.WatchChecks'. -/
def watchChecksCard : Claim7 := { stood := { row := watchChecksRow, standIns := [], harness := (true, "ca217e9c4d05e85654decf971985f874a07f9ac9822b1cb13d4f56b618b013c7"), looks := false }, kinds := [], alts := [], laidByText := true, laidKinds := [.data, .data, .data], laidTests := true, laidLooks := .later }
def WatchChecksCardSaid : Prop := Claim7.holds Tryz.pinned (.plain (OpenSpec.ofChange watchChecksSpec)) watchChecksCard

/-- THE SECOND FORM's CARD OF 'underpinlaw07.WatchChecks'. -/
def watchChecksUptoCard : Claim7 := { stood := { row := watchChecksUptoRow, standIns := [], harness := (true, "ca217e9c4d05e85654decf971985f874a07f9ac9822b1cb13d4f56b618b013c7"), looks := false }, kinds := [], alts := [], laidByText := true, laidKinds := [.data, .data, .data], laidTests := true, laidLooks := .later }
def WatchChecksUptoCardSaid : Prop := Claim7.holds Tryz.pinned (.plain (OpenSpec.upto watchChecksSpec)) watchChecksUptoCard
end Rows
end Go.Proofs.YtgmmalddlpmjdaaGreatDoor
