/-
  DERIVED. GIVEN WITH THE SEED: THE CARDS: each row of YtnagdebioaekoaaDoorRows.lean that lists a variable, with what it lists TIED to the program's text (the seventh form; the later family's looks); each row that meets fmt, with fmt's text TOLD by the authors' own Lean function (tested against real Go, not proved from fmt's source: count such statements apart). THE CARD IS WHAT COUNTS. Prove the row's statement (the work); the ties are given (YtnagdebioaekoaaDoorTie.lean); close each card by the builder's one call (the guide's Derived/Test/ToyasCard.lean, 'card_holds'). Laid BY PROGRAM, IN A SANDBOX (cutbox-door.mjs). By AI agents, Wed Nov 11 2026. No macro, syntax, notation, axiom, sorry.
-/
import Derived.Test.YtnagdebioaekoaaDoorRows
import GoSem.ClaimSeven
namespace Go.Proofs.YtnagdebioaekoaaDoor
namespace Rows

/-- THE TIED CARD OF 'dynamometerlaw12.ProbeChooseMatchesSpec'. -/
def probeChooseMatchesSpecCard : Claim7 := { stood := { row := probeChooseMatchesSpecRow, standIns := [], harness := (true, "458e609ba6e8fdcc6b332dd52f3163e2d4dbc64d0d0a7fbb10d40a48f88013fc"), looks := false }, kinds := [], alts := [], laidByText := true, laidKinds := [.data, .data, .data], laidTests := true, laidLooks := .later }
def ProbeChooseMatchesSpecCardSaid : Prop := Claim7.holds Tryd.pinned (.plain (OpenSpec.ofChange probeChooseMatchesSpecSpec)) probeChooseMatchesSpecCard

/-- THE SECOND FORM's CARD OF 'dynamometerlaw12.ProbeChooseMatchesSpec'. -/
def probeChooseMatchesSpecUptoCard : Claim7 := { stood := { row := probeChooseMatchesSpecUptoRow, standIns := [], harness := (true, "458e609ba6e8fdcc6b332dd52f3163e2d4dbc64d0d0a7fbb10d40a48f88013fc"), looks := false }, kinds := [], alts := [], laidByText := true, laidKinds := [.data, .data, .data], laidTests := true, laidLooks := .later }
def ProbeChooseMatchesSpecUptoCardSaid : Prop := Claim7.holds Tryd.pinned (.plain (OpenSpec.upto probeChooseMatchesSpecSpec)) probeChooseMatchesSpecUptoCard
end Rows
end Go.Proofs.YtnagdebioaekoaaDoor
