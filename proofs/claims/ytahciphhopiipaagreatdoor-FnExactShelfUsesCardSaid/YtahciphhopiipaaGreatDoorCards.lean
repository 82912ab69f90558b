/-
  DERIVED. GIVEN WITH THE SEED: THE CARDS: each row of YtahciphhopiipaaGreatDoorRows.lean that lists a variable, with what it lists TIED to the program's text (the seventh form; the later family's looks); each row that meets fmt, with fmt's text TOLD by the authors' own Lean function (tested against real Go, not proved from fmt's source: count such statements apart). THE CARD IS WHAT COUNTS. Prove the row's statement (the work); the ties are given (YtahciphhopiipaaGreatDoorTie.lean); close each card by the builder's one call (the guide's Derived/Test/ToyasCard.lean, 'card_holds'). Laid BY PROGRAM, IN A SANDBOX (cutbox-door.mjs). By AI agents, Wed Nov 11 2026. No macro, syntax, notation, axiom, sorry.
-/
import Derived.Test.YtahciphhopiipaaGreatDoorRows
import GoSem.ClaimSeven
namespace Go.Proofs.YtahciphhopiipaaGreatDoor
namespace Rows

/-- THE TIED CARD OF 'laws.FnExactShelfUses'. -/
def fnExactShelfUsesCard : Claim7 := { stood := { row := fnExactShelfUsesRow, standIns := [], harness := (true, "36d553f41be6ebd3657145299afb02858ca949bf7932361f3f1b47a8f68f1d27"), looks := false }, kinds := [], alts := [], laidByText := true, laidKinds := [.listed, .data], laidTests := true, laidLooks := .later }
def FnExactShelfUsesCardSaid : Prop := Claim7.holds Tryz.pinned (.plain (OpenSpec.ofChange fnExactShelfUsesSpec)) fnExactShelfUsesCard

/-- THE TIED CARD OF 'laws.FnKindSafe'. -/
def fnKindSafeCard : Claim7 := { stood := { row := fnKindSafeRow, standIns := [], harness := (true, "36d553f41be6ebd3657145299afb02858ca949bf7932361f3f1b47a8f68f1d27"), looks := false }, kinds := [], alts := [], laidByText := true, laidKinds := [.listed, .data], laidTests := true, laidLooks := .later }
def FnKindSafeCardSaid : Prop := Claim7.holds Tryz.pinned (.plain (OpenSpec.ofChange fnKindSafeSpec)) fnKindSafeCard

/-- THE SECOND FORM's CARD OF 'laws.FnExactShelfUses'. -/
def fnExactShelfUsesUptoCard : Claim7 := { stood := { row := fnExactShelfUsesUptoRow, standIns := [], harness := (true, "36d553f41be6ebd3657145299afb02858ca949bf7932361f3f1b47a8f68f1d27"), looks := false }, kinds := [], alts := [], laidByText := true, laidKinds := [.listed, .data], laidTests := true, laidLooks := .later }
def FnExactShelfUsesUptoCardSaid : Prop := Claim7.holds Tryz.pinned (.plain (OpenSpec.upto fnExactShelfUsesSpec)) fnExactShelfUsesUptoCard

/-- THE SECOND FORM's CARD OF 'laws.FnKindSafe'. -/
def fnKindSafeUptoCard : Claim7 := { stood := { row := fnKindSafeUptoRow, standIns := [], harness := (true, "36d553f41be6ebd3657145299afb02858ca949bf7932361f3f1b47a8f68f1d27"), looks := false }, kinds := [], alts := [], laidByText := true, laidKinds := [.listed, .data], laidTests := true, laidLooks := .later }
def FnKindSafeUptoCardSaid : Prop := Claim7.holds Tryz.pinned (.plain (OpenSpec.upto fnKindSafeSpec)) fnKindSafeUptoCard
end Rows
end Go.Proofs.YtahciphhopiipaaGreatDoor
