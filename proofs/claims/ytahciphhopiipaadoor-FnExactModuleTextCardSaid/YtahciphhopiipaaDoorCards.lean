/-
  DERIVED. GIVEN WITH THE SEED: THE CARDS: each row of YtahciphhopiipaaDoorRows.lean that lists a variable, with what it lists TIED to the program's text (the seventh form; the later family's looks); each row that meets fmt, with fmt's text TOLD by the authors' own Lean function (tested against real Go, not proved from fmt's source: count such statements apart). THE CARD IS WHAT COUNTS. Prove the row's statement (the work); the ties are given (YtahciphhopiipaaDoorTie.lean); close each card by the builder's one call (the guide's Derived/Test/ToyasCard.lean, 'card_holds'). Laid BY PROGRAM, IN A SANDBOX (cutbox-door.mjs). By AI agents, Wed Nov 11 2026. No macro, syntax, notation, axiom, sorry.
-/
import Derived.Test.YtahciphhopiipaaDoorRows
import GoSem.ClaimSeven
namespace Go.Proofs.YtahciphhopiipaaDoor
namespace Rows

/-- THE TIED CARD OF 'laws.FnExactKindSafe'. -/
def fnExactKindSafeCard : Claim7 := { stood := { row := fnExactKindSafeRow, standIns := [], harness := (true, "f4b776fd0b864cf8903fbdcce7fbaa593b5426ab02f630bbeccae45d540cf04b"), looks := false }, kinds := [], alts := [], laidByText := true, laidKinds := [.listed, .data], laidTests := true, laidLooks := .later }
def FnExactKindSafeCardSaid : Prop := Claim7.holds Tryd.pinned (.plain (OpenSpec.ofChange fnExactKindSafeSpec)) fnExactKindSafeCard

/-- THE TIED CARD OF 'laws.FnExactModuleText'. -/
def fnExactModuleTextCard : Claim7 := { stood := { row := fnExactModuleTextRow, standIns := [], harness := (true, "f4b776fd0b864cf8903fbdcce7fbaa593b5426ab02f630bbeccae45d540cf04b"), looks := false }, kinds := [], alts := [], laidByText := true, laidKinds := [.data, .data, .data, .listed, .data], laidTests := true, laidLooks := .later }
def FnExactModuleTextCardSaid : Prop := Claim7.holds Tryd.pinned (.plain (OpenSpec.ofChange fnExactModuleTextSpec)) fnExactModuleTextCard

/-- THE SECOND FORM's CARD OF 'laws.FnExactKindSafe'. -/
def fnExactKindSafeUptoCard : Claim7 := { stood := { row := fnExactKindSafeUptoRow, standIns := [], harness := (true, "f4b776fd0b864cf8903fbdcce7fbaa593b5426ab02f630bbeccae45d540cf04b"), looks := false }, kinds := [], alts := [], laidByText := true, laidKinds := [.listed, .data], laidTests := true, laidLooks := .later }
def FnExactKindSafeUptoCardSaid : Prop := Claim7.holds Tryd.pinned (.plain (OpenSpec.upto fnExactKindSafeSpec)) fnExactKindSafeUptoCard

/-- THE SECOND FORM's CARD OF 'laws.FnExactModuleText'. -/
def fnExactModuleTextUptoCard : Claim7 := { stood := { row := fnExactModuleTextUptoRow, standIns := [], harness := (true, "f4b776fd0b864cf8903fbdcce7fbaa593b5426ab02f630bbeccae45d540cf04b"), looks := false }, kinds := [], alts := [], laidByText := true, laidKinds := [.data, .data, .data, .listed, .data], laidTests := true, laidLooks := .later }
def FnExactModuleTextUptoCardSaid : Prop := Claim7.holds Tryd.pinned (.plain (OpenSpec.upto fnExactModuleTextSpec)) fnExactModuleTextUptoCard
end Rows
end Go.Proofs.YtahciphhopiipaaDoor
