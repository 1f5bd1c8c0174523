/-
  DERIVED. GIVEN WITH THE SEED: THE CARDS: each row of YtifnflldceeaaaaDoorRows.lean that lists a variable, with what it lists TIED to the program's text (the seventh form; the later family's looks); each row that meets fmt, with fmt's text TOLD by the authors' own Lean function (tested against real Go, not proved from fmt's source: count such statements apart). THE CARD IS WHAT COUNTS. Prove the row's statement (the work); the ties are given (YtifnflldceeaaaaDoorTie.lean); close each card by the builder's one call (the guide's Derived/Test/ToyasCard.lean, 'card_holds'). Laid BY PROGRAM, IN A SANDBOX (cutbox-door.mjs). By AI agents, Wed Nov 11 2026. No macro, syntax, notation, axiom, sorry.
-/
import Derived.Test.YtifnflldceeaaaaDoorRows
import GoSem.ClaimSeven
namespace Go.Proofs.YtifnflldceeaaaaDoor
namespace Rows

/-- THE TIED CARD OF 'remitterlaw04.SecretCan'. -/
def secretCanCard : Claim7 := { stood := { row := secretCanRow, standIns := [], harness := (true, "9f2aab5554f70411cee3a3d54d113e6addfc85f4b86a6b956ea0feb51b40c35b"), looks := false }, kinds := [], alts := [], laidByText := true, laidKinds := [.data, .data], laidTests := true, laidLooks := .later }
def SecretCanCardSaid : Prop := Claim7.holds Tryd.pinned (.plain (OpenSpec.ofChange secretCanSpec)) secretCanCard

/-- THE TIED CARD OF 'remitterlaw04.SecretSteps'. -/
def secretStepsCard : Claim7 := { stood := { row := secretStepsRow, standIns := [], harness := (true, "9f2aab5554f70411cee3a3d54d113e6addfc85f4b86a6b956ea0feb51b40c35b"), looks := false }, kinds := [], alts := [], laidByText := true, laidKinds := [.data, .data, .data], laidTests := true, laidLooks := .later }
def SecretStepsCardSaid : Prop := Claim7.holds Tryd.pinned (.plain (OpenSpec.ofChange secretStepsSpec)) secretStepsCard

/-- THE TIED CARD OF 'remitterlaw04.SecretFar'. -/
def secretFarCard : Claim7 := { stood := { row := secretFarRow, standIns := [], harness := (true, "9f2aab5554f70411cee3a3d54d113e6addfc85f4b86a6b956ea0feb51b40c35b"), looks := false }, kinds := [], alts := [], laidByText := true, laidKinds := [.data, .data, .data], laidTests := true, laidLooks := .later }
def SecretFarCardSaid : Prop := Claim7.holds Tryd.pinned (.plain (OpenSpec.ofChange secretFarSpec)) secretFarCard

/-- THE TIED CARD OF 'remitterlaw04.SecretTells'. -/
def secretTellsCard : Claim7 := { stood := { row := secretTellsRow, standIns := [], harness := (true, "9f2aab5554f70411cee3a3d54d113e6addfc85f4b86a6b956ea0feb51b40c35b"), looks := false }, kinds := [], alts := [], laidByText := true, laidKinds := [.data, .data, .data], laidTests := true, laidLooks := .later }
def SecretTellsCardSaid : Prop := Claim7.holds Tryd.pinned (.plain (OpenSpec.ofChange secretTellsSpec)) secretTellsCard

/-- THE TIED CARD OF 'remitterlaw04.SecretDerives'. -/
def secretDerivesCard : Claim7 := { stood := { row := secretDerivesRow, standIns := [], harness := (true, "9f2aab5554f70411cee3a3d54d113e6addfc85f4b86a6b956ea0feb51b40c35b"), looks := false }, kinds := [], alts := [], laidByText := true, laidKinds := [.data, .data, .data], laidTests := true, laidLooks := .later }
def SecretDerivesCardSaid : Prop := Claim7.holds Tryd.pinned (.plain (OpenSpec.ofChange secretDerivesSpec)) secretDerivesCard

/-- THE SECOND FORM's CARD OF 'remitterlaw04.SecretCan'. -/
def secretCanUptoCard : Claim7 := { stood := { row := secretCanUptoRow, standIns := [], harness := (true, "9f2aab5554f70411cee3a3d54d113e6addfc85f4b86a6b956ea0feb51b40c35b"), looks := false }, kinds := [], alts := [], laidByText := true, laidKinds := [.data, .data], laidTests := true, laidLooks := .later }
def SecretCanUptoCardSaid : Prop := Claim7.holds Tryd.pinned (.plain (OpenSpec.upto secretCanSpec)) secretCanUptoCard

/-- THE SECOND FORM's CARD OF 'remitterlaw04.SecretSteps'. -/
def secretStepsUptoCard : Claim7 := { stood := { row := secretStepsUptoRow, standIns := [], harness := (true, "9f2aab5554f70411cee3a3d54d113e6addfc85f4b86a6b956ea0feb51b40c35b"), looks := false }, kinds := [], alts := [], laidByText := true, laidKinds := [.data, .data, .data], laidTests := true, laidLooks := .later }
def SecretStepsUptoCardSaid : Prop := Claim7.holds Tryd.pinned (.plain (OpenSpec.upto secretStepsSpec)) secretStepsUptoCard

/-- THE SECOND FORM's CARD OF 'remitterlaw04.SecretFar'. -/
def secretFarUptoCard : Claim7 := { stood := { row := secretFarUptoRow, standIns := [], harness := (true, "9f2aab5554f70411cee3a3d54d113e6addfc85f4b86a6b956ea0feb51b40c35b"), looks := false }, kinds := [], alts := [], laidByText := true, laidKinds := [.data, .data, .data], laidTests := true, laidLooks := .later }
def SecretFarUptoCardSaid : Prop := Claim7.holds Tryd.pinned (.plain (OpenSpec.upto secretFarSpec)) secretFarUptoCard

/-- THE SECOND FORM's CARD OF 'remitterlaw04.SecretTells'. -/
def secretTellsUptoCard : Claim7 := { stood := { row := secretTellsUptoRow, standIns := [], harness := (true, "9f2aab5554f70411cee3a3d54d113e6addfc85f4b86a6b956ea0feb51b40c35b"), looks := false }, kinds := [], alts := [], laidByText := true, laidKinds := [.data, .data, .data], laidTests := true, laidLooks := .later }
def SecretTellsUptoCardSaid : Prop := Claim7.holds Tryd.pinned (.plain (OpenSpec.upto secretTellsSpec)) secretTellsUptoCard

/-- THE SECOND FORM's CARD OF 'remitterlaw04.SecretDerives'. -/
def secretDerivesUptoCard : Claim7 := { stood := { row := secretDerivesUptoRow, standIns := [], harness := (true, "9f2aab5554f70411cee3a3d54d113e6addfc85f4b86a6b956ea0feb51b40c35b"), looks := false }, kinds := [], alts := [], laidByText := true, laidKinds := [.data, .data, .data], laidTests := true, laidLooks := .later }
def SecretDerivesUptoCardSaid : Prop := Claim7.holds Tryd.pinned (.plain (OpenSpec.upto secretDerivesSpec)) secretDerivesUptoCard
end Rows
end Go.Proofs.YtifnflldceeaaaaDoor
