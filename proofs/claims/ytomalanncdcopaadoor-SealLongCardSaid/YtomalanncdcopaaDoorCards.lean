/-
  DERIVED. GIVEN WITH THE SEED: THE CARDS: each row of YtomalanncdcopaaDoorRows.lean that lists a variable, with what it lists TIED to the program's text (the seventh form; the later family's looks); each row that meets fmt, with fmt's text TOLD by the authors' own Lean function (tested against real Go, not proved from fmt's source: count such statements apart). THE CARD IS WHAT COUNTS. Prove the row's statement (the work); the ties are given (YtomalanncdcopaaDoorTie.lean); close each card by the builder's one call (the guide's Derived/Test/ToyasCard.lean, 'card_holds'). Laid BY PROGRAM, IN A SANDBOX (cutbox-door.mjs). By AI agents, Wed Nov 11 2026. No macro, syntax, notation, axiom, sorry.
-/
import Derived.Test.YtomalanncdcopaaDoorRows
import GoSem.ClaimSeven
namespace Go.Proofs.YtomalanncdcopaaDoor
namespace Rows

/-- THE TIED CARD OF 'remitterlaw03.SealLong'. -/
def sealLongCard : Claim7 := { stood := { row := sealLongRow, standIns := [], harness := (true, "18e421c605af05a068fbb25c3bca8aaef6d68fc29d7f25b6e0d0380de14f8f22"), looks := false }, kinds := [], alts := [], laidByText := true, laidKinds := [.data], laidTests := true, laidLooks := .later }
def SealLongCardSaid : Prop := Claim7.holds Tryd.pinned (.plain (OpenSpec.ofChange sealLongSpec)) sealLongCard

/-- THE TIED CARD OF 'remitterlaw03.SealMixes'. -/
def sealMixesCard : Claim7 := { stood := { row := sealMixesRow, standIns := [], harness := (true, "18e421c605af05a068fbb25c3bca8aaef6d68fc29d7f25b6e0d0380de14f8f22"), looks := false }, kinds := [], alts := [], laidByText := true, laidKinds := [.data], laidTests := true, laidLooks := .later }
def SealMixesCardSaid : Prop := Claim7.holds Tryd.pinned (.plain (OpenSpec.ofChange sealMixesSpec)) sealMixesCard

/-- THE TIED CARD OF 'remitterlaw03.SealTags'. -/
def sealTagsCard : Claim7 := { stood := { row := sealTagsRow, standIns := [], harness := (true, "18e421c605af05a068fbb25c3bca8aaef6d68fc29d7f25b6e0d0380de14f8f22"), looks := false }, kinds := [], alts := [], laidByText := true, laidKinds := [.data], laidTests := true, laidLooks := .later }
def SealTagsCardSaid : Prop := Claim7.holds Tryd.pinned (.plain (OpenSpec.ofChange sealTagsSpec)) sealTagsCard

/-- THE TIED CARD OF 'remitterlaw03.SealTurned'. -/
def sealTurnedCard : Claim7 := { stood := { row := sealTurnedRow, standIns := [], harness := (true, "18e421c605af05a068fbb25c3bca8aaef6d68fc29d7f25b6e0d0380de14f8f22"), looks := false }, kinds := [], alts := [], laidByText := true, laidKinds := [.data], laidTests := true, laidLooks := .later }
def SealTurnedCardSaid : Prop := Claim7.holds Tryd.pinned (.plain (OpenSpec.ofChange sealTurnedSpec)) sealTurnedCard

/-- THE SECOND FORM's CARD OF 'remitterlaw03.SealLong'. -/
def sealLongUptoCard : Claim7 := { stood := { row := sealLongUptoRow, standIns := [], harness := (true, "18e421c605af05a068fbb25c3bca8aaef6d68fc29d7f25b6e0d0380de14f8f22"), looks := false }, kinds := [], alts := [], laidByText := true, laidKinds := [.data], laidTests := true, laidLooks := .later }
def SealLongUptoCardSaid : Prop := Claim7.holds Tryd.pinned (.plain (OpenSpec.upto sealLongSpec)) sealLongUptoCard

/-- THE SECOND FORM's CARD OF 'remitterlaw03.SealMixes'. -/
def sealMixesUptoCard : Claim7 := { stood := { row := sealMixesUptoRow, standIns := [], harness := (true, "18e421c605af05a068fbb25c3bca8aaef6d68fc29d7f25b6e0d0380de14f8f22"), looks := false }, kinds := [], alts := [], laidByText := true, laidKinds := [.data], laidTests := true, laidLooks := .later }
def SealMixesUptoCardSaid : Prop := Claim7.holds Tryd.pinned (.plain (OpenSpec.upto sealMixesSpec)) sealMixesUptoCard

/-- THE SECOND FORM's CARD OF 'remitterlaw03.SealTags'. -/
def sealTagsUptoCard : Claim7 := { stood := { row := sealTagsUptoRow, standIns := [], harness := (true, "18e421c605af05a068fbb25c3bca8aaef6d68fc29d7f25b6e0d0380de14f8f22"), looks := false }, kinds := [], alts := [], laidByText := true, laidKinds := [.data], laidTests := true, laidLooks := .later }
def SealTagsUptoCardSaid : Prop := Claim7.holds Tryd.pinned (.plain (OpenSpec.upto sealTagsSpec)) sealTagsUptoCard

/-- THE SECOND FORM's CARD OF 'remitterlaw03.SealTurned'. -/
def sealTurnedUptoCard : Claim7 := { stood := { row := sealTurnedUptoRow, standIns := [], harness := (true, "18e421c605af05a068fbb25c3bca8aaef6d68fc29d7f25b6e0d0380de14f8f22"), looks := false }, kinds := [], alts := [], laidByText := true, laidKinds := [.data], laidTests := true, laidLooks := .later }
def SealTurnedUptoCardSaid : Prop := Claim7.holds Tryd.pinned (.plain (OpenSpec.upto sealTurnedSpec)) sealTurnedUptoCard
end Rows
end Go.Proofs.YtomalanncdcopaaDoor
