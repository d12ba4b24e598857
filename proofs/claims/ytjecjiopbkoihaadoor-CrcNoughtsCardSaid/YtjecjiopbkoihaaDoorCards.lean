/-
  DERIVED. GIVEN WITH THE SEED: THE CARDS: each row of YtjecjiopbkoihaaDoorRows.lean that lists a variable, with what it lists TIED to the program's text (the seventh form; the later family's looks); each row that meets fmt, with fmt's text TOLD by the authors' own Lean function (tested against real Go, not proved from fmt's source: count such statements apart). THE CARD IS WHAT COUNTS. Prove the row's statement (the work); the ties are given (YtjecjiopbkoihaaDoorTie.lean); close each card by the builder's one call (the guide's Derived/Test/ToyasCard.lean, 'card_holds'). Laid BY PROGRAM, IN A SANDBOX (cutbox-door.mjs). By AI agents, Wed Nov 11 2026. No macro, syntax, notation, axiom, sorry.
-/
import Derived.Test.YtjecjiopbkoihaaDoorRows
import GoSem.ClaimSeven
namespace Go.Proofs.YtjecjiopbkoihaaDoor
namespace Rows

/-- THE TIED CARD OF 'tidemarklaw02.CrcTells'. -/
def crcTellsCard : Claim7 := { stood := { row := crcTellsRow, standIns := [], harness := (true, "eb15bfda0dd86f3d0fe35fcbf74ec3678d21a7e51e53c5d810526192f6a2aea7"), looks := false }, kinds := [], alts := [], laidByText := true, laidKinds := [.data], laidTests := true, laidLooks := .later }
def CrcTellsCardSaid : Prop := Claim7.holds Tryd.pinned (.plain (OpenSpec.ofChange crcTellsSpec)) crcTellsCard

/-- THE TIED CARD OF 'tidemarklaw02.CrcJoins'. -/
def crcJoinsCard : Claim7 := { stood := { row := crcJoinsRow, standIns := [], harness := (true, "eb15bfda0dd86f3d0fe35fcbf74ec3678d21a7e51e53c5d810526192f6a2aea7"), looks := false }, kinds := [], alts := [], laidByText := true, laidKinds := [.data], laidTests := true, laidLooks := .later }
def CrcJoinsCardSaid : Prop := Claim7.holds Tryd.pinned (.plain (OpenSpec.ofChange crcJoinsSpec)) crcJoinsCard

/-- THE TIED CARD OF 'tidemarklaw02.CrcFar'. -/
def crcFarCard : Claim7 := { stood := { row := crcFarRow, standIns := [], harness := (true, "eb15bfda0dd86f3d0fe35fcbf74ec3678d21a7e51e53c5d810526192f6a2aea7"), looks := false }, kinds := [], alts := [], laidByText := true, laidKinds := [.data], laidTests := true, laidLooks := .later }
def CrcFarCardSaid : Prop := Claim7.holds Tryd.pinned (.plain (OpenSpec.ofChange crcFarSpec)) crcFarCard

/-- THE TIED CARD OF 'tidemarklaw02.CrcBursts'. -/
def crcBurstsCard : Claim7 := { stood := { row := crcBurstsRow, standIns := [], harness := (true, "eb15bfda0dd86f3d0fe35fcbf74ec3678d21a7e51e53c5d810526192f6a2aea7"), looks := false }, kinds := [], alts := [], laidByText := true, laidKinds := [.data], laidTests := true, laidLooks := .later }
def CrcBurstsCardSaid : Prop := Claim7.holds Tryd.pinned (.plain (OpenSpec.ofChange crcBurstsSpec)) crcBurstsCard

/-- THE TIED CARD OF 'tidemarklaw02.CrcLinear'. -/
def crcLinearCard : Claim7 := { stood := { row := crcLinearRow, standIns := [], harness := (true, "eb15bfda0dd86f3d0fe35fcbf74ec3678d21a7e51e53c5d810526192f6a2aea7"), looks := false }, kinds := [], alts := [], laidByText := true, laidKinds := [.data], laidTests := true, laidLooks := .later }
def CrcLinearCardSaid : Prop := Claim7.holds Tryd.pinned (.plain (OpenSpec.ofChange crcLinearSpec)) crcLinearCard

/-- THE TIED CARD OF 'tidemarklaw02.CrcEnds'. -/
def crcEndsCard : Claim7 := { stood := { row := crcEndsRow, standIns := [], harness := (true, "eb15bfda0dd86f3d0fe35fcbf74ec3678d21a7e51e53c5d810526192f6a2aea7"), looks := false }, kinds := [], alts := [], laidByText := true, laidKinds := [.data], laidTests := true, laidLooks := .later }
def CrcEndsCardSaid : Prop := Claim7.holds Tryd.pinned (.plain (OpenSpec.ofChange crcEndsSpec)) crcEndsCard

/-- THE TIED CARD OF 'tidemarklaw02.CrcNoughts'. -/
def crcNoughtsCard : Claim7 := { stood := { row := crcNoughtsRow, standIns := [], harness := (true, "eb15bfda0dd86f3d0fe35fcbf74ec3678d21a7e51e53c5d810526192f6a2aea7"), looks := false }, kinds := [], alts := [], laidByText := true, laidKinds := [.data], laidTests := true, laidLooks := .later }
def CrcNoughtsCardSaid : Prop := Claim7.holds Tryd.pinned (.plain (OpenSpec.ofChange crcNoughtsSpec)) crcNoughtsCard

/-- THE SECOND FORM's CARD OF 'tidemarklaw02.CrcTells'. -/
def crcTellsUptoCard : Claim7 := { stood := { row := crcTellsUptoRow, standIns := [], harness := (true, "eb15bfda0dd86f3d0fe35fcbf74ec3678d21a7e51e53c5d810526192f6a2aea7"), looks := false }, kinds := [], alts := [], laidByText := true, laidKinds := [.data], laidTests := true, laidLooks := .later }
def CrcTellsUptoCardSaid : Prop := Claim7.holds Tryd.pinned (.plain (OpenSpec.upto crcTellsSpec)) crcTellsUptoCard

/-- THE SECOND FORM's CARD OF 'tidemarklaw02.CrcJoins'. -/
def crcJoinsUptoCard : Claim7 := { stood := { row := crcJoinsUptoRow, standIns := [], harness := (true, "eb15bfda0dd86f3d0fe35fcbf74ec3678d21a7e51e53c5d810526192f6a2aea7"), looks := false }, kinds := [], alts := [], laidByText := true, laidKinds := [.data], laidTests := true, laidLooks := .later }
def CrcJoinsUptoCardSaid : Prop := Claim7.holds Tryd.pinned (.plain (OpenSpec.upto crcJoinsSpec)) crcJoinsUptoCard

/-- THE SECOND FORM's CARD OF 'tidemarklaw02.CrcFar'. -/
def crcFarUptoCard : Claim7 := { stood := { row := crcFarUptoRow, standIns := [], harness := (true, "eb15bfda0dd86f3d0fe35fcbf74ec3678d21a7e51e53c5d810526192f6a2aea7"), looks := false }, kinds := [], alts := [], laidByText := true, laidKinds := [.data], laidTests := true, laidLooks := .later }
def CrcFarUptoCardSaid : Prop := Claim7.holds Tryd.pinned (.plain (OpenSpec.upto crcFarSpec)) crcFarUptoCard

/-- THE SECOND FORM's CARD OF 'tidemarklaw02.CrcBursts'. -/
def crcBurstsUptoCard : Claim7 := { stood := { row := crcBurstsUptoRow, standIns := [], harness := (true, "eb15bfda0dd86f3d0fe35fcbf74ec3678d21a7e51e53c5d810526192f6a2aea7"), looks := false }, kinds := [], alts := [], laidByText := true, laidKinds := [.data], laidTests := true, laidLooks := .later }
def CrcBurstsUptoCardSaid : Prop := Claim7.holds Tryd.pinned (.plain (OpenSpec.upto crcBurstsSpec)) crcBurstsUptoCard

/-- THE SECOND FORM's CARD OF 'tidemarklaw02.CrcLinear'. -/
def crcLinearUptoCard : Claim7 := { stood := { row := crcLinearUptoRow, standIns := [], harness := (true, "eb15bfda0dd86f3d0fe35fcbf74ec3678d21a7e51e53c5d810526192f6a2aea7"), looks := false }, kinds := [], alts := [], laidByText := true, laidKinds := [.data], laidTests := true, laidLooks := .later }
def CrcLinearUptoCardSaid : Prop := Claim7.holds Tryd.pinned (.plain (OpenSpec.upto crcLinearSpec)) crcLinearUptoCard

/-- THE SECOND FORM's CARD OF 'tidemarklaw02.CrcEnds'. -/
def crcEndsUptoCard : Claim7 := { stood := { row := crcEndsUptoRow, standIns := [], harness := (true, "eb15bfda0dd86f3d0fe35fcbf74ec3678d21a7e51e53c5d810526192f6a2aea7"), looks := false }, kinds := [], alts := [], laidByText := true, laidKinds := [.data], laidTests := true, laidLooks := .later }
def CrcEndsUptoCardSaid : Prop := Claim7.holds Tryd.pinned (.plain (OpenSpec.upto crcEndsSpec)) crcEndsUptoCard

/-- THE SECOND FORM's CARD OF 'tidemarklaw02.CrcNoughts'. -/
def crcNoughtsUptoCard : Claim7 := { stood := { row := crcNoughtsUptoRow, standIns := [], harness := (true, "eb15bfda0dd86f3d0fe35fcbf74ec3678d21a7e51e53c5d810526192f6a2aea7"), looks := false }, kinds := [], alts := [], laidByText := true, laidKinds := [.data], laidTests := true, laidLooks := .later }
def CrcNoughtsUptoCardSaid : Prop := Claim7.holds Tryd.pinned (.plain (OpenSpec.upto crcNoughtsSpec)) crcNoughtsUptoCard
end Rows
end Go.Proofs.YtjecjiopbkoihaaDoor
