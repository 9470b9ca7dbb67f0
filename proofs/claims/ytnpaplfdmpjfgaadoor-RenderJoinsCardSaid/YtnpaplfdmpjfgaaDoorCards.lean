/-
  DERIVED. GIVEN WITH THE SEED: THE CARDS: each row of YtnpaplfdmpjfgaaDoorRows.lean that lists a variable, with what it lists TIED to the program's text (the seventh form; the later family's looks); each row that meets fmt, with fmt's text TOLD by the authors' own Lean function (tested against real Go, not proved from fmt's source: count such statements apart). THE CARD IS WHAT COUNTS. Prove the row's statement (the work); the ties are given (YtnpaplfdmpjfgaaDoorTie.lean); close each card by the builder's one call (the guide's Derived/Test/ToyasCard.lean, 'card_holds'). Laid BY PROGRAM, IN A SANDBOX (cutbox-door.mjs). By AI agents, Wed Nov 11 2026. No macro, syntax, notation, axiom, sorry.
-/
import Derived.Test.YtnpaplfdmpjfgaaDoorRows
import GoSem.ClaimSeven
namespace Go.Proofs.YtnpaplfdmpjfgaaDoor
namespace Rows

/-- THE TIED CARD OF 'offsidelaw18.DocChecks'. -/
def docChecksCard : Claim7 := { stood := { row := docChecksRow, standIns := [], harness := (true, "cf91a89c145cb58f553c0fd7d841f09c4ce2433df59392d701436edc262c4db3"), looks := false }, kinds := [], alts := [], laidByText := true, laidKinds := [.data, .pinned], laidTests := true, laidLooks := .later }
def DocChecksCardSaid : Prop := Claim7.holds Tryd.pinned (.plain (OpenSpec.ofChange docChecksSpec)) docChecksCard

/-- THE TIED CARD OF 'offsidelaw18.DocFlats'. -/
def docFlatsCard : Claim7 := { stood := { row := docFlatsRow, standIns := [], harness := (true, "cf91a89c145cb58f553c0fd7d841f09c4ce2433df59392d701436edc262c4db3"), looks := false }, kinds := [], alts := [], laidByText := true, laidKinds := [.data, .pinned], laidTests := true, laidLooks := .later }
def DocFlatsCardSaid : Prop := Claim7.holds Tryd.pinned (.plain (OpenSpec.ofChange docFlatsSpec)) docFlatsCard

/-- THE TIED CARD OF 'offsidelaw18.DocTidies'. -/
def docTidiesCard : Claim7 := { stood := { row := docTidiesRow, standIns := [], harness := (true, "cf91a89c145cb58f553c0fd7d841f09c4ce2433df59392d701436edc262c4db3"), looks := false }, kinds := [], alts := [], laidByText := true, laidKinds := [.data, .pinned], laidTests := true, laidLooks := .later }
def DocTidiesCardSaid : Prop := Claim7.holds Tryd.pinned (.plain (OpenSpec.ofChange docTidiesSpec)) docTidiesCard

/-- THE TIED CARD OF 'offsidelaw18.DocKeeps'. -/
def docKeepsCard : Claim7 := { stood := { row := docKeepsRow, standIns := [], harness := (true, "cf91a89c145cb58f553c0fd7d841f09c4ce2433df59392d701436edc262c4db3"), looks := false }, kinds := [], alts := [], laidByText := true, laidKinds := [.data, .pinned], laidTests := true, laidLooks := .later }
def DocKeepsCardSaid : Prop := Claim7.holds Tryd.pinned (.plain (OpenSpec.ofChange docKeepsSpec)) docKeepsCard

/-- THE TIED CARD OF 'offsidelaw18.DocJoins'. -/
def docJoinsCard : Claim7 := { stood := { row := docJoinsRow, standIns := [], harness := (true, "cf91a89c145cb58f553c0fd7d841f09c4ce2433df59392d701436edc262c4db3"), looks := false }, kinds := [], alts := [], laidByText := true, laidKinds := [.data, .pinned], laidTests := true, laidLooks := .later }
def DocJoinsCardSaid : Prop := Claim7.holds Tryd.pinned (.plain (OpenSpec.ofChange docJoinsSpec)) docJoinsCard

/-- THE TIED CARD OF 'offsidelaw18.DocPunctuates'. -/
def docPunctuatesCard : Claim7 := { stood := { row := docPunctuatesRow, standIns := [], harness := (true, "cf91a89c145cb58f553c0fd7d841f09c4ce2433df59392d701436edc262c4db3"), looks := false }, kinds := [], alts := [], laidByText := true, laidKinds := [.data, .pinned], laidTests := true, laidLooks := .later }
def DocPunctuatesCardSaid : Prop := Claim7.holds Tryd.pinned (.plain (OpenSpec.ofChange docPunctuatesSpec)) docPunctuatesCard

/-- THE TIED CARD OF 'offsidelaw19.RenderRenders'. -/
def renderRendersCard : Claim7 := { stood := { row := renderRendersRow, standIns := [], harness := (true, "cf91a89c145cb58f553c0fd7d841f09c4ce2433df59392d701436edc262c4db3"), looks := false }, kinds := [], alts := [], laidByText := true, laidKinds := [.data, .pinned], laidTests := true, laidLooks := .later }
def RenderRendersCardSaid : Prop := Claim7.holds Tryd.pinned (.plain (OpenSpec.ofChange renderRendersSpec)) renderRendersCard

/-- THE TIED CARD OF 'offsidelaw19.RenderWidest'. -/
def renderWidestCard : Claim7 := { stood := { row := renderWidestRow, standIns := [], harness := (true, "cf91a89c145cb58f553c0fd7d841f09c4ce2433df59392d701436edc262c4db3"), looks := false }, kinds := [], alts := [], laidByText := true, laidKinds := [.data, .pinned], laidTests := true, laidLooks := .later }
def RenderWidestCardSaid : Prop := Claim7.holds Tryd.pinned (.plain (OpenSpec.ofChange renderWidestSpec)) renderWidestCard

/-- THE TIED CARD OF 'offsidelaw19.RenderJoins'. -/
def renderJoinsCard : Claim7 := { stood := { row := renderJoinsRow, standIns := [], harness := (true, "cf91a89c145cb58f553c0fd7d841f09c4ce2433df59392d701436edc262c4db3"), looks := false }, kinds := [], alts := [], laidByText := true, laidKinds := [.data, .pinned], laidTests := true, laidLooks := .later }
def RenderJoinsCardSaid : Prop := Claim7.holds Tryd.pinned (.plain (OpenSpec.ofChange renderJoinsSpec)) renderJoinsCard

/-- THE TIED CARD OF 'offsidelaw19.RenderNests'. -/
def renderNestsCard : Claim7 := { stood := { row := renderNestsRow, standIns := [], harness := (true, "cf91a89c145cb58f553c0fd7d841f09c4ce2433df59392d701436edc262c4db3"), looks := false }, kinds := [], alts := [], laidByText := true, laidKinds := [.data, .pinned], laidTests := true, laidLooks := .later }
def RenderNestsCardSaid : Prop := Claim7.holds Tryd.pinned (.plain (OpenSpec.ofChange renderNestsSpec)) renderNestsCard

/-- THE TIED CARD OF 'offsidelaw19.RenderFlats'. -/
def renderFlatsCard : Claim7 := { stood := { row := renderFlatsRow, standIns := [], harness := (true, "cf91a89c145cb58f553c0fd7d841f09c4ce2433df59392d701436edc262c4db3"), looks := false }, kinds := [], alts := [], laidByText := true, laidKinds := [.data, .pinned], laidTests := true, laidLooks := .later }
def RenderFlatsCardSaid : Prop := Claim7.holds Tryd.pinned (.plain (OpenSpec.ofChange renderFlatsSpec)) renderFlatsCard

/-- THE TIED CARD OF 'offsidelaw19.RenderOnes'. -/
def renderOnesCard : Claim7 := { stood := { row := renderOnesRow, standIns := [], harness := (true, "cf91a89c145cb58f553c0fd7d841f09c4ce2433df59392d701436edc262c4db3"), looks := false }, kinds := [], alts := [], laidByText := true, laidKinds := [.data, .pinned], laidTests := true, laidLooks := .later }
def RenderOnesCardSaid : Prop := Claim7.holds Tryd.pinned (.plain (OpenSpec.ofChange renderOnesSpec)) renderOnesCard

/-- THE TIED CARD OF 'offsidelaw19.RenderTidies'. -/
def renderTidiesCard : Claim7 := { stood := { row := renderTidiesRow, standIns := [], harness := (true, "cf91a89c145cb58f553c0fd7d841f09c4ce2433df59392d701436edc262c4db3"), looks := false }, kinds := [], alts := [], laidByText := true, laidKinds := [.data, .pinned], laidTests := true, laidLooks := .later }
def RenderTidiesCardSaid : Prop := Claim7.holds Tryd.pinned (.plain (OpenSpec.ofChange renderTidiesSpec)) renderTidiesCard

/-- THE SECOND FORM's CARD OF 'offsidelaw18.DocChecks'. -/
def docChecksUptoCard : Claim7 := { stood := { row := docChecksUptoRow, standIns := [], harness := (true, "cf91a89c145cb58f553c0fd7d841f09c4ce2433df59392d701436edc262c4db3"), looks := false }, kinds := [], alts := [], laidByText := true, laidKinds := [.data, .pinned], laidTests := true, laidLooks := .later }
def DocChecksUptoCardSaid : Prop := Claim7.holds Tryd.pinned (.plain (OpenSpec.upto docChecksSpec)) docChecksUptoCard

/-- THE SECOND FORM's CARD OF 'offsidelaw18.DocFlats'. -/
def docFlatsUptoCard : Claim7 := { stood := { row := docFlatsUptoRow, standIns := [], harness := (true, "cf91a89c145cb58f553c0fd7d841f09c4ce2433df59392d701436edc262c4db3"), looks := false }, kinds := [], alts := [], laidByText := true, laidKinds := [.data, .pinned], laidTests := true, laidLooks := .later }
def DocFlatsUptoCardSaid : Prop := Claim7.holds Tryd.pinned (.plain (OpenSpec.upto docFlatsSpec)) docFlatsUptoCard

/-- THE SECOND FORM's CARD OF 'offsidelaw18.DocTidies'. -/
def docTidiesUptoCard : Claim7 := { stood := { row := docTidiesUptoRow, standIns := [], harness := (true, "cf91a89c145cb58f553c0fd7d841f09c4ce2433df59392d701436edc262c4db3"), looks := false }, kinds := [], alts := [], laidByText := true, laidKinds := [.data, .pinned], laidTests := true, laidLooks := .later }
def DocTidiesUptoCardSaid : Prop := Claim7.holds Tryd.pinned (.plain (OpenSpec.upto docTidiesSpec)) docTidiesUptoCard

/-- THE SECOND FORM's CARD OF 'offsidelaw18.DocKeeps'. -/
def docKeepsUptoCard : Claim7 := { stood := { row := docKeepsUptoRow, standIns := [], harness := (true, "cf91a89c145cb58f553c0fd7d841f09c4ce2433df59392d701436edc262c4db3"), looks := false }, kinds := [], alts := [], laidByText := true, laidKinds := [.data, .pinned], laidTests := true, laidLooks := .later }
def DocKeepsUptoCardSaid : Prop := Claim7.holds Tryd.pinned (.plain (OpenSpec.upto docKeepsSpec)) docKeepsUptoCard

/-- THE SECOND FORM's CARD OF 'offsidelaw18.DocJoins'. -/
def docJoinsUptoCard : Claim7 := { stood := { row := docJoinsUptoRow, standIns := [], harness := (true, "cf91a89c145cb58f553c0fd7d841f09c4ce2433df59392d701436edc262c4db3"), looks := false }, kinds := [], alts := [], laidByText := true, laidKinds := [.data, .pinned], laidTests := true, laidLooks := .later }
def DocJoinsUptoCardSaid : Prop := Claim7.holds Tryd.pinned (.plain (OpenSpec.upto docJoinsSpec)) docJoinsUptoCard

/-- THE SECOND FORM's CARD OF 'offsidelaw18.DocPunctuates'. -/
def docPunctuatesUptoCard : Claim7 := { stood := { row := docPunctuatesUptoRow, standIns := [], harness := (true, "cf91a89c145cb58f553c0fd7d841f09c4ce2433df59392d701436edc262c4db3"), looks := false }, kinds := [], alts := [], laidByText := true, laidKinds := [.data, .pinned], laidTests := true, laidLooks := .later }
def DocPunctuatesUptoCardSaid : Prop := Claim7.holds Tryd.pinned (.plain (OpenSpec.upto docPunctuatesSpec)) docPunctuatesUptoCard

/-- THE SECOND FORM's CARD OF 'offsidelaw19.RenderRenders'. -/
def renderRendersUptoCard : Claim7 := { stood := { row := renderRendersUptoRow, standIns := [], harness := (true, "cf91a89c145cb58f553c0fd7d841f09c4ce2433df59392d701436edc262c4db3"), looks := false }, kinds := [], alts := [], laidByText := true, laidKinds := [.data, .pinned], laidTests := true, laidLooks := .later }
def RenderRendersUptoCardSaid : Prop := Claim7.holds Tryd.pinned (.plain (OpenSpec.upto renderRendersSpec)) renderRendersUptoCard

/-- THE SECOND FORM's CARD OF 'offsidelaw19.RenderWidest'. -/
def renderWidestUptoCard : Claim7 := { stood := { row := renderWidestUptoRow, standIns := [], harness := (true, "cf91a89c145cb58f553c0fd7d841f09c4ce2433df59392d701436edc262c4db3"), looks := false }, kinds := [], alts := [], laidByText := true, laidKinds := [.data, .pinned], laidTests := true, laidLooks := .later }
def RenderWidestUptoCardSaid : Prop := Claim7.holds Tryd.pinned (.plain (OpenSpec.upto renderWidestSpec)) renderWidestUptoCard

/-- THE SECOND FORM's CARD OF 'offsidelaw19.RenderJoins'. -/
def renderJoinsUptoCard : Claim7 := { stood := { row := renderJoinsUptoRow, standIns := [], harness := (true, "cf91a89c145cb58f553c0fd7d841f09c4ce2433df59392d701436edc262c4db3"), looks := false }, kinds := [], alts := [], laidByText := true, laidKinds := [.data, .pinned], laidTests := true, laidLooks := .later }
def RenderJoinsUptoCardSaid : Prop := Claim7.holds Tryd.pinned (.plain (OpenSpec.upto renderJoinsSpec)) renderJoinsUptoCard

/-- THE SECOND FORM's CARD OF 'offsidelaw19.RenderNests'. -/
def renderNestsUptoCard : Claim7 := { stood := { row := renderNestsUptoRow, standIns := [], harness := (true, "cf91a89c145cb58f553c0fd7d841f09c4ce2433df59392d701436edc262c4db3"), looks := false }, kinds := [], alts := [], laidByText := true, laidKinds := [.data, .pinned], laidTests := true, laidLooks := .later }
def RenderNestsUptoCardSaid : Prop := Claim7.holds Tryd.pinned (.plain (OpenSpec.upto renderNestsSpec)) renderNestsUptoCard

/-- THE SECOND FORM's CARD OF 'offsidelaw19.RenderFlats'. -/
def renderFlatsUptoCard : Claim7 := { stood := { row := renderFlatsUptoRow, standIns := [], harness := (true, "cf91a89c145cb58f553c0fd7d841f09c4ce2433df59392d701436edc262c4db3"), looks := false }, kinds := [], alts := [], laidByText := true, laidKinds := [.data, .pinned], laidTests := true, laidLooks := .later }
def RenderFlatsUptoCardSaid : Prop := Claim7.holds Tryd.pinned (.plain (OpenSpec.upto renderFlatsSpec)) renderFlatsUptoCard

/-- THE SECOND FORM's CARD OF 'offsidelaw19.RenderOnes'. -/
def renderOnesUptoCard : Claim7 := { stood := { row := renderOnesUptoRow, standIns := [], harness := (true, "cf91a89c145cb58f553c0fd7d841f09c4ce2433df59392d701436edc262c4db3"), looks := false }, kinds := [], alts := [], laidByText := true, laidKinds := [.data, .pinned], laidTests := true, laidLooks := .later }
def RenderOnesUptoCardSaid : Prop := Claim7.holds Tryd.pinned (.plain (OpenSpec.upto renderOnesSpec)) renderOnesUptoCard

/-- THE SECOND FORM's CARD OF 'offsidelaw19.RenderTidies'. -/
def renderTidiesUptoCard : Claim7 := { stood := { row := renderTidiesUptoRow, standIns := [], harness := (true, "cf91a89c145cb58f553c0fd7d841f09c4ce2433df59392d701436edc262c4db3"), looks := false }, kinds := [], alts := [], laidByText := true, laidKinds := [.data, .pinned], laidTests := true, laidLooks := .later }
def RenderTidiesUptoCardSaid : Prop := Claim7.holds Tryd.pinned (.plain (OpenSpec.upto renderTidiesSpec)) renderTidiesUptoCard
end Rows
end Go.Proofs.YtnpaplfdmpjfgaaDoor
