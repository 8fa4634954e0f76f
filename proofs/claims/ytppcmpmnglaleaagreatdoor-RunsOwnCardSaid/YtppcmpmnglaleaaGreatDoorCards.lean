/-
  DERIVED. GIVEN WITH THE SEED: THE CARDS: each row of YtppcmpmnglaleaaGreatDoorRows.lean that lists a variable, with what it lists TIED to the program's text (the seventh form; the later family's looks); each row that meets fmt, with fmt's text TOLD by the authors' own Lean function (tested against real Go, not proved from fmt's source: count such statements apart). THE CARD IS WHAT COUNTS. Prove the row's statement (the work); the ties are given (YtppcmpmnglaleaaGreatDoorTie.lean); close each card by the builder's one call (the guide's Derived/Test/ToyasCard.lean, 'card_holds'). Laid BY PROGRAM, IN A SANDBOX (cutbox-door.mjs). By AI agents, Wed Nov 11 2026. No macro, syntax, notation, axiom, sorry.
-/
import Derived.Test.YtppcmpmnglaleaaGreatDoorRows
import GoSem.ClaimSeven
namespace Go.Proofs.YtppcmpmnglaleaaGreatDoor
namespace Rows

/-- THE TIED CARD OF 'stereopsislaw06.RunsOf'. -/
def runsOfCard : Claim7 := { stood := { row := runsOfRow, standIns := [], harness := (true, "3026f21b19b6f59de445bb43a8501b9305d9414549b9f9b31dff8a38d7671d74"), looks := false }, kinds := [], alts := [], laidByText := true, laidKinds := [.data, .data, .data], laidTests := true, laidLooks := .later }
def RunsOfCardSaid : Prop := Claim7.holds Tryz.pinned (.plain (OpenSpec.ofChange runsOfSpec)) runsOfCard

/-- THE TIED CARD OF 'stereopsislaw06.RunsEvery'. -/
def runsEveryCard : Claim7 := { stood := { row := runsEveryRow, standIns := [], harness := (true, "3026f21b19b6f59de445bb43a8501b9305d9414549b9f9b31dff8a38d7671d74"), looks := false }, kinds := [], alts := [], laidByText := true, laidKinds := [.data, .data, .data], laidTests := true, laidLooks := .later }
def RunsEveryCardSaid : Prop := Claim7.holds Tryz.pinned (.plain (OpenSpec.ofChange runsEverySpec)) runsEveryCard

/-- THE TIED CARD OF 'stereopsislaw06.RunsViews'. -/
def runsViewsCard : Claim7 := { stood := { row := runsViewsRow, standIns := [], harness := (true, "3026f21b19b6f59de445bb43a8501b9305d9414549b9f9b31dff8a38d7671d74"), looks := false }, kinds := [], alts := [], laidByText := true, laidKinds := [.data, .data, .data], laidTests := true, laidLooks := .later }
def RunsViewsCardSaid : Prop := Claim7.holds Tryz.pinned (.plain (OpenSpec.ofChange runsViewsSpec)) runsViewsCard

/-- THE TIED CARD OF 'stereopsislaw06.RunsOnce'. -/
def runsOnceCard : Claim7 := { stood := { row := runsOnceRow, standIns := [], harness := (true, "3026f21b19b6f59de445bb43a8501b9305d9414549b9f9b31dff8a38d7671d74"), looks := false }, kinds := [], alts := [], laidByText := true, laidKinds := [.data, .data, .data], laidTests := true, laidLooks := .later }
def RunsOnceCardSaid : Prop := Claim7.holds Tryz.pinned (.plain (OpenSpec.ofChange runsOnceSpec)) runsOnceCard

/-- THE TIED CARD OF 'stereopsislaw06.RunsOwn'. -/
def runsOwnCard : Claim7 := { stood := { row := runsOwnRow, standIns := [], harness := (true, "3026f21b19b6f59de445bb43a8501b9305d9414549b9f9b31dff8a38d7671d74"), looks := false }, kinds := [], alts := [], laidByText := true, laidKinds := [.data, .data, .data], laidTests := true, laidLooks := .later }
def RunsOwnCardSaid : Prop := Claim7.holds Tryz.pinned (.plain (OpenSpec.ofChange runsOwnSpec)) runsOwnCard

/-- THE TIED CARD OF 'stereopsislaw06.RunsClasses'. -/
def runsClassesCard : Claim7 := { stood := { row := runsClassesRow, standIns := [], harness := (true, "3026f21b19b6f59de445bb43a8501b9305d9414549b9f9b31dff8a38d7671d74"), looks := false }, kinds := [], alts := [], laidByText := true, laidKinds := [.data, .data, .data], laidTests := true, laidLooks := .later }
def RunsClassesCardSaid : Prop := Claim7.holds Tryz.pinned (.plain (OpenSpec.ofChange runsClassesSpec)) runsClassesCard

/-- THE TIED CARD OF 'stereopsislaw06.RunsFiner'. -/
def runsFinerCard : Claim7 := { stood := { row := runsFinerRow, standIns := [], harness := (true, "3026f21b19b6f59de445bb43a8501b9305d9414549b9f9b31dff8a38d7671d74"), looks := false }, kinds := [], alts := [], laidByText := true, laidKinds := [.data, .data, .data], laidTests := true, laidLooks := .later }
def RunsFinerCardSaid : Prop := Claim7.holds Tryz.pinned (.plain (OpenSpec.ofChange runsFinerSpec)) runsFinerCard

/-- THE SECOND FORM's CARD OF 'stereopsislaw06.RunsOf'. -/
def runsOfUptoCard : Claim7 := { stood := { row := runsOfUptoRow, standIns := [], harness := (true, "3026f21b19b6f59de445bb43a8501b9305d9414549b9f9b31dff8a38d7671d74"), looks := false }, kinds := [], alts := [], laidByText := true, laidKinds := [.data, .data, .data], laidTests := true, laidLooks := .later }
def RunsOfUptoCardSaid : Prop := Claim7.holds Tryz.pinned (.plain (OpenSpec.upto runsOfSpec)) runsOfUptoCard

/-- THE SECOND FORM's CARD OF 'stereopsislaw06.RunsEvery'. -/
def runsEveryUptoCard : Claim7 := { stood := { row := runsEveryUptoRow, standIns := [], harness := (true, "3026f21b19b6f59de445bb43a8501b9305d9414549b9f9b31dff8a38d7671d74"), looks := false }, kinds := [], alts := [], laidByText := true, laidKinds := [.data, .data, .data], laidTests := true, laidLooks := .later }
def RunsEveryUptoCardSaid : Prop := Claim7.holds Tryz.pinned (.plain (OpenSpec.upto runsEverySpec)) runsEveryUptoCard

/-- THE SECOND FORM's CARD OF 'stereopsislaw06.RunsViews'. -/
def runsViewsUptoCard : Claim7 := { stood := { row := runsViewsUptoRow, standIns := [], harness := (true, "3026f21b19b6f59de445bb43a8501b9305d9414549b9f9b31dff8a38d7671d74"), looks := false }, kinds := [], alts := [], laidByText := true, laidKinds := [.data, .data, .data], laidTests := true, laidLooks := .later }
def RunsViewsUptoCardSaid : Prop := Claim7.holds Tryz.pinned (.plain (OpenSpec.upto runsViewsSpec)) runsViewsUptoCard

/-- THE SECOND FORM's CARD OF 'stereopsislaw06.RunsOnce'. -/
def runsOnceUptoCard : Claim7 := { stood := { row := runsOnceUptoRow, standIns := [], harness := (true, "3026f21b19b6f59de445bb43a8501b9305d9414549b9f9b31dff8a38d7671d74"), looks := false }, kinds := [], alts := [], laidByText := true, laidKinds := [.data, .data, .data], laidTests := true, laidLooks := .later }
def RunsOnceUptoCardSaid : Prop := Claim7.holds Tryz.pinned (.plain (OpenSpec.upto runsOnceSpec)) runsOnceUptoCard

/-- THE SECOND FORM's CARD OF 'stereopsislaw06.RunsOwn'. -/
def runsOwnUptoCard : Claim7 := { stood := { row := runsOwnUptoRow, standIns := [], harness := (true, "3026f21b19b6f59de445bb43a8501b9305d9414549b9f9b31dff8a38d7671d74"), looks := false }, kinds := [], alts := [], laidByText := true, laidKinds := [.data, .data, .data], laidTests := true, laidLooks := .later }
def RunsOwnUptoCardSaid : Prop := Claim7.holds Tryz.pinned (.plain (OpenSpec.upto runsOwnSpec)) runsOwnUptoCard

/-- THE SECOND FORM's CARD OF 'stereopsislaw06.RunsClasses'. -/
def runsClassesUptoCard : Claim7 := { stood := { row := runsClassesUptoRow, standIns := [], harness := (true, "3026f21b19b6f59de445bb43a8501b9305d9414549b9f9b31dff8a38d7671d74"), looks := false }, kinds := [], alts := [], laidByText := true, laidKinds := [.data, .data, .data], laidTests := true, laidLooks := .later }
def RunsClassesUptoCardSaid : Prop := Claim7.holds Tryz.pinned (.plain (OpenSpec.upto runsClassesSpec)) runsClassesUptoCard

/-- THE SECOND FORM's CARD OF 'stereopsislaw06.RunsFiner'. -/
def runsFinerUptoCard : Claim7 := { stood := { row := runsFinerUptoRow, standIns := [], harness := (true, "3026f21b19b6f59de445bb43a8501b9305d9414549b9f9b31dff8a38d7671d74"), looks := false }, kinds := [], alts := [], laidByText := true, laidKinds := [.data, .data, .data], laidTests := true, laidLooks := .later }
def RunsFinerUptoCardSaid : Prop := Claim7.holds Tryz.pinned (.plain (OpenSpec.upto runsFinerSpec)) runsFinerUptoCard
end Rows
end Go.Proofs.YtppcmpmnglaleaaGreatDoor
