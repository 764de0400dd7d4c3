/-
  DERIVED. GIVEN WITH THE SEED: THE CARDS: each row of YtkfdcccgpphcmaaGreatDoorRows.lean that lists a variable, with what it lists TIED to the program's text (the seventh form; the later family's looks); each row that meets fmt, with fmt's text TOLD by the authors' own Lean function (tested against real Go, not proved from fmt's source: count such statements apart). THE CARD IS WHAT COUNTS. Prove the row's statement (the work); the ties are given (YtkfdcccgpphcmaaGreatDoorTie.lean); close each card by the builder's one call (the guide's Derived/Test/ToyasCard.lean, 'card_holds'). Laid BY PROGRAM, IN A SANDBOX (cutbox-door.mjs). By AI agents, Wed Nov 11 2026. No macro, syntax, notation, axiom, sorry.
-/
import Derived.Test.YtkfdcccgpphcmaaGreatDoorRows
import GoSem.ClaimSeven
namespace Go.Proofs.YtkfdcccgpphcmaaGreatDoor
namespace Rows

/-- THE TIED CARD OF 'gherkinlaw10.WorksCrates'. -/
def worksCratesCard : Claim7 := { stood := { row := worksCratesRow, standIns := [], harness := (true, "abc30b267f96122537266650b8af7d72897d2befb0144e3aa19f5a36cf1b4e9a"), looks := true }, kinds := [], alts := [], laidByText := true, laidKinds := [.data, .data, .data, .data, .sentinel, .sentinel, .pinned], laidTests := true, laidLooks := .later }
def WorksCratesCardSaid : Prop := Claim7.holds Tryz.pinned (.plain (OpenSpec.ofChange worksCratesSpec)) worksCratesCard

/-- THE TIED CARD OF 'gherkinlaw10.WorksDisks'. -/
def worksDisksCard : Claim7 := { stood := { row := worksDisksRow, standIns := [], harness := (true, "abc30b267f96122537266650b8af7d72897d2befb0144e3aa19f5a36cf1b4e9a"), looks := true }, kinds := [], alts := [], laidByText := true, laidKinds := [.data, .data, .data, .data, .sentinel, .sentinel, .pinned], laidTests := true, laidLooks := .later }
def WorksDisksCardSaid : Prop := Claim7.holds Tryz.pinned (.plain (OpenSpec.ofChange worksDisksSpec)) worksDisksCard

/-- THE TIED CARD OF 'gherkinlaw10.WorksPages'. -/
def worksPagesCard : Claim7 := { stood := { row := worksPagesRow, standIns := [], harness := (true, "abc30b267f96122537266650b8af7d72897d2befb0144e3aa19f5a36cf1b4e9a"), looks := true }, kinds := [], alts := [], laidByText := true, laidKinds := [.data, .data, .data, .data, .sentinel, .sentinel, .pinned], laidTests := true, laidLooks := .later }
def WorksPagesCardSaid : Prop := Claim7.holds Tryz.pinned (.plain (OpenSpec.ofChange worksPagesSpec)) worksPagesCard

/-- THE TIED CARD OF 'gherkinlaw10.WorksNobody'. -/
def worksNobodyCard : Claim7 := { stood := { row := worksNobodyRow, standIns := [], harness := (true, "abc30b267f96122537266650b8af7d72897d2befb0144e3aa19f5a36cf1b4e9a"), looks := true }, kinds := [], alts := [], laidByText := true, laidKinds := [.data, .data, .data, .data, .sentinel, .sentinel, .pinned], laidTests := true, laidLooks := .later }
def WorksNobodyCardSaid : Prop := Claim7.holds Tryz.pinned (.plain (OpenSpec.ofChange worksNobodySpec)) worksNobodyCard

/-- THE SECOND FORM's CARD OF 'gherkinlaw10.WorksCrates'. -/
def worksCratesUptoCard : Claim7 := { stood := { row := worksCratesUptoRow, standIns := [], harness := (true, "abc30b267f96122537266650b8af7d72897d2befb0144e3aa19f5a36cf1b4e9a"), looks := true }, kinds := [], alts := [], laidByText := true, laidKinds := [.data, .data, .data, .data, .sentinel, .sentinel, .pinned], laidTests := true, laidLooks := .later }
def WorksCratesUptoCardSaid : Prop := Claim7.holds Tryz.pinned (.plain (OpenSpec.upto worksCratesSpec)) worksCratesUptoCard

/-- THE SECOND FORM's CARD OF 'gherkinlaw10.WorksDisks'. -/
def worksDisksUptoCard : Claim7 := { stood := { row := worksDisksUptoRow, standIns := [], harness := (true, "abc30b267f96122537266650b8af7d72897d2befb0144e3aa19f5a36cf1b4e9a"), looks := true }, kinds := [], alts := [], laidByText := true, laidKinds := [.data, .data, .data, .data, .sentinel, .sentinel, .pinned], laidTests := true, laidLooks := .later }
def WorksDisksUptoCardSaid : Prop := Claim7.holds Tryz.pinned (.plain (OpenSpec.upto worksDisksSpec)) worksDisksUptoCard

/-- THE SECOND FORM's CARD OF 'gherkinlaw10.WorksPages'. -/
def worksPagesUptoCard : Claim7 := { stood := { row := worksPagesUptoRow, standIns := [], harness := (true, "abc30b267f96122537266650b8af7d72897d2befb0144e3aa19f5a36cf1b4e9a"), looks := true }, kinds := [], alts := [], laidByText := true, laidKinds := [.data, .data, .data, .data, .sentinel, .sentinel, .pinned], laidTests := true, laidLooks := .later }
def WorksPagesUptoCardSaid : Prop := Claim7.holds Tryz.pinned (.plain (OpenSpec.upto worksPagesSpec)) worksPagesUptoCard

/-- THE SECOND FORM's CARD OF 'gherkinlaw10.WorksNobody'. -/
def worksNobodyUptoCard : Claim7 := { stood := { row := worksNobodyUptoRow, standIns := [], harness := (true, "abc30b267f96122537266650b8af7d72897d2befb0144e3aa19f5a36cf1b4e9a"), looks := true }, kinds := [], alts := [], laidByText := true, laidKinds := [.data, .data, .data, .data, .sentinel, .sentinel, .pinned], laidTests := true, laidLooks := .later }
def WorksNobodyUptoCardSaid : Prop := Claim7.holds Tryz.pinned (.plain (OpenSpec.upto worksNobodySpec)) worksNobodyUptoCard
end Rows
end Go.Proofs.YtkfdcccgpphcmaaGreatDoor
