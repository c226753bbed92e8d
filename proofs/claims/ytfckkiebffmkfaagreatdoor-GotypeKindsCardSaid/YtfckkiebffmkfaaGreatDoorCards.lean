/-
  DERIVED. GIVEN WITH THE SEED: THE CARDS: each row of YtfckkiebffmkfaaGreatDoorRows.lean that lists a variable, with what it lists TIED to the program's text (the seventh form; the later family's looks); each row that meets fmt, with fmt's text TOLD by the authors' own Lean function (tested against real Go, not proved from fmt's source: count such statements apart). THE CARD IS WHAT COUNTS. Prove the row's statement (the work); the ties are given (YtfckkiebffmkfaaGreatDoorTie.lean); close each card by the builder's one call (the guide's Derived/Test/ToyasCard.lean, 'card_holds'). Laid BY PROGRAM, IN A SANDBOX (cutbox-door.mjs). By AI agents, Wed Nov 11 2026. No macro, syntax, notation, axiom, sorry.
-/
import Derived.Test.YtfckkiebffmkfaaGreatDoorRows
import GoSem.ClaimSeven
namespace Go.Proofs.YtfckkiebffmkfaaGreatDoor
namespace Rows

/-- THE TIED CARD OF 'avocetlaw32.GentypeTells'. -/
def gentypeTellsCard : Claim7 := { stood := { row := gentypeTellsRow, standIns := [], harness := (true, "464da1adede1fe0e651defaaefcedfa59f57153b337b9eba209fee54a75a2797"), looks := false }, kinds := [], alts := [], laidByText := true, laidKinds := [.data], laidTests := true, laidLooks := .later }
def GentypeTellsCardSaid : Prop := Claim7.holds Tryz.pinned (.plain (OpenSpec.ofChange gentypeTellsSpec)) gentypeTellsCard

/-- THE TIED CARD OF 'avocetlaw27.GotypeChecks'. -/
def gotypeChecksCard : Claim7 := { stood := { row := gotypeChecksRow, standIns := [], harness := (true, "464da1adede1fe0e651defaaefcedfa59f57153b337b9eba209fee54a75a2797"), looks := false }, kinds := [], alts := [], laidByText := true, laidKinds := [.data, .data], laidTests := true, laidLooks := .later }
def GotypeChecksCardSaid : Prop := Claim7.holds Tryz.pinned (.plain (OpenSpec.ofChange gotypeChecksSpec)) gotypeChecksCard

/-- THE TIED CARD OF 'avocetlaw27.GotypeKinds'. -/
def gotypeKindsCard : Claim7 := { stood := { row := gotypeKindsRow, standIns := [], harness := (true, "464da1adede1fe0e651defaaefcedfa59f57153b337b9eba209fee54a75a2797"), looks := false }, kinds := [], alts := [], laidByText := true, laidKinds := [.data, .data], laidTests := true, laidLooks := .later }
def GotypeKindsCardSaid : Prop := Claim7.holds Tryz.pinned (.plain (OpenSpec.ofChange gotypeKindsSpec)) gotypeKindsCard

/-- THE TIED CARD OF 'avocetlaw27.GotypeBare'. -/
def gotypeBareCard : Claim7 := { stood := { row := gotypeBareRow, standIns := [], harness := (true, "464da1adede1fe0e651defaaefcedfa59f57153b337b9eba209fee54a75a2797"), looks := false }, kinds := [], alts := [], laidByText := true, laidKinds := [.data, .data], laidTests := true, laidLooks := .later }
def GotypeBareCardSaid : Prop := Claim7.holds Tryz.pinned (.plain (OpenSpec.ofChange gotypeBareSpec)) gotypeBareCard

/-- THE TIED CARD OF 'avocetlaw27.GotypeMore'. -/
def gotypeMoreCard : Claim7 := { stood := { row := gotypeMoreRow, standIns := [], harness := (true, "464da1adede1fe0e651defaaefcedfa59f57153b337b9eba209fee54a75a2797"), looks := false }, kinds := [], alts := [], laidByText := true, laidKinds := [.data, .data], laidTests := true, laidLooks := .later }
def GotypeMoreCardSaid : Prop := Claim7.holds Tryz.pinned (.plain (OpenSpec.ofChange gotypeMoreSpec)) gotypeMoreCard

/-- THE SECOND FORM's CARD OF 'avocetlaw32.GentypeTells'. -/
def gentypeTellsUptoCard : Claim7 := { stood := { row := gentypeTellsUptoRow, standIns := [], harness := (true, "464da1adede1fe0e651defaaefcedfa59f57153b337b9eba209fee54a75a2797"), looks := false }, kinds := [], alts := [], laidByText := true, laidKinds := [.data], laidTests := true, laidLooks := .later }
def GentypeTellsUptoCardSaid : Prop := Claim7.holds Tryz.pinned (.plain (OpenSpec.upto gentypeTellsSpec)) gentypeTellsUptoCard

/-- THE SECOND FORM's CARD OF 'avocetlaw27.GotypeChecks'. -/
def gotypeChecksUptoCard : Claim7 := { stood := { row := gotypeChecksUptoRow, standIns := [], harness := (true, "464da1adede1fe0e651defaaefcedfa59f57153b337b9eba209fee54a75a2797"), looks := false }, kinds := [], alts := [], laidByText := true, laidKinds := [.data, .data], laidTests := true, laidLooks := .later }
def GotypeChecksUptoCardSaid : Prop := Claim7.holds Tryz.pinned (.plain (OpenSpec.upto gotypeChecksSpec)) gotypeChecksUptoCard

/-- THE SECOND FORM's CARD OF 'avocetlaw27.GotypeKinds'. -/
def gotypeKindsUptoCard : Claim7 := { stood := { row := gotypeKindsUptoRow, standIns := [], harness := (true, "464da1adede1fe0e651defaaefcedfa59f57153b337b9eba209fee54a75a2797"), looks := false }, kinds := [], alts := [], laidByText := true, laidKinds := [.data, .data], laidTests := true, laidLooks := .later }
def GotypeKindsUptoCardSaid : Prop := Claim7.holds Tryz.pinned (.plain (OpenSpec.upto gotypeKindsSpec)) gotypeKindsUptoCard

/-- THE SECOND FORM's CARD OF 'avocetlaw27.GotypeBare'. -/
def gotypeBareUptoCard : Claim7 := { stood := { row := gotypeBareUptoRow, standIns := [], harness := (true, "464da1adede1fe0e651defaaefcedfa59f57153b337b9eba209fee54a75a2797"), looks := false }, kinds := [], alts := [], laidByText := true, laidKinds := [.data, .data], laidTests := true, laidLooks := .later }
def GotypeBareUptoCardSaid : Prop := Claim7.holds Tryz.pinned (.plain (OpenSpec.upto gotypeBareSpec)) gotypeBareUptoCard

/-- THE SECOND FORM's CARD OF 'avocetlaw27.GotypeMore'. -/
def gotypeMoreUptoCard : Claim7 := { stood := { row := gotypeMoreUptoRow, standIns := [], harness := (true, "464da1adede1fe0e651defaaefcedfa59f57153b337b9eba209fee54a75a2797"), looks := false }, kinds := [], alts := [], laidByText := true, laidKinds := [.data, .data], laidTests := true, laidLooks := .later }
def GotypeMoreUptoCardSaid : Prop := Claim7.holds Tryz.pinned (.plain (OpenSpec.upto gotypeMoreSpec)) gotypeMoreUptoCard
end Rows
end Go.Proofs.YtfckkiebffmkfaaGreatDoor
