/-
  DERIVED. GIVEN WITH THE SEED: THE CARDS: each row of YtgnnjkmlnfdngaaDoorRows.lean that lists a variable, with what it lists TIED to the program's text (the seventh form; the later family's looks); each row that meets fmt, with fmt's text TOLD by the authors' own Lean function (tested against real Go, not proved from fmt's source: count such statements apart). THE CARD IS WHAT COUNTS. Prove the row's statement (the work); the ties are given (YtgnnjkmlnfdngaaDoorTie.lean); close each card by the builder's one call (the guide's Derived/Test/ToyasCard.lean, 'card_holds'). Laid BY PROGRAM, IN A SANDBOX (cutbox-door.mjs). By AI agents, Wed Nov 11 2026. No macro, syntax, notation, axiom, sorry.
-/
import Derived.Test.YtgnnjkmlnfdngaaDoorRows
import GoSem.ClaimSeven
namespace Go.Proofs.YtgnnjkmlnfdngaaDoor
namespace Rows

/-- THE TIED CARD OF 'tapearchivelaw52.ReportTables'. -/
def reportTablesCard : Claim7 := { stood := { row := reportTablesRow, standIns := [], harness := (true, "f81471f74b631d94c01baa0ae37362db54578106c15ef449c3dc85fe1f12dc42"), looks := false }, kinds := [], alts := [], laidByText := true, laidKinds := [.data, .data, .data, .data, .data, .pinned], laidTests := true, laidLooks := .later }
def ReportTablesCardSaid : Prop := Claim7.holds Tryd.pinned (.plain (OpenSpec.ofChange reportTablesSpec)) reportTablesCard

/-- THE TIED CARD OF 'tapearchivelaw52.ReportAudits'. -/
def reportAuditsCard : Claim7 := { stood := { row := reportAuditsRow, standIns := [], harness := (true, "f81471f74b631d94c01baa0ae37362db54578106c15ef449c3dc85fe1f12dc42"), looks := false }, kinds := [], alts := [], laidByText := true, laidKinds := [.data, .data, .data, .data, .data, .pinned], laidTests := true, laidLooks := .later }
def ReportAuditsCardSaid : Prop := Claim7.holds Tryd.pinned (.plain (OpenSpec.ofChange reportAuditsSpec)) reportAuditsCard

/-- THE TIED CARD OF 'tapearchivelaw52.ReportWords'. -/
def reportWordsCard : Claim7 := { stood := { row := reportWordsRow, standIns := [], harness := (true, "f81471f74b631d94c01baa0ae37362db54578106c15ef449c3dc85fe1f12dc42"), looks := false }, kinds := [], alts := [], laidByText := true, laidKinds := [.data, .data, .data, .data, .data, .pinned], laidTests := true, laidLooks := .later }
def ReportWordsCardSaid : Prop := Claim7.holds Tryd.pinned (.plain (OpenSpec.ofChange reportWordsSpec)) reportWordsCard

/-- THE TIED CARD OF 'tapearchivelaw52.ReportText'. -/
def reportTextCard : Claim7 := { stood := { row := reportTextRow, standIns := [], harness := (true, "f81471f74b631d94c01baa0ae37362db54578106c15ef449c3dc85fe1f12dc42"), looks := false }, kinds := [], alts := [], laidByText := true, laidKinds := [.data, .data, .data, .data, .data, .pinned], laidTests := true, laidLooks := .later }
def ReportTextCardSaid : Prop := Claim7.holds Tryd.pinned (.plain (OpenSpec.ofChange reportTextSpec)) reportTextCard

/-- THE TIED CARD OF 'tapearchivelaw52.ReportAccounts'. -/
def reportAccountsCard : Claim7 := { stood := { row := reportAccountsRow, standIns := [], harness := (true, "f81471f74b631d94c01baa0ae37362db54578106c15ef449c3dc85fe1f12dc42"), looks := false }, kinds := [], alts := [], laidByText := true, laidKinds := [.data, .data, .data, .data, .data, .pinned], laidTests := true, laidLooks := .later }
def ReportAccountsCardSaid : Prop := Claim7.holds Tryd.pinned (.plain (OpenSpec.ofChange reportAccountsSpec)) reportAccountsCard

/-- THE SECOND FORM's CARD OF 'tapearchivelaw52.ReportTables'. -/
def reportTablesUptoCard : Claim7 := { stood := { row := reportTablesUptoRow, standIns := [], harness := (true, "f81471f74b631d94c01baa0ae37362db54578106c15ef449c3dc85fe1f12dc42"), looks := false }, kinds := [], alts := [], laidByText := true, laidKinds := [.data, .data, .data, .data, .data, .pinned], laidTests := true, laidLooks := .later }
def ReportTablesUptoCardSaid : Prop := Claim7.holds Tryd.pinned (.plain (OpenSpec.upto reportTablesSpec)) reportTablesUptoCard

/-- THE SECOND FORM's CARD OF 'tapearchivelaw52.ReportAudits'. -/
def reportAuditsUptoCard : Claim7 := { stood := { row := reportAuditsUptoRow, standIns := [], harness := (true, "f81471f74b631d94c01baa0ae37362db54578106c15ef449c3dc85fe1f12dc42"), looks := false }, kinds := [], alts := [], laidByText := true, laidKinds := [.data, .data, .data, .data, .data, .pinned], laidTests := true, laidLooks := .later }
def ReportAuditsUptoCardSaid : Prop := Claim7.holds Tryd.pinned (.plain (OpenSpec.upto reportAuditsSpec)) reportAuditsUptoCard

/-- THE SECOND FORM's CARD OF 'tapearchivelaw52.ReportWords'. -/
def reportWordsUptoCard : Claim7 := { stood := { row := reportWordsUptoRow, standIns := [], harness := (true, "f81471f74b631d94c01baa0ae37362db54578106c15ef449c3dc85fe1f12dc42"), looks := false }, kinds := [], alts := [], laidByText := true, laidKinds := [.data, .data, .data, .data, .data, .pinned], laidTests := true, laidLooks := .later }
def ReportWordsUptoCardSaid : Prop := Claim7.holds Tryd.pinned (.plain (OpenSpec.upto reportWordsSpec)) reportWordsUptoCard

/-- THE SECOND FORM's CARD OF 'tapearchivelaw52.ReportText'. -/
def reportTextUptoCard : Claim7 := { stood := { row := reportTextUptoRow, standIns := [], harness := (true, "f81471f74b631d94c01baa0ae37362db54578106c15ef449c3dc85fe1f12dc42"), looks := false }, kinds := [], alts := [], laidByText := true, laidKinds := [.data, .data, .data, .data, .data, .pinned], laidTests := true, laidLooks := .later }
def ReportTextUptoCardSaid : Prop := Claim7.holds Tryd.pinned (.plain (OpenSpec.upto reportTextSpec)) reportTextUptoCard

/-- THE SECOND FORM's CARD OF 'tapearchivelaw52.ReportAccounts'. -/
def reportAccountsUptoCard : Claim7 := { stood := { row := reportAccountsUptoRow, standIns := [], harness := (true, "f81471f74b631d94c01baa0ae37362db54578106c15ef449c3dc85fe1f12dc42"), looks := false }, kinds := [], alts := [], laidByText := true, laidKinds := [.data, .data, .data, .data, .data, .pinned], laidTests := true, laidLooks := .later }
def ReportAccountsUptoCardSaid : Prop := Claim7.holds Tryd.pinned (.plain (OpenSpec.upto reportAccountsSpec)) reportAccountsUptoCard
end Rows
end Go.Proofs.YtgnnjkmlnfdngaaDoor
