/-
  DERIVED. GIVEN WITH THE SEED: THE CARDS: each row of YtakhkpgkbbcnhaaGreatDoorRows.lean that lists a variable, with what it lists TIED to the program's text (the seventh form; the later family's looks); each row that meets fmt, with fmt's text TOLD by the authors' own Lean function (tested against real Go, not proved from fmt's source: count such statements apart). THE CARD IS WHAT COUNTS. Prove the row's statement (the work); the ties are given (YtakhkpgkbbcnhaaGreatDoorTie.lean); close each card by the builder's one call (the guide's Derived/Test/ToyasCard.lean, 'card_holds'). Laid BY PROGRAM, IN A SANDBOX (cutbox-door.mjs). By AI agents, Wed Nov 11 2026. No macro, syntax, notation, axiom, sorry.
-/
import Derived.Test.YtakhkpgkbbcnhaaGreatDoorRows
import GoSem.ClaimSeven
namespace Go.Proofs.YtakhkpgkbbcnhaaGreatDoor
namespace Rows

/-- THE TIED CARD OF 'loggialaw29.AuditKinds'. -/
def auditKindsCard : Claim7 := { stood := { row := auditKindsRow, standIns := [], harness := (true, "0b3544a5c33a6c2a5254b340831026e0df40c3468a53e8ef2e8e0266ad857c84"), looks := true }, kinds := [], alts := [], laidByText := true, laidKinds := [.data, .data, .data, .sentinel, .sentinel], laidTests := true, laidLooks := .later }
def AuditKindsCardSaid : Prop := Claim7.holds Tryz.pinned (.plain (OpenSpec.ofChange auditKindsSpec)) auditKindsCard

/-- THE TIED CARD OF 'loggialaw29.AuditNobody'. -/
def auditNobodyCard : Claim7 := { stood := { row := auditNobodyRow, standIns := [], harness := (true, "0b3544a5c33a6c2a5254b340831026e0df40c3468a53e8ef2e8e0266ad857c84"), looks := true }, kinds := [], alts := [], laidByText := true, laidKinds := [.data, .data, .data, .sentinel, .sentinel], laidTests := true, laidLooks := .later }
def AuditNobodyCardSaid : Prop := Claim7.holds Tryz.pinned (.plain (OpenSpec.ofChange auditNobodySpec)) auditNobodyCard

/-- THE TIED CARD OF 'loggialaw23.StoreNobody'. -/
def storeNobodyCard : Claim7 := { stood := { row := storeNobodyRow, standIns := [], harness := (true, "0b3544a5c33a6c2a5254b340831026e0df40c3468a53e8ef2e8e0266ad857c84"), looks := true }, kinds := [], alts := [], laidByText := true, laidKinds := [.data, .data, .data, .sentinel, .sentinel], laidTests := true, laidLooks := .later }
def StoreNobodyCardSaid : Prop := Claim7.holds Tryz.pinned (.plain (OpenSpec.ofChange storeNobodySpec)) storeNobodyCard

/-- THE SECOND FORM's CARD OF 'loggialaw29.AuditKinds'. -/
def auditKindsUptoCard : Claim7 := { stood := { row := auditKindsUptoRow, standIns := [], harness := (true, "0b3544a5c33a6c2a5254b340831026e0df40c3468a53e8ef2e8e0266ad857c84"), looks := true }, kinds := [], alts := [], laidByText := true, laidKinds := [.data, .data, .data, .sentinel, .sentinel], laidTests := true, laidLooks := .later }
def AuditKindsUptoCardSaid : Prop := Claim7.holds Tryz.pinned (.plain (OpenSpec.upto auditKindsSpec)) auditKindsUptoCard

/-- THE SECOND FORM's CARD OF 'loggialaw29.AuditNobody'. -/
def auditNobodyUptoCard : Claim7 := { stood := { row := auditNobodyUptoRow, standIns := [], harness := (true, "0b3544a5c33a6c2a5254b340831026e0df40c3468a53e8ef2e8e0266ad857c84"), looks := true }, kinds := [], alts := [], laidByText := true, laidKinds := [.data, .data, .data, .sentinel, .sentinel], laidTests := true, laidLooks := .later }
def AuditNobodyUptoCardSaid : Prop := Claim7.holds Tryz.pinned (.plain (OpenSpec.upto auditNobodySpec)) auditNobodyUptoCard

/-- THE SECOND FORM's CARD OF 'loggialaw23.StoreNobody'. -/
def storeNobodyUptoCard : Claim7 := { stood := { row := storeNobodyUptoRow, standIns := [], harness := (true, "0b3544a5c33a6c2a5254b340831026e0df40c3468a53e8ef2e8e0266ad857c84"), looks := true }, kinds := [], alts := [], laidByText := true, laidKinds := [.data, .data, .data, .sentinel, .sentinel], laidTests := true, laidLooks := .later }
def StoreNobodyUptoCardSaid : Prop := Claim7.holds Tryz.pinned (.plain (OpenSpec.upto storeNobodySpec)) storeNobodyUptoCard
end Rows
end Go.Proofs.YtakhkpgkbbcnhaaGreatDoor
