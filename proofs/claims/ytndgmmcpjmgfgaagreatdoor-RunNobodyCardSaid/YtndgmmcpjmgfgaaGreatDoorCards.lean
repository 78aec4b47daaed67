/-
  DERIVED. GIVEN WITH THE SEED: THE CARDS: each row of YtndgmmcpjmgfgaaGreatDoorRows.lean that lists a variable, with what it lists TIED to the program's text (the seventh form; the later family's looks); each row that meets fmt, with fmt's text TOLD by the authors' own Lean function (tested against real Go, not proved from fmt's source: count such statements apart). THE CARD IS WHAT COUNTS. Prove the row's statement (the work); the ties are given (YtndgmmcpjmgfgaaGreatDoorTie.lean); close each card by the builder's one call (the guide's Derived/Test/ToyasCard.lean, 'card_holds'). Laid BY PROGRAM, IN A SANDBOX (cutbox-door.mjs). By AI agents, Wed Nov 11 2026. No macro, syntax, notation, axiom, sorry.
-/
import Derived.Test.YtndgmmcpjmgfgaaGreatDoorRows
import GoSem.ClaimSeven
namespace Go.Proofs.YtndgmmcpjmgfgaaGreatDoor
namespace Rows

/-- THE TIED CARD OF 'berthagelaw12.CoreNobody'. -/
def coreNobodyCard : Claim7 := { stood := { row := coreNobodyRow, standIns := [], harness := (true, "0ff38bb48f2fa01b00c362483560cf9b5b4c270a04849f45c2364c0214fdf4d7"), looks := false }, kinds := [], alts := [], laidByText := true, laidKinds := [.data], laidTests := true, laidLooks := .later }
def CoreNobodyCardSaid : Prop := Claim7.holds Tryz.pinned (.plain (OpenSpec.ofChange coreNobodySpec)) coreNobodyCard

/-- THE TIED CARD OF 'berthagelaw23.FairCounts'. -/
def fairCountsCard : Claim7 := { stood := { row := fairCountsRow, standIns := [], harness := (true, "0ff38bb48f2fa01b00c362483560cf9b5b4c270a04849f45c2364c0214fdf4d7"), looks := false }, kinds := [], alts := [], laidByText := true, laidKinds := [.data], laidTests := true, laidLooks := .later }
def FairCountsCardSaid : Prop := Claim7.holds Tryz.pinned (.plain (OpenSpec.ofChange fairCountsSpec)) fairCountsCard

/-- THE TIED CARD OF 'berthagelaw25.RunNobody'. -/
def runNobodyCard : Claim7 := { stood := { row := runNobodyRow, standIns := [], harness := (true, "0ff38bb48f2fa01b00c362483560cf9b5b4c270a04849f45c2364c0214fdf4d7"), looks := false }, kinds := [], alts := [], laidByText := true, laidKinds := [.data], laidTests := true, laidLooks := .later }
def RunNobodyCardSaid : Prop := Claim7.holds Tryz.pinned (.plain (OpenSpec.ofChange runNobodySpec)) runNobodyCard

/-- THE TIED CARD OF 'berthagelaw20.CtrlNobody'. -/
def ctrlNobodyCard : Claim7 := { stood := { row := ctrlNobodyRow, standIns := [], harness := (true, "0ff38bb48f2fa01b00c362483560cf9b5b4c270a04849f45c2364c0214fdf4d7"), looks := false }, kinds := [], alts := [], laidByText := true, laidKinds := [.data], laidTests := true, laidLooks := .later }
def CtrlNobodyCardSaid : Prop := Claim7.holds Tryz.pinned (.plain (OpenSpec.ofChange ctrlNobodySpec)) ctrlNobodyCard

/-- THE TIED CARD OF 'berthagelaw24.RpcNobody'. -/
def rpcNobodyCard : Claim7 := { stood := { row := rpcNobodyRow, standIns := [], harness := (true, "0ff38bb48f2fa01b00c362483560cf9b5b4c270a04849f45c2364c0214fdf4d7"), looks := false }, kinds := [], alts := [], laidByText := true, laidKinds := [.data], laidTests := true, laidLooks := .later }
def RpcNobodyCardSaid : Prop := Claim7.holds Tryz.pinned (.plain (OpenSpec.ofChange rpcNobodySpec)) rpcNobodyCard

/-- THE SECOND FORM's CARD OF 'berthagelaw12.CoreNobody'. -/
def coreNobodyUptoCard : Claim7 := { stood := { row := coreNobodyUptoRow, standIns := [], harness := (true, "0ff38bb48f2fa01b00c362483560cf9b5b4c270a04849f45c2364c0214fdf4d7"), looks := false }, kinds := [], alts := [], laidByText := true, laidKinds := [.data], laidTests := true, laidLooks := .later }
def CoreNobodyUptoCardSaid : Prop := Claim7.holds Tryz.pinned (.plain (OpenSpec.upto coreNobodySpec)) coreNobodyUptoCard

/-- THE SECOND FORM's CARD OF 'berthagelaw23.FairCounts'. -/
def fairCountsUptoCard : Claim7 := { stood := { row := fairCountsUptoRow, standIns := [], harness := (true, "0ff38bb48f2fa01b00c362483560cf9b5b4c270a04849f45c2364c0214fdf4d7"), looks := false }, kinds := [], alts := [], laidByText := true, laidKinds := [.data], laidTests := true, laidLooks := .later }
def FairCountsUptoCardSaid : Prop := Claim7.holds Tryz.pinned (.plain (OpenSpec.upto fairCountsSpec)) fairCountsUptoCard

/-- THE SECOND FORM's CARD OF 'berthagelaw25.RunNobody'. -/
def runNobodyUptoCard : Claim7 := { stood := { row := runNobodyUptoRow, standIns := [], harness := (true, "0ff38bb48f2fa01b00c362483560cf9b5b4c270a04849f45c2364c0214fdf4d7"), looks := false }, kinds := [], alts := [], laidByText := true, laidKinds := [.data], laidTests := true, laidLooks := .later }
def RunNobodyUptoCardSaid : Prop := Claim7.holds Tryz.pinned (.plain (OpenSpec.upto runNobodySpec)) runNobodyUptoCard

/-- THE SECOND FORM's CARD OF 'berthagelaw20.CtrlNobody'. -/
def ctrlNobodyUptoCard : Claim7 := { stood := { row := ctrlNobodyUptoRow, standIns := [], harness := (true, "0ff38bb48f2fa01b00c362483560cf9b5b4c270a04849f45c2364c0214fdf4d7"), looks := false }, kinds := [], alts := [], laidByText := true, laidKinds := [.data], laidTests := true, laidLooks := .later }
def CtrlNobodyUptoCardSaid : Prop := Claim7.holds Tryz.pinned (.plain (OpenSpec.upto ctrlNobodySpec)) ctrlNobodyUptoCard

/-- THE SECOND FORM's CARD OF 'berthagelaw24.RpcNobody'. -/
def rpcNobodyUptoCard : Claim7 := { stood := { row := rpcNobodyUptoRow, standIns := [], harness := (true, "0ff38bb48f2fa01b00c362483560cf9b5b4c270a04849f45c2364c0214fdf4d7"), looks := false }, kinds := [], alts := [], laidByText := true, laidKinds := [.data], laidTests := true, laidLooks := .later }
def RpcNobodyUptoCardSaid : Prop := Claim7.holds Tryz.pinned (.plain (OpenSpec.upto rpcNobodySpec)) rpcNobodyUptoCard
end Rows
end Go.Proofs.YtndgmmcpjmgfgaaGreatDoor
