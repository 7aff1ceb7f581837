/-
  DERIVED. GIVEN WITH THE SEED: THE CARDS: each row of YtabpmpaeakebmaaDoorRows.lean that lists a variable, with what it lists TIED to the program's text (the seventh form; the later family's looks); each row that meets fmt, with fmt's text TOLD by the authors' own Lean function (tested against real Go, not proved from fmt's source: count such statements apart). THE CARD IS WHAT COUNTS. Prove the row's statement (the work); the ties are given (YtabpmpaeakebmaaDoorTie.lean); close each card by the builder's one call (the guide's Derived/Test/ToyasCard.lean, 'card_holds'). Laid BY PROGRAM, IN A SANDBOX (cutbox-door.mjs). By AI agents, Wed Nov 11 2026. No macro, syntax, notation, axiom, sorry.
-/
import Derived.Test.YtabpmpaeakebmaaDoorRows
import GoSem.ClaimSeven
namespace Go.Proofs.YtabpmpaeakebmaaDoor
namespace Rows

/-- THE TIED CARD OF 'phoenixlaw5.MasterSays'. -/
def masterSaysCard : Claim7 := { stood := { row := masterSaysRow, standIns := [], harness := (true, "8b59877d04622a35137a6e07da05432d1b247e57e2a1b2ded553b671a71fae20"), looks := true }, kinds := [], alts := [], laidByText := true, laidKinds := [.sentinel, .sentinel, .sentinel, .sentinel, .sentinel, .sentinel, .sentinel, .sentinel, .sentinel, .sentinel, .sentinel, .sentinel, .sentinel, .sentinel, .sentinel, .sentinel, .sentinel, .sentinel], laidTests := true, laidLooks := .later }
def MasterSaysCardSaid : Prop := Claim7.holds Tryd.pinned (.plain (OpenSpec.ofChange masterSaysSpec)) masterSaysCard

/-- THE TIED CARD OF 'phoenixlaw5.MasterBack'. -/
def masterBackCard : Claim7 := { stood := { row := masterBackRow, standIns := [], harness := (true, "8b59877d04622a35137a6e07da05432d1b247e57e2a1b2ded553b671a71fae20"), looks := true }, kinds := [], alts := [], laidByText := true, laidKinds := [.sentinel, .sentinel, .sentinel, .sentinel, .sentinel, .sentinel, .sentinel, .sentinel, .sentinel, .sentinel, .sentinel, .sentinel, .sentinel, .sentinel, .sentinel, .sentinel, .sentinel, .sentinel], laidTests := true, laidLooks := .later }
def MasterBackCardSaid : Prop := Claim7.holds Tryd.pinned (.plain (OpenSpec.ofChange masterBackSpec)) masterBackCard

/-- THE TIED CARD OF 'phoenixlaw5.MasterUnlike'. -/
def masterUnlikeCard : Claim7 := { stood := { row := masterUnlikeRow, standIns := [], harness := (true, "8b59877d04622a35137a6e07da05432d1b247e57e2a1b2ded553b671a71fae20"), looks := true }, kinds := [], alts := [], laidByText := true, laidKinds := [.sentinel, .sentinel, .sentinel, .sentinel, .sentinel, .sentinel, .sentinel, .sentinel, .sentinel, .sentinel, .sentinel, .sentinel, .sentinel, .sentinel, .sentinel, .sentinel, .sentinel, .sentinel], laidTests := true, laidLooks := .later }
def MasterUnlikeCardSaid : Prop := Claim7.holds Tryd.pinned (.plain (OpenSpec.ofChange masterUnlikeSpec)) masterUnlikeCard

/-- THE TIED CARD OF 'phoenixlaw5.MasterNumbers'. -/
def masterNumbersCard : Claim7 := { stood := { row := masterNumbersRow, standIns := [], harness := (true, "8b59877d04622a35137a6e07da05432d1b247e57e2a1b2ded553b671a71fae20"), looks := true }, kinds := [], alts := [], laidByText := true, laidKinds := [.sentinel, .sentinel, .sentinel, .sentinel, .sentinel, .sentinel, .sentinel, .sentinel, .sentinel, .sentinel, .sentinel, .sentinel, .sentinel, .sentinel, .sentinel, .sentinel, .sentinel, .sentinel], laidTests := true, laidLooks := .later }
def MasterNumbersCardSaid : Prop := Claim7.holds Tryd.pinned (.plain (OpenSpec.ofChange masterNumbersSpec)) masterNumbersCard

/-- THE TIED CARD OF 'phoenixlaw3.RecWrong'. -/
def recWrongCard : Claim7 := { stood := { row := recWrongRow, standIns := [], harness := (true, "8b59877d04622a35137a6e07da05432d1b247e57e2a1b2ded553b671a71fae20"), looks := true }, kinds := [], alts := [], laidByText := true, laidKinds := [.sentinel, .sentinel, .sentinel, .sentinel, .sentinel, .sentinel, .sentinel, .sentinel, .sentinel, .sentinel, .sentinel, .sentinel, .sentinel, .sentinel, .sentinel, .sentinel, .sentinel, .sentinel], laidTests := true, laidLooks := .later }
def RecWrongCardSaid : Prop := Claim7.holds Tryd.pinned (.plain (OpenSpec.ofChange recWrongSpec)) recWrongCard

/-- THE TIED CARD OF 'phoenixlaw3.RecUnlike'. -/
def recUnlikeCard : Claim7 := { stood := { row := recUnlikeRow, standIns := [], harness := (true, "8b59877d04622a35137a6e07da05432d1b247e57e2a1b2ded553b671a71fae20"), looks := true }, kinds := [], alts := [], laidByText := true, laidKinds := [.sentinel], laidTests := true, laidLooks := .later }
def RecUnlikeCardSaid : Prop := Claim7.holds Tryd.pinned (.plain (OpenSpec.ofChange recUnlikeSpec)) recUnlikeCard

/-- THE TIED CARD OF 'phoenixlaw3.RecBack'. -/
def recBackCard : Claim7 := { stood := { row := recBackRow, standIns := [], harness := (true, "8b59877d04622a35137a6e07da05432d1b247e57e2a1b2ded553b671a71fae20"), looks := true }, kinds := [], alts := [], laidByText := true, laidKinds := [.sentinel, .sentinel, .sentinel, .sentinel, .sentinel, .sentinel, .sentinel, .sentinel, .sentinel, .sentinel, .sentinel, .sentinel, .sentinel, .sentinel, .sentinel, .sentinel, .sentinel, .sentinel], laidTests := true, laidLooks := .later }
def RecBackCardSaid : Prop := Claim7.holds Tryd.pinned (.plain (OpenSpec.ofChange recBackSpec)) recBackCard

/-- THE TIED CARD OF 'phoenixlaw3.RecZeros'. -/
def recZerosCard : Claim7 := { stood := { row := recZerosRow, standIns := [], harness := (true, "8b59877d04622a35137a6e07da05432d1b247e57e2a1b2ded553b671a71fae20"), looks := true }, kinds := [], alts := [], laidByText := true, laidKinds := [.sentinel, .sentinel, .sentinel], laidTests := true, laidLooks := .later }
def RecZerosCardSaid : Prop := Claim7.holds Tryd.pinned (.plain (OpenSpec.ofChange recZerosSpec)) recZerosCard

/-- THE TIED CARD OF 'phoenixlaw3.RecSays'. -/
def recSaysCard : Claim7 := { stood := { row := recSaysRow, standIns := [], harness := (true, "8b59877d04622a35137a6e07da05432d1b247e57e2a1b2ded553b671a71fae20"), looks := true }, kinds := [], alts := [], laidByText := true, laidKinds := [.sentinel, .sentinel, .sentinel, .sentinel, .sentinel, .sentinel, .sentinel, .sentinel, .sentinel, .sentinel, .sentinel, .sentinel, .sentinel, .sentinel, .sentinel, .sentinel, .sentinel, .sentinel], laidTests := true, laidLooks := .later }
def RecSaysCardSaid : Prop := Claim7.holds Tryd.pinned (.plain (OpenSpec.ofChange recSaysSpec)) recSaysCard

/-- THE TIED CARD OF 'phoenixlaw3.RecNumbers'. -/
def recNumbersCard : Claim7 := { stood := { row := recNumbersRow, standIns := [], harness := (true, "8b59877d04622a35137a6e07da05432d1b247e57e2a1b2ded553b671a71fae20"), looks := true }, kinds := [], alts := [], laidByText := true, laidKinds := [.sentinel, .sentinel, .sentinel], laidTests := true, laidLooks := .later }
def RecNumbersCardSaid : Prop := Claim7.holds Tryd.pinned (.plain (OpenSpec.ofChange recNumbersSpec)) recNumbersCard

/-- THE SECOND FORM's CARD OF 'phoenixlaw5.MasterSays'. -/
def masterSaysUptoCard : Claim7 := { stood := { row := masterSaysUptoRow, standIns := [], harness := (true, "8b59877d04622a35137a6e07da05432d1b247e57e2a1b2ded553b671a71fae20"), looks := true }, kinds := [], alts := [], laidByText := true, laidKinds := [.sentinel, .sentinel, .sentinel, .sentinel, .sentinel, .sentinel, .sentinel, .sentinel, .sentinel, .sentinel, .sentinel, .sentinel, .sentinel, .sentinel, .sentinel, .sentinel, .sentinel, .sentinel], laidTests := true, laidLooks := .later }
def MasterSaysUptoCardSaid : Prop := Claim7.holds Tryd.pinned (.plain (OpenSpec.upto masterSaysSpec)) masterSaysUptoCard

/-- THE SECOND FORM's CARD OF 'phoenixlaw5.MasterBack'. -/
def masterBackUptoCard : Claim7 := { stood := { row := masterBackUptoRow, standIns := [], harness := (true, "8b59877d04622a35137a6e07da05432d1b247e57e2a1b2ded553b671a71fae20"), looks := true }, kinds := [], alts := [], laidByText := true, laidKinds := [.sentinel, .sentinel, .sentinel, .sentinel, .sentinel, .sentinel, .sentinel, .sentinel, .sentinel, .sentinel, .sentinel, .sentinel, .sentinel, .sentinel, .sentinel, .sentinel, .sentinel, .sentinel], laidTests := true, laidLooks := .later }
def MasterBackUptoCardSaid : Prop := Claim7.holds Tryd.pinned (.plain (OpenSpec.upto masterBackSpec)) masterBackUptoCard

/-- THE SECOND FORM's CARD OF 'phoenixlaw5.MasterUnlike'. -/
def masterUnlikeUptoCard : Claim7 := { stood := { row := masterUnlikeUptoRow, standIns := [], harness := (true, "8b59877d04622a35137a6e07da05432d1b247e57e2a1b2ded553b671a71fae20"), looks := true }, kinds := [], alts := [], laidByText := true, laidKinds := [.sentinel, .sentinel, .sentinel, .sentinel, .sentinel, .sentinel, .sentinel, .sentinel, .sentinel, .sentinel, .sentinel, .sentinel, .sentinel, .sentinel, .sentinel, .sentinel, .sentinel, .sentinel], laidTests := true, laidLooks := .later }
def MasterUnlikeUptoCardSaid : Prop := Claim7.holds Tryd.pinned (.plain (OpenSpec.upto masterUnlikeSpec)) masterUnlikeUptoCard

/-- THE SECOND FORM's CARD OF 'phoenixlaw5.MasterNumbers'. -/
def masterNumbersUptoCard : Claim7 := { stood := { row := masterNumbersUptoRow, standIns := [], harness := (true, "8b59877d04622a35137a6e07da05432d1b247e57e2a1b2ded553b671a71fae20"), looks := true }, kinds := [], alts := [], laidByText := true, laidKinds := [.sentinel, .sentinel, .sentinel, .sentinel, .sentinel, .sentinel, .sentinel, .sentinel, .sentinel, .sentinel, .sentinel, .sentinel, .sentinel, .sentinel, .sentinel, .sentinel, .sentinel, .sentinel], laidTests := true, laidLooks := .later }
def MasterNumbersUptoCardSaid : Prop := Claim7.holds Tryd.pinned (.plain (OpenSpec.upto masterNumbersSpec)) masterNumbersUptoCard

/-- THE SECOND FORM's CARD OF 'phoenixlaw3.RecWrong'. -/
def recWrongUptoCard : Claim7 := { stood := { row := recWrongUptoRow, standIns := [], harness := (true, "8b59877d04622a35137a6e07da05432d1b247e57e2a1b2ded553b671a71fae20"), looks := true }, kinds := [], alts := [], laidByText := true, laidKinds := [.sentinel, .sentinel, .sentinel, .sentinel, .sentinel, .sentinel, .sentinel, .sentinel, .sentinel, .sentinel, .sentinel, .sentinel, .sentinel, .sentinel, .sentinel, .sentinel, .sentinel, .sentinel], laidTests := true, laidLooks := .later }
def RecWrongUptoCardSaid : Prop := Claim7.holds Tryd.pinned (.plain (OpenSpec.upto recWrongSpec)) recWrongUptoCard

/-- THE SECOND FORM's CARD OF 'phoenixlaw3.RecUnlike'. -/
def recUnlikeUptoCard : Claim7 := { stood := { row := recUnlikeUptoRow, standIns := [], harness := (true, "8b59877d04622a35137a6e07da05432d1b247e57e2a1b2ded553b671a71fae20"), looks := true }, kinds := [], alts := [], laidByText := true, laidKinds := [.sentinel], laidTests := true, laidLooks := .later }
def RecUnlikeUptoCardSaid : Prop := Claim7.holds Tryd.pinned (.plain (OpenSpec.upto recUnlikeSpec)) recUnlikeUptoCard

/-- THE SECOND FORM's CARD OF 'phoenixlaw3.RecBack'. -/
def recBackUptoCard : Claim7 := { stood := { row := recBackUptoRow, standIns := [], harness := (true, "8b59877d04622a35137a6e07da05432d1b247e57e2a1b2ded553b671a71fae20"), looks := true }, kinds := [], alts := [], laidByText := true, laidKinds := [.sentinel, .sentinel, .sentinel, .sentinel, .sentinel, .sentinel, .sentinel, .sentinel, .sentinel, .sentinel, .sentinel, .sentinel, .sentinel, .sentinel, .sentinel, .sentinel, .sentinel, .sentinel], laidTests := true, laidLooks := .later }
def RecBackUptoCardSaid : Prop := Claim7.holds Tryd.pinned (.plain (OpenSpec.upto recBackSpec)) recBackUptoCard

/-- THE SECOND FORM's CARD OF 'phoenixlaw3.RecZeros'. -/
def recZerosUptoCard : Claim7 := { stood := { row := recZerosUptoRow, standIns := [], harness := (true, "8b59877d04622a35137a6e07da05432d1b247e57e2a1b2ded553b671a71fae20"), looks := true }, kinds := [], alts := [], laidByText := true, laidKinds := [.sentinel, .sentinel, .sentinel], laidTests := true, laidLooks := .later }
def RecZerosUptoCardSaid : Prop := Claim7.holds Tryd.pinned (.plain (OpenSpec.upto recZerosSpec)) recZerosUptoCard

/-- THE SECOND FORM's CARD OF 'phoenixlaw3.RecSays'. -/
def recSaysUptoCard : Claim7 := { stood := { row := recSaysUptoRow, standIns := [], harness := (true, "8b59877d04622a35137a6e07da05432d1b247e57e2a1b2ded553b671a71fae20"), looks := true }, kinds := [], alts := [], laidByText := true, laidKinds := [.sentinel, .sentinel, .sentinel, .sentinel, .sentinel, .sentinel, .sentinel, .sentinel, .sentinel, .sentinel, .sentinel, .sentinel, .sentinel, .sentinel, .sentinel, .sentinel, .sentinel, .sentinel], laidTests := true, laidLooks := .later }
def RecSaysUptoCardSaid : Prop := Claim7.holds Tryd.pinned (.plain (OpenSpec.upto recSaysSpec)) recSaysUptoCard

/-- THE SECOND FORM's CARD OF 'phoenixlaw3.RecNumbers'. -/
def recNumbersUptoCard : Claim7 := { stood := { row := recNumbersUptoRow, standIns := [], harness := (true, "8b59877d04622a35137a6e07da05432d1b247e57e2a1b2ded553b671a71fae20"), looks := true }, kinds := [], alts := [], laidByText := true, laidKinds := [.sentinel, .sentinel, .sentinel], laidTests := true, laidLooks := .later }
def RecNumbersUptoCardSaid : Prop := Claim7.holds Tryd.pinned (.plain (OpenSpec.upto recNumbersSpec)) recNumbersUptoCard
end Rows
end Go.Proofs.YtabpmpaeakebmaaDoor
