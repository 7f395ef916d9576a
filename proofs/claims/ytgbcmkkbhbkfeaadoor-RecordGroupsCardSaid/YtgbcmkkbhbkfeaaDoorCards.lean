/-
  DERIVED. GIVEN WITH THE SEED: THE CARDS: each row of YtgbcmkkbhbkfeaaDoorRows.lean that lists a variable, with what it lists TIED to the program's text (the seventh form; the later family's looks); each row that meets fmt, with fmt's text TOLD by the authors' own Lean function (tested against real Go, not proved from fmt's source: count such statements apart). THE CARD IS WHAT COUNTS. Prove the row's statement (the work); the ties are given (YtgbcmkkbhbkfeaaDoorTie.lean); close each card by the builder's one call (the guide's Derived/Test/ToyasCard.lean, 'card_holds'). Laid BY PROGRAM, IN A SANDBOX (cutbox-door.mjs). By AI agents, Wed Nov 11 2026. No macro, syntax, notation, axiom, sorry.
-/
import Derived.Test.YtgbcmkkbhbkfeaaDoorRows
import GoSem.ClaimSeven
namespace Go.Proofs.YtgbcmkkbhbkfeaaDoor
namespace Rows

/-- THE TIED CARD OF 'thatchlaw09.RecordCodes'. -/
def recordCodesCard : Claim7 := { stood := { row := recordCodesRow, standIns := [], harness := (true, "62e831cb14ad68ea0977c642a736a480d5f4bf83bfda6d7fe436fb6884418bb9"), looks := false }, kinds := [], alts := [], laidByText := true, laidKinds := [.data], laidTests := true, laidLooks := .later }
def RecordCodesCardSaid : Prop := Claim7.holds Tryd.pinned (.plain (OpenSpec.ofChange recordCodesSpec)) recordCodesCard

/-- THE TIED CARD OF 'thatchlaw09.RecordReads'. -/
def recordReadsCard : Claim7 := { stood := { row := recordReadsRow, standIns := [], harness := (true, "62e831cb14ad68ea0977c642a736a480d5f4bf83bfda6d7fe436fb6884418bb9"), looks := false }, kinds := [], alts := [], laidByText := true, laidKinds := [.data], laidTests := true, laidLooks := .later }
def RecordReadsCardSaid : Prop := Claim7.holds Tryd.pinned (.plain (OpenSpec.ofChange recordReadsSpec)) recordReadsCard

/-- THE TIED CARD OF 'thatchlaw09.RecordDeltas'. -/
def recordDeltasCard : Claim7 := { stood := { row := recordDeltasRow, standIns := [], harness := (true, "62e831cb14ad68ea0977c642a736a480d5f4bf83bfda6d7fe436fb6884418bb9"), looks := false }, kinds := [], alts := [], laidByText := true, laidKinds := [.data], laidTests := true, laidLooks := .later }
def RecordDeltasCardSaid : Prop := Claim7.holds Tryd.pinned (.plain (OpenSpec.ofChange recordDeltasSpec)) recordDeltasCard

/-- THE TIED CARD OF 'thatchlaw09.RecordGroups'. -/
def recordGroupsCard : Claim7 := { stood := { row := recordGroupsRow, standIns := [], harness := (true, "62e831cb14ad68ea0977c642a736a480d5f4bf83bfda6d7fe436fb6884418bb9"), looks := false }, kinds := [], alts := [], laidByText := true, laidKinds := [.data], laidTests := true, laidLooks := .later }
def RecordGroupsCardSaid : Prop := Claim7.holds Tryd.pinned (.plain (OpenSpec.ofChange recordGroupsSpec)) recordGroupsCard

/-- THE TIED CARD OF 'thatchlaw09.RecordNeeds'. -/
def recordNeedsCard : Claim7 := { stood := { row := recordNeedsRow, standIns := [], harness := (true, "62e831cb14ad68ea0977c642a736a480d5f4bf83bfda6d7fe436fb6884418bb9"), looks := false }, kinds := [], alts := [], laidByText := true, laidKinds := [.data], laidTests := true, laidLooks := .later }
def RecordNeedsCardSaid : Prop := Claim7.holds Tryd.pinned (.plain (OpenSpec.ofChange recordNeedsSpec)) recordNeedsCard

/-- THE SECOND FORM's CARD OF 'thatchlaw09.RecordCodes'. -/
def recordCodesUptoCard : Claim7 := { stood := { row := recordCodesUptoRow, standIns := [], harness := (true, "62e831cb14ad68ea0977c642a736a480d5f4bf83bfda6d7fe436fb6884418bb9"), looks := false }, kinds := [], alts := [], laidByText := true, laidKinds := [.data], laidTests := true, laidLooks := .later }
def RecordCodesUptoCardSaid : Prop := Claim7.holds Tryd.pinned (.plain (OpenSpec.upto recordCodesSpec)) recordCodesUptoCard

/-- THE SECOND FORM's CARD OF 'thatchlaw09.RecordReads'. -/
def recordReadsUptoCard : Claim7 := { stood := { row := recordReadsUptoRow, standIns := [], harness := (true, "62e831cb14ad68ea0977c642a736a480d5f4bf83bfda6d7fe436fb6884418bb9"), looks := false }, kinds := [], alts := [], laidByText := true, laidKinds := [.data], laidTests := true, laidLooks := .later }
def RecordReadsUptoCardSaid : Prop := Claim7.holds Tryd.pinned (.plain (OpenSpec.upto recordReadsSpec)) recordReadsUptoCard

/-- THE SECOND FORM's CARD OF 'thatchlaw09.RecordDeltas'. -/
def recordDeltasUptoCard : Claim7 := { stood := { row := recordDeltasUptoRow, standIns := [], harness := (true, "62e831cb14ad68ea0977c642a736a480d5f4bf83bfda6d7fe436fb6884418bb9"), looks := false }, kinds := [], alts := [], laidByText := true, laidKinds := [.data], laidTests := true, laidLooks := .later }
def RecordDeltasUptoCardSaid : Prop := Claim7.holds Tryd.pinned (.plain (OpenSpec.upto recordDeltasSpec)) recordDeltasUptoCard

/-- THE SECOND FORM's CARD OF 'thatchlaw09.RecordGroups'. -/
def recordGroupsUptoCard : Claim7 := { stood := { row := recordGroupsUptoRow, standIns := [], harness := (true, "62e831cb14ad68ea0977c642a736a480d5f4bf83bfda6d7fe436fb6884418bb9"), looks := false }, kinds := [], alts := [], laidByText := true, laidKinds := [.data], laidTests := true, laidLooks := .later }
def RecordGroupsUptoCardSaid : Prop := Claim7.holds Tryd.pinned (.plain (OpenSpec.upto recordGroupsSpec)) recordGroupsUptoCard

/-- THE SECOND FORM's CARD OF 'thatchlaw09.RecordNeeds'. -/
def recordNeedsUptoCard : Claim7 := { stood := { row := recordNeedsUptoRow, standIns := [], harness := (true, "62e831cb14ad68ea0977c642a736a480d5f4bf83bfda6d7fe436fb6884418bb9"), looks := false }, kinds := [], alts := [], laidByText := true, laidKinds := [.data], laidTests := true, laidLooks := .later }
def RecordNeedsUptoCardSaid : Prop := Claim7.holds Tryd.pinned (.plain (OpenSpec.upto recordNeedsSpec)) recordNeedsUptoCard
end Rows
end Go.Proofs.YtgbcmkkbhbkfeaaDoor
