/-
  DERIVED. GIVEN WITH THE SEED: THE CARDS: each row of YtinenekbdcbcnaaDoorRows.lean that lists a variable, with what it lists TIED to the program's text (the seventh form; the later family's looks); each row that meets fmt, with fmt's text TOLD by the authors' own Lean function (tested against real Go, not proved from fmt's source: count such statements apart). THE CARD IS WHAT COUNTS. Prove the row's statement (the work); the ties are given (YtinenekbdcbcnaaDoorTie.lean); close each card by the builder's one call (the guide's Derived/Test/ToyasCard.lean, 'card_holds'). Laid BY PROGRAM, IN A SANDBOX (cutbox-door.mjs). By AI agents, Wed Nov 11 2026. No macro, syntax, notation, axiom, sorry.
-/
import Derived.Test.YtinenekbdcbcnaaDoorRows
import GoSem.ClaimSeven
namespace Go.Proofs.YtinenekbdcbcnaaDoor
namespace Rows

/-- THE TIED CARD OF 'quaysidelaw02.CrcTells'. -/
def crcTellsCard : Claim7 := { stood := { row := crcTellsRow, standIns := [], harness := (true, "eee3cca0a9c31e319a57e33cf20ee056b00b4b25b74d9a2d951f5c5b5524ff1c"), looks := false }, kinds := [], alts := [], laidByText := true, laidKinds := [.data, .data], laidTests := true, laidLooks := .later }
def CrcTellsCardSaid : Prop := Claim7.holds Tryd.pinned (.plain (OpenSpec.ofChange crcTellsSpec)) crcTellsCard

/-- THE TIED CARD OF 'quaysidelaw02.CrcCuts'. -/
def crcCutsCard : Claim7 := { stood := { row := crcCutsRow, standIns := [], harness := (true, "eee3cca0a9c31e319a57e33cf20ee056b00b4b25b74d9a2d951f5c5b5524ff1c"), looks := false }, kinds := [], alts := [], laidByText := true, laidKinds := [.data, .data], laidTests := true, laidLooks := .later }
def CrcCutsCardSaid : Prop := Claim7.holds Tryd.pinned (.plain (OpenSpec.ofChange crcCutsSpec)) crcCutsCard

/-- THE TIED CARD OF 'quaysidelaw02.CrcLine'. -/
def crcLineCard : Claim7 := { stood := { row := crcLineRow, standIns := [], harness := (true, "eee3cca0a9c31e319a57e33cf20ee056b00b4b25b74d9a2d951f5c5b5524ff1c"), looks := false }, kinds := [], alts := [], laidByText := true, laidKinds := [.data, .data], laidTests := true, laidLooks := .later }
def CrcLineCardSaid : Prop := Claim7.holds Tryd.pinned (.plain (OpenSpec.ofChange crcLineSpec)) crcLineCard

/-- THE TIED CARD OF 'quaysidelaw02.CrcBack'. -/
def crcBackCard : Claim7 := { stood := { row := crcBackRow, standIns := [], harness := (true, "eee3cca0a9c31e319a57e33cf20ee056b00b4b25b74d9a2d951f5c5b5524ff1c"), looks := false }, kinds := [], alts := [], laidByText := true, laidKinds := [.data, .data], laidTests := true, laidLooks := .later }
def CrcBackCardSaid : Prop := Claim7.holds Tryd.pinned (.plain (OpenSpec.ofChange crcBackSpec)) crcBackCard

/-- THE TIED CARD OF 'quaysidelaw02.CrcBits'. -/
def crcBitsCard : Claim7 := { stood := { row := crcBitsRow, standIns := [], harness := (true, "eee3cca0a9c31e319a57e33cf20ee056b00b4b25b74d9a2d951f5c5b5524ff1c"), looks := false }, kinds := [], alts := [], laidByText := true, laidKinds := [.data, .data], laidTests := true, laidLooks := .later }
def CrcBitsCardSaid : Prop := Claim7.holds Tryd.pinned (.plain (OpenSpec.ofChange crcBitsSpec)) crcBitsCard

/-- THE TIED CARD OF 'quaysidelaw02.CrcKnown'. -/
def crcKnownCard : Claim7 := { stood := { row := crcKnownRow, standIns := [], harness := (true, "eee3cca0a9c31e319a57e33cf20ee056b00b4b25b74d9a2d951f5c5b5524ff1c"), looks := false }, kinds := [], alts := [], laidByText := true, laidKinds := [.data, .data], laidTests := true, laidLooks := .later }
def CrcKnownCardSaid : Prop := Claim7.holds Tryd.pinned (.plain (OpenSpec.ofChange crcKnownSpec)) crcKnownCard

/-- THE TIED CARD OF 'quaysidelaw03.FrameWhole'. -/
def frameWholeCard : Claim7 := { stood := { row := frameWholeRow, standIns := [], harness := (true, "eee3cca0a9c31e319a57e33cf20ee056b00b4b25b74d9a2d951f5c5b5524ff1c"), looks := false }, kinds := [], alts := [], laidByText := true, laidKinds := [.data, .data], laidTests := true, laidLooks := .later }
def FrameWholeCardSaid : Prop := Claim7.holds Tryd.pinned (.plain (OpenSpec.ofChange frameWholeSpec)) frameWholeCard

/-- THE TIED CARD OF 'quaysidelaw03.FrameKnown'. -/
def frameKnownCard : Claim7 := { stood := { row := frameKnownRow, standIns := [], harness := (true, "eee3cca0a9c31e319a57e33cf20ee056b00b4b25b74d9a2d951f5c5b5524ff1c"), looks := false }, kinds := [], alts := [], laidByText := true, laidKinds := [.data, .data], laidTests := true, laidLooks := .later }
def FrameKnownCardSaid : Prop := Claim7.holds Tryd.pinned (.plain (OpenSpec.ofChange frameKnownSpec)) frameKnownCard

/-- THE TIED CARD OF 'quaysidelaw03.FramePuts'. -/
def framePutsCard : Claim7 := { stood := { row := framePutsRow, standIns := [], harness := (true, "eee3cca0a9c31e319a57e33cf20ee056b00b4b25b74d9a2d951f5c5b5524ff1c"), looks := false }, kinds := [], alts := [], laidByText := true, laidKinds := [.data, .data], laidTests := true, laidLooks := .later }
def FramePutsCardSaid : Prop := Claim7.holds Tryd.pinned (.plain (OpenSpec.ofChange framePutsSpec)) framePutsCard

/-- THE TIED CARD OF 'quaysidelaw03.FrameBack'. -/
def frameBackCard : Claim7 := { stood := { row := frameBackRow, standIns := [], harness := (true, "eee3cca0a9c31e319a57e33cf20ee056b00b4b25b74d9a2d951f5c5b5524ff1c"), looks := false }, kinds := [], alts := [], laidByText := true, laidKinds := [.data, .data], laidTests := true, laidLooks := .later }
def FrameBackCardSaid : Prop := Claim7.holds Tryd.pinned (.plain (OpenSpec.ofChange frameBackSpec)) frameBackCard

/-- THE TIED CARD OF 'quaysidelaw03.FrameSums'. -/
def frameSumsCard : Claim7 := { stood := { row := frameSumsRow, standIns := [], harness := (true, "eee3cca0a9c31e319a57e33cf20ee056b00b4b25b74d9a2d951f5c5b5524ff1c"), looks := false }, kinds := [], alts := [], laidByText := true, laidKinds := [.data, .data], laidTests := true, laidLooks := .later }
def FrameSumsCardSaid : Prop := Claim7.holds Tryd.pinned (.plain (OpenSpec.ofChange frameSumsSpec)) frameSumsCard

/-- THE TIED CARD OF 'quaysidelaw03.FrameHeads'. -/
def frameHeadsCard : Claim7 := { stood := { row := frameHeadsRow, standIns := [], harness := (true, "eee3cca0a9c31e319a57e33cf20ee056b00b4b25b74d9a2d951f5c5b5524ff1c"), looks := false }, kinds := [], alts := [], laidByText := true, laidKinds := [.data, .data], laidTests := true, laidLooks := .later }
def FrameHeadsCardSaid : Prop := Claim7.holds Tryd.pinned (.plain (OpenSpec.ofChange frameHeadsSpec)) frameHeadsCard

/-- THE TIED CARD OF 'quaysidelaw03.FrameGets'. -/
def frameGetsCard : Claim7 := { stood := { row := frameGetsRow, standIns := [], harness := (true, "eee3cca0a9c31e319a57e33cf20ee056b00b4b25b74d9a2d951f5c5b5524ff1c"), looks := false }, kinds := [], alts := [], laidByText := true, laidKinds := [.data, .data], laidTests := true, laidLooks := .later }
def FrameGetsCardSaid : Prop := Claim7.holds Tryd.pinned (.plain (OpenSpec.ofChange frameGetsSpec)) frameGetsCard

/-- THE SECOND FORM's CARD OF 'quaysidelaw02.CrcTells'. -/
def crcTellsUptoCard : Claim7 := { stood := { row := crcTellsUptoRow, standIns := [], harness := (true, "eee3cca0a9c31e319a57e33cf20ee056b00b4b25b74d9a2d951f5c5b5524ff1c"), looks := false }, kinds := [], alts := [], laidByText := true, laidKinds := [.data, .data], laidTests := true, laidLooks := .later }
def CrcTellsUptoCardSaid : Prop := Claim7.holds Tryd.pinned (.plain (OpenSpec.upto crcTellsSpec)) crcTellsUptoCard

/-- THE SECOND FORM's CARD OF 'quaysidelaw02.CrcCuts'. -/
def crcCutsUptoCard : Claim7 := { stood := { row := crcCutsUptoRow, standIns := [], harness := (true, "eee3cca0a9c31e319a57e33cf20ee056b00b4b25b74d9a2d951f5c5b5524ff1c"), looks := false }, kinds := [], alts := [], laidByText := true, laidKinds := [.data, .data], laidTests := true, laidLooks := .later }
def CrcCutsUptoCardSaid : Prop := Claim7.holds Tryd.pinned (.plain (OpenSpec.upto crcCutsSpec)) crcCutsUptoCard

/-- THE SECOND FORM's CARD OF 'quaysidelaw02.CrcLine'. -/
def crcLineUptoCard : Claim7 := { stood := { row := crcLineUptoRow, standIns := [], harness := (true, "eee3cca0a9c31e319a57e33cf20ee056b00b4b25b74d9a2d951f5c5b5524ff1c"), looks := false }, kinds := [], alts := [], laidByText := true, laidKinds := [.data, .data], laidTests := true, laidLooks := .later }
def CrcLineUptoCardSaid : Prop := Claim7.holds Tryd.pinned (.plain (OpenSpec.upto crcLineSpec)) crcLineUptoCard

/-- THE SECOND FORM's CARD OF 'quaysidelaw02.CrcBack'. -/
def crcBackUptoCard : Claim7 := { stood := { row := crcBackUptoRow, standIns := [], harness := (true, "eee3cca0a9c31e319a57e33cf20ee056b00b4b25b74d9a2d951f5c5b5524ff1c"), looks := false }, kinds := [], alts := [], laidByText := true, laidKinds := [.data, .data], laidTests := true, laidLooks := .later }
def CrcBackUptoCardSaid : Prop := Claim7.holds Tryd.pinned (.plain (OpenSpec.upto crcBackSpec)) crcBackUptoCard

/-- THE SECOND FORM's CARD OF 'quaysidelaw02.CrcBits'. -/
def crcBitsUptoCard : Claim7 := { stood := { row := crcBitsUptoRow, standIns := [], harness := (true, "eee3cca0a9c31e319a57e33cf20ee056b00b4b25b74d9a2d951f5c5b5524ff1c"), looks := false }, kinds := [], alts := [], laidByText := true, laidKinds := [.data, .data], laidTests := true, laidLooks := .later }
def CrcBitsUptoCardSaid : Prop := Claim7.holds Tryd.pinned (.plain (OpenSpec.upto crcBitsSpec)) crcBitsUptoCard

/-- THE SECOND FORM's CARD OF 'quaysidelaw02.CrcKnown'. -/
def crcKnownUptoCard : Claim7 := { stood := { row := crcKnownUptoRow, standIns := [], harness := (true, "eee3cca0a9c31e319a57e33cf20ee056b00b4b25b74d9a2d951f5c5b5524ff1c"), looks := false }, kinds := [], alts := [], laidByText := true, laidKinds := [.data, .data], laidTests := true, laidLooks := .later }
def CrcKnownUptoCardSaid : Prop := Claim7.holds Tryd.pinned (.plain (OpenSpec.upto crcKnownSpec)) crcKnownUptoCard

/-- THE SECOND FORM's CARD OF 'quaysidelaw03.FrameWhole'. -/
def frameWholeUptoCard : Claim7 := { stood := { row := frameWholeUptoRow, standIns := [], harness := (true, "eee3cca0a9c31e319a57e33cf20ee056b00b4b25b74d9a2d951f5c5b5524ff1c"), looks := false }, kinds := [], alts := [], laidByText := true, laidKinds := [.data, .data], laidTests := true, laidLooks := .later }
def FrameWholeUptoCardSaid : Prop := Claim7.holds Tryd.pinned (.plain (OpenSpec.upto frameWholeSpec)) frameWholeUptoCard

/-- THE SECOND FORM's CARD OF 'quaysidelaw03.FrameKnown'. -/
def frameKnownUptoCard : Claim7 := { stood := { row := frameKnownUptoRow, standIns := [], harness := (true, "eee3cca0a9c31e319a57e33cf20ee056b00b4b25b74d9a2d951f5c5b5524ff1c"), looks := false }, kinds := [], alts := [], laidByText := true, laidKinds := [.data, .data], laidTests := true, laidLooks := .later }
def FrameKnownUptoCardSaid : Prop := Claim7.holds Tryd.pinned (.plain (OpenSpec.upto frameKnownSpec)) frameKnownUptoCard

/-- THE SECOND FORM's CARD OF 'quaysidelaw03.FramePuts'. -/
def framePutsUptoCard : Claim7 := { stood := { row := framePutsUptoRow, standIns := [], harness := (true, "eee3cca0a9c31e319a57e33cf20ee056b00b4b25b74d9a2d951f5c5b5524ff1c"), looks := false }, kinds := [], alts := [], laidByText := true, laidKinds := [.data, .data], laidTests := true, laidLooks := .later }
def FramePutsUptoCardSaid : Prop := Claim7.holds Tryd.pinned (.plain (OpenSpec.upto framePutsSpec)) framePutsUptoCard

/-- THE SECOND FORM's CARD OF 'quaysidelaw03.FrameBack'. -/
def frameBackUptoCard : Claim7 := { stood := { row := frameBackUptoRow, standIns := [], harness := (true, "eee3cca0a9c31e319a57e33cf20ee056b00b4b25b74d9a2d951f5c5b5524ff1c"), looks := false }, kinds := [], alts := [], laidByText := true, laidKinds := [.data, .data], laidTests := true, laidLooks := .later }
def FrameBackUptoCardSaid : Prop := Claim7.holds Tryd.pinned (.plain (OpenSpec.upto frameBackSpec)) frameBackUptoCard

/-- THE SECOND FORM's CARD OF 'quaysidelaw03.FrameSums'. -/
def frameSumsUptoCard : Claim7 := { stood := { row := frameSumsUptoRow, standIns := [], harness := (true, "eee3cca0a9c31e319a57e33cf20ee056b00b4b25b74d9a2d951f5c5b5524ff1c"), looks := false }, kinds := [], alts := [], laidByText := true, laidKinds := [.data, .data], laidTests := true, laidLooks := .later }
def FrameSumsUptoCardSaid : Prop := Claim7.holds Tryd.pinned (.plain (OpenSpec.upto frameSumsSpec)) frameSumsUptoCard

/-- THE SECOND FORM's CARD OF 'quaysidelaw03.FrameHeads'. -/
def frameHeadsUptoCard : Claim7 := { stood := { row := frameHeadsUptoRow, standIns := [], harness := (true, "eee3cca0a9c31e319a57e33cf20ee056b00b4b25b74d9a2d951f5c5b5524ff1c"), looks := false }, kinds := [], alts := [], laidByText := true, laidKinds := [.data, .data], laidTests := true, laidLooks := .later }
def FrameHeadsUptoCardSaid : Prop := Claim7.holds Tryd.pinned (.plain (OpenSpec.upto frameHeadsSpec)) frameHeadsUptoCard

/-- THE SECOND FORM's CARD OF 'quaysidelaw03.FrameGets'. -/
def frameGetsUptoCard : Claim7 := { stood := { row := frameGetsUptoRow, standIns := [], harness := (true, "eee3cca0a9c31e319a57e33cf20ee056b00b4b25b74d9a2d951f5c5b5524ff1c"), looks := false }, kinds := [], alts := [], laidByText := true, laidKinds := [.data, .data], laidTests := true, laidLooks := .later }
def FrameGetsUptoCardSaid : Prop := Claim7.holds Tryd.pinned (.plain (OpenSpec.upto frameGetsSpec)) frameGetsUptoCard
end Rows
end Go.Proofs.YtinenekbdcbcnaaDoor
