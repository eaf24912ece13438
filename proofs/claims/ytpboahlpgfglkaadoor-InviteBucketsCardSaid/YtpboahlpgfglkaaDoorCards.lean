/-
  DERIVED. GIVEN WITH THE SEED: THE CARDS: each row of YtpboahlpgfglkaaDoorRows.lean that lists a variable, with what it lists TIED to the program's text (the seventh form; the later family's looks); each row that meets fmt, with fmt's text TOLD by the authors' own Lean function (tested against real Go, not proved from fmt's source: count such statements apart). THE CARD IS WHAT COUNTS. Prove the row's statement (the work); the ties are given (YtpboahlpgfglkaaDoorTie.lean); close each card by the builder's one call (the guide's Derived/Test/ToyasCard.lean, 'card_holds'). Laid BY PROGRAM, IN A SANDBOX (cutbox-door.mjs). By AI agents, Wed Nov 11 2026. No macro, syntax, notation, axiom, sorry.
-/
import Derived.Test.YtpboahlpgfglkaaDoorRows
import GoSem.ClaimSeven
namespace Go.Proofs.YtpboahlpgfglkaaDoor
namespace Rows

/-- THE TIED CARD OF 'trystlaw22.InviteBuckets'. -/
def inviteBucketsCard : Claim7 := { stood := { row := inviteBucketsRow, standIns := [], harness := (true, "feeab480f2187ecc624aa1478888e5fe5082051f31e5054d4c277ee4395b4627"), looks := true }, kinds := [], alts := [], laidByText := true, laidKinds := [.data, .data], laidTests := true, laidLooks := .later }
def InviteBucketsCardSaid : Prop := Claim7.holds Tryd.pinned (.plain (OpenSpec.ofChange inviteBucketsSpec)) inviteBucketsCard

/-- THE TIED CARD OF 'trystlaw20.CodecTalks'. -/
def codecTalksCard : Claim7 := { stood := { row := codecTalksRow, standIns := [], harness := (true, "feeab480f2187ecc624aa1478888e5fe5082051f31e5054d4c277ee4395b4627"), looks := true }, kinds := [], alts := [], laidByText := true, laidKinds := [.handle], laidTests := true, laidLooks := .later }
def CodecTalksCardSaid : Prop := Claim7.holds Tryd.pinned (.plain (OpenSpec.ofChange codecTalksSpec)) codecTalksCard

/-- THE TIED CARD OF 'trystlaw20.CodecFrames'. -/
def codecFramesCard : Claim7 := { stood := { row := codecFramesRow, standIns := [], harness := (true, "feeab480f2187ecc624aa1478888e5fe5082051f31e5054d4c277ee4395b4627"), looks := true }, kinds := [], alts := [], laidByText := true, laidKinds := [.handle], laidTests := true, laidLooks := .later }
def CodecFramesCardSaid : Prop := Claim7.holds Tryd.pinned (.plain (OpenSpec.ofChange codecFramesSpec)) codecFramesCard

/-- THE TIED CARD OF 'trystlaw20.CodecDials'. -/
def codecDialsCard : Claim7 := { stood := { row := codecDialsRow, standIns := [], harness := (true, "feeab480f2187ecc624aa1478888e5fe5082051f31e5054d4c277ee4395b4627"), looks := true }, kinds := [], alts := [], laidByText := true, laidKinds := [.handle], laidTests := true, laidLooks := .later }
def CodecDialsCardSaid : Prop := Claim7.holds Tryd.pinned (.plain (OpenSpec.ofChange codecDialsSpec)) codecDialsCard

/-- THE TIED CARD OF 'trystlaw20.CodecSizes'. -/
def codecSizesCard : Claim7 := { stood := { row := codecSizesRow, standIns := [], harness := (true, "feeab480f2187ecc624aa1478888e5fe5082051f31e5054d4c277ee4395b4627"), looks := true }, kinds := [], alts := [], laidByText := true, laidKinds := [.handle], laidTests := true, laidLooks := .later }
def CodecSizesCardSaid : Prop := Claim7.holds Tryd.pinned (.plain (OpenSpec.ofChange codecSizesSpec)) codecSizesCard

/-- THE TIED CARD OF 'trystlaw20.CodecPages'. -/
def codecPagesCard : Claim7 := { stood := { row := codecPagesRow, standIns := [], harness := (true, "feeab480f2187ecc624aa1478888e5fe5082051f31e5054d4c277ee4395b4627"), looks := true }, kinds := [], alts := [], laidByText := true, laidKinds := [.handle], laidTests := true, laidLooks := .later }
def CodecPagesCardSaid : Prop := Claim7.holds Tryd.pinned (.plain (OpenSpec.ofChange codecPagesSpec)) codecPagesCard

/-- THE TIED CARD OF 'trystlaw20.CodecNames'. -/
def codecNamesCard : Claim7 := { stood := { row := codecNamesRow, standIns := [], harness := (true, "feeab480f2187ecc624aa1478888e5fe5082051f31e5054d4c277ee4395b4627"), looks := true }, kinds := [], alts := [], laidByText := true, laidKinds := [.handle], laidTests := true, laidLooks := .later }
def CodecNamesCardSaid : Prop := Claim7.holds Tryd.pinned (.plain (OpenSpec.ofChange codecNamesSpec)) codecNamesCard

/-- THE TIED CARD OF 'trystlaw20.CodecFramed'. -/
def codecFramedCard : Claim7 := { stood := { row := codecFramedRow, standIns := [], harness := (true, "feeab480f2187ecc624aa1478888e5fe5082051f31e5054d4c277ee4395b4627"), looks := true }, kinds := [], alts := [], laidByText := true, laidKinds := [.handle], laidTests := true, laidLooks := .later }
def CodecFramedCardSaid : Prop := Claim7.holds Tryd.pinned (.plain (OpenSpec.ofChange codecFramedSpec)) codecFramedCard

/-- THE TIED CARD OF 'trystlaw20.CodecBack'. -/
def codecBackCard : Claim7 := { stood := { row := codecBackRow, standIns := [], harness := (true, "feeab480f2187ecc624aa1478888e5fe5082051f31e5054d4c277ee4395b4627"), looks := true }, kinds := [], alts := [], laidByText := true, laidKinds := [.handle], laidTests := true, laidLooks := .later }
def CodecBackCardSaid : Prop := Claim7.holds Tryd.pinned (.plain (OpenSpec.ofChange codecBackSpec)) codecBackCard

/-- THE TIED CARD OF 'trystlaw20.CodecOnce'. -/
def codecOnceCard : Claim7 := { stood := { row := codecOnceRow, standIns := [], harness := (true, "feeab480f2187ecc624aa1478888e5fe5082051f31e5054d4c277ee4395b4627"), looks := true }, kinds := [], alts := [], laidByText := true, laidKinds := [.handle], laidTests := true, laidLooks := .later }
def CodecOnceCardSaid : Prop := Claim7.holds Tryd.pinned (.plain (OpenSpec.ofChange codecOnceSpec)) codecOnceCard

/-- THE SECOND FORM's CARD OF 'trystlaw22.InviteBuckets'. -/
def inviteBucketsUptoCard : Claim7 := { stood := { row := inviteBucketsUptoRow, standIns := [], harness := (true, "feeab480f2187ecc624aa1478888e5fe5082051f31e5054d4c277ee4395b4627"), looks := true }, kinds := [], alts := [], laidByText := true, laidKinds := [.data, .data], laidTests := true, laidLooks := .later }
def InviteBucketsUptoCardSaid : Prop := Claim7.holds Tryd.pinned (.plain (OpenSpec.upto inviteBucketsSpec)) inviteBucketsUptoCard

/-- THE SECOND FORM's CARD OF 'trystlaw20.CodecTalks'. -/
def codecTalksUptoCard : Claim7 := { stood := { row := codecTalksUptoRow, standIns := [], harness := (true, "feeab480f2187ecc624aa1478888e5fe5082051f31e5054d4c277ee4395b4627"), looks := true }, kinds := [], alts := [], laidByText := true, laidKinds := [.handle], laidTests := true, laidLooks := .later }
def CodecTalksUptoCardSaid : Prop := Claim7.holds Tryd.pinned (.plain (OpenSpec.upto codecTalksSpec)) codecTalksUptoCard

/-- THE SECOND FORM's CARD OF 'trystlaw20.CodecFrames'. -/
def codecFramesUptoCard : Claim7 := { stood := { row := codecFramesUptoRow, standIns := [], harness := (true, "feeab480f2187ecc624aa1478888e5fe5082051f31e5054d4c277ee4395b4627"), looks := true }, kinds := [], alts := [], laidByText := true, laidKinds := [.handle], laidTests := true, laidLooks := .later }
def CodecFramesUptoCardSaid : Prop := Claim7.holds Tryd.pinned (.plain (OpenSpec.upto codecFramesSpec)) codecFramesUptoCard

/-- THE SECOND FORM's CARD OF 'trystlaw20.CodecDials'. -/
def codecDialsUptoCard : Claim7 := { stood := { row := codecDialsUptoRow, standIns := [], harness := (true, "feeab480f2187ecc624aa1478888e5fe5082051f31e5054d4c277ee4395b4627"), looks := true }, kinds := [], alts := [], laidByText := true, laidKinds := [.handle], laidTests := true, laidLooks := .later }
def CodecDialsUptoCardSaid : Prop := Claim7.holds Tryd.pinned (.plain (OpenSpec.upto codecDialsSpec)) codecDialsUptoCard

/-- THE SECOND FORM's CARD OF 'trystlaw20.CodecSizes'. -/
def codecSizesUptoCard : Claim7 := { stood := { row := codecSizesUptoRow, standIns := [], harness := (true, "feeab480f2187ecc624aa1478888e5fe5082051f31e5054d4c277ee4395b4627"), looks := true }, kinds := [], alts := [], laidByText := true, laidKinds := [.handle], laidTests := true, laidLooks := .later }
def CodecSizesUptoCardSaid : Prop := Claim7.holds Tryd.pinned (.plain (OpenSpec.upto codecSizesSpec)) codecSizesUptoCard

/-- THE SECOND FORM's CARD OF 'trystlaw20.CodecPages'. -/
def codecPagesUptoCard : Claim7 := { stood := { row := codecPagesUptoRow, standIns := [], harness := (true, "feeab480f2187ecc624aa1478888e5fe5082051f31e5054d4c277ee4395b4627"), looks := true }, kinds := [], alts := [], laidByText := true, laidKinds := [.handle], laidTests := true, laidLooks := .later }
def CodecPagesUptoCardSaid : Prop := Claim7.holds Tryd.pinned (.plain (OpenSpec.upto codecPagesSpec)) codecPagesUptoCard

/-- THE SECOND FORM's CARD OF 'trystlaw20.CodecNames'. -/
def codecNamesUptoCard : Claim7 := { stood := { row := codecNamesUptoRow, standIns := [], harness := (true, "feeab480f2187ecc624aa1478888e5fe5082051f31e5054d4c277ee4395b4627"), looks := true }, kinds := [], alts := [], laidByText := true, laidKinds := [.handle], laidTests := true, laidLooks := .later }
def CodecNamesUptoCardSaid : Prop := Claim7.holds Tryd.pinned (.plain (OpenSpec.upto codecNamesSpec)) codecNamesUptoCard

/-- THE SECOND FORM's CARD OF 'trystlaw20.CodecFramed'. -/
def codecFramedUptoCard : Claim7 := { stood := { row := codecFramedUptoRow, standIns := [], harness := (true, "feeab480f2187ecc624aa1478888e5fe5082051f31e5054d4c277ee4395b4627"), looks := true }, kinds := [], alts := [], laidByText := true, laidKinds := [.handle], laidTests := true, laidLooks := .later }
def CodecFramedUptoCardSaid : Prop := Claim7.holds Tryd.pinned (.plain (OpenSpec.upto codecFramedSpec)) codecFramedUptoCard

/-- THE SECOND FORM's CARD OF 'trystlaw20.CodecBack'. -/
def codecBackUptoCard : Claim7 := { stood := { row := codecBackUptoRow, standIns := [], harness := (true, "feeab480f2187ecc624aa1478888e5fe5082051f31e5054d4c277ee4395b4627"), looks := true }, kinds := [], alts := [], laidByText := true, laidKinds := [.handle], laidTests := true, laidLooks := .later }
def CodecBackUptoCardSaid : Prop := Claim7.holds Tryd.pinned (.plain (OpenSpec.upto codecBackSpec)) codecBackUptoCard

/-- THE SECOND FORM's CARD OF 'trystlaw20.CodecOnce'. -/
def codecOnceUptoCard : Claim7 := { stood := { row := codecOnceUptoRow, standIns := [], harness := (true, "feeab480f2187ecc624aa1478888e5fe5082051f31e5054d4c277ee4395b4627"), looks := true }, kinds := [], alts := [], laidByText := true, laidKinds := [.handle], laidTests := true, laidLooks := .later }
def CodecOnceUptoCardSaid : Prop := Claim7.holds Tryd.pinned (.plain (OpenSpec.upto codecOnceSpec)) codecOnceUptoCard
end Rows
end Go.Proofs.YtpboahlpgfglkaaDoor
