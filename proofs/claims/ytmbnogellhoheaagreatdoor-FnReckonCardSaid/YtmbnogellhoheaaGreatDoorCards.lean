/-
  DERIVED. GIVEN WITH THE SEED: THE CARDS: each row of YtmbnogellhoheaaGreatDoorRows.lean that lists a variable, with what it lists TIED to the program's text (the seventh form; the later family's looks); each row that meets fmt, with fmt's text TOLD by the authors' own Lean function (tested against real Go, not proved from fmt's source: count such statements apart). THE CARD IS WHAT COUNTS. Prove the row's statement (the work); the ties are given (YtmbnogellhoheaaGreatDoorTie.lean); close each card by the builder's one call (the guide's Derived/Test/ToyasCard.lean, 'card_holds'). Laid BY PROGRAM, IN A SANDBOX (cutbox-door.mjs). By AI agents, Wed Nov 11 2026. No macro, syntax, notation, axiom, sorry.
-/
import Derived.Test.YtmbnogellhoheaaGreatDoorRows
import GoSem.ClaimSeven
namespace Go.Proofs.YtmbnogellhoheaaGreatDoor
namespace Rows

/-- THE TIED CARD OF 'laws.FnFaults'. -/
def fnFaultsCard : Claim7 := { stood := { row := fnFaultsRow, standIns := [], harness := (true, "bd0c5f30bceaac8992a5f74fc60c6595ae700b6c3c7306371b236ef2e58985c4"), looks := true }, kinds := [], alts := [], laidByText := true, laidKinds := [.pinned, .data, .sentinel, .sentinel, .data, .data, .data, .data, .listed], laidTests := true, laidLooks := .later }
def FnFaultsCardSaid : Prop := Claim7.holds Tryz.pinned (.plain (OpenSpec.ofChange fnFaultsSpec)) fnFaultsCard

/-- THE TIED CARD OF 'laws.FnLoop'. -/
def fnLoopCard : Claim7 := { stood := { row := fnLoopRow, standIns := [], harness := (true, "bd0c5f30bceaac8992a5f74fc60c6595ae700b6c3c7306371b236ef2e58985c4"), looks := true }, kinds := [], alts := [], laidByText := true, laidKinds := [.pinned, .data, .sentinel, .sentinel, .data, .data, .data, .data, .listed], laidTests := true, laidLooks := .later }
def FnLoopCardSaid : Prop := Claim7.holds Tryz.pinned (.plain (OpenSpec.ofChange fnLoopSpec)) fnLoopCard

/-- THE TIED CARD OF 'laws.FnConfused'. -/
def fnConfusedCard : Claim7 := { stood := { row := fnConfusedRow, standIns := [], harness := (true, "bd0c5f30bceaac8992a5f74fc60c6595ae700b6c3c7306371b236ef2e58985c4"), looks := true }, kinds := [], alts := [], laidByText := true, laidKinds := [.pinned, .data, .sentinel, .sentinel, .data, .data, .data, .data, .listed], laidTests := true, laidLooks := .later }
def FnConfusedCardSaid : Prop := Claim7.holds Tryz.pinned (.plain (OpenSpec.ofChange fnConfusedSpec)) fnConfusedCard

/-- THE TIED CARD OF 'laws.FnTwoMean'. -/
def fnTwoMeanCard : Claim7 := { stood := { row := fnTwoMeanRow, standIns := [], harness := (true, "bd0c5f30bceaac8992a5f74fc60c6595ae700b6c3c7306371b236ef2e58985c4"), looks := true }, kinds := [], alts := [], laidByText := true, laidKinds := [.pinned, .data, .sentinel, .sentinel, .data, .data, .data, .data, .listed], laidTests := true, laidLooks := .later }
def FnTwoMeanCardSaid : Prop := Claim7.holds Tryz.pinned (.plain (OpenSpec.ofChange fnTwoMeanSpec)) fnTwoMeanCard

/-- THE TIED CARD OF 'laws.FnCast'. -/
def fnCastCard : Claim7 := { stood := { row := fnCastRow, standIns := [], harness := (true, "bd0c5f30bceaac8992a5f74fc60c6595ae700b6c3c7306371b236ef2e58985c4"), looks := true }, kinds := [], alts := [], laidByText := true, laidKinds := [.pinned, .data, .sentinel, .sentinel, .data, .data, .data, .data, .listed], laidTests := true, laidLooks := .later }
def FnCastCardSaid : Prop := Claim7.holds Tryz.pinned (.plain (OpenSpec.ofChange fnCastSpec)) fnCastCard

/-- THE TIED CARD OF 'laws.FnCatch'. -/
def fnCatchCard : Claim7 := { stood := { row := fnCatchRow, standIns := [], harness := (true, "bd0c5f30bceaac8992a5f74fc60c6595ae700b6c3c7306371b236ef2e58985c4"), looks := true }, kinds := [], alts := [], laidByText := true, laidKinds := [.pinned, .data, .sentinel, .sentinel, .data, .data, .data, .data, .listed], laidTests := true, laidLooks := .later }
def FnCatchCardSaid : Prop := Claim7.holds Tryz.pinned (.plain (OpenSpec.ofChange fnCatchSpec)) fnCatchCard

/-- THE TIED CARD OF 'laws.FnFaceOf'. -/
def fnFaceOfCard : Claim7 := { stood := { row := fnFaceOfRow, standIns := [], harness := (true, "bd0c5f30bceaac8992a5f74fc60c6595ae700b6c3c7306371b236ef2e58985c4"), looks := true }, kinds := [], alts := [], laidByText := true, laidKinds := [.pinned, .data, .sentinel, .sentinel, .data, .data, .data, .data, .listed], laidTests := true, laidLooks := .later }
def FnFaceOfCardSaid : Prop := Claim7.holds Tryz.pinned (.plain (OpenSpec.ofChange fnFaceOfSpec)) fnFaceOfCard

/-- THE TIED CARD OF 'laws.FnObject'. -/
def fnObjectCard : Claim7 := { stood := { row := fnObjectRow, standIns := [], harness := (true, "bd0c5f30bceaac8992a5f74fc60c6595ae700b6c3c7306371b236ef2e58985c4"), looks := true }, kinds := [], alts := [], laidByText := true, laidKinds := [.pinned, .data, .sentinel, .sentinel, .data, .data, .data, .data, .listed], laidTests := true, laidLooks := .later }
def FnObjectCardSaid : Prop := Claim7.holds Tryz.pinned (.plain (OpenSpec.ofChange fnObjectSpec)) fnObjectCard

/-- THE TIED CARD OF 'laws.FnOnce'. -/
def fnOnceCard : Claim7 := { stood := { row := fnOnceRow, standIns := [], harness := (true, "bd0c5f30bceaac8992a5f74fc60c6595ae700b6c3c7306371b236ef2e58985c4"), looks := true }, kinds := [], alts := [], laidByText := true, laidKinds := [.pinned, .data, .sentinel, .sentinel, .data, .data, .data, .data, .listed], laidTests := true, laidLooks := .later }
def FnOnceCardSaid : Prop := Claim7.holds Tryz.pinned (.plain (OpenSpec.ofChange fnOnceSpec)) fnOnceCard

/-- THE TIED CARD OF 'laws.FnOver'. -/
def fnOverCard : Claim7 := { stood := { row := fnOverRow, standIns := [], harness := (true, "bd0c5f30bceaac8992a5f74fc60c6595ae700b6c3c7306371b236ef2e58985c4"), looks := true }, kinds := [], alts := [], laidByText := true, laidKinds := [.pinned, .data, .sentinel, .sentinel, .data, .data, .data, .data, .listed], laidTests := true, laidLooks := .later }
def FnOverCardSaid : Prop := Claim7.holds Tryz.pinned (.plain (OpenSpec.ofChange fnOverSpec)) fnOverCard

/-- THE TIED CARD OF 'laws.FnPrivate'. -/
def fnPrivateCard : Claim7 := { stood := { row := fnPrivateRow, standIns := [], harness := (true, "bd0c5f30bceaac8992a5f74fc60c6595ae700b6c3c7306371b236ef2e58985c4"), looks := true }, kinds := [], alts := [], laidByText := true, laidKinds := [.pinned, .data, .sentinel, .sentinel, .data, .data, .data, .data, .listed], laidTests := true, laidLooks := .later }
def FnPrivateCardSaid : Prop := Claim7.holds Tryz.pinned (.plain (OpenSpec.ofChange fnPrivateSpec)) fnPrivateCard

/-- THE TIED CARD OF 'laws.FnReckon'. -/
def fnReckonCard : Claim7 := { stood := { row := fnReckonRow, standIns := [], harness := (true, "bd0c5f30bceaac8992a5f74fc60c6595ae700b6c3c7306371b236ef2e58985c4"), looks := true }, kinds := [], alts := [], laidByText := true, laidKinds := [.pinned, .data, .sentinel, .sentinel, .data, .data, .data, .data, .listed], laidTests := true, laidLooks := .later }
def FnReckonCardSaid : Prop := Claim7.holds Tryz.pinned (.plain (OpenSpec.ofChange fnReckonSpec)) fnReckonCard

/-- THE SECOND FORM's CARD OF 'laws.FnFaults'. -/
def fnFaultsUptoCard : Claim7 := { stood := { row := fnFaultsUptoRow, standIns := [], harness := (true, "bd0c5f30bceaac8992a5f74fc60c6595ae700b6c3c7306371b236ef2e58985c4"), looks := true }, kinds := [], alts := [], laidByText := true, laidKinds := [.pinned, .data, .sentinel, .sentinel, .data, .data, .data, .data, .listed], laidTests := true, laidLooks := .later }
def FnFaultsUptoCardSaid : Prop := Claim7.holds Tryz.pinned (.plain (OpenSpec.upto fnFaultsSpec)) fnFaultsUptoCard

/-- THE SECOND FORM's CARD OF 'laws.FnLoop'. -/
def fnLoopUptoCard : Claim7 := { stood := { row := fnLoopUptoRow, standIns := [], harness := (true, "bd0c5f30bceaac8992a5f74fc60c6595ae700b6c3c7306371b236ef2e58985c4"), looks := true }, kinds := [], alts := [], laidByText := true, laidKinds := [.pinned, .data, .sentinel, .sentinel, .data, .data, .data, .data, .listed], laidTests := true, laidLooks := .later }
def FnLoopUptoCardSaid : Prop := Claim7.holds Tryz.pinned (.plain (OpenSpec.upto fnLoopSpec)) fnLoopUptoCard

/-- THE SECOND FORM's CARD OF 'laws.FnConfused'. -/
def fnConfusedUptoCard : Claim7 := { stood := { row := fnConfusedUptoRow, standIns := [], harness := (true, "bd0c5f30bceaac8992a5f74fc60c6595ae700b6c3c7306371b236ef2e58985c4"), looks := true }, kinds := [], alts := [], laidByText := true, laidKinds := [.pinned, .data, .sentinel, .sentinel, .data, .data, .data, .data, .listed], laidTests := true, laidLooks := .later }
def FnConfusedUptoCardSaid : Prop := Claim7.holds Tryz.pinned (.plain (OpenSpec.upto fnConfusedSpec)) fnConfusedUptoCard

/-- THE SECOND FORM's CARD OF 'laws.FnTwoMean'. -/
def fnTwoMeanUptoCard : Claim7 := { stood := { row := fnTwoMeanUptoRow, standIns := [], harness := (true, "bd0c5f30bceaac8992a5f74fc60c6595ae700b6c3c7306371b236ef2e58985c4"), looks := true }, kinds := [], alts := [], laidByText := true, laidKinds := [.pinned, .data, .sentinel, .sentinel, .data, .data, .data, .data, .listed], laidTests := true, laidLooks := .later }
def FnTwoMeanUptoCardSaid : Prop := Claim7.holds Tryz.pinned (.plain (OpenSpec.upto fnTwoMeanSpec)) fnTwoMeanUptoCard

/-- THE SECOND FORM's CARD OF 'laws.FnCast'. -/
def fnCastUptoCard : Claim7 := { stood := { row := fnCastUptoRow, standIns := [], harness := (true, "bd0c5f30bceaac8992a5f74fc60c6595ae700b6c3c7306371b236ef2e58985c4"), looks := true }, kinds := [], alts := [], laidByText := true, laidKinds := [.pinned, .data, .sentinel, .sentinel, .data, .data, .data, .data, .listed], laidTests := true, laidLooks := .later }
def FnCastUptoCardSaid : Prop := Claim7.holds Tryz.pinned (.plain (OpenSpec.upto fnCastSpec)) fnCastUptoCard

/-- THE SECOND FORM's CARD OF 'laws.FnCatch'. -/
def fnCatchUptoCard : Claim7 := { stood := { row := fnCatchUptoRow, standIns := [], harness := (true, "bd0c5f30bceaac8992a5f74fc60c6595ae700b6c3c7306371b236ef2e58985c4"), looks := true }, kinds := [], alts := [], laidByText := true, laidKinds := [.pinned, .data, .sentinel, .sentinel, .data, .data, .data, .data, .listed], laidTests := true, laidLooks := .later }
def FnCatchUptoCardSaid : Prop := Claim7.holds Tryz.pinned (.plain (OpenSpec.upto fnCatchSpec)) fnCatchUptoCard

/-- THE SECOND FORM's CARD OF 'laws.FnFaceOf'. -/
def fnFaceOfUptoCard : Claim7 := { stood := { row := fnFaceOfUptoRow, standIns := [], harness := (true, "bd0c5f30bceaac8992a5f74fc60c6595ae700b6c3c7306371b236ef2e58985c4"), looks := true }, kinds := [], alts := [], laidByText := true, laidKinds := [.pinned, .data, .sentinel, .sentinel, .data, .data, .data, .data, .listed], laidTests := true, laidLooks := .later }
def FnFaceOfUptoCardSaid : Prop := Claim7.holds Tryz.pinned (.plain (OpenSpec.upto fnFaceOfSpec)) fnFaceOfUptoCard

/-- THE SECOND FORM's CARD OF 'laws.FnObject'. -/
def fnObjectUptoCard : Claim7 := { stood := { row := fnObjectUptoRow, standIns := [], harness := (true, "bd0c5f30bceaac8992a5f74fc60c6595ae700b6c3c7306371b236ef2e58985c4"), looks := true }, kinds := [], alts := [], laidByText := true, laidKinds := [.pinned, .data, .sentinel, .sentinel, .data, .data, .data, .data, .listed], laidTests := true, laidLooks := .later }
def FnObjectUptoCardSaid : Prop := Claim7.holds Tryz.pinned (.plain (OpenSpec.upto fnObjectSpec)) fnObjectUptoCard

/-- THE SECOND FORM's CARD OF 'laws.FnOnce'. -/
def fnOnceUptoCard : Claim7 := { stood := { row := fnOnceUptoRow, standIns := [], harness := (true, "bd0c5f30bceaac8992a5f74fc60c6595ae700b6c3c7306371b236ef2e58985c4"), looks := true }, kinds := [], alts := [], laidByText := true, laidKinds := [.pinned, .data, .sentinel, .sentinel, .data, .data, .data, .data, .listed], laidTests := true, laidLooks := .later }
def FnOnceUptoCardSaid : Prop := Claim7.holds Tryz.pinned (.plain (OpenSpec.upto fnOnceSpec)) fnOnceUptoCard

/-- THE SECOND FORM's CARD OF 'laws.FnOver'. -/
def fnOverUptoCard : Claim7 := { stood := { row := fnOverUptoRow, standIns := [], harness := (true, "bd0c5f30bceaac8992a5f74fc60c6595ae700b6c3c7306371b236ef2e58985c4"), looks := true }, kinds := [], alts := [], laidByText := true, laidKinds := [.pinned, .data, .sentinel, .sentinel, .data, .data, .data, .data, .listed], laidTests := true, laidLooks := .later }
def FnOverUptoCardSaid : Prop := Claim7.holds Tryz.pinned (.plain (OpenSpec.upto fnOverSpec)) fnOverUptoCard

/-- THE SECOND FORM's CARD OF 'laws.FnPrivate'. -/
def fnPrivateUptoCard : Claim7 := { stood := { row := fnPrivateUptoRow, standIns := [], harness := (true, "bd0c5f30bceaac8992a5f74fc60c6595ae700b6c3c7306371b236ef2e58985c4"), looks := true }, kinds := [], alts := [], laidByText := true, laidKinds := [.pinned, .data, .sentinel, .sentinel, .data, .data, .data, .data, .listed], laidTests := true, laidLooks := .later }
def FnPrivateUptoCardSaid : Prop := Claim7.holds Tryz.pinned (.plain (OpenSpec.upto fnPrivateSpec)) fnPrivateUptoCard

/-- THE SECOND FORM's CARD OF 'laws.FnReckon'. -/
def fnReckonUptoCard : Claim7 := { stood := { row := fnReckonUptoRow, standIns := [], harness := (true, "bd0c5f30bceaac8992a5f74fc60c6595ae700b6c3c7306371b236ef2e58985c4"), looks := true }, kinds := [], alts := [], laidByText := true, laidKinds := [.pinned, .data, .sentinel, .sentinel, .data, .data, .data, .data, .listed], laidTests := true, laidLooks := .later }
def FnReckonUptoCardSaid : Prop := Claim7.holds Tryz.pinned (.plain (OpenSpec.upto fnReckonSpec)) fnReckonUptoCard
end Rows
end Go.Proofs.YtmbnogellhoheaaGreatDoor
