/-
  DERIVED. GIVEN WITH THE SEED: THE CARDS: each row of YtjigacanjlppiaaGreatDoorRows.lean that lists a variable, with what it lists TIED to the program's text (the seventh form; the later family's looks); each row that meets fmt, with fmt's text TOLD by the authors' own Lean function (tested against real Go, not proved from fmt's source: count such statements apart). THE CARD IS WHAT COUNTS. Prove the row's statement (the work); the ties are given (YtjigacanjlppiaaGreatDoorTie.lean); close each card by the builder's one call (the guide's Derived/Test/ToyasCard.lean, 'card_holds'). Laid BY PROGRAM, IN A SANDBOX (cutbox-door.mjs). By AI agents, Wed Nov 11 2026. No macro, syntax, notation, axiom, sorry.
-/
import Derived.Test.YtjigacanjlppiaaGreatDoorRows
import GoSem.ClaimSeven
namespace Go.Proofs.YtjigacanjlppiaaGreatDoor
namespace Rows

/-- THE TIED CARD OF 'larderlaw6.TableWords'. -/
def tableWordsCard : Claim7 := { stood := { row := tableWordsRow, standIns := [], harness := (true, "b8ae2bf7243db7956e46e89f20a61fec621107f73a19fb5570f3943edb674345"), looks := false }, kinds := [], alts := [], laidByText := true, laidKinds := [.data, .data], laidTests := true, laidLooks := .later }
def TableWordsCardSaid : Prop := Claim7.holds Tryz.pinned (.plain (OpenSpec.ofChange tableWordsSpec)) tableWordsCard

/-- THE TIED CARD OF 'larderlaw6.TableExact'. -/
def tableExactCard : Claim7 := { stood := { row := tableExactRow, standIns := [], harness := (true, "b8ae2bf7243db7956e46e89f20a61fec621107f73a19fb5570f3943edb674345"), looks := false }, kinds := [], alts := [], laidByText := true, laidKinds := [.data, .data], laidTests := true, laidLooks := .later }
def TableExactCardSaid : Prop := Claim7.holds Tryz.pinned (.plain (OpenSpec.ofChange tableExactSpec)) tableExactCard

/-- THE TIED CARD OF 'larderlaw6.TableFull'. -/
def tableFullCard : Claim7 := { stood := { row := tableFullRow, standIns := [], harness := (true, "b8ae2bf7243db7956e46e89f20a61fec621107f73a19fb5570f3943edb674345"), looks := false }, kinds := [], alts := [], laidByText := true, laidKinds := [.data, .data], laidTests := true, laidLooks := .later }
def TableFullCardSaid : Prop := Claim7.holds Tryz.pinned (.plain (OpenSpec.ofChange tableFullSpec)) tableFullCard

/-- THE TIED CARD OF 'larderlaw6.TableScanned'. -/
def tableScannedCard : Claim7 := { stood := { row := tableScannedRow, standIns := [], harness := (true, "b8ae2bf7243db7956e46e89f20a61fec621107f73a19fb5570f3943edb674345"), looks := false }, kinds := [], alts := [], laidByText := true, laidKinds := [.data, .data], laidTests := true, laidLooks := .later }
def TableScannedCardSaid : Prop := Claim7.holds Tryz.pinned (.plain (OpenSpec.ofChange tableScannedSpec)) tableScannedCard

/-- THE TIED CARD OF 'larderlaw6.TableOrder'. -/
def tableOrderCard : Claim7 := { stood := { row := tableOrderRow, standIns := [], harness := (true, "b8ae2bf7243db7956e46e89f20a61fec621107f73a19fb5570f3943edb674345"), looks := false }, kinds := [], alts := [], laidByText := true, laidKinds := [.data, .data], laidTests := true, laidLooks := .later }
def TableOrderCardSaid : Prop := Claim7.holds Tryz.pinned (.plain (OpenSpec.ofChange tableOrderSpec)) tableOrderCard

/-- THE TIED CARD OF 'larderlaw6.TableLent'. -/
def tableLentCard : Claim7 := { stood := { row := tableLentRow, standIns := [], harness := (true, "b8ae2bf7243db7956e46e89f20a61fec621107f73a19fb5570f3943edb674345"), looks := false }, kinds := [], alts := [], laidByText := true, laidKinds := [.data, .data], laidTests := true, laidLooks := .later }
def TableLentCardSaid : Prop := Claim7.holds Tryz.pinned (.plain (OpenSpec.ofChange tableLentSpec)) tableLentCard

/-- THE TIED CARD OF 'larderlaw6.TableLean'. -/
def tableLeanCard : Claim7 := { stood := { row := tableLeanRow, standIns := [], harness := (true, "b8ae2bf7243db7956e46e89f20a61fec621107f73a19fb5570f3943edb674345"), looks := false }, kinds := [], alts := [], laidByText := true, laidKinds := [.data, .data], laidTests := true, laidLooks := .later }
def TableLeanCardSaid : Prop := Claim7.holds Tryz.pinned (.plain (OpenSpec.ofChange tableLeanSpec)) tableLeanCard

/-- THE TIED CARD OF 'larderlaw6.TableUnseen'. -/
def tableUnseenCard : Claim7 := { stood := { row := tableUnseenRow, standIns := [], harness := (true, "b8ae2bf7243db7956e46e89f20a61fec621107f73a19fb5570f3943edb674345"), looks := false }, kinds := [], alts := [], laidByText := true, laidKinds := [.data, .data], laidTests := true, laidLooks := .later }
def TableUnseenCardSaid : Prop := Claim7.holds Tryz.pinned (.plain (OpenSpec.ofChange tableUnseenSpec)) tableUnseenCard

/-- THE TIED CARD OF 'larderlaw6.TableViews'. -/
def tableViewsCard : Claim7 := { stood := { row := tableViewsRow, standIns := [], harness := (true, "b8ae2bf7243db7956e46e89f20a61fec621107f73a19fb5570f3943edb674345"), looks := false }, kinds := [], alts := [], laidByText := true, laidKinds := [.data, .data], laidTests := true, laidLooks := .later }
def TableViewsCardSaid : Prop := Claim7.holds Tryz.pinned (.plain (OpenSpec.ofChange tableViewsSpec)) tableViewsCard

/-- THE TIED CARD OF 'larderlaw6.TableRanged'. -/
def tableRangedCard : Claim7 := { stood := { row := tableRangedRow, standIns := [], harness := (true, "b8ae2bf7243db7956e46e89f20a61fec621107f73a19fb5570f3943edb674345"), looks := false }, kinds := [], alts := [], laidByText := true, laidKinds := [.data, .data], laidTests := true, laidLooks := .later }
def TableRangedCardSaid : Prop := Claim7.holds Tryz.pinned (.plain (OpenSpec.ofChange tableRangedSpec)) tableRangedCard

/-- THE TIED CARD OF 'larderlaw6.TableOpens'. -/
def tableOpensCard : Claim7 := { stood := { row := tableOpensRow, standIns := [], harness := (true, "b8ae2bf7243db7956e46e89f20a61fec621107f73a19fb5570f3943edb674345"), looks := false }, kinds := [], alts := [], laidByText := true, laidKinds := [.data, .data], laidTests := true, laidLooks := .later }
def TableOpensCardSaid : Prop := Claim7.holds Tryz.pinned (.plain (OpenSpec.ofChange tableOpensSpec)) tableOpensCard

/-- THE TIED CARD OF 'larderlaw6.TablePuts'. -/
def tablePutsCard : Claim7 := { stood := { row := tablePutsRow, standIns := [], harness := (true, "b8ae2bf7243db7956e46e89f20a61fec621107f73a19fb5570f3943edb674345"), looks := false }, kinds := [], alts := [], laidByText := true, laidKinds := [.data, .data], laidTests := true, laidLooks := .later }
def TablePutsCardSaid : Prop := Claim7.holds Tryz.pinned (.plain (OpenSpec.ofChange tablePutsSpec)) tablePutsCard

/-- THE TIED CARD OF 'larderlaw6.TableGets'. -/
def tableGetsCard : Claim7 := { stood := { row := tableGetsRow, standIns := [], harness := (true, "b8ae2bf7243db7956e46e89f20a61fec621107f73a19fb5570f3943edb674345"), looks := false }, kinds := [], alts := [], laidByText := true, laidKinds := [.data, .data], laidTests := true, laidLooks := .later }
def TableGetsCardSaid : Prop := Claim7.holds Tryz.pinned (.plain (OpenSpec.ofChange tableGetsSpec)) tableGetsCard

/-- THE TIED CARD OF 'larderlaw6.TableTells'. -/
def tableTellsCard : Claim7 := { stood := { row := tableTellsRow, standIns := [], harness := (true, "b8ae2bf7243db7956e46e89f20a61fec621107f73a19fb5570f3943edb674345"), looks := false }, kinds := [], alts := [], laidByText := true, laidKinds := [.data, .data], laidTests := true, laidLooks := .later }
def TableTellsCardSaid : Prop := Claim7.holds Tryz.pinned (.plain (OpenSpec.ofChange tableTellsSpec)) tableTellsCard

/-- THE TIED CARD OF 'larderlaw6.TableShapes'. -/
def tableShapesCard : Claim7 := { stood := { row := tableShapesRow, standIns := [], harness := (true, "b8ae2bf7243db7956e46e89f20a61fec621107f73a19fb5570f3943edb674345"), looks := false }, kinds := [], alts := [], laidByText := true, laidKinds := [.data, .data], laidTests := true, laidLooks := .later }
def TableShapesCardSaid : Prop := Claim7.holds Tryz.pinned (.plain (OpenSpec.ofChange tableShapesSpec)) tableShapesCard

/-- THE SECOND FORM's CARD OF 'larderlaw6.TableWords'. -/
def tableWordsUptoCard : Claim7 := { stood := { row := tableWordsUptoRow, standIns := [], harness := (true, "b8ae2bf7243db7956e46e89f20a61fec621107f73a19fb5570f3943edb674345"), looks := false }, kinds := [], alts := [], laidByText := true, laidKinds := [.data, .data], laidTests := true, laidLooks := .later }
def TableWordsUptoCardSaid : Prop := Claim7.holds Tryz.pinned (.plain (OpenSpec.upto tableWordsSpec)) tableWordsUptoCard

/-- THE SECOND FORM's CARD OF 'larderlaw6.TableExact'. -/
def tableExactUptoCard : Claim7 := { stood := { row := tableExactUptoRow, standIns := [], harness := (true, "b8ae2bf7243db7956e46e89f20a61fec621107f73a19fb5570f3943edb674345"), looks := false }, kinds := [], alts := [], laidByText := true, laidKinds := [.data, .data], laidTests := true, laidLooks := .later }
def TableExactUptoCardSaid : Prop := Claim7.holds Tryz.pinned (.plain (OpenSpec.upto tableExactSpec)) tableExactUptoCard

/-- THE SECOND FORM's CARD OF 'larderlaw6.TableFull'. -/
def tableFullUptoCard : Claim7 := { stood := { row := tableFullUptoRow, standIns := [], harness := (true, "b8ae2bf7243db7956e46e89f20a61fec621107f73a19fb5570f3943edb674345"), looks := false }, kinds := [], alts := [], laidByText := true, laidKinds := [.data, .data], laidTests := true, laidLooks := .later }
def TableFullUptoCardSaid : Prop := Claim7.holds Tryz.pinned (.plain (OpenSpec.upto tableFullSpec)) tableFullUptoCard

/-- THE SECOND FORM's CARD OF 'larderlaw6.TableScanned'. -/
def tableScannedUptoCard : Claim7 := { stood := { row := tableScannedUptoRow, standIns := [], harness := (true, "b8ae2bf7243db7956e46e89f20a61fec621107f73a19fb5570f3943edb674345"), looks := false }, kinds := [], alts := [], laidByText := true, laidKinds := [.data, .data], laidTests := true, laidLooks := .later }
def TableScannedUptoCardSaid : Prop := Claim7.holds Tryz.pinned (.plain (OpenSpec.upto tableScannedSpec)) tableScannedUptoCard

/-- THE SECOND FORM's CARD OF 'larderlaw6.TableOrder'. -/
def tableOrderUptoCard : Claim7 := { stood := { row := tableOrderUptoRow, standIns := [], harness := (true, "b8ae2bf7243db7956e46e89f20a61fec621107f73a19fb5570f3943edb674345"), looks := false }, kinds := [], alts := [], laidByText := true, laidKinds := [.data, .data], laidTests := true, laidLooks := .later }
def TableOrderUptoCardSaid : Prop := Claim7.holds Tryz.pinned (.plain (OpenSpec.upto tableOrderSpec)) tableOrderUptoCard

/-- THE SECOND FORM's CARD OF 'larderlaw6.TableLent'. -/
def tableLentUptoCard : Claim7 := { stood := { row := tableLentUptoRow, standIns := [], harness := (true, "b8ae2bf7243db7956e46e89f20a61fec621107f73a19fb5570f3943edb674345"), looks := false }, kinds := [], alts := [], laidByText := true, laidKinds := [.data, .data], laidTests := true, laidLooks := .later }
def TableLentUptoCardSaid : Prop := Claim7.holds Tryz.pinned (.plain (OpenSpec.upto tableLentSpec)) tableLentUptoCard

/-- THE SECOND FORM's CARD OF 'larderlaw6.TableLean'. -/
def tableLeanUptoCard : Claim7 := { stood := { row := tableLeanUptoRow, standIns := [], harness := (true, "b8ae2bf7243db7956e46e89f20a61fec621107f73a19fb5570f3943edb674345"), looks := false }, kinds := [], alts := [], laidByText := true, laidKinds := [.data, .data], laidTests := true, laidLooks := .later }
def TableLeanUptoCardSaid : Prop := Claim7.holds Tryz.pinned (.plain (OpenSpec.upto tableLeanSpec)) tableLeanUptoCard

/-- THE SECOND FORM's CARD OF 'larderlaw6.TableUnseen'. -/
def tableUnseenUptoCard : Claim7 := { stood := { row := tableUnseenUptoRow, standIns := [], harness := (true, "b8ae2bf7243db7956e46e89f20a61fec621107f73a19fb5570f3943edb674345"), looks := false }, kinds := [], alts := [], laidByText := true, laidKinds := [.data, .data], laidTests := true, laidLooks := .later }
def TableUnseenUptoCardSaid : Prop := Claim7.holds Tryz.pinned (.plain (OpenSpec.upto tableUnseenSpec)) tableUnseenUptoCard

/-- THE SECOND FORM's CARD OF 'larderlaw6.TableViews'. -/
def tableViewsUptoCard : Claim7 := { stood := { row := tableViewsUptoRow, standIns := [], harness := (true, "b8ae2bf7243db7956e46e89f20a61fec621107f73a19fb5570f3943edb674345"), looks := false }, kinds := [], alts := [], laidByText := true, laidKinds := [.data, .data], laidTests := true, laidLooks := .later }
def TableViewsUptoCardSaid : Prop := Claim7.holds Tryz.pinned (.plain (OpenSpec.upto tableViewsSpec)) tableViewsUptoCard

/-- THE SECOND FORM's CARD OF 'larderlaw6.TableRanged'. -/
def tableRangedUptoCard : Claim7 := { stood := { row := tableRangedUptoRow, standIns := [], harness := (true, "b8ae2bf7243db7956e46e89f20a61fec621107f73a19fb5570f3943edb674345"), looks := false }, kinds := [], alts := [], laidByText := true, laidKinds := [.data, .data], laidTests := true, laidLooks := .later }
def TableRangedUptoCardSaid : Prop := Claim7.holds Tryz.pinned (.plain (OpenSpec.upto tableRangedSpec)) tableRangedUptoCard

/-- THE SECOND FORM's CARD OF 'larderlaw6.TableOpens'. -/
def tableOpensUptoCard : Claim7 := { stood := { row := tableOpensUptoRow, standIns := [], harness := (true, "b8ae2bf7243db7956e46e89f20a61fec621107f73a19fb5570f3943edb674345"), looks := false }, kinds := [], alts := [], laidByText := true, laidKinds := [.data, .data], laidTests := true, laidLooks := .later }
def TableOpensUptoCardSaid : Prop := Claim7.holds Tryz.pinned (.plain (OpenSpec.upto tableOpensSpec)) tableOpensUptoCard

/-- THE SECOND FORM's CARD OF 'larderlaw6.TablePuts'. -/
def tablePutsUptoCard : Claim7 := { stood := { row := tablePutsUptoRow, standIns := [], harness := (true, "b8ae2bf7243db7956e46e89f20a61fec621107f73a19fb5570f3943edb674345"), looks := false }, kinds := [], alts := [], laidByText := true, laidKinds := [.data, .data], laidTests := true, laidLooks := .later }
def TablePutsUptoCardSaid : Prop := Claim7.holds Tryz.pinned (.plain (OpenSpec.upto tablePutsSpec)) tablePutsUptoCard

/-- THE SECOND FORM's CARD OF 'larderlaw6.TableGets'. -/
def tableGetsUptoCard : Claim7 := { stood := { row := tableGetsUptoRow, standIns := [], harness := (true, "b8ae2bf7243db7956e46e89f20a61fec621107f73a19fb5570f3943edb674345"), looks := false }, kinds := [], alts := [], laidByText := true, laidKinds := [.data, .data], laidTests := true, laidLooks := .later }
def TableGetsUptoCardSaid : Prop := Claim7.holds Tryz.pinned (.plain (OpenSpec.upto tableGetsSpec)) tableGetsUptoCard

/-- THE SECOND FORM's CARD OF 'larderlaw6.TableTells'. -/
def tableTellsUptoCard : Claim7 := { stood := { row := tableTellsUptoRow, standIns := [], harness := (true, "b8ae2bf7243db7956e46e89f20a61fec621107f73a19fb5570f3943edb674345"), looks := false }, kinds := [], alts := [], laidByText := true, laidKinds := [.data, .data], laidTests := true, laidLooks := .later }
def TableTellsUptoCardSaid : Prop := Claim7.holds Tryz.pinned (.plain (OpenSpec.upto tableTellsSpec)) tableTellsUptoCard

/-- THE SECOND FORM's CARD OF 'larderlaw6.TableShapes'. -/
def tableShapesUptoCard : Claim7 := { stood := { row := tableShapesUptoRow, standIns := [], harness := (true, "b8ae2bf7243db7956e46e89f20a61fec621107f73a19fb5570f3943edb674345"), looks := false }, kinds := [], alts := [], laidByText := true, laidKinds := [.data, .data], laidTests := true, laidLooks := .later }
def TableShapesUptoCardSaid : Prop := Claim7.holds Tryz.pinned (.plain (OpenSpec.upto tableShapesSpec)) tableShapesUptoCard
end Rows
end Go.Proofs.YtjigacanjlppiaaGreatDoor
