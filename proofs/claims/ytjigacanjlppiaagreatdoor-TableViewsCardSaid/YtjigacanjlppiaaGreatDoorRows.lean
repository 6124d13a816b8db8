/-
  NARROWER THAN 'FOR EVERY INPUT', by the rows' own cells (each row's printed sentence says how): TableWords: laid · TableExact: laid · TableFull: laid · TableScanned: laid · TableOrder: laid · TableLent: laid · TableLean: laid · TableUnseen: laid · TableViews: laid · TableRanged: laid · TableOpens: laid · TablePuts: laid · TableGets: laid · TableTells: laid · TableShapes: laid.
  DERIVED. THE GIVEN ROWS OF THIS SEAT. 15 by the template 'for every input the law returns true; each argument reads behind the call as it read before'; 0 by the template 'total and deterministic' (their statements: YtjigacanjlppiaaGreatDoorTotals.lean).
  GIVEN WITH THE SEED: the statements are not yours to turn. If you find one false, say at which input.
  Laid BY PROGRAM, IN A SANDBOX (cutbox-rows.mjs): the forced cells as the released guide's own fill.sh prints them over the translation 7db565f4110920d3… (all of the seat's roots in one cut). By AI agents, Wed Nov 11 2026. No macro, syntax, notation, axiom, sorry.
-/
import Derived.Test.YtjigacanjlppiaaGreatDoorChecked
import GoSem.Claim
import GoSem.ClaimJoined
import GoSem.ClaimMapViews
import Derived.JoinedTies
import Derived.KernelRfl
namespace Go.Proofs.YtjigacanjlppiaaGreatDoor
/- THE CELL 'sum', in the pinned program and in every row, IS THE sha256 OF THE DUMP (.gsa) THAT YtjigacanjlppiaaGreatDoorProg.lean LOADS. Nothing in Lean hashes anything: it is a label: what it is worth is what the hold of that sum in a sandbox is worth. -/
noncomputable def Tryz.pinned : Pinned := { name := "ytjigacanjlppiaagreatdoor", sum := "7db565f4110920d36c22c418b9dd3d543451117140ee4cab7f4be1b60283aded", checked := Tryz.checked }
namespace Rows
def none {H : Type} : Left H := { results := [], args := [] }

/- WHAT THE LISTED PACKAGE-LEVEL VARIABLES READ AS WHEN THE CALL BEGINS. Each datum BY PROGRAM (the guide's laid-datum.mjs) off the statement by which the dump's own 'gosem.cut.vars' lays the variable. In a bare row this is a premise. The card (YtjigacanjlppiaaGreatDoorCards.lean) ties it to the program's text. -/
def laid_math_bits_deBruijn32tab {H : Type} : DataW H := .agg [.lit (.int .u8 0), .lit (.int .u8 1), .lit (.int .u8 28), .lit (.int .u8 2), .lit (.int .u8 29), .lit (.int .u8 14), .lit (.int .u8 24), .lit (.int .u8 3), .lit (.int .u8 30), .lit (.int .u8 22), .lit (.int .u8 20), .lit (.int .u8 15), .lit (.int .u8 25), .lit (.int .u8 17), .lit (.int .u8 4), .lit (.int .u8 8), .lit (.int .u8 31), .lit (.int .u8 27), .lit (.int .u8 13), .lit (.int .u8 23), .lit (.int .u8 21), .lit (.int .u8 19), .lit (.int .u8 16), .lit (.int .u8 7), .lit (.int .u8 26), .lit (.int .u8 12), .lit (.int .u8 18), .lit (.int .u8 6), .lit (.int .u8 11), .lit (.int .u8 5), .lit (.int .u8 10), .lit (.int .u8 9)]
def laid_math_bits_deBruijn64tab {H : Type} : DataW H := .agg [.lit (.int .u8 0), .lit (.int .u8 1), .lit (.int .u8 56), .lit (.int .u8 2), .lit (.int .u8 57), .lit (.int .u8 49), .lit (.int .u8 28), .lit (.int .u8 3), .lit (.int .u8 61), .lit (.int .u8 58), .lit (.int .u8 42), .lit (.int .u8 50), .lit (.int .u8 38), .lit (.int .u8 29), .lit (.int .u8 17), .lit (.int .u8 4), .lit (.int .u8 62), .lit (.int .u8 47), .lit (.int .u8 59), .lit (.int .u8 36), .lit (.int .u8 45), .lit (.int .u8 43), .lit (.int .u8 51), .lit (.int .u8 22), .lit (.int .u8 53), .lit (.int .u8 39), .lit (.int .u8 33), .lit (.int .u8 30), .lit (.int .u8 24), .lit (.int .u8 18), .lit (.int .u8 12), .lit (.int .u8 5), .lit (.int .u8 63), .lit (.int .u8 55), .lit (.int .u8 48), .lit (.int .u8 27), .lit (.int .u8 60), .lit (.int .u8 41), .lit (.int .u8 37), .lit (.int .u8 16), .lit (.int .u8 46), .lit (.int .u8 35), .lit (.int .u8 44), .lit (.int .u8 21), .lit (.int .u8 52), .lit (.int .u8 32), .lit (.int .u8 23), .lit (.int .u8 11), .lit (.int .u8 54), .lit (.int .u8 26), .lit (.int .u8 40), .lit (.int .u8 15), .lit (.int .u8 34), .lit (.int .u8 20), .lit (.int .u8 31), .lit (.int .u8 10), .lit (.int .u8 25), .lit (.int .u8 14), .lit (.int .u8 19), .lit (.int .u8 9), .lit (.int .u8 13), .lit (.int .u8 8), .lit (.int .u8 7), .lit (.int .u8 6)]

/-- 'larderlaw6.TableWords': WHATEVER THE INPUT: true; the input reads as it did. -/
def tableWordsSpec : ChangeSpec := { name := "tableWords", fn := fun _ => fun
  | [d] => { results := [.lit (.bool true)], args := [d] }
  | _ => none }
def tableWordsRow : OpenClaim := { program := "ytjigacanjlppiaagreatdoor", sum := "7db565f4110920d36c22c418b9dd3d543451117140ee4cab7f4be1b60283aded", func := "larder/larderlaw6.TableWords", spec := "tableWords", inPlace := ["internal/bytealg.Compare"], unfollowed := true, recurses := true, named := ["math/bits.deBruijn32tab", "math/bits.deBruijn64tab"], apart := false, laid := [("math/bits.deBruijn32tab", laid_math_bits_deBruijn32tab), ("math/bits.deBruijn64tab", laid_math_bits_deBruijn64tab)] }
def TableWordsSaid : Prop := tableWordsRow.holds Tryz.pinned (OpenSpec.ofChange tableWordsSpec)

/-- ITS FALSE NEIGHBOUR: 'it returns false'. Refute it at one input. -/
def tableWordsWrong : ChangeSpec := { name := "tableWords", fn := fun _ => fun
  | [d] => { results := [.lit (.bool false)], args := [d] }
  | _ => none }
def TableWordsWrongFalsely : Prop := tableWordsRow.holds Tryz.pinned (OpenSpec.ofChange tableWordsWrong)

/-- 'larderlaw6.TableExact': WHATEVER THE INPUT: true; the input reads as it did. -/
def tableExactSpec : ChangeSpec := { name := "tableExact", fn := fun _ => fun
  | [d] => { results := [.lit (.bool true)], args := [d] }
  | _ => none }
def tableExactRow : OpenClaim := { program := "ytjigacanjlppiaagreatdoor", sum := "7db565f4110920d36c22c418b9dd3d543451117140ee4cab7f4be1b60283aded", func := "larder/larderlaw6.TableExact", spec := "tableExact", inPlace := ["internal/bytealg.Compare"], unfollowed := true, recurses := true, named := ["math/bits.deBruijn32tab", "math/bits.deBruijn64tab"], apart := false, laid := [("math/bits.deBruijn32tab", laid_math_bits_deBruijn32tab), ("math/bits.deBruijn64tab", laid_math_bits_deBruijn64tab)] }
def TableExactSaid : Prop := tableExactRow.holds Tryz.pinned (OpenSpec.ofChange tableExactSpec)

/-- ITS FALSE NEIGHBOUR: 'it returns false'. Refute it at one input. -/
def tableExactWrong : ChangeSpec := { name := "tableExact", fn := fun _ => fun
  | [d] => { results := [.lit (.bool false)], args := [d] }
  | _ => none }
def TableExactWrongFalsely : Prop := tableExactRow.holds Tryz.pinned (OpenSpec.ofChange tableExactWrong)

/-- 'larderlaw6.TableFull': WHATEVER THE INPUT: true; the input reads as it did. -/
def tableFullSpec : ChangeSpec := { name := "tableFull", fn := fun _ => fun
  | [d] => { results := [.lit (.bool true)], args := [d] }
  | _ => none }
def tableFullRow : OpenClaim := { program := "ytjigacanjlppiaagreatdoor", sum := "7db565f4110920d36c22c418b9dd3d543451117140ee4cab7f4be1b60283aded", func := "larder/larderlaw6.TableFull", spec := "tableFull", inPlace := ["internal/bytealg.Compare"], unfollowed := true, recurses := true, named := ["math/bits.deBruijn32tab", "math/bits.deBruijn64tab"], apart := false, laid := [("math/bits.deBruijn32tab", laid_math_bits_deBruijn32tab), ("math/bits.deBruijn64tab", laid_math_bits_deBruijn64tab)] }
def TableFullSaid : Prop := tableFullRow.holds Tryz.pinned (OpenSpec.ofChange tableFullSpec)

/-- ITS FALSE NEIGHBOUR: 'it returns false'. Refute it at one input. -/
def tableFullWrong : ChangeSpec := { name := "tableFull", fn := fun _ => fun
  | [d] => { results := [.lit (.bool false)], args := [d] }
  | _ => none }
def TableFullWrongFalsely : Prop := tableFullRow.holds Tryz.pinned (OpenSpec.ofChange tableFullWrong)

/-- 'larderlaw6.TableScanned': WHATEVER THE INPUT: true; the input reads as it did. -/
def tableScannedSpec : ChangeSpec := { name := "tableScanned", fn := fun _ => fun
  | [d] => { results := [.lit (.bool true)], args := [d] }
  | _ => none }
def tableScannedRow : OpenClaim := { program := "ytjigacanjlppiaagreatdoor", sum := "7db565f4110920d36c22c418b9dd3d543451117140ee4cab7f4be1b60283aded", func := "larder/larderlaw6.TableScanned", spec := "tableScanned", inPlace := ["internal/bytealg.Compare"], unfollowed := true, recurses := true, named := ["math/bits.deBruijn32tab", "math/bits.deBruijn64tab"], apart := false, laid := [("math/bits.deBruijn32tab", laid_math_bits_deBruijn32tab), ("math/bits.deBruijn64tab", laid_math_bits_deBruijn64tab)] }
def TableScannedSaid : Prop := tableScannedRow.holds Tryz.pinned (OpenSpec.ofChange tableScannedSpec)

/-- ITS FALSE NEIGHBOUR: 'it returns false'. Refute it at one input. -/
def tableScannedWrong : ChangeSpec := { name := "tableScanned", fn := fun _ => fun
  | [d] => { results := [.lit (.bool false)], args := [d] }
  | _ => none }
def TableScannedWrongFalsely : Prop := tableScannedRow.holds Tryz.pinned (OpenSpec.ofChange tableScannedWrong)

/-- 'larderlaw6.TableOrder': WHATEVER THE INPUT: true; the input reads as it did. -/
def tableOrderSpec : ChangeSpec := { name := "tableOrder", fn := fun _ => fun
  | [d] => { results := [.lit (.bool true)], args := [d] }
  | _ => none }
def tableOrderRow : OpenClaim := { program := "ytjigacanjlppiaagreatdoor", sum := "7db565f4110920d36c22c418b9dd3d543451117140ee4cab7f4be1b60283aded", func := "larder/larderlaw6.TableOrder", spec := "tableOrder", inPlace := ["internal/bytealg.Compare"], unfollowed := true, recurses := true, named := ["math/bits.deBruijn32tab", "math/bits.deBruijn64tab"], apart := false, laid := [("math/bits.deBruijn32tab", laid_math_bits_deBruijn32tab), ("math/bits.deBruijn64tab", laid_math_bits_deBruijn64tab)] }
def TableOrderSaid : Prop := tableOrderRow.holds Tryz.pinned (OpenSpec.ofChange tableOrderSpec)

/-- ITS FALSE NEIGHBOUR: 'it returns false'. Refute it at one input. -/
def tableOrderWrong : ChangeSpec := { name := "tableOrder", fn := fun _ => fun
  | [d] => { results := [.lit (.bool false)], args := [d] }
  | _ => none }
def TableOrderWrongFalsely : Prop := tableOrderRow.holds Tryz.pinned (OpenSpec.ofChange tableOrderWrong)

/-- 'larderlaw6.TableLent': WHATEVER THE INPUT: true; the input reads as it did. -/
def tableLentSpec : ChangeSpec := { name := "tableLent", fn := fun _ => fun
  | [d] => { results := [.lit (.bool true)], args := [d] }
  | _ => none }
def tableLentRow : OpenClaim := { program := "ytjigacanjlppiaagreatdoor", sum := "7db565f4110920d36c22c418b9dd3d543451117140ee4cab7f4be1b60283aded", func := "larder/larderlaw6.TableLent", spec := "tableLent", inPlace := ["internal/bytealg.Compare"], unfollowed := true, recurses := true, named := ["math/bits.deBruijn32tab", "math/bits.deBruijn64tab"], apart := false, laid := [("math/bits.deBruijn32tab", laid_math_bits_deBruijn32tab), ("math/bits.deBruijn64tab", laid_math_bits_deBruijn64tab)] }
def TableLentSaid : Prop := tableLentRow.holds Tryz.pinned (OpenSpec.ofChange tableLentSpec)

/-- ITS FALSE NEIGHBOUR: 'it returns false'. Refute it at one input. -/
def tableLentWrong : ChangeSpec := { name := "tableLent", fn := fun _ => fun
  | [d] => { results := [.lit (.bool false)], args := [d] }
  | _ => none }
def TableLentWrongFalsely : Prop := tableLentRow.holds Tryz.pinned (OpenSpec.ofChange tableLentWrong)

/-- 'larderlaw6.TableLean': WHATEVER THE INPUT: true; the input reads as it did. -/
def tableLeanSpec : ChangeSpec := { name := "tableLean", fn := fun _ => fun
  | [d] => { results := [.lit (.bool true)], args := [d] }
  | _ => none }
def tableLeanRow : OpenClaim := { program := "ytjigacanjlppiaagreatdoor", sum := "7db565f4110920d36c22c418b9dd3d543451117140ee4cab7f4be1b60283aded", func := "larder/larderlaw6.TableLean", spec := "tableLean", inPlace := ["internal/bytealg.Compare"], unfollowed := true, recurses := true, named := ["math/bits.deBruijn32tab", "math/bits.deBruijn64tab"], apart := false, laid := [("math/bits.deBruijn32tab", laid_math_bits_deBruijn32tab), ("math/bits.deBruijn64tab", laid_math_bits_deBruijn64tab)] }
def TableLeanSaid : Prop := tableLeanRow.holds Tryz.pinned (OpenSpec.ofChange tableLeanSpec)

/-- ITS FALSE NEIGHBOUR: 'it returns false'. Refute it at one input. -/
def tableLeanWrong : ChangeSpec := { name := "tableLean", fn := fun _ => fun
  | [d] => { results := [.lit (.bool false)], args := [d] }
  | _ => none }
def TableLeanWrongFalsely : Prop := tableLeanRow.holds Tryz.pinned (OpenSpec.ofChange tableLeanWrong)

/-- 'larderlaw6.TableUnseen': WHATEVER THE INPUT: true; the input reads as it did. -/
def tableUnseenSpec : ChangeSpec := { name := "tableUnseen", fn := fun _ => fun
  | [d] => { results := [.lit (.bool true)], args := [d] }
  | _ => none }
def tableUnseenRow : OpenClaim := { program := "ytjigacanjlppiaagreatdoor", sum := "7db565f4110920d36c22c418b9dd3d543451117140ee4cab7f4be1b60283aded", func := "larder/larderlaw6.TableUnseen", spec := "tableUnseen", inPlace := ["internal/bytealg.Compare"], unfollowed := true, recurses := true, named := ["math/bits.deBruijn32tab", "math/bits.deBruijn64tab"], apart := false, laid := [("math/bits.deBruijn32tab", laid_math_bits_deBruijn32tab), ("math/bits.deBruijn64tab", laid_math_bits_deBruijn64tab)] }
def TableUnseenSaid : Prop := tableUnseenRow.holds Tryz.pinned (OpenSpec.ofChange tableUnseenSpec)

/-- ITS FALSE NEIGHBOUR: 'it returns false'. Refute it at one input. -/
def tableUnseenWrong : ChangeSpec := { name := "tableUnseen", fn := fun _ => fun
  | [d] => { results := [.lit (.bool false)], args := [d] }
  | _ => none }
def TableUnseenWrongFalsely : Prop := tableUnseenRow.holds Tryz.pinned (OpenSpec.ofChange tableUnseenWrong)

/-- 'larderlaw6.TableViews': WHATEVER THE INPUT: true; the input reads as it did. -/
def tableViewsSpec : ChangeSpec := { name := "tableViews", fn := fun _ => fun
  | [d] => { results := [.lit (.bool true)], args := [d] }
  | _ => none }
def tableViewsRow : OpenClaim := { program := "ytjigacanjlppiaagreatdoor", sum := "7db565f4110920d36c22c418b9dd3d543451117140ee4cab7f4be1b60283aded", func := "larder/larderlaw6.TableViews", spec := "tableViews", inPlace := ["internal/bytealg.Compare"], unfollowed := true, recurses := true, named := ["math/bits.deBruijn32tab", "math/bits.deBruijn64tab"], apart := false, laid := [("math/bits.deBruijn32tab", laid_math_bits_deBruijn32tab), ("math/bits.deBruijn64tab", laid_math_bits_deBruijn64tab)] }
def TableViewsSaid : Prop := tableViewsRow.holds Tryz.pinned (OpenSpec.ofChange tableViewsSpec)

/-- ITS FALSE NEIGHBOUR: 'it returns false'. Refute it at one input. -/
def tableViewsWrong : ChangeSpec := { name := "tableViews", fn := fun _ => fun
  | [d] => { results := [.lit (.bool false)], args := [d] }
  | _ => none }
def TableViewsWrongFalsely : Prop := tableViewsRow.holds Tryz.pinned (OpenSpec.ofChange tableViewsWrong)

/-- 'larderlaw6.TableRanged': WHATEVER THE INPUT: true; the input reads as it did. -/
def tableRangedSpec : ChangeSpec := { name := "tableRanged", fn := fun _ => fun
  | [d] => { results := [.lit (.bool true)], args := [d] }
  | _ => none }
def tableRangedRow : OpenClaim := { program := "ytjigacanjlppiaagreatdoor", sum := "7db565f4110920d36c22c418b9dd3d543451117140ee4cab7f4be1b60283aded", func := "larder/larderlaw6.TableRanged", spec := "tableRanged", inPlace := ["internal/bytealg.Compare"], unfollowed := true, recurses := true, named := ["math/bits.deBruijn32tab", "math/bits.deBruijn64tab"], apart := false, laid := [("math/bits.deBruijn32tab", laid_math_bits_deBruijn32tab), ("math/bits.deBruijn64tab", laid_math_bits_deBruijn64tab)] }
def TableRangedSaid : Prop := tableRangedRow.holds Tryz.pinned (OpenSpec.ofChange tableRangedSpec)

/-- ITS FALSE NEIGHBOUR: 'it returns false'. Refute it at one input. -/
def tableRangedWrong : ChangeSpec := { name := "tableRanged", fn := fun _ => fun
  | [d] => { results := [.lit (.bool false)], args := [d] }
  | _ => none }
def TableRangedWrongFalsely : Prop := tableRangedRow.holds Tryz.pinned (OpenSpec.ofChange tableRangedWrong)

/-- 'larderlaw6.TableOpens': WHATEVER THE INPUT: true; the input reads as it did. -/
def tableOpensSpec : ChangeSpec := { name := "tableOpens", fn := fun _ => fun
  | [d] => { results := [.lit (.bool true)], args := [d] }
  | _ => none }
def tableOpensRow : OpenClaim := { program := "ytjigacanjlppiaagreatdoor", sum := "7db565f4110920d36c22c418b9dd3d543451117140ee4cab7f4be1b60283aded", func := "larder/larderlaw6.TableOpens", spec := "tableOpens", inPlace := ["internal/bytealg.Compare"], unfollowed := true, recurses := true, named := ["math/bits.deBruijn32tab", "math/bits.deBruijn64tab"], apart := false, laid := [("math/bits.deBruijn32tab", laid_math_bits_deBruijn32tab), ("math/bits.deBruijn64tab", laid_math_bits_deBruijn64tab)] }
def TableOpensSaid : Prop := tableOpensRow.holds Tryz.pinned (OpenSpec.ofChange tableOpensSpec)

/-- ITS FALSE NEIGHBOUR: 'it returns false'. Refute it at one input. -/
def tableOpensWrong : ChangeSpec := { name := "tableOpens", fn := fun _ => fun
  | [d] => { results := [.lit (.bool false)], args := [d] }
  | _ => none }
def TableOpensWrongFalsely : Prop := tableOpensRow.holds Tryz.pinned (OpenSpec.ofChange tableOpensWrong)

/-- 'larderlaw6.TablePuts': WHATEVER THE INPUT: true; the input reads as it did. -/
def tablePutsSpec : ChangeSpec := { name := "tablePuts", fn := fun _ => fun
  | [d] => { results := [.lit (.bool true)], args := [d] }
  | _ => none }
def tablePutsRow : OpenClaim := { program := "ytjigacanjlppiaagreatdoor", sum := "7db565f4110920d36c22c418b9dd3d543451117140ee4cab7f4be1b60283aded", func := "larder/larderlaw6.TablePuts", spec := "tablePuts", inPlace := ["internal/bytealg.Compare"], unfollowed := true, recurses := true, named := ["math/bits.deBruijn32tab", "math/bits.deBruijn64tab"], apart := false, laid := [("math/bits.deBruijn32tab", laid_math_bits_deBruijn32tab), ("math/bits.deBruijn64tab", laid_math_bits_deBruijn64tab)] }
def TablePutsSaid : Prop := tablePutsRow.holds Tryz.pinned (OpenSpec.ofChange tablePutsSpec)

/-- ITS FALSE NEIGHBOUR: 'it returns false'. Refute it at one input. -/
def tablePutsWrong : ChangeSpec := { name := "tablePuts", fn := fun _ => fun
  | [d] => { results := [.lit (.bool false)], args := [d] }
  | _ => none }
def TablePutsWrongFalsely : Prop := tablePutsRow.holds Tryz.pinned (OpenSpec.ofChange tablePutsWrong)

/-- 'larderlaw6.TableGets': WHATEVER THE INPUT: true; the input reads as it did. -/
def tableGetsSpec : ChangeSpec := { name := "tableGets", fn := fun _ => fun
  | [d] => { results := [.lit (.bool true)], args := [d] }
  | _ => none }
def tableGetsRow : OpenClaim := { program := "ytjigacanjlppiaagreatdoor", sum := "7db565f4110920d36c22c418b9dd3d543451117140ee4cab7f4be1b60283aded", func := "larder/larderlaw6.TableGets", spec := "tableGets", inPlace := ["internal/bytealg.Compare"], unfollowed := true, recurses := true, named := ["math/bits.deBruijn32tab", "math/bits.deBruijn64tab"], apart := false, laid := [("math/bits.deBruijn32tab", laid_math_bits_deBruijn32tab), ("math/bits.deBruijn64tab", laid_math_bits_deBruijn64tab)] }
def TableGetsSaid : Prop := tableGetsRow.holds Tryz.pinned (OpenSpec.ofChange tableGetsSpec)

/-- ITS FALSE NEIGHBOUR: 'it returns false'. Refute it at one input. -/
def tableGetsWrong : ChangeSpec := { name := "tableGets", fn := fun _ => fun
  | [d] => { results := [.lit (.bool false)], args := [d] }
  | _ => none }
def TableGetsWrongFalsely : Prop := tableGetsRow.holds Tryz.pinned (OpenSpec.ofChange tableGetsWrong)

/-- 'larderlaw6.TableTells': WHATEVER THE INPUT: true; the input reads as it did. -/
def tableTellsSpec : ChangeSpec := { name := "tableTells", fn := fun _ => fun
  | [d] => { results := [.lit (.bool true)], args := [d] }
  | _ => none }
def tableTellsRow : OpenClaim := { program := "ytjigacanjlppiaagreatdoor", sum := "7db565f4110920d36c22c418b9dd3d543451117140ee4cab7f4be1b60283aded", func := "larder/larderlaw6.TableTells", spec := "tableTells", inPlace := ["internal/bytealg.Compare"], unfollowed := true, recurses := true, named := ["math/bits.deBruijn32tab", "math/bits.deBruijn64tab"], apart := false, laid := [("math/bits.deBruijn32tab", laid_math_bits_deBruijn32tab), ("math/bits.deBruijn64tab", laid_math_bits_deBruijn64tab)] }
def TableTellsSaid : Prop := tableTellsRow.holds Tryz.pinned (OpenSpec.ofChange tableTellsSpec)

/-- ITS FALSE NEIGHBOUR: 'it returns false'. Refute it at one input. -/
def tableTellsWrong : ChangeSpec := { name := "tableTells", fn := fun _ => fun
  | [d] => { results := [.lit (.bool false)], args := [d] }
  | _ => none }
def TableTellsWrongFalsely : Prop := tableTellsRow.holds Tryz.pinned (OpenSpec.ofChange tableTellsWrong)

/-- 'larderlaw6.TableShapes': WHATEVER THE INPUT: true; the input reads as it did. -/
def tableShapesSpec : ChangeSpec := { name := "tableShapes", fn := fun _ => fun
  | [d] => { results := [.lit (.bool true)], args := [d] }
  | _ => none }
def tableShapesRow : OpenClaim := { program := "ytjigacanjlppiaagreatdoor", sum := "7db565f4110920d36c22c418b9dd3d543451117140ee4cab7f4be1b60283aded", func := "larder/larderlaw6.TableShapes", spec := "tableShapes", inPlace := ["internal/bytealg.Compare"], unfollowed := true, recurses := true, named := ["math/bits.deBruijn32tab", "math/bits.deBruijn64tab"], apart := false, laid := [("math/bits.deBruijn32tab", laid_math_bits_deBruijn32tab), ("math/bits.deBruijn64tab", laid_math_bits_deBruijn64tab)] }
def TableShapesSaid : Prop := tableShapesRow.holds Tryz.pinned (OpenSpec.ofChange tableShapesSpec)

/-- ITS FALSE NEIGHBOUR: 'it returns false'. Refute it at one input. -/
def tableShapesWrong : ChangeSpec := { name := "tableShapes", fn := fun _ => fun
  | [d] => { results := [.lit (.bool false)], args := [d] }
  | _ => none }
def TableShapesWrongFalsely : Prop := tableShapesRow.holds Tryz.pinned (OpenSpec.ofChange tableShapesWrong)

/- THE SECOND FORM. 'bulk': how many values and letters a reading holds, each counted each time it is reached (what is shared counts as often as it is met; a slice's spare places count too). A statement '..UptoSaid' is the law's where the arguments, and the package variables that the reading takes, are together of bulk at most 1048576: NARROWER than '..Said'. Prove '..Said' where nothing that the law and all that it calls make is longer than what came in: it says more and counts as full. Else prove '..UptoSaid'. A law counts once. -/
mutual
def uptoBulk {H : Type} : DataW H → Nat
  | .lit (.string bytes) => bytes.length + 1
  | .lit _ => 1
  | .nil => 1
  | .ptr d => uptoBulk d + 1
  | .slice elems spare => uptoBulkAll elems + uptoBulkAll spare + 1
  | .agg parts => uptoBulkAll parts + 1
  | .iface _ d => uptoBulk d + 1
  | .map entries => uptoBulkEntries entries + 1
  | .held _ => 1
def uptoBulkAll {H : Type} : List (DataW H) → Nat
  | [] => 0
  | d :: r => uptoBulk d + uptoBulkAll r
def uptoBulkEntries {H : Type} : List (Lit × DataW H) → Nat
  | [] => 0
  | x :: r => uptoBulkEntry x + uptoBulkEntries r
def uptoBulkEntry {H : Type} : Lit × DataW H → Nat
  | (.string bytes, d) => bytes.length + uptoBulk d + 1
  | (_, d) => uptoBulk d + 1
 end
def uptoSmall : (H : Type) → List (DataW H) → Bool := fun _ ds => decide (uptoBulkAll ds ≤ 1048576)
def OpenSpec.upto (s : _root_.Go.ChangeSpec) : _root_.Go.OpenSpec := { _root_.Go.OpenSpec.ofChange s with cond := some uptoSmall }

/-- 'larderlaw6.TableWords', WHERE WHAT IT READS IS OF BULK AT MOST 1048576: true; the input reads as it did. -/
def tableWordsUptoRow : OpenClaim := { program := "ytjigacanjlppiaagreatdoor", sum := "7db565f4110920d36c22c418b9dd3d543451117140ee4cab7f4be1b60283aded", func := "larder/larderlaw6.TableWords", spec := "tableWords", inPlace := ["internal/bytealg.Compare"], unfollowed := true, recurses := true, named := ["math/bits.deBruijn32tab", "math/bits.deBruijn64tab"], apart := false, laid := [("math/bits.deBruijn32tab", laid_math_bits_deBruijn32tab), ("math/bits.deBruijn64tab", laid_math_bits_deBruijn64tab)], narrowed := true }
def TableWordsUptoSaid : Prop := tableWordsUptoRow.holds Tryz.pinned (OpenSpec.upto tableWordsSpec)

/-- 'larderlaw6.TableExact', WHERE WHAT IT READS IS OF BULK AT MOST 1048576: true; the input reads as it did. -/
def tableExactUptoRow : OpenClaim := { program := "ytjigacanjlppiaagreatdoor", sum := "7db565f4110920d36c22c418b9dd3d543451117140ee4cab7f4be1b60283aded", func := "larder/larderlaw6.TableExact", spec := "tableExact", inPlace := ["internal/bytealg.Compare"], unfollowed := true, recurses := true, named := ["math/bits.deBruijn32tab", "math/bits.deBruijn64tab"], apart := false, laid := [("math/bits.deBruijn32tab", laid_math_bits_deBruijn32tab), ("math/bits.deBruijn64tab", laid_math_bits_deBruijn64tab)], narrowed := true }
def TableExactUptoSaid : Prop := tableExactUptoRow.holds Tryz.pinned (OpenSpec.upto tableExactSpec)

/-- 'larderlaw6.TableFull', WHERE WHAT IT READS IS OF BULK AT MOST 1048576: true; the input reads as it did. -/
def tableFullUptoRow : OpenClaim := { program := "ytjigacanjlppiaagreatdoor", sum := "7db565f4110920d36c22c418b9dd3d543451117140ee4cab7f4be1b60283aded", func := "larder/larderlaw6.TableFull", spec := "tableFull", inPlace := ["internal/bytealg.Compare"], unfollowed := true, recurses := true, named := ["math/bits.deBruijn32tab", "math/bits.deBruijn64tab"], apart := false, laid := [("math/bits.deBruijn32tab", laid_math_bits_deBruijn32tab), ("math/bits.deBruijn64tab", laid_math_bits_deBruijn64tab)], narrowed := true }
def TableFullUptoSaid : Prop := tableFullUptoRow.holds Tryz.pinned (OpenSpec.upto tableFullSpec)

/-- 'larderlaw6.TableScanned', WHERE WHAT IT READS IS OF BULK AT MOST 1048576: true; the input reads as it did. -/
def tableScannedUptoRow : OpenClaim := { program := "ytjigacanjlppiaagreatdoor", sum := "7db565f4110920d36c22c418b9dd3d543451117140ee4cab7f4be1b60283aded", func := "larder/larderlaw6.TableScanned", spec := "tableScanned", inPlace := ["internal/bytealg.Compare"], unfollowed := true, recurses := true, named := ["math/bits.deBruijn32tab", "math/bits.deBruijn64tab"], apart := false, laid := [("math/bits.deBruijn32tab", laid_math_bits_deBruijn32tab), ("math/bits.deBruijn64tab", laid_math_bits_deBruijn64tab)], narrowed := true }
def TableScannedUptoSaid : Prop := tableScannedUptoRow.holds Tryz.pinned (OpenSpec.upto tableScannedSpec)

/-- 'larderlaw6.TableOrder', WHERE WHAT IT READS IS OF BULK AT MOST 1048576: true; the input reads as it did. -/
def tableOrderUptoRow : OpenClaim := { program := "ytjigacanjlppiaagreatdoor", sum := "7db565f4110920d36c22c418b9dd3d543451117140ee4cab7f4be1b60283aded", func := "larder/larderlaw6.TableOrder", spec := "tableOrder", inPlace := ["internal/bytealg.Compare"], unfollowed := true, recurses := true, named := ["math/bits.deBruijn32tab", "math/bits.deBruijn64tab"], apart := false, laid := [("math/bits.deBruijn32tab", laid_math_bits_deBruijn32tab), ("math/bits.deBruijn64tab", laid_math_bits_deBruijn64tab)], narrowed := true }
def TableOrderUptoSaid : Prop := tableOrderUptoRow.holds Tryz.pinned (OpenSpec.upto tableOrderSpec)

/-- 'larderlaw6.TableLent', WHERE WHAT IT READS IS OF BULK AT MOST 1048576: true; the input reads as it did. -/
def tableLentUptoRow : OpenClaim := { program := "ytjigacanjlppiaagreatdoor", sum := "7db565f4110920d36c22c418b9dd3d543451117140ee4cab7f4be1b60283aded", func := "larder/larderlaw6.TableLent", spec := "tableLent", inPlace := ["internal/bytealg.Compare"], unfollowed := true, recurses := true, named := ["math/bits.deBruijn32tab", "math/bits.deBruijn64tab"], apart := false, laid := [("math/bits.deBruijn32tab", laid_math_bits_deBruijn32tab), ("math/bits.deBruijn64tab", laid_math_bits_deBruijn64tab)], narrowed := true }
def TableLentUptoSaid : Prop := tableLentUptoRow.holds Tryz.pinned (OpenSpec.upto tableLentSpec)

/-- 'larderlaw6.TableLean', WHERE WHAT IT READS IS OF BULK AT MOST 1048576: true; the input reads as it did. -/
def tableLeanUptoRow : OpenClaim := { program := "ytjigacanjlppiaagreatdoor", sum := "7db565f4110920d36c22c418b9dd3d543451117140ee4cab7f4be1b60283aded", func := "larder/larderlaw6.TableLean", spec := "tableLean", inPlace := ["internal/bytealg.Compare"], unfollowed := true, recurses := true, named := ["math/bits.deBruijn32tab", "math/bits.deBruijn64tab"], apart := false, laid := [("math/bits.deBruijn32tab", laid_math_bits_deBruijn32tab), ("math/bits.deBruijn64tab", laid_math_bits_deBruijn64tab)], narrowed := true }
def TableLeanUptoSaid : Prop := tableLeanUptoRow.holds Tryz.pinned (OpenSpec.upto tableLeanSpec)

/-- 'larderlaw6.TableUnseen', WHERE WHAT IT READS IS OF BULK AT MOST 1048576: true; the input reads as it did. -/
def tableUnseenUptoRow : OpenClaim := { program := "ytjigacanjlppiaagreatdoor", sum := "7db565f4110920d36c22c418b9dd3d543451117140ee4cab7f4be1b60283aded", func := "larder/larderlaw6.TableUnseen", spec := "tableUnseen", inPlace := ["internal/bytealg.Compare"], unfollowed := true, recurses := true, named := ["math/bits.deBruijn32tab", "math/bits.deBruijn64tab"], apart := false, laid := [("math/bits.deBruijn32tab", laid_math_bits_deBruijn32tab), ("math/bits.deBruijn64tab", laid_math_bits_deBruijn64tab)], narrowed := true }
def TableUnseenUptoSaid : Prop := tableUnseenUptoRow.holds Tryz.pinned (OpenSpec.upto tableUnseenSpec)

/-- 'larderlaw6.TableViews', WHERE WHAT IT READS IS OF BULK AT MOST 1048576: true; the input reads as it did. -/
def tableViewsUptoRow : OpenClaim := { program := "ytjigacanjlppiaagreatdoor", sum := "7db565f4110920d36c22c418b9dd3d543451117140ee4cab7f4be1b60283aded", func := "larder/larderlaw6.TableViews", spec := "tableViews", inPlace := ["internal/bytealg.Compare"], unfollowed := true, recurses := true, named := ["math/bits.deBruijn32tab", "math/bits.deBruijn64tab"], apart := false, laid := [("math/bits.deBruijn32tab", laid_math_bits_deBruijn32tab), ("math/bits.deBruijn64tab", laid_math_bits_deBruijn64tab)], narrowed := true }
def TableViewsUptoSaid : Prop := tableViewsUptoRow.holds Tryz.pinned (OpenSpec.upto tableViewsSpec)

/-- 'larderlaw6.TableRanged', WHERE WHAT IT READS IS OF BULK AT MOST 1048576: true; the input reads as it did. -/
def tableRangedUptoRow : OpenClaim := { program := "ytjigacanjlppiaagreatdoor", sum := "7db565f4110920d36c22c418b9dd3d543451117140ee4cab7f4be1b60283aded", func := "larder/larderlaw6.TableRanged", spec := "tableRanged", inPlace := ["internal/bytealg.Compare"], unfollowed := true, recurses := true, named := ["math/bits.deBruijn32tab", "math/bits.deBruijn64tab"], apart := false, laid := [("math/bits.deBruijn32tab", laid_math_bits_deBruijn32tab), ("math/bits.deBruijn64tab", laid_math_bits_deBruijn64tab)], narrowed := true }
def TableRangedUptoSaid : Prop := tableRangedUptoRow.holds Tryz.pinned (OpenSpec.upto tableRangedSpec)

/-- 'larderlaw6.TableOpens', WHERE WHAT IT READS IS OF BULK AT MOST 1048576: true; the input reads as it did. -/
def tableOpensUptoRow : OpenClaim := { program := "ytjigacanjlppiaagreatdoor", sum := "7db565f4110920d36c22c418b9dd3d543451117140ee4cab7f4be1b60283aded", func := "larder/larderlaw6.TableOpens", spec := "tableOpens", inPlace := ["internal/bytealg.Compare"], unfollowed := true, recurses := true, named := ["math/bits.deBruijn32tab", "math/bits.deBruijn64tab"], apart := false, laid := [("math/bits.deBruijn32tab", laid_math_bits_deBruijn32tab), ("math/bits.deBruijn64tab", laid_math_bits_deBruijn64tab)], narrowed := true }
def TableOpensUptoSaid : Prop := tableOpensUptoRow.holds Tryz.pinned (OpenSpec.upto tableOpensSpec)

/-- 'larderlaw6.TablePuts', WHERE WHAT IT READS IS OF BULK AT MOST 1048576: true; the input reads as it did. -/
def tablePutsUptoRow : OpenClaim := { program := "ytjigacanjlppiaagreatdoor", sum := "7db565f4110920d36c22c418b9dd3d543451117140ee4cab7f4be1b60283aded", func := "larder/larderlaw6.TablePuts", spec := "tablePuts", inPlace := ["internal/bytealg.Compare"], unfollowed := true, recurses := true, named := ["math/bits.deBruijn32tab", "math/bits.deBruijn64tab"], apart := false, laid := [("math/bits.deBruijn32tab", laid_math_bits_deBruijn32tab), ("math/bits.deBruijn64tab", laid_math_bits_deBruijn64tab)], narrowed := true }
def TablePutsUptoSaid : Prop := tablePutsUptoRow.holds Tryz.pinned (OpenSpec.upto tablePutsSpec)

/-- 'larderlaw6.TableGets', WHERE WHAT IT READS IS OF BULK AT MOST 1048576: true; the input reads as it did. -/
def tableGetsUptoRow : OpenClaim := { program := "ytjigacanjlppiaagreatdoor", sum := "7db565f4110920d36c22c418b9dd3d543451117140ee4cab7f4be1b60283aded", func := "larder/larderlaw6.TableGets", spec := "tableGets", inPlace := ["internal/bytealg.Compare"], unfollowed := true, recurses := true, named := ["math/bits.deBruijn32tab", "math/bits.deBruijn64tab"], apart := false, laid := [("math/bits.deBruijn32tab", laid_math_bits_deBruijn32tab), ("math/bits.deBruijn64tab", laid_math_bits_deBruijn64tab)], narrowed := true }
def TableGetsUptoSaid : Prop := tableGetsUptoRow.holds Tryz.pinned (OpenSpec.upto tableGetsSpec)

/-- 'larderlaw6.TableTells', WHERE WHAT IT READS IS OF BULK AT MOST 1048576: true; the input reads as it did. -/
def tableTellsUptoRow : OpenClaim := { program := "ytjigacanjlppiaagreatdoor", sum := "7db565f4110920d36c22c418b9dd3d543451117140ee4cab7f4be1b60283aded", func := "larder/larderlaw6.TableTells", spec := "tableTells", inPlace := ["internal/bytealg.Compare"], unfollowed := true, recurses := true, named := ["math/bits.deBruijn32tab", "math/bits.deBruijn64tab"], apart := false, laid := [("math/bits.deBruijn32tab", laid_math_bits_deBruijn32tab), ("math/bits.deBruijn64tab", laid_math_bits_deBruijn64tab)], narrowed := true }
def TableTellsUptoSaid : Prop := tableTellsUptoRow.holds Tryz.pinned (OpenSpec.upto tableTellsSpec)

/-- 'larderlaw6.TableShapes', WHERE WHAT IT READS IS OF BULK AT MOST 1048576: true; the input reads as it did. -/
def tableShapesUptoRow : OpenClaim := { program := "ytjigacanjlppiaagreatdoor", sum := "7db565f4110920d36c22c418b9dd3d543451117140ee4cab7f4be1b60283aded", func := "larder/larderlaw6.TableShapes", spec := "tableShapes", inPlace := ["internal/bytealg.Compare"], unfollowed := true, recurses := true, named := ["math/bits.deBruijn32tab", "math/bits.deBruijn64tab"], apart := false, laid := [("math/bits.deBruijn32tab", laid_math_bits_deBruijn32tab), ("math/bits.deBruijn64tab", laid_math_bits_deBruijn64tab)], narrowed := true }
def TableShapesUptoSaid : Prop := tableShapesUptoRow.holds Tryz.pinned (OpenSpec.upto tableShapesSpec)

end Rows
end Go.Proofs.YtjigacanjlppiaaGreatDoor
