/-
  NARROWER THAN 'FOR EVERY INPUT', by the rows' own cells (each row's printed sentence says how): OrderRows: laid.
  DERIVED. THE GIVEN ROWS OF THIS SEAT. 1 by the template 'for every input the law returns true; each argument reads behind the call as it read before'; 0 by the template 'total and deterministic' (their statements: YtnippoaemjaihaaDoorTotals.lean).
  GIVEN WITH THE SEED: the statements are not yours to turn. If you find one false, say at which input.
  Laid BY PROGRAM, IN A SANDBOX (cutbox-rows.mjs): the forced cells as the released guide's own fill.sh prints them over the translation 9045b5fad7936f41… (all of the seat's roots in one cut). By AI agents, Wed Nov 11 2026. No macro, syntax, notation, axiom, sorry.
-/
import Derived.Test.YtnippoaemjaihaaDoorChecked
import GoSem.Claim
import GoSem.ClaimJoined
import GoSem.ClaimMapViews
import Derived.JoinedTies
import Derived.KernelRfl
namespace Go.Proofs.YtnippoaemjaihaaDoor
/- THE CELL 'sum', in the pinned program and in every row, IS THE sha256 OF THE DUMP (.gsa) THAT YtnippoaemjaihaaDoorProg.lean LOADS. Nothing in Lean hashes anything: it is a label: what it is worth is what the hold of that sum in a sandbox is worth. -/
noncomputable def Tryd.pinned : Pinned := { name := "ytnippoaemjaihaadoor", sum := "9045b5fad7936f41d63781c673c2ce21ad0a776c850285d91b1900cbf7e62f57", checked := Tryd.checked }
namespace Rows
def none {H : Type} : Left H := { results := [], args := [] }

/- WHAT THE LISTED PACKAGE-LEVEL VARIABLES READ AS WHEN THE CALL BEGINS. Each datum BY PROGRAM (the guide's laid-datum.mjs) off the statement by which the dump's own 'gosem.cut.vars' lays the variable. In a bare row this is a premise. The card (YtnippoaemjaihaaDoorCards.lean) ties it to the program's text. -/
def laid_larder_order_rows {H : Type} : DataW H := .agg [.agg [.lit (.string [90, 65, 68, 68]), .lit (.int .i64 (-4)), .lit (.bool true), .lit (.int .i64 1), .lit (.int .i64 1), .lit (.int .i64 1), .lit (.int .i64 0)], .agg [.lit (.string [90, 67, 65, 82, 68]), .lit (.int .i64 2), .lit (.bool false), .lit (.int .i64 1), .lit (.int .i64 1), .lit (.int .i64 1), .lit (.int .i64 0)], .agg [.lit (.string [90, 67, 79, 85, 78, 84]), .lit (.int .i64 4), .lit (.bool false), .lit (.int .i64 1), .lit (.int .i64 1), .lit (.int .i64 1), .lit (.int .i64 0)], .agg [.lit (.string [90, 68, 73, 70, 70]), .lit (.int .i64 (-3)), .lit (.bool false), .lit (.int .i64 0), .lit (.int .i64 0), .lit (.int .i64 0), .lit (.int .i64 1)], .agg [.lit (.string [90, 68, 73, 70, 70, 83, 84, 79, 82, 69]), .lit (.int .i64 (-4)), .lit (.bool true), .lit (.int .i64 1), .lit (.int .i64 1), .lit (.int .i64 1), .lit (.int .i64 2)], .agg [.lit (.string [90, 73, 78, 67, 82, 66, 89]), .lit (.int .i64 4), .lit (.bool true), .lit (.int .i64 1), .lit (.int .i64 1), .lit (.int .i64 1), .lit (.int .i64 0)], .agg [.lit (.string [90, 73, 78, 84, 69, 82]), .lit (.int .i64 (-3)), .lit (.bool false), .lit (.int .i64 0), .lit (.int .i64 0), .lit (.int .i64 0), .lit (.int .i64 1)], .agg [.lit (.string [90, 73, 78, 84, 69, 82, 67, 65, 82, 68]), .lit (.int .i64 (-3)), .lit (.bool false), .lit (.int .i64 0), .lit (.int .i64 0), .lit (.int .i64 0), .lit (.int .i64 1)], .agg [.lit (.string [90, 73, 78, 84, 69, 82, 83, 84, 79, 82, 69]), .lit (.int .i64 (-4)), .lit (.bool true), .lit (.int .i64 1), .lit (.int .i64 1), .lit (.int .i64 1), .lit (.int .i64 2)], .agg [.lit (.string [90, 76, 69, 88, 67, 79, 85, 78, 84]), .lit (.int .i64 4), .lit (.bool false), .lit (.int .i64 1), .lit (.int .i64 1), .lit (.int .i64 1), .lit (.int .i64 0)], .agg [.lit (.string [90, 77, 80, 79, 80]), .lit (.int .i64 (-4)), .lit (.bool true), .lit (.int .i64 0), .lit (.int .i64 0), .lit (.int .i64 0), .lit (.int .i64 1)], .agg [.lit (.string [90, 77, 83, 67, 79, 82, 69]), .lit (.int .i64 (-3)), .lit (.bool false), .lit (.int .i64 1), .lit (.int .i64 1), .lit (.int .i64 1), .lit (.int .i64 0)], .agg [.lit (.string [90, 80, 79, 80, 77, 65, 88]), .lit (.int .i64 (-2)), .lit (.bool true), .lit (.int .i64 1), .lit (.int .i64 1), .lit (.int .i64 1), .lit (.int .i64 0)], .agg [.lit (.string [90, 80, 79, 80, 77, 73, 78]), .lit (.int .i64 (-2)), .lit (.bool true), .lit (.int .i64 1), .lit (.int .i64 1), .lit (.int .i64 1), .lit (.int .i64 0)], .agg [.lit (.string [90, 82, 65, 78, 71, 69]), .lit (.int .i64 (-4)), .lit (.bool false), .lit (.int .i64 1), .lit (.int .i64 1), .lit (.int .i64 1), .lit (.int .i64 0)], .agg [.lit (.string [90, 82, 65, 78, 71, 69, 66, 89, 76, 69, 88]), .lit (.int .i64 (-4)), .lit (.bool false), .lit (.int .i64 1), .lit (.int .i64 1), .lit (.int .i64 1), .lit (.int .i64 0)], .agg [.lit (.string [90, 82, 65, 78, 71, 69, 66, 89, 83, 67, 79, 82, 69]), .lit (.int .i64 (-4)), .lit (.bool false), .lit (.int .i64 1), .lit (.int .i64 1), .lit (.int .i64 1), .lit (.int .i64 0)], .agg [.lit (.string [90, 82, 65, 78, 71, 69, 83, 84, 79, 82, 69]), .lit (.int .i64 (-5)), .lit (.bool true), .lit (.int .i64 1), .lit (.int .i64 2), .lit (.int .i64 1), .lit (.int .i64 0)], .agg [.lit (.string [90, 82, 65, 78, 75]), .lit (.int .i64 (-3)), .lit (.bool false), .lit (.int .i64 1), .lit (.int .i64 1), .lit (.int .i64 1), .lit (.int .i64 0)], .agg [.lit (.string [90, 82, 69, 77]), .lit (.int .i64 (-3)), .lit (.bool true), .lit (.int .i64 1), .lit (.int .i64 1), .lit (.int .i64 1), .lit (.int .i64 0)], .agg [.lit (.string [90, 82, 69, 77, 82, 65, 78, 71, 69, 66, 89, 76, 69, 88]), .lit (.int .i64 4), .lit (.bool true), .lit (.int .i64 1), .lit (.int .i64 1), .lit (.int .i64 1), .lit (.int .i64 0)], .agg [.lit (.string [90, 82, 69, 77, 82, 65, 78, 71, 69, 66, 89, 82, 65, 78, 75]), .lit (.int .i64 4), .lit (.bool true), .lit (.int .i64 1), .lit (.int .i64 1), .lit (.int .i64 1), .lit (.int .i64 0)], .agg [.lit (.string [90, 82, 69, 77, 82, 65, 78, 71, 69, 66, 89, 83, 67, 79, 82, 69]), .lit (.int .i64 4), .lit (.bool true), .lit (.int .i64 1), .lit (.int .i64 1), .lit (.int .i64 1), .lit (.int .i64 0)], .agg [.lit (.string [90, 82, 69, 86, 82, 65, 78, 71, 69]), .lit (.int .i64 (-4)), .lit (.bool false), .lit (.int .i64 1), .lit (.int .i64 1), .lit (.int .i64 1), .lit (.int .i64 0)], .agg [.lit (.string [90, 82, 69, 86, 82, 65, 78, 71, 69, 66, 89, 76, 69, 88]), .lit (.int .i64 (-4)), .lit (.bool false), .lit (.int .i64 1), .lit (.int .i64 1), .lit (.int .i64 1), .lit (.int .i64 0)], .agg [.lit (.string [90, 82, 69, 86, 82, 65, 78, 71, 69, 66, 89, 83, 67, 79, 82, 69]), .lit (.int .i64 (-4)), .lit (.bool false), .lit (.int .i64 1), .lit (.int .i64 1), .lit (.int .i64 1), .lit (.int .i64 0)], .agg [.lit (.string [90, 82, 69, 86, 82, 65, 78, 75]), .lit (.int .i64 (-3)), .lit (.bool false), .lit (.int .i64 1), .lit (.int .i64 1), .lit (.int .i64 1), .lit (.int .i64 0)], .agg [.lit (.string [90, 83, 67, 65, 78]), .lit (.int .i64 (-3)), .lit (.bool false), .lit (.int .i64 1), .lit (.int .i64 1), .lit (.int .i64 1), .lit (.int .i64 0)], .agg [.lit (.string [90, 83, 67, 79, 82, 69]), .lit (.int .i64 3), .lit (.bool false), .lit (.int .i64 1), .lit (.int .i64 1), .lit (.int .i64 1), .lit (.int .i64 0)], .agg [.lit (.string [90, 85, 78, 73, 79, 78]), .lit (.int .i64 (-3)), .lit (.bool false), .lit (.int .i64 0), .lit (.int .i64 0), .lit (.int .i64 0), .lit (.int .i64 1)], .agg [.lit (.string [90, 85, 78, 73, 79, 78, 83, 84, 79, 82, 69]), .lit (.int .i64 (-4)), .lit (.bool true), .lit (.int .i64 1), .lit (.int .i64 1), .lit (.int .i64 1), .lit (.int .i64 2)]]

/-- 'larderlaw14.OrderRows': WHATEVER THE INPUT: true; the input reads as it did. -/
def orderRowsSpec : ChangeSpec := { name := "orderRows", fn := fun _ => fun
  | [] => { results := [.lit (.bool true)], args := [] }
  | _ => none }
def orderRowsRow : OpenClaim := { program := "ytnippoaemjaihaadoor", sum := "9045b5fad7936f41d63781c673c2ce21ad0a776c850285d91b1900cbf7e62f57", func := "larder/larderlaw14.OrderRows", spec := "orderRows", named := ["larder/order.rows"], apart := false, laid := [("larder/order.rows", laid_larder_order_rows)] }
def OrderRowsSaid : Prop := orderRowsRow.holds Tryd.pinned (OpenSpec.ofChange orderRowsSpec)

/-- ITS FALSE NEIGHBOUR: 'it returns false'. Refute it at one input. -/
def orderRowsWrong : ChangeSpec := { name := "orderRows", fn := fun _ => fun
  | [] => { results := [.lit (.bool false)], args := [] }
  | _ => none }
def OrderRowsWrongFalsely : Prop := orderRowsRow.holds Tryd.pinned (OpenSpec.ofChange orderRowsWrong)

/- THE SECOND FORM. 'bulk': how many values and letters a reading holds, each counted each time it is reached (what is shared counts as often as it is met; a slice's spare places count too). A statement '..UptoSaid' is the law's where the arguments, and the package variables that the reading takes, are together of bulk at most 1048576: NARROWER than '..Said'. Prove '..Said' where nothing that the law and all that it calls make is longer than what came in: it says more and counts as full. Else prove '..UptoSaid'. A law counts once. -/
mutual
def uptoBulk {H : Type} : DataW H → Nat
  | .lit (.string bytes) => bytes.length + 1
  | .lit _ => 1
  | .nil => 1
  | .ptr d => uptoBulk d + 1
  | .slice elems spare => uptoBulkAll elems + uptoBulkAll spare + 1
  | .agg parts => uptoBulkAll parts + 1
  | .iface _ d => uptoBulk d + 1
  | .map entries => uptoBulkEntries entries + 1
  | .held _ => 1
def uptoBulkAll {H : Type} : List (DataW H) → Nat
  | [] => 0
  | d :: r => uptoBulk d + uptoBulkAll r
def uptoBulkEntries {H : Type} : List (Lit × DataW H) → Nat
  | [] => 0
  | x :: r => uptoBulkEntry x + uptoBulkEntries r
def uptoBulkEntry {H : Type} : Lit × DataW H → Nat
  | (.string bytes, d) => bytes.length + uptoBulk d + 1
  | (_, d) => uptoBulk d + 1
 end
def uptoSmall : (H : Type) → List (DataW H) → Bool := fun _ ds => decide (uptoBulkAll ds ≤ 1048576)
def OpenSpec.upto (s : _root_.Go.ChangeSpec) : _root_.Go.OpenSpec := { _root_.Go.OpenSpec.ofChange s with cond := some uptoSmall }

/-- 'larderlaw14.OrderRows', WHERE WHAT IT READS IS OF BULK AT MOST 1048576: true; the input reads as it did. -/
def orderRowsUptoRow : OpenClaim := { program := "ytnippoaemjaihaadoor", sum := "9045b5fad7936f41d63781c673c2ce21ad0a776c850285d91b1900cbf7e62f57", func := "larder/larderlaw14.OrderRows", spec := "orderRows", named := ["larder/order.rows"], apart := false, laid := [("larder/order.rows", laid_larder_order_rows)], narrowed := true }
def OrderRowsUptoSaid : Prop := orderRowsUptoRow.holds Tryd.pinned (OpenSpec.upto orderRowsSpec)

end Rows
end Go.Proofs.YtnippoaemjaihaaDoor
