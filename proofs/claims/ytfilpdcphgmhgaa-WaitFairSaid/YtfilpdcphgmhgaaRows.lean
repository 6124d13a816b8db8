/-
  No cell of these rows narrows 'for every input' (looked for: loops, veiled, ifaces, maps, wideKeys, modest, calm, conditions, laid).
  DERIVED. THE GIVEN ROWS OF THIS SEAT. 8 by the template 'for every input the law returns true; each argument reads behind the call as it read before'; 0 by the template 'total and deterministic' (their statements: YtfilpdcphgmhgaaTotals.lean).
  GIVEN WITH THE SEED: the statements are not yours to turn. If you find one false, say at which input.
  Laid BY PROGRAM, IN A SANDBOX (cutbox-rows.mjs): the forced cells as the released guide's own fill.sh prints them over the translation b1373c56ef9cd3f0… (all of the seat's roots in one cut). By AI agents, Wed Nov 11 2026. No macro, syntax, notation, axiom, sorry.
-/
import Derived.Test.YtfilpdcphgmhgaaChecked
import GoSem.Claim
import GoSem.ClaimJoined
import GoSem.ClaimMapViews
import Derived.JoinedTies
import Derived.KernelRfl
namespace Go.Proofs.Ytfilpdcphgmhgaa
/- THE CELL 'sum', in the pinned program and in every row, IS THE sha256 OF THE DUMP (.gsa) THAT YtfilpdcphgmhgaaProg.lean LOADS. Nothing in Lean hashes anything: it is a label: what it is worth is what the hold of that sum in a sandbox is worth. -/
noncomputable def Try.pinned : Pinned := { name := "ytfilpdcphgmhgaa", sum := "b1373c56ef9cd3f054071e0c9ff9b3ac6bfe5fd666508e1acc6ca4dd50b98c3c", checked := Try.checked }
namespace Rows
def none {H : Type} : Left H := { results := [], args := [] }

/-- 'larderlaw18.WaitRefused': WHATEVER THE INPUT: true; the input reads as it did. -/
def waitRefusedSpec : ChangeSpec := { name := "waitRefused", fn := fun _ => fun
  | [d] => { results := [.lit (.bool true)], args := [d] }
  | _ => none }
def waitRefusedRow : OpenClaim := { program := "ytfilpdcphgmhgaa", sum := "b1373c56ef9cd3f054071e0c9ff9b3ac6bfe5fd666508e1acc6ca4dd50b98c3c", func := "larder/larderlaw18.WaitRefused", spec := "waitRefused", unfollowed := true, recurses := true, plainKeys := false, apart := false }
def WaitRefusedSaid : Prop := waitRefusedRow.holds Try.pinned (OpenSpec.ofChange waitRefusedSpec)

/-- ITS FALSE NEIGHBOUR: 'it returns false'. Refute it at one input. -/
def waitRefusedWrong : ChangeSpec := { name := "waitRefused", fn := fun _ => fun
  | [d] => { results := [.lit (.bool false)], args := [d] }
  | _ => none }
def WaitRefusedWrongFalsely : Prop := waitRefusedRow.holds Try.pinned (OpenSpec.ofChange waitRefusedWrong)

/-- 'larderlaw18.WaitBlocks': WHATEVER THE INPUT: true; the input reads as it did. -/
def waitBlocksSpec : ChangeSpec := { name := "waitBlocks", fn := fun _ => fun
  | [d] => { results := [.lit (.bool true)], args := [d] }
  | _ => none }
def waitBlocksRow : OpenClaim := { program := "ytfilpdcphgmhgaa", sum := "b1373c56ef9cd3f054071e0c9ff9b3ac6bfe5fd666508e1acc6ca4dd50b98c3c", func := "larder/larderlaw18.WaitBlocks", spec := "waitBlocks", unfollowed := true, recurses := true, plainKeys := false, apart := false }
def WaitBlocksSaid : Prop := waitBlocksRow.holds Try.pinned (OpenSpec.ofChange waitBlocksSpec)

/-- ITS FALSE NEIGHBOUR: 'it returns false'. Refute it at one input. -/
def waitBlocksWrong : ChangeSpec := { name := "waitBlocks", fn := fun _ => fun
  | [d] => { results := [.lit (.bool false)], args := [d] }
  | _ => none }
def WaitBlocksWrongFalsely : Prop := waitBlocksRow.holds Try.pinned (OpenSpec.ofChange waitBlocksWrong)

/-- 'larderlaw18.WaitNext': WHATEVER THE INPUT: true; the input reads as it did. -/
def waitNextSpec : ChangeSpec := { name := "waitNext", fn := fun _ => fun
  | [d] => { results := [.lit (.bool true)], args := [d] }
  | _ => none }
def waitNextRow : OpenClaim := { program := "ytfilpdcphgmhgaa", sum := "b1373c56ef9cd3f054071e0c9ff9b3ac6bfe5fd666508e1acc6ca4dd50b98c3c", func := "larder/larderlaw18.WaitNext", spec := "waitNext", unfollowed := true, recurses := true, plainKeys := false, apart := false }
def WaitNextSaid : Prop := waitNextRow.holds Try.pinned (OpenSpec.ofChange waitNextSpec)

/-- ITS FALSE NEIGHBOUR: 'it returns false'. Refute it at one input. -/
def waitNextWrong : ChangeSpec := { name := "waitNext", fn := fun _ => fun
  | [d] => { results := [.lit (.bool false)], args := [d] }
  | _ => none }
def WaitNextWrongFalsely : Prop := waitNextRow.holds Try.pinned (OpenSpec.ofChange waitNextWrong)

/-- 'larderlaw18.WaitDue': WHATEVER THE INPUT: true; the input reads as it did. -/
def waitDueSpec : ChangeSpec := { name := "waitDue", fn := fun _ => fun
  | [d] => { results := [.lit (.bool true)], args := [d] }
  | _ => none }
def waitDueRow : OpenClaim := { program := "ytfilpdcphgmhgaa", sum := "b1373c56ef9cd3f054071e0c9ff9b3ac6bfe5fd666508e1acc6ca4dd50b98c3c", func := "larder/larderlaw18.WaitDue", spec := "waitDue", unfollowed := true, recurses := true, plainKeys := false, apart := false }
def WaitDueSaid : Prop := waitDueRow.holds Try.pinned (OpenSpec.ofChange waitDueSpec)

/-- ITS FALSE NEIGHBOUR: 'it returns false'. Refute it at one input. -/
def waitDueWrong : ChangeSpec := { name := "waitDue", fn := fun _ => fun
  | [d] => { results := [.lit (.bool false)], args := [d] }
  | _ => none }
def WaitDueWrongFalsely : Prop := waitDueRow.holds Try.pinned (OpenSpec.ofChange waitDueWrong)

/-- 'larderlaw18.WaitTells': WHATEVER THE INPUT: true; the input reads as it did. -/
def waitTellsSpec : ChangeSpec := { name := "waitTells", fn := fun _ => fun
  | [d] => { results := [.lit (.bool true)], args := [d] }
  | _ => none }
def waitTellsRow : OpenClaim := { program := "ytfilpdcphgmhgaa", sum := "b1373c56ef9cd3f054071e0c9ff9b3ac6bfe5fd666508e1acc6ca4dd50b98c3c", func := "larder/larderlaw18.WaitTells", spec := "waitTells", unfollowed := true, recurses := true, plainKeys := false, apart := false }
def WaitTellsSaid : Prop := waitTellsRow.holds Try.pinned (OpenSpec.ofChange waitTellsSpec)

/-- ITS FALSE NEIGHBOUR: 'it returns false'. Refute it at one input. -/
def waitTellsWrong : ChangeSpec := { name := "waitTells", fn := fun _ => fun
  | [d] => { results := [.lit (.bool false)], args := [d] }
  | _ => none }
def WaitTellsWrongFalsely : Prop := waitTellsRow.holds Try.pinned (OpenSpec.ofChange waitTellsWrong)

/-- 'larderlaw18.WaitExact': WHATEVER THE INPUT: true; the input reads as it did. -/
def waitExactSpec : ChangeSpec := { name := "waitExact", fn := fun _ => fun
  | [d] => { results := [.lit (.bool true)], args := [d] }
  | _ => none }
def waitExactRow : OpenClaim := { program := "ytfilpdcphgmhgaa", sum := "b1373c56ef9cd3f054071e0c9ff9b3ac6bfe5fd666508e1acc6ca4dd50b98c3c", func := "larder/larderlaw18.WaitExact", spec := "waitExact", unfollowed := true, recurses := true, plainKeys := false, apart := false }
def WaitExactSaid : Prop := waitExactRow.holds Try.pinned (OpenSpec.ofChange waitExactSpec)

/-- ITS FALSE NEIGHBOUR: 'it returns false'. Refute it at one input. -/
def waitExactWrong : ChangeSpec := { name := "waitExact", fn := fun _ => fun
  | [d] => { results := [.lit (.bool false)], args := [d] }
  | _ => none }
def WaitExactWrongFalsely : Prop := waitExactRow.holds Try.pinned (OpenSpec.ofChange waitExactWrong)

/-- 'larderlaw18.WaitFair': WHATEVER THE INPUT: true; the input reads as it did. -/
def waitFairSpec : ChangeSpec := { name := "waitFair", fn := fun _ => fun
  | [d] => { results := [.lit (.bool true)], args := [d] }
  | _ => none }
def waitFairRow : OpenClaim := { program := "ytfilpdcphgmhgaa", sum := "b1373c56ef9cd3f054071e0c9ff9b3ac6bfe5fd666508e1acc6ca4dd50b98c3c", func := "larder/larderlaw18.WaitFair", spec := "waitFair", unfollowed := true, recurses := true, plainKeys := false, apart := false }
def WaitFairSaid : Prop := waitFairRow.holds Try.pinned (OpenSpec.ofChange waitFairSpec)

/-- ITS FALSE NEIGHBOUR: 'it returns false'. Refute it at one input. -/
def waitFairWrong : ChangeSpec := { name := "waitFair", fn := fun _ => fun
  | [d] => { results := [.lit (.bool false)], args := [d] }
  | _ => none }
def WaitFairWrongFalsely : Prop := waitFairRow.holds Try.pinned (OpenSpec.ofChange waitFairWrong)

/-- 'larderlaw18.WaitLent': WHATEVER THE INPUT: true; the input reads as it did. -/
def waitLentSpec : ChangeSpec := { name := "waitLent", fn := fun _ => fun
  | [d] => { results := [.lit (.bool true)], args := [d] }
  | _ => none }
def waitLentRow : OpenClaim := { program := "ytfilpdcphgmhgaa", sum := "b1373c56ef9cd3f054071e0c9ff9b3ac6bfe5fd666508e1acc6ca4dd50b98c3c", func := "larder/larderlaw18.WaitLent", spec := "waitLent", unfollowed := true, recurses := true, plainKeys := false, apart := false }
def WaitLentSaid : Prop := waitLentRow.holds Try.pinned (OpenSpec.ofChange waitLentSpec)

/-- ITS FALSE NEIGHBOUR: 'it returns false'. Refute it at one input. -/
def waitLentWrong : ChangeSpec := { name := "waitLent", fn := fun _ => fun
  | [d] => { results := [.lit (.bool false)], args := [d] }
  | _ => none }
def WaitLentWrongFalsely : Prop := waitLentRow.holds Try.pinned (OpenSpec.ofChange waitLentWrong)

/- THE SECOND FORM. 'bulk': how many values and letters a reading holds, each counted each time it is reached (what is shared counts as often as it is met; a slice's spare places count too). A statement '..UptoSaid' is the law's where the arguments, and the package variables that the reading takes, are together of bulk at most 1048576: NARROWER than '..Said'. Prove '..Said' where nothing that the law and all that it calls make is longer than what came in: it says more and counts as full. Else prove '..UptoSaid'. A law counts once. -/
mutual
def uptoBulk {H : Type} : DataW H → Nat
  | .lit (.string bytes) => bytes.length + 1
  | .lit _ => 1
  | .nil => 1
  | .ptr d => uptoBulk d + 1
  | .slice elems spare => uptoBulkAll elems + uptoBulkAll spare + 1
  | .agg parts => uptoBulkAll parts + 1
  | .iface _ d => uptoBulk d + 1
  | .map entries => uptoBulkEntries entries + 1
  | .held _ => 1
def uptoBulkAll {H : Type} : List (DataW H) → Nat
  | [] => 0
  | d :: r => uptoBulk d + uptoBulkAll r
def uptoBulkEntries {H : Type} : List (Lit × DataW H) → Nat
  | [] => 0
  | x :: r => uptoBulkEntry x + uptoBulkEntries r
def uptoBulkEntry {H : Type} : Lit × DataW H → Nat
  | (.string bytes, d) => bytes.length + uptoBulk d + 1
  | (_, d) => uptoBulk d + 1
 end
def uptoSmall : (H : Type) → List (DataW H) → Bool := fun _ ds => decide (uptoBulkAll ds ≤ 1048576)
def OpenSpec.upto (s : _root_.Go.ChangeSpec) : _root_.Go.OpenSpec := { _root_.Go.OpenSpec.ofChange s with cond := some uptoSmall }

/-- 'larderlaw18.WaitRefused', WHERE WHAT IT READS IS OF BULK AT MOST 1048576: true; the input reads as it did. -/
def waitRefusedUptoRow : OpenClaim := { program := "ytfilpdcphgmhgaa", sum := "b1373c56ef9cd3f054071e0c9ff9b3ac6bfe5fd666508e1acc6ca4dd50b98c3c", func := "larder/larderlaw18.WaitRefused", spec := "waitRefused", unfollowed := true, recurses := true, plainKeys := false, apart := false, narrowed := true }
def WaitRefusedUptoSaid : Prop := waitRefusedUptoRow.holds Try.pinned (OpenSpec.upto waitRefusedSpec)

/-- 'larderlaw18.WaitBlocks', WHERE WHAT IT READS IS OF BULK AT MOST 1048576: true; the input reads as it did. -/
def waitBlocksUptoRow : OpenClaim := { program := "ytfilpdcphgmhgaa", sum := "b1373c56ef9cd3f054071e0c9ff9b3ac6bfe5fd666508e1acc6ca4dd50b98c3c", func := "larder/larderlaw18.WaitBlocks", spec := "waitBlocks", unfollowed := true, recurses := true, plainKeys := false, apart := false, narrowed := true }
def WaitBlocksUptoSaid : Prop := waitBlocksUptoRow.holds Try.pinned (OpenSpec.upto waitBlocksSpec)

/-- 'larderlaw18.WaitNext', WHERE WHAT IT READS IS OF BULK AT MOST 1048576: true; the input reads as it did. -/
def waitNextUptoRow : OpenClaim := { program := "ytfilpdcphgmhgaa", sum := "b1373c56ef9cd3f054071e0c9ff9b3ac6bfe5fd666508e1acc6ca4dd50b98c3c", func := "larder/larderlaw18.WaitNext", spec := "waitNext", unfollowed := true, recurses := true, plainKeys := false, apart := false, narrowed := true }
def WaitNextUptoSaid : Prop := waitNextUptoRow.holds Try.pinned (OpenSpec.upto waitNextSpec)

/-- 'larderlaw18.WaitDue', WHERE WHAT IT READS IS OF BULK AT MOST 1048576: true; the input reads as it did. -/
def waitDueUptoRow : OpenClaim := { program := "ytfilpdcphgmhgaa", sum := "b1373c56ef9cd3f054071e0c9ff9b3ac6bfe5fd666508e1acc6ca4dd50b98c3c", func := "larder/larderlaw18.WaitDue", spec := "waitDue", unfollowed := true, recurses := true, plainKeys := false, apart := false, narrowed := true }
def WaitDueUptoSaid : Prop := waitDueUptoRow.holds Try.pinned (OpenSpec.upto waitDueSpec)

/-- 'larderlaw18.WaitTells', WHERE WHAT IT READS IS OF BULK AT MOST 1048576: true; the input reads as it did. -/
def waitTellsUptoRow : OpenClaim := { program := "ytfilpdcphgmhgaa", sum := "b1373c56ef9cd3f054071e0c9ff9b3ac6bfe5fd666508e1acc6ca4dd50b98c3c", func := "larder/larderlaw18.WaitTells", spec := "waitTells", unfollowed := true, recurses := true, plainKeys := false, apart := false, narrowed := true }
def WaitTellsUptoSaid : Prop := waitTellsUptoRow.holds Try.pinned (OpenSpec.upto waitTellsSpec)

/-- 'larderlaw18.WaitExact', WHERE WHAT IT READS IS OF BULK AT MOST 1048576: true; the input reads as it did. -/
def waitExactUptoRow : OpenClaim := { program := "ytfilpdcphgmhgaa", sum := "b1373c56ef9cd3f054071e0c9ff9b3ac6bfe5fd666508e1acc6ca4dd50b98c3c", func := "larder/larderlaw18.WaitExact", spec := "waitExact", unfollowed := true, recurses := true, plainKeys := false, apart := false, narrowed := true }
def WaitExactUptoSaid : Prop := waitExactUptoRow.holds Try.pinned (OpenSpec.upto waitExactSpec)

/-- 'larderlaw18.WaitFair', WHERE WHAT IT READS IS OF BULK AT MOST 1048576: true; the input reads as it did. -/
def waitFairUptoRow : OpenClaim := { program := "ytfilpdcphgmhgaa", sum := "b1373c56ef9cd3f054071e0c9ff9b3ac6bfe5fd666508e1acc6ca4dd50b98c3c", func := "larder/larderlaw18.WaitFair", spec := "waitFair", unfollowed := true, recurses := true, plainKeys := false, apart := false, narrowed := true }
def WaitFairUptoSaid : Prop := waitFairUptoRow.holds Try.pinned (OpenSpec.upto waitFairSpec)

/-- 'larderlaw18.WaitLent', WHERE WHAT IT READS IS OF BULK AT MOST 1048576: true; the input reads as it did. -/
def waitLentUptoRow : OpenClaim := { program := "ytfilpdcphgmhgaa", sum := "b1373c56ef9cd3f054071e0c9ff9b3ac6bfe5fd666508e1acc6ca4dd50b98c3c", func := "larder/larderlaw18.WaitLent", spec := "waitLent", unfollowed := true, recurses := true, plainKeys := false, apart := false, narrowed := true }
def WaitLentUptoSaid : Prop := waitLentUptoRow.holds Try.pinned (OpenSpec.upto waitLentSpec)

end Rows
end Go.Proofs.Ytfilpdcphgmhgaa
