/-
  No cell of these rows narrows 'for every input' (looked for: loops, veiled, ifaces, maps, wideKeys, modest, calm, conditions, laid).
  DERIVED. THE GIVEN ROWS OF THIS SEAT. 3 by the template 'for every input the law returns true; each argument reads behind the call as it read before'; 0 by the template 'total and deterministic' (their statements: YtdkopnbjommjdaaTotals.lean).
  GIVEN WITH THE SEED: the statements are not yours to turn. If you find one false, say at which input.
  Laid BY PROGRAM, IN A SANDBOX (cutbox-rows.mjs): the forced cells as the released guide's own fill.sh prints them over the translation 374564149f3030d1… (all of the seat's roots in one cut). By AI agents, Wed Nov 11 2026. No macro, syntax, notation, axiom, sorry.
-/
import Derived.Test.YtdkopnbjommjdaaChecked
import GoSem.Claim
import GoSem.ClaimJoined
import GoSem.ClaimMapViews
import Derived.JoinedTies
import Derived.KernelRfl
namespace Go.Proofs.Ytdkopnbjommjdaa
/- THE CELL 'sum', in the pinned program and in every row, IS THE sha256 OF THE DUMP (.gsa) THAT YtdkopnbjommjdaaProg.lean LOADS. Nothing in Lean hashes anything: it is a label: what it is worth is what the hold of that sum in a sandbox is worth. -/
noncomputable def Try.pinned : Pinned := { name := "ytdkopnbjommjdaa", sum := "374564149f3030d1182133b70ac12ce485c41d673f41effb74991064a935ccb0", checked := Try.checked }
namespace Rows
def none {H : Type} : Left H := { results := [], args := [] }

/-- 'larderlaw4.BlobCounts': WHATEVER THE INPUT: true; the input reads as it did. -/
def blobCountsSpec : ChangeSpec := { name := "blobCounts", fn := fun _ => fun
  | [d] => { results := [.lit (.bool true)], args := [d] }
  | _ => none }
def blobCountsRow : OpenClaim := { program := "ytdkopnbjommjdaa", sum := "374564149f3030d1182133b70ac12ce485c41d673f41effb74991064a935ccb0", func := "larder/larderlaw4.BlobCounts", spec := "blobCounts", inPlace := ["internal/bytealg.Compare"], unfollowed := true, recurses := true, apart := false }
def BlobCountsSaid : Prop := blobCountsRow.holds Try.pinned (OpenSpec.ofChange blobCountsSpec)

/-- ITS FALSE NEIGHBOUR: 'it returns false'. Refute it at one input. -/
def blobCountsWrong : ChangeSpec := { name := "blobCounts", fn := fun _ => fun
  | [d] => { results := [.lit (.bool false)], args := [d] }
  | _ => none }
def BlobCountsWrongFalsely : Prop := blobCountsRow.holds Try.pinned (OpenSpec.ofChange blobCountsWrong)

/-- 'larderlaw4.BlobSplices': WHATEVER THE INPUT: true; the input reads as it did. -/
def blobSplicesSpec : ChangeSpec := { name := "blobSplices", fn := fun _ => fun
  | [d] => { results := [.lit (.bool true)], args := [d] }
  | _ => none }
def blobSplicesRow : OpenClaim := { program := "ytdkopnbjommjdaa", sum := "374564149f3030d1182133b70ac12ce485c41d673f41effb74991064a935ccb0", func := "larder/larderlaw4.BlobSplices", spec := "blobSplices", unfollowed := true, recurses := true, apart := false }
def BlobSplicesSaid : Prop := blobSplicesRow.holds Try.pinned (OpenSpec.ofChange blobSplicesSpec)

/-- ITS FALSE NEIGHBOUR: 'it returns false'. Refute it at one input. -/
def blobSplicesWrong : ChangeSpec := { name := "blobSplices", fn := fun _ => fun
  | [d] => { results := [.lit (.bool false)], args := [d] }
  | _ => none }
def BlobSplicesWrongFalsely : Prop := blobSplicesRow.holds Try.pinned (OpenSpec.ofChange blobSplicesWrong)

/-- 'larderlaw4.BlobTwin': WHATEVER THE INPUT: true; the input reads as it did. -/
def blobTwinSpec : ChangeSpec := { name := "blobTwin", fn := fun _ => fun
  | [d] => { results := [.lit (.bool true)], args := [d] }
  | _ => none }
def blobTwinRow : OpenClaim := { program := "ytdkopnbjommjdaa", sum := "374564149f3030d1182133b70ac12ce485c41d673f41effb74991064a935ccb0", func := "larder/larderlaw4.BlobTwin", spec := "blobTwin", inPlace := ["internal/bytealg.Compare"], unfollowed := true, recurses := true, apart := false }
def BlobTwinSaid : Prop := blobTwinRow.holds Try.pinned (OpenSpec.ofChange blobTwinSpec)

/-- ITS FALSE NEIGHBOUR: 'it returns false'. Refute it at one input. -/
def blobTwinWrong : ChangeSpec := { name := "blobTwin", fn := fun _ => fun
  | [d] => { results := [.lit (.bool false)], args := [d] }
  | _ => none }
def BlobTwinWrongFalsely : Prop := blobTwinRow.holds Try.pinned (OpenSpec.ofChange blobTwinWrong)

/- THE SECOND FORM. 'bulk': how many values and letters a reading holds, each counted each time it is reached (what is shared counts as often as it is met; a slice's spare places count too). A statement '..UptoSaid' is the law's where the arguments, and the package variables that the reading takes, are together of bulk at most 1048576: NARROWER than '..Said'. Prove '..Said' where nothing that the law and all that it calls make is longer than what came in: it says more and counts as full. Else prove '..UptoSaid'. A law counts once. -/
mutual
def uptoBulk {H : Type} : DataW H → Nat
  | .lit (.string bytes) => bytes.length + 1
  | .lit _ => 1
  | .nil => 1
  | .ptr d => uptoBulk d + 1
  | .slice elems spare => uptoBulkAll elems + uptoBulkAll spare + 1
  | .agg parts => uptoBulkAll parts + 1
  | .iface _ d => uptoBulk d + 1
  | .map entries => uptoBulkEntries entries + 1
  | .held _ => 1
def uptoBulkAll {H : Type} : List (DataW H) → Nat
  | [] => 0
  | d :: r => uptoBulk d + uptoBulkAll r
def uptoBulkEntries {H : Type} : List (Lit × DataW H) → Nat
  | [] => 0
  | x :: r => uptoBulkEntry x + uptoBulkEntries r
def uptoBulkEntry {H : Type} : Lit × DataW H → Nat
  | (.string bytes, d) => bytes.length + uptoBulk d + 1
  | (_, d) => uptoBulk d + 1
 end
def uptoSmall : (H : Type) → List (DataW H) → Bool := fun _ ds => decide (uptoBulkAll ds ≤ 1048576)
def OpenSpec.upto (s : _root_.Go.ChangeSpec) : _root_.Go.OpenSpec := { _root_.Go.OpenSpec.ofChange s with cond := some uptoSmall }

/-- 'larderlaw4.BlobCounts', WHERE WHAT IT READS IS OF BULK AT MOST 1048576: true; the input reads as it did. -/
def blobCountsUptoRow : OpenClaim := { program := "ytdkopnbjommjdaa", sum := "374564149f3030d1182133b70ac12ce485c41d673f41effb74991064a935ccb0", func := "larder/larderlaw4.BlobCounts", spec := "blobCounts", inPlace := ["internal/bytealg.Compare"], unfollowed := true, recurses := true, apart := false, narrowed := true }
def BlobCountsUptoSaid : Prop := blobCountsUptoRow.holds Try.pinned (OpenSpec.upto blobCountsSpec)

/-- 'larderlaw4.BlobSplices', WHERE WHAT IT READS IS OF BULK AT MOST 1048576: true; the input reads as it did. -/
def blobSplicesUptoRow : OpenClaim := { program := "ytdkopnbjommjdaa", sum := "374564149f3030d1182133b70ac12ce485c41d673f41effb74991064a935ccb0", func := "larder/larderlaw4.BlobSplices", spec := "blobSplices", unfollowed := true, recurses := true, apart := false, narrowed := true }
def BlobSplicesUptoSaid : Prop := blobSplicesUptoRow.holds Try.pinned (OpenSpec.upto blobSplicesSpec)

/-- 'larderlaw4.BlobTwin', WHERE WHAT IT READS IS OF BULK AT MOST 1048576: true; the input reads as it did. -/
def blobTwinUptoRow : OpenClaim := { program := "ytdkopnbjommjdaa", sum := "374564149f3030d1182133b70ac12ce485c41d673f41effb74991064a935ccb0", func := "larder/larderlaw4.BlobTwin", spec := "blobTwin", inPlace := ["internal/bytealg.Compare"], unfollowed := true, recurses := true, apart := false, narrowed := true }
def BlobTwinUptoSaid : Prop := blobTwinUptoRow.holds Try.pinned (OpenSpec.upto blobTwinSpec)

end Rows
end Go.Proofs.Ytdkopnbjommjdaa
