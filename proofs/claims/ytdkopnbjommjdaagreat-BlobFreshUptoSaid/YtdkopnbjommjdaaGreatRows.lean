/-
  No cell of these rows narrows 'for every input' (looked for: loops, veiled, ifaces, maps, wideKeys, modest, calm, conditions, laid).
  DERIVED. THE GIVEN ROWS OF THIS SEAT. 3 by the template 'for every input the law returns true; each argument reads behind the call as it read before'; 0 by the template 'total and deterministic' (their statements: YtdkopnbjommjdaaGreatTotals.lean).
  GIVEN WITH THE SEED: the statements are not yours to turn. If you find one false, say at which input.
  Laid BY PROGRAM, IN A SANDBOX (cutbox-rows.mjs): the forced cells as the released guide's own fill.sh prints them over the translation ab818e89dd134d6d… (all of the seat's roots in one cut). By AI agents, Wed Nov 11 2026. No macro, syntax, notation, axiom, sorry.
-/
import Derived.Test.YtdkopnbjommjdaaGreatChecked
import GoSem.Claim
import GoSem.ClaimJoined
import GoSem.ClaimMapViews
import Derived.JoinedTies
import Derived.KernelRfl
namespace Go.Proofs.YtdkopnbjommjdaaGreat
/- THE CELL 'sum', in the pinned program and in every row, IS THE sha256 OF THE DUMP (.gsa) THAT YtdkopnbjommjdaaGreatProg.lean LOADS. Nothing in Lean hashes anything: it is a label: what it is worth is what the hold of that sum in a sandbox is worth. -/
noncomputable def Tryz.pinned : Pinned := { name := "ytdkopnbjommjdaagreat", sum := "ab818e89dd134d6d6d47cd8dd063450e822386f203ed0f51eaa95be3a9a8a88a", checked := Tryz.checked }
namespace Rows
def none {H : Type} : Left H := { results := [], args := [] }

/-- 'larderlaw4.BlobExact': WHATEVER THE INPUT: true; the input reads as it did. -/
def blobExactSpec : ChangeSpec := { name := "blobExact", fn := fun _ => fun
  | [d] => { results := [.lit (.bool true)], args := [d] }
  | _ => none }
def blobExactRow : OpenClaim := { program := "ytdkopnbjommjdaagreat", sum := "ab818e89dd134d6d6d47cd8dd063450e822386f203ed0f51eaa95be3a9a8a88a", func := "larder/larderlaw4.BlobExact", spec := "blobExact", inPlace := ["internal/bytealg.Compare"], unfollowed := true, recurses := true, apart := false }
def BlobExactSaid : Prop := blobExactRow.holds Tryz.pinned (OpenSpec.ofChange blobExactSpec)

/-- ITS FALSE NEIGHBOUR: 'it returns false'. Refute it at one input. -/
def blobExactWrong : ChangeSpec := { name := "blobExact", fn := fun _ => fun
  | [d] => { results := [.lit (.bool false)], args := [d] }
  | _ => none }
def BlobExactWrongFalsely : Prop := blobExactRow.holds Tryz.pinned (OpenSpec.ofChange blobExactWrong)

/-- 'larderlaw4.BlobFresh': WHATEVER THE INPUT: true; the input reads as it did. -/
def blobFreshSpec : ChangeSpec := { name := "blobFresh", fn := fun _ => fun
  | [d] => { results := [.lit (.bool true)], args := [d] }
  | _ => none }
def blobFreshRow : OpenClaim := { program := "ytdkopnbjommjdaagreat", sum := "ab818e89dd134d6d6d47cd8dd063450e822386f203ed0f51eaa95be3a9a8a88a", func := "larder/larderlaw4.BlobFresh", spec := "blobFresh", inPlace := ["internal/bytealg.Compare"], unfollowed := true, recurses := true, apart := false }
def BlobFreshSaid : Prop := blobFreshRow.holds Tryz.pinned (OpenSpec.ofChange blobFreshSpec)

/-- ITS FALSE NEIGHBOUR: 'it returns false'. Refute it at one input. -/
def blobFreshWrong : ChangeSpec := { name := "blobFresh", fn := fun _ => fun
  | [d] => { results := [.lit (.bool false)], args := [d] }
  | _ => none }
def BlobFreshWrongFalsely : Prop := blobFreshRow.holds Tryz.pinned (OpenSpec.ofChange blobFreshWrong)

/-- 'larderlaw4.BlobWords': WHATEVER THE INPUT: true; the input reads as it did. -/
def blobWordsSpec : ChangeSpec := { name := "blobWords", fn := fun _ => fun
  | [d] => { results := [.lit (.bool true)], args := [d] }
  | _ => none }
def blobWordsRow : OpenClaim := { program := "ytdkopnbjommjdaagreat", sum := "ab818e89dd134d6d6d47cd8dd063450e822386f203ed0f51eaa95be3a9a8a88a", func := "larder/larderlaw4.BlobWords", spec := "blobWords", inPlace := ["internal/bytealg.Compare"], unfollowed := true, recurses := true, apart := false }
def BlobWordsSaid : Prop := blobWordsRow.holds Tryz.pinned (OpenSpec.ofChange blobWordsSpec)

/-- ITS FALSE NEIGHBOUR: 'it returns false'. Refute it at one input. -/
def blobWordsWrong : ChangeSpec := { name := "blobWords", fn := fun _ => fun
  | [d] => { results := [.lit (.bool false)], args := [d] }
  | _ => none }
def BlobWordsWrongFalsely : Prop := blobWordsRow.holds Tryz.pinned (OpenSpec.ofChange blobWordsWrong)

/- THE SECOND FORM. 'bulk': how many values and letters a reading holds, each counted each time it is reached (what is shared counts as often as it is met; a slice's spare places count too). A statement '..UptoSaid' is the law's where the arguments, and the package variables that the reading takes, are together of bulk at most 1048576: NARROWER than '..Said'. Prove '..Said' where nothing that the law and all that it calls make is longer than what came in: it says more and counts as full. Else prove '..UptoSaid'. A law counts once. -/
mutual
def uptoBulk {H : Type} : DataW H → Nat
  | .lit (.string bytes) => bytes.length + 1
  | .lit _ => 1
  | .nil => 1
  | .ptr d => uptoBulk d + 1
  | .slice elems spare => uptoBulkAll elems + uptoBulkAll spare + 1
  | .agg parts => uptoBulkAll parts + 1
  | .iface _ d => uptoBulk d + 1
  | .map entries => uptoBulkEntries entries + 1
  | .held _ => 1
def uptoBulkAll {H : Type} : List (DataW H) → Nat
  | [] => 0
  | d :: r => uptoBulk d + uptoBulkAll r
def uptoBulkEntries {H : Type} : List (Lit × DataW H) → Nat
  | [] => 0
  | x :: r => uptoBulkEntry x + uptoBulkEntries r
def uptoBulkEntry {H : Type} : Lit × DataW H → Nat
  | (.string bytes, d) => bytes.length + uptoBulk d + 1
  | (_, d) => uptoBulk d + 1
 end
def uptoSmall : (H : Type) → List (DataW H) → Bool := fun _ ds => decide (uptoBulkAll ds ≤ 1048576)
def OpenSpec.upto (s : _root_.Go.ChangeSpec) : _root_.Go.OpenSpec := { _root_.Go.OpenSpec.ofChange s with cond := some uptoSmall }

/-- 'larderlaw4.BlobExact', WHERE WHAT IT READS IS OF BULK AT MOST 1048576: true; the input reads as it did. -/
def blobExactUptoRow : OpenClaim := { program := "ytdkopnbjommjdaagreat", sum := "ab818e89dd134d6d6d47cd8dd063450e822386f203ed0f51eaa95be3a9a8a88a", func := "larder/larderlaw4.BlobExact", spec := "blobExact", inPlace := ["internal/bytealg.Compare"], unfollowed := true, recurses := true, apart := false, narrowed := true }
def BlobExactUptoSaid : Prop := blobExactUptoRow.holds Tryz.pinned (OpenSpec.upto blobExactSpec)

/-- 'larderlaw4.BlobFresh', WHERE WHAT IT READS IS OF BULK AT MOST 1048576: true; the input reads as it did. -/
def blobFreshUptoRow : OpenClaim := { program := "ytdkopnbjommjdaagreat", sum := "ab818e89dd134d6d6d47cd8dd063450e822386f203ed0f51eaa95be3a9a8a88a", func := "larder/larderlaw4.BlobFresh", spec := "blobFresh", inPlace := ["internal/bytealg.Compare"], unfollowed := true, recurses := true, apart := false, narrowed := true }
def BlobFreshUptoSaid : Prop := blobFreshUptoRow.holds Tryz.pinned (OpenSpec.upto blobFreshSpec)

/-- 'larderlaw4.BlobWords', WHERE WHAT IT READS IS OF BULK AT MOST 1048576: true; the input reads as it did. -/
def blobWordsUptoRow : OpenClaim := { program := "ytdkopnbjommjdaagreat", sum := "ab818e89dd134d6d6d47cd8dd063450e822386f203ed0f51eaa95be3a9a8a88a", func := "larder/larderlaw4.BlobWords", spec := "blobWords", inPlace := ["internal/bytealg.Compare"], unfollowed := true, recurses := true, apart := false, narrowed := true }
def BlobWordsUptoSaid : Prop := blobWordsUptoRow.holds Tryz.pinned (OpenSpec.upto blobWordsSpec)

end Rows
end Go.Proofs.YtdkopnbjommjdaaGreat
