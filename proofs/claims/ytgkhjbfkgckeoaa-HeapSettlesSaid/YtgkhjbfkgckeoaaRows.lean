/-
  No cell of these rows narrows 'for every input' (looked for: loops, veiled, ifaces, maps, wideKeys, modest, calm, conditions, laid).
  DERIVED. THE GIVEN ROWS OF THIS SEAT. 10 by the template 'for every input the law returns true; each argument reads behind the call as it read before'; 0 by the template 'total and deterministic' (their statements: YtgkhjbfkgckeoaaTotals.lean).
  GIVEN WITH THE SEED: the statements are not yours to turn. If you find one false, say at which input.
  Laid BY PROGRAM, IN A SANDBOX (cutbox-rows.mjs): the forced cells as the released guide's own fill.sh prints them over the translation dbc1c8120ea10dfe… (all of the seat's roots in one cut). By AI agents, Wed Nov 11 2026. No macro, syntax, notation, axiom, sorry.
-/
import Derived.Test.YtgkhjbfkgckeoaaChecked
import GoSem.Claim
import GoSem.ClaimJoined
import GoSem.ClaimMapViews
import Derived.JoinedTies
import Derived.KernelRfl
namespace Go.Proofs.Ytgkhjbfkgckeoaa
/- THE CELL 'sum', in the pinned program and in every row, IS THE sha256 OF THE DUMP (.gsa) THAT YtgkhjbfkgckeoaaProg.lean LOADS. Nothing in Lean hashes anything: it is a label: what it is worth is what the hold of that sum in a sandbox is worth. -/
noncomputable def Try.pinned : Pinned := { name := "ytgkhjbfkgckeoaa", sum := "dbc1c8120ea10dfe519dea713f7a7578b1c100157495c1accd48d98ad5af4848", checked := Try.checked }
namespace Rows
def none {H : Type} : Left H := { results := [], args := [] }

/-- 'larderlaw3.HeapKeeps': WHATEVER THE INPUT: true; the input reads as it did. -/
def heapKeepsSpec : ChangeSpec := { name := "heapKeeps", fn := fun _ => fun
  | [d] => { results := [.lit (.bool true)], args := [d] }
  | _ => none }
def heapKeepsRow : OpenClaim := { program := "ytgkhjbfkgckeoaa", sum := "dbc1c8120ea10dfe519dea713f7a7578b1c100157495c1accd48d98ad5af4848", func := "larder/larderlaw3.HeapKeeps", spec := "heapKeeps", unfollowed := true, recurses := true, apart := false }
def HeapKeepsSaid : Prop := heapKeepsRow.holds Try.pinned (OpenSpec.ofChange heapKeepsSpec)

/-- ITS FALSE NEIGHBOUR: 'it returns false'. Refute it at one input. -/
def heapKeepsWrong : ChangeSpec := { name := "heapKeeps", fn := fun _ => fun
  | [d] => { results := [.lit (.bool false)], args := [d] }
  | _ => none }
def HeapKeepsWrongFalsely : Prop := heapKeepsRow.holds Try.pinned (OpenSpec.ofChange heapKeepsWrong)

/-- 'larderlaw3.HeapRoomy': WHATEVER THE INPUT: true; the input reads as it did. -/
def heapRoomySpec : ChangeSpec := { name := "heapRoomy", fn := fun _ => fun
  | [d] => { results := [.lit (.bool true)], args := [d] }
  | _ => none }
def heapRoomyRow : OpenClaim := { program := "ytgkhjbfkgckeoaa", sum := "dbc1c8120ea10dfe519dea713f7a7578b1c100157495c1accd48d98ad5af4848", func := "larder/larderlaw3.HeapRoomy", spec := "heapRoomy", unfollowed := true, recurses := true, apart := false }
def HeapRoomySaid : Prop := heapRoomyRow.holds Try.pinned (OpenSpec.ofChange heapRoomySpec)

/-- ITS FALSE NEIGHBOUR: 'it returns false'. Refute it at one input. -/
def heapRoomyWrong : ChangeSpec := { name := "heapRoomy", fn := fun _ => fun
  | [d] => { results := [.lit (.bool false)], args := [d] }
  | _ => none }
def HeapRoomyWrongFalsely : Prop := heapRoomyRow.holds Try.pinned (OpenSpec.ofChange heapRoomyWrong)

/-- 'larderlaw3.HeapCompact': WHATEVER THE INPUT: true; the input reads as it did. -/
def heapCompactSpec : ChangeSpec := { name := "heapCompact", fn := fun _ => fun
  | [d] => { results := [.lit (.bool true)], args := [d] }
  | _ => none }
def heapCompactRow : OpenClaim := { program := "ytgkhjbfkgckeoaa", sum := "dbc1c8120ea10dfe519dea713f7a7578b1c100157495c1accd48d98ad5af4848", func := "larder/larderlaw3.HeapCompact", spec := "heapCompact", unfollowed := true, recurses := true, apart := false }
def HeapCompactSaid : Prop := heapCompactRow.holds Try.pinned (OpenSpec.ofChange heapCompactSpec)

/-- ITS FALSE NEIGHBOUR: 'it returns false'. Refute it at one input. -/
def heapCompactWrong : ChangeSpec := { name := "heapCompact", fn := fun _ => fun
  | [d] => { results := [.lit (.bool false)], args := [d] }
  | _ => none }
def HeapCompactWrongFalsely : Prop := heapCompactRow.holds Try.pinned (OpenSpec.ofChange heapCompactWrong)

/-- 'larderlaw3.HeapBound': WHATEVER THE INPUT: true; the input reads as it did. -/
def heapBoundSpec : ChangeSpec := { name := "heapBound", fn := fun _ => fun
  | [d] => { results := [.lit (.bool true)], args := [d] }
  | _ => none }
def heapBoundRow : OpenClaim := { program := "ytgkhjbfkgckeoaa", sum := "dbc1c8120ea10dfe519dea713f7a7578b1c100157495c1accd48d98ad5af4848", func := "larder/larderlaw3.HeapBound", spec := "heapBound", unfollowed := true, recurses := true, apart := false }
def HeapBoundSaid : Prop := heapBoundRow.holds Try.pinned (OpenSpec.ofChange heapBoundSpec)

/-- ITS FALSE NEIGHBOUR: 'it returns false'. Refute it at one input. -/
def heapBoundWrong : ChangeSpec := { name := "heapBound", fn := fun _ => fun
  | [d] => { results := [.lit (.bool false)], args := [d] }
  | _ => none }
def HeapBoundWrongFalsely : Prop := heapBoundRow.holds Try.pinned (OpenSpec.ofChange heapBoundWrong)

/-- 'larderlaw3.HeapSettles': WHATEVER THE INPUT: true; the input reads as it did. -/
def heapSettlesSpec : ChangeSpec := { name := "heapSettles", fn := fun _ => fun
  | [d] => { results := [.lit (.bool true)], args := [d] }
  | _ => none }
def heapSettlesRow : OpenClaim := { program := "ytgkhjbfkgckeoaa", sum := "dbc1c8120ea10dfe519dea713f7a7578b1c100157495c1accd48d98ad5af4848", func := "larder/larderlaw3.HeapSettles", spec := "heapSettles", unfollowed := true, recurses := true, apart := false }
def HeapSettlesSaid : Prop := heapSettlesRow.holds Try.pinned (OpenSpec.ofChange heapSettlesSpec)

/-- ITS FALSE NEIGHBOUR: 'it returns false'. Refute it at one input. -/
def heapSettlesWrong : ChangeSpec := { name := "heapSettles", fn := fun _ => fun
  | [d] => { results := [.lit (.bool false)], args := [d] }
  | _ => none }
def HeapSettlesWrongFalsely : Prop := heapSettlesRow.holds Try.pinned (OpenSpec.ofChange heapSettlesWrong)

/-- 'larderlaw3.HeapAlloc': WHATEVER THE INPUT: true; the input reads as it did. -/
def heapAllocSpec : ChangeSpec := { name := "heapAlloc", fn := fun _ => fun
  | [d] => { results := [.lit (.bool true)], args := [d] }
  | _ => none }
def heapAllocRow : OpenClaim := { program := "ytgkhjbfkgckeoaa", sum := "dbc1c8120ea10dfe519dea713f7a7578b1c100157495c1accd48d98ad5af4848", func := "larder/larderlaw3.HeapAlloc", spec := "heapAlloc", unfollowed := true, recurses := true, apart := false }
def HeapAllocSaid : Prop := heapAllocRow.holds Try.pinned (OpenSpec.ofChange heapAllocSpec)

/-- ITS FALSE NEIGHBOUR: 'it returns false'. Refute it at one input. -/
def heapAllocWrong : ChangeSpec := { name := "heapAlloc", fn := fun _ => fun
  | [d] => { results := [.lit (.bool false)], args := [d] }
  | _ => none }
def HeapAllocWrongFalsely : Prop := heapAllocRow.holds Try.pinned (OpenSpec.ofChange heapAllocWrong)

/-- 'larderlaw3.HeapFields': WHATEVER THE INPUT: true; the input reads as it did. -/
def heapFieldsSpec : ChangeSpec := { name := "heapFields", fn := fun _ => fun
  | [d] => { results := [.lit (.bool true)], args := [d] }
  | _ => none }
def heapFieldsRow : OpenClaim := { program := "ytgkhjbfkgckeoaa", sum := "dbc1c8120ea10dfe519dea713f7a7578b1c100157495c1accd48d98ad5af4848", func := "larder/larderlaw3.HeapFields", spec := "heapFields", unfollowed := true, recurses := true, apart := false }
def HeapFieldsSaid : Prop := heapFieldsRow.holds Try.pinned (OpenSpec.ofChange heapFieldsSpec)

/-- ITS FALSE NEIGHBOUR: 'it returns false'. Refute it at one input. -/
def heapFieldsWrong : ChangeSpec := { name := "heapFields", fn := fun _ => fun
  | [d] => { results := [.lit (.bool false)], args := [d] }
  | _ => none }
def HeapFieldsWrongFalsely : Prop := heapFieldsRow.holds Try.pinned (OpenSpec.ofChange heapFieldsWrong)

/-- 'larderlaw3.HeapHandles': WHATEVER THE INPUT: true; the input reads as it did. -/
def heapHandlesSpec : ChangeSpec := { name := "heapHandles", fn := fun _ => fun
  | [d] => { results := [.lit (.bool true)], args := [d] }
  | _ => none }
def heapHandlesRow : OpenClaim := { program := "ytgkhjbfkgckeoaa", sum := "dbc1c8120ea10dfe519dea713f7a7578b1c100157495c1accd48d98ad5af4848", func := "larder/larderlaw3.HeapHandles", spec := "heapHandles", unfollowed := true, recurses := true, apart := false }
def HeapHandlesSaid : Prop := heapHandlesRow.holds Try.pinned (OpenSpec.ofChange heapHandlesSpec)

/-- ITS FALSE NEIGHBOUR: 'it returns false'. Refute it at one input. -/
def heapHandlesWrong : ChangeSpec := { name := "heapHandles", fn := fun _ => fun
  | [d] => { results := [.lit (.bool false)], args := [d] }
  | _ => none }
def HeapHandlesWrongFalsely : Prop := heapHandlesRow.holds Try.pinned (OpenSpec.ofChange heapHandlesWrong)

/-- 'larderlaw3.HeapPolicy': WHATEVER THE INPUT: true; the input reads as it did. -/
def heapPolicySpec : ChangeSpec := { name := "heapPolicy", fn := fun _ => fun
  | [d] => { results := [.lit (.bool true)], args := [d] }
  | _ => none }
def heapPolicyRow : OpenClaim := { program := "ytgkhjbfkgckeoaa", sum := "dbc1c8120ea10dfe519dea713f7a7578b1c100157495c1accd48d98ad5af4848", func := "larder/larderlaw3.HeapPolicy", spec := "heapPolicy", unfollowed := true, recurses := true, apart := false }
def HeapPolicySaid : Prop := heapPolicyRow.holds Try.pinned (OpenSpec.ofChange heapPolicySpec)

/-- ITS FALSE NEIGHBOUR: 'it returns false'. Refute it at one input. -/
def heapPolicyWrong : ChangeSpec := { name := "heapPolicy", fn := fun _ => fun
  | [d] => { results := [.lit (.bool false)], args := [d] }
  | _ => none }
def HeapPolicyWrongFalsely : Prop := heapPolicyRow.holds Try.pinned (OpenSpec.ofChange heapPolicyWrong)

/-- 'larderlaw3.HeapImage': WHATEVER THE INPUT: true; the input reads as it did. -/
def heapImageSpec : ChangeSpec := { name := "heapImage", fn := fun _ => fun
  | [d] => { results := [.lit (.bool true)], args := [d] }
  | _ => none }
def heapImageRow : OpenClaim := { program := "ytgkhjbfkgckeoaa", sum := "dbc1c8120ea10dfe519dea713f7a7578b1c100157495c1accd48d98ad5af4848", func := "larder/larderlaw3.HeapImage", spec := "heapImage", unfollowed := true, recurses := true, apart := false }
def HeapImageSaid : Prop := heapImageRow.holds Try.pinned (OpenSpec.ofChange heapImageSpec)

/-- ITS FALSE NEIGHBOUR: 'it returns false'. Refute it at one input. -/
def heapImageWrong : ChangeSpec := { name := "heapImage", fn := fun _ => fun
  | [d] => { results := [.lit (.bool false)], args := [d] }
  | _ => none }
def HeapImageWrongFalsely : Prop := heapImageRow.holds Try.pinned (OpenSpec.ofChange heapImageWrong)

/- THE SECOND FORM. 'bulk': how many values and letters a reading holds, each counted each time it is reached (what is shared counts as often as it is met; a slice's spare places count too). A statement '..UptoSaid' is the law's where the arguments, and the package variables that the reading takes, are together of bulk at most 1048576: NARROWER than '..Said'. Prove '..Said' where nothing that the law and all that it calls make is longer than what came in: it says more and counts as full. Else prove '..UptoSaid'. A law counts once. -/
mutual
def uptoBulk {H : Type} : DataW H → Nat
  | .lit (.string bytes) => bytes.length + 1
  | .lit _ => 1
  | .nil => 1
  | .ptr d => uptoBulk d + 1
  | .slice elems spare => uptoBulkAll elems + uptoBulkAll spare + 1
  | .agg parts => uptoBulkAll parts + 1
  | .iface _ d => uptoBulk d + 1
  | .map entries => uptoBulkEntries entries + 1
  | .held _ => 1
def uptoBulkAll {H : Type} : List (DataW H) → Nat
  | [] => 0
  | d :: r => uptoBulk d + uptoBulkAll r
def uptoBulkEntries {H : Type} : List (Lit × DataW H) → Nat
  | [] => 0
  | x :: r => uptoBulkEntry x + uptoBulkEntries r
def uptoBulkEntry {H : Type} : Lit × DataW H → Nat
  | (.string bytes, d) => bytes.length + uptoBulk d + 1
  | (_, d) => uptoBulk d + 1
 end
def uptoSmall : (H : Type) → List (DataW H) → Bool := fun _ ds => decide (uptoBulkAll ds ≤ 1048576)
def OpenSpec.upto (s : _root_.Go.ChangeSpec) : _root_.Go.OpenSpec := { _root_.Go.OpenSpec.ofChange s with cond := some uptoSmall }

/-- 'larderlaw3.HeapKeeps', WHERE WHAT IT READS IS OF BULK AT MOST 1048576: true; the input reads as it did. -/
def heapKeepsUptoRow : OpenClaim := { program := "ytgkhjbfkgckeoaa", sum := "dbc1c8120ea10dfe519dea713f7a7578b1c100157495c1accd48d98ad5af4848", func := "larder/larderlaw3.HeapKeeps", spec := "heapKeeps", unfollowed := true, recurses := true, apart := false, narrowed := true }
def HeapKeepsUptoSaid : Prop := heapKeepsUptoRow.holds Try.pinned (OpenSpec.upto heapKeepsSpec)

/-- 'larderlaw3.HeapRoomy', WHERE WHAT IT READS IS OF BULK AT MOST 1048576: true; the input reads as it did. -/
def heapRoomyUptoRow : OpenClaim := { program := "ytgkhjbfkgckeoaa", sum := "dbc1c8120ea10dfe519dea713f7a7578b1c100157495c1accd48d98ad5af4848", func := "larder/larderlaw3.HeapRoomy", spec := "heapRoomy", unfollowed := true, recurses := true, apart := false, narrowed := true }
def HeapRoomyUptoSaid : Prop := heapRoomyUptoRow.holds Try.pinned (OpenSpec.upto heapRoomySpec)

/-- 'larderlaw3.HeapCompact', WHERE WHAT IT READS IS OF BULK AT MOST 1048576: true; the input reads as it did. -/
def heapCompactUptoRow : OpenClaim := { program := "ytgkhjbfkgckeoaa", sum := "dbc1c8120ea10dfe519dea713f7a7578b1c100157495c1accd48d98ad5af4848", func := "larder/larderlaw3.HeapCompact", spec := "heapCompact", unfollowed := true, recurses := true, apart := false, narrowed := true }
def HeapCompactUptoSaid : Prop := heapCompactUptoRow.holds Try.pinned (OpenSpec.upto heapCompactSpec)

/-- 'larderlaw3.HeapBound', WHERE WHAT IT READS IS OF BULK AT MOST 1048576: true; the input reads as it did. -/
def heapBoundUptoRow : OpenClaim := { program := "ytgkhjbfkgckeoaa", sum := "dbc1c8120ea10dfe519dea713f7a7578b1c100157495c1accd48d98ad5af4848", func := "larder/larderlaw3.HeapBound", spec := "heapBound", unfollowed := true, recurses := true, apart := false, narrowed := true }
def HeapBoundUptoSaid : Prop := heapBoundUptoRow.holds Try.pinned (OpenSpec.upto heapBoundSpec)

/-- 'larderlaw3.HeapSettles', WHERE WHAT IT READS IS OF BULK AT MOST 1048576: true; the input reads as it did. -/
def heapSettlesUptoRow : OpenClaim := { program := "ytgkhjbfkgckeoaa", sum := "dbc1c8120ea10dfe519dea713f7a7578b1c100157495c1accd48d98ad5af4848", func := "larder/larderlaw3.HeapSettles", spec := "heapSettles", unfollowed := true, recurses := true, apart := false, narrowed := true }
def HeapSettlesUptoSaid : Prop := heapSettlesUptoRow.holds Try.pinned (OpenSpec.upto heapSettlesSpec)

/-- 'larderlaw3.HeapAlloc', WHERE WHAT IT READS IS OF BULK AT MOST 1048576: true; the input reads as it did. -/
def heapAllocUptoRow : OpenClaim := { program := "ytgkhjbfkgckeoaa", sum := "dbc1c8120ea10dfe519dea713f7a7578b1c100157495c1accd48d98ad5af4848", func := "larder/larderlaw3.HeapAlloc", spec := "heapAlloc", unfollowed := true, recurses := true, apart := false, narrowed := true }
def HeapAllocUptoSaid : Prop := heapAllocUptoRow.holds Try.pinned (OpenSpec.upto heapAllocSpec)

/-- 'larderlaw3.HeapFields', WHERE WHAT IT READS IS OF BULK AT MOST 1048576: true; the input reads as it did. -/
def heapFieldsUptoRow : OpenClaim := { program := "ytgkhjbfkgckeoaa", sum := "dbc1c8120ea10dfe519dea713f7a7578b1c100157495c1accd48d98ad5af4848", func := "larder/larderlaw3.HeapFields", spec := "heapFields", unfollowed := true, recurses := true, apart := false, narrowed := true }
def HeapFieldsUptoSaid : Prop := heapFieldsUptoRow.holds Try.pinned (OpenSpec.upto heapFieldsSpec)

/-- 'larderlaw3.HeapHandles', WHERE WHAT IT READS IS OF BULK AT MOST 1048576: true; the input reads as it did. -/
def heapHandlesUptoRow : OpenClaim := { program := "ytgkhjbfkgckeoaa", sum := "dbc1c8120ea10dfe519dea713f7a7578b1c100157495c1accd48d98ad5af4848", func := "larder/larderlaw3.HeapHandles", spec := "heapHandles", unfollowed := true, recurses := true, apart := false, narrowed := true }
def HeapHandlesUptoSaid : Prop := heapHandlesUptoRow.holds Try.pinned (OpenSpec.upto heapHandlesSpec)

/-- 'larderlaw3.HeapPolicy', WHERE WHAT IT READS IS OF BULK AT MOST 1048576: true; the input reads as it did. -/
def heapPolicyUptoRow : OpenClaim := { program := "ytgkhjbfkgckeoaa", sum := "dbc1c8120ea10dfe519dea713f7a7578b1c100157495c1accd48d98ad5af4848", func := "larder/larderlaw3.HeapPolicy", spec := "heapPolicy", unfollowed := true, recurses := true, apart := false, narrowed := true }
def HeapPolicyUptoSaid : Prop := heapPolicyUptoRow.holds Try.pinned (OpenSpec.upto heapPolicySpec)

/-- 'larderlaw3.HeapImage', WHERE WHAT IT READS IS OF BULK AT MOST 1048576: true; the input reads as it did. -/
def heapImageUptoRow : OpenClaim := { program := "ytgkhjbfkgckeoaa", sum := "dbc1c8120ea10dfe519dea713f7a7578b1c100157495c1accd48d98ad5af4848", func := "larder/larderlaw3.HeapImage", spec := "heapImage", unfollowed := true, recurses := true, apart := false, narrowed := true }
def HeapImageUptoSaid : Prop := heapImageUptoRow.holds Try.pinned (OpenSpec.upto heapImageSpec)

end Rows
end Go.Proofs.Ytgkhjbfkgckeoaa
