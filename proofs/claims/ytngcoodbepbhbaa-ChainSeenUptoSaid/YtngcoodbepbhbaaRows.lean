/-
  No cell of these rows narrows 'for every input' (looked for: loops, veiled, ifaces, maps, wideKeys, modest, calm, conditions, laid).
  DERIVED. THE GIVEN ROWS OF THIS SEAT. 6 by the template 'for every input the law returns true; each argument reads behind the call as it read before'; 0 by the template 'total and deterministic' (their statements: YtngcoodbepbhbaaTotals.lean).
  GIVEN WITH THE SEED: the statements are not yours to turn. If you find one false, say at which input.
  Laid BY PROGRAM, IN A SANDBOX (cutbox-rows.mjs): the forced cells as the released guide's own fill.sh prints them over the translation 1ae9659dc9c44c30… (all of the seat's roots in one cut). By AI agents, Wed Nov 11 2026. No macro, syntax, notation, axiom, sorry.
-/
import Derived.Test.YtngcoodbepbhbaaChecked
import GoSem.Claim
import GoSem.ClaimJoined
import GoSem.ClaimMapViews
import Derived.JoinedTies
import Derived.KernelRfl
namespace Go.Proofs.Ytngcoodbepbhbaa
/- THE CELL 'sum', in the pinned program and in every row, IS THE sha256 OF THE DUMP (.gsa) THAT YtngcoodbepbhbaaProg.lean LOADS. Nothing in Lean hashes anything: it is a label: what it is worth is what the hold of that sum in a sandbox is worth. -/
noncomputable def Try.pinned : Pinned := { name := "ytngcoodbepbhbaa", sum := "1ae9659dc9c44c30b70d1f9aefbbd033ce7455c456b0c5098bd09411e04ed026", checked := Try.checked }
namespace Rows
def none {H : Type} : Left H := { results := [], args := [] }

/-- 'larderlaw5.ChainFull': WHATEVER THE INPUT: true; the input reads as it did. -/
def chainFullSpec : ChangeSpec := { name := "chainFull", fn := fun _ => fun
  | [d] => { results := [.lit (.bool true)], args := [d] }
  | _ => none }
def chainFullRow : OpenClaim := { program := "ytngcoodbepbhbaa", sum := "1ae9659dc9c44c30b70d1f9aefbbd033ce7455c456b0c5098bd09411e04ed026", func := "larder/larderlaw5.ChainFull", spec := "chainFull", unfollowed := true, recurses := true, apart := false }
def ChainFullSaid : Prop := chainFullRow.holds Try.pinned (OpenSpec.ofChange chainFullSpec)

/-- ITS FALSE NEIGHBOUR: 'it returns false'. Refute it at one input. -/
def chainFullWrong : ChangeSpec := { name := "chainFull", fn := fun _ => fun
  | [d] => { results := [.lit (.bool false)], args := [d] }
  | _ => none }
def ChainFullWrongFalsely : Prop := chainFullRow.holds Try.pinned (OpenSpec.ofChange chainFullWrong)

/-- 'larderlaw5.ChainTurns': WHATEVER THE INPUT: true; the input reads as it did. -/
def chainTurnsSpec : ChangeSpec := { name := "chainTurns", fn := fun _ => fun
  | [d] => { results := [.lit (.bool true)], args := [d] }
  | _ => none }
def chainTurnsRow : OpenClaim := { program := "ytngcoodbepbhbaa", sum := "1ae9659dc9c44c30b70d1f9aefbbd033ce7455c456b0c5098bd09411e04ed026", func := "larder/larderlaw5.ChainTurns", spec := "chainTurns", unfollowed := true, recurses := true, apart := false }
def ChainTurnsSaid : Prop := chainTurnsRow.holds Try.pinned (OpenSpec.ofChange chainTurnsSpec)

/-- ITS FALSE NEIGHBOUR: 'it returns false'. Refute it at one input. -/
def chainTurnsWrong : ChangeSpec := { name := "chainTurns", fn := fun _ => fun
  | [d] => { results := [.lit (.bool false)], args := [d] }
  | _ => none }
def ChainTurnsWrongFalsely : Prop := chainTurnsRow.holds Try.pinned (OpenSpec.ofChange chainTurnsWrong)

/-- 'larderlaw5.ChainStrikes': WHATEVER THE INPUT: true; the input reads as it did. -/
def chainStrikesSpec : ChangeSpec := { name := "chainStrikes", fn := fun _ => fun
  | [d] => { results := [.lit (.bool true)], args := [d] }
  | _ => none }
def chainStrikesRow : OpenClaim := { program := "ytngcoodbepbhbaa", sum := "1ae9659dc9c44c30b70d1f9aefbbd033ce7455c456b0c5098bd09411e04ed026", func := "larder/larderlaw5.ChainStrikes", spec := "chainStrikes", unfollowed := true, recurses := true, apart := false }
def ChainStrikesSaid : Prop := chainStrikesRow.holds Try.pinned (OpenSpec.ofChange chainStrikesSpec)

/-- ITS FALSE NEIGHBOUR: 'it returns false'. Refute it at one input. -/
def chainStrikesWrong : ChangeSpec := { name := "chainStrikes", fn := fun _ => fun
  | [d] => { results := [.lit (.bool false)], args := [d] }
  | _ => none }
def ChainStrikesWrongFalsely : Prop := chainStrikesRow.holds Try.pinned (OpenSpec.ofChange chainStrikesWrong)

/-- 'larderlaw5.ChainGreat': WHATEVER THE INPUT: true; the input reads as it did. -/
def chainGreatSpec : ChangeSpec := { name := "chainGreat", fn := fun _ => fun
  | [] => { results := [.lit (.bool true)], args := [] }
  | _ => none }
def chainGreatRow : OpenClaim := { program := "ytngcoodbepbhbaa", sum := "1ae9659dc9c44c30b70d1f9aefbbd033ce7455c456b0c5098bd09411e04ed026", func := "larder/larderlaw5.ChainGreat", spec := "chainGreat", unfollowed := true, recurses := true, apart := false }
def ChainGreatSaid : Prop := chainGreatRow.holds Try.pinned (OpenSpec.ofChange chainGreatSpec)

/-- ITS FALSE NEIGHBOUR: 'it returns false'. Refute it at one input. -/
def chainGreatWrong : ChangeSpec := { name := "chainGreat", fn := fun _ => fun
  | [] => { results := [.lit (.bool false)], args := [] }
  | _ => none }
def ChainGreatWrongFalsely : Prop := chainGreatRow.holds Try.pinned (OpenSpec.ofChange chainGreatWrong)

/-- 'larderlaw5.ChainShaken': WHATEVER THE INPUT: true; the input reads as it did. -/
def chainShakenSpec : ChangeSpec := { name := "chainShaken", fn := fun _ => fun
  | [d] => { results := [.lit (.bool true)], args := [d] }
  | _ => none }
def chainShakenRow : OpenClaim := { program := "ytngcoodbepbhbaa", sum := "1ae9659dc9c44c30b70d1f9aefbbd033ce7455c456b0c5098bd09411e04ed026", func := "larder/larderlaw5.ChainShaken", spec := "chainShaken", unfollowed := true, recurses := true, apart := false }
def ChainShakenSaid : Prop := chainShakenRow.holds Try.pinned (OpenSpec.ofChange chainShakenSpec)

/-- ITS FALSE NEIGHBOUR: 'it returns false'. Refute it at one input. -/
def chainShakenWrong : ChangeSpec := { name := "chainShaken", fn := fun _ => fun
  | [d] => { results := [.lit (.bool false)], args := [d] }
  | _ => none }
def ChainShakenWrongFalsely : Prop := chainShakenRow.holds Try.pinned (OpenSpec.ofChange chainShakenWrong)

/-- 'larderlaw5.ChainSeen': WHATEVER THE INPUT: true; the input reads as it did. -/
def chainSeenSpec : ChangeSpec := { name := "chainSeen", fn := fun _ => fun
  | [d] => { results := [.lit (.bool true)], args := [d] }
  | _ => none }
def chainSeenRow : OpenClaim := { program := "ytngcoodbepbhbaa", sum := "1ae9659dc9c44c30b70d1f9aefbbd033ce7455c456b0c5098bd09411e04ed026", func := "larder/larderlaw5.ChainSeen", spec := "chainSeen", unfollowed := true, recurses := true, apart := false }
def ChainSeenSaid : Prop := chainSeenRow.holds Try.pinned (OpenSpec.ofChange chainSeenSpec)

/-- ITS FALSE NEIGHBOUR: 'it returns false'. Refute it at one input. -/
def chainSeenWrong : ChangeSpec := { name := "chainSeen", fn := fun _ => fun
  | [d] => { results := [.lit (.bool false)], args := [d] }
  | _ => none }
def ChainSeenWrongFalsely : Prop := chainSeenRow.holds Try.pinned (OpenSpec.ofChange chainSeenWrong)

/- THE SECOND FORM. 'bulk': how many values and letters a reading holds, each counted each time it is reached (what is shared counts as often as it is met; a slice's spare places count too). A statement '..UptoSaid' is the law's where the arguments, and the package variables that the reading takes, are together of bulk at most 1048576: NARROWER than '..Said'. Prove '..Said' where nothing that the law and all that it calls make is longer than what came in: it says more and counts as full. Else prove '..UptoSaid'. A law counts once. -/
mutual
def uptoBulk {H : Type} : DataW H → Nat
  | .lit (.string bytes) => bytes.length + 1
  | .lit _ => 1
  | .nil => 1
  | .ptr d => uptoBulk d + 1
  | .slice elems spare => uptoBulkAll elems + uptoBulkAll spare + 1
  | .agg parts => uptoBulkAll parts + 1
  | .iface _ d => uptoBulk d + 1
  | .map entries => uptoBulkEntries entries + 1
  | .held _ => 1
def uptoBulkAll {H : Type} : List (DataW H) → Nat
  | [] => 0
  | d :: r => uptoBulk d + uptoBulkAll r
def uptoBulkEntries {H : Type} : List (Lit × DataW H) → Nat
  | [] => 0
  | x :: r => uptoBulkEntry x + uptoBulkEntries r
def uptoBulkEntry {H : Type} : Lit × DataW H → Nat
  | (.string bytes, d) => bytes.length + uptoBulk d + 1
  | (_, d) => uptoBulk d + 1
 end
def uptoSmall : (H : Type) → List (DataW H) → Bool := fun _ ds => decide (uptoBulkAll ds ≤ 1048576)
def OpenSpec.upto (s : _root_.Go.ChangeSpec) : _root_.Go.OpenSpec := { _root_.Go.OpenSpec.ofChange s with cond := some uptoSmall }

/-- 'larderlaw5.ChainFull', WHERE WHAT IT READS IS OF BULK AT MOST 1048576: true; the input reads as it did. -/
def chainFullUptoRow : OpenClaim := { program := "ytngcoodbepbhbaa", sum := "1ae9659dc9c44c30b70d1f9aefbbd033ce7455c456b0c5098bd09411e04ed026", func := "larder/larderlaw5.ChainFull", spec := "chainFull", unfollowed := true, recurses := true, apart := false, narrowed := true }
def ChainFullUptoSaid : Prop := chainFullUptoRow.holds Try.pinned (OpenSpec.upto chainFullSpec)

/-- 'larderlaw5.ChainTurns', WHERE WHAT IT READS IS OF BULK AT MOST 1048576: true; the input reads as it did. -/
def chainTurnsUptoRow : OpenClaim := { program := "ytngcoodbepbhbaa", sum := "1ae9659dc9c44c30b70d1f9aefbbd033ce7455c456b0c5098bd09411e04ed026", func := "larder/larderlaw5.ChainTurns", spec := "chainTurns", unfollowed := true, recurses := true, apart := false, narrowed := true }
def ChainTurnsUptoSaid : Prop := chainTurnsUptoRow.holds Try.pinned (OpenSpec.upto chainTurnsSpec)

/-- 'larderlaw5.ChainStrikes', WHERE WHAT IT READS IS OF BULK AT MOST 1048576: true; the input reads as it did. -/
def chainStrikesUptoRow : OpenClaim := { program := "ytngcoodbepbhbaa", sum := "1ae9659dc9c44c30b70d1f9aefbbd033ce7455c456b0c5098bd09411e04ed026", func := "larder/larderlaw5.ChainStrikes", spec := "chainStrikes", unfollowed := true, recurses := true, apart := false, narrowed := true }
def ChainStrikesUptoSaid : Prop := chainStrikesUptoRow.holds Try.pinned (OpenSpec.upto chainStrikesSpec)

/-- 'larderlaw5.ChainGreat', WHERE WHAT IT READS IS OF BULK AT MOST 1048576: true; the input reads as it did. -/
def chainGreatUptoRow : OpenClaim := { program := "ytngcoodbepbhbaa", sum := "1ae9659dc9c44c30b70d1f9aefbbd033ce7455c456b0c5098bd09411e04ed026", func := "larder/larderlaw5.ChainGreat", spec := "chainGreat", unfollowed := true, recurses := true, apart := false, narrowed := true }
def ChainGreatUptoSaid : Prop := chainGreatUptoRow.holds Try.pinned (OpenSpec.upto chainGreatSpec)

/-- 'larderlaw5.ChainShaken', WHERE WHAT IT READS IS OF BULK AT MOST 1048576: true; the input reads as it did. -/
def chainShakenUptoRow : OpenClaim := { program := "ytngcoodbepbhbaa", sum := "1ae9659dc9c44c30b70d1f9aefbbd033ce7455c456b0c5098bd09411e04ed026", func := "larder/larderlaw5.ChainShaken", spec := "chainShaken", unfollowed := true, recurses := true, apart := false, narrowed := true }
def ChainShakenUptoSaid : Prop := chainShakenUptoRow.holds Try.pinned (OpenSpec.upto chainShakenSpec)

/-- 'larderlaw5.ChainSeen', WHERE WHAT IT READS IS OF BULK AT MOST 1048576: true; the input reads as it did. -/
def chainSeenUptoRow : OpenClaim := { program := "ytngcoodbepbhbaa", sum := "1ae9659dc9c44c30b70d1f9aefbbd033ce7455c456b0c5098bd09411e04ed026", func := "larder/larderlaw5.ChainSeen", spec := "chainSeen", unfollowed := true, recurses := true, apart := false, narrowed := true }
def ChainSeenUptoSaid : Prop := chainSeenUptoRow.holds Try.pinned (OpenSpec.upto chainSeenSpec)

end Rows
end Go.Proofs.Ytngcoodbepbhbaa
