/- A piece of the code put in another's place: the printed words of one great function are held in several equations. No theorem about the program; no condition. -/
import Derived.Test.YtgkhjbfkgckeoaaK9
set_option linter.all false
namespace Go.Ev
def setAt : List Nat → Code → Code → Code
  | [], x, _ => x
  | 0 :: π, x, .seq a b => .seq (setAt π x a) b
  | _ :: π, x, .seq a b => .seq a (setAt π x b)
  | 0 :: π, x, .cond c a b => .cond c (setAt π x a) b
  | _ :: π, x, .cond c a b => .cond c a (setAt π x b)
  | _ :: π, x, .block id c => .block id (setAt π x c)
  | _ :: π, x, .loop c => .loop (setAt π x c)
  | _, _, c => c
theorem setAt_sub : ∀ (π : List Nat) (c : Code), setAt π (sub π c) c = c
  | [], c => rfl
  | 0 :: π, c => by
    cases c <;> first | rfl | simp only [setAt, sub, setAt_sub π]
  | (k + 1) :: π, c => by
    cases c <;> first | rfl | simp only [setAt, sub, setAt_sub π]
end Go.Ev
