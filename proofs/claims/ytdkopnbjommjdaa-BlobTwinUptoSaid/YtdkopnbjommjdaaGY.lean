/- Printed by a program (own work) out of the loaded functions: what each says of the heap, and that the evaluator says the same. No condition. -/
import Derived.Test.YtdkopnbjommjdaaG0
set_option linter.all false
set_option maxRecDepth 100000
namespace Go.Ev
/- larder/larderref1.Words -/
noncomputable def body50 : Code := (Go.Proofs.Try.f50.body).getD .skip
def lv50 (m : Nat) : List Nat := []
def f50F (a0 : Int) (h : Hp) (R : Value → Hp → Prop) : Prop :=
  Cond (decide (a0 < (1 : Int))) (R (.int .i64 0 : Value) h) ((8 : Int) ≠ 0 ∧ (8 : Int) ≠ 0 ∧ Cond (decide ((Int.tmod a0 (8 : Int)) > (0 : Int))) (R ((.int .i64 (IntKind.wrap .i64 ((IntKind.wrap .i64 (Int.tdiv a0 (8 : Int))) + (1 : Int))) : Value)) h) (R ((.int .i64 (IntKind.wrap .i64 (Int.tdiv a0 (8 : Int))) : Value)) h))
theorem f50F_eq (a0 : Int) (h : Hp) (R : Value → Hp → Prop) : evF Go.Proofs.Try.prog tab lv50 Go.Proofs.Try.f50 body50 [] [.int .i64 a0] h R = f50F a0 h R := by kernel_rfl
theorem f50F_ok {a0 : Int} {h : Hp} {R : Value → Hp → Prop} (hF : f50F a0 h R) : CallTo Go.Proofs.Try.prog 50 #[.int .i64 a0] h R :=
  callTo_of_ev (lv := lv50) (hints := []) (c := body50) (args := [.int .i64 a0]) mixed tab_ok Go.Proofs.Try.func50 (by kernel_rfl) (by kernel_rfl) (by rw [f50F_eq]; exact hF)
end Go.Ev
