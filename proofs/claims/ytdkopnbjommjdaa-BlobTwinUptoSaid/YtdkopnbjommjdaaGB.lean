/- Printed by a program (own work) out of the loaded functions: what each says of the heap, and that the evaluator says the same. No condition. -/
import Derived.Test.YtdkopnbjommjdaaG0
set_option linter.all false
set_option maxRecDepth 100000
namespace Go.Ev
def strC0 : ByteArray := ⟨#[0, 1, 1, 2, 1, 2, 2, 3, 1, 2, 2, 3, 2, 3, 3, 4, 1, 2, 2, 3, 2, 3, 3, 4, 2, 3, 3, 4, 3, 4, 4, 5, 1, 2, 2, 3, 2, 3, 3, 4, 2, 3, 3, 4, 3, 4, 4, 5, 2, 3, 3, 4, 3, 4, 4, 5, 3, 4, 4, 5, 4, 5, 5, 6, 1, 2, 2, 3, 2, 3, 3, 4, 2, 3, 3, 4, 3, 4, 4, 5, 2, 3, 3, 4, 3, 4, 4, 5, 3, 4, 4, 5, 4, 5, 5, 6, 2, 3, 3, 4, 3, 4, 4, 5, 3, 4, 4, 5, 4, 5, 5, 6, 3, 4, 4, 5, 4, 5, 5, 6, 4, 5, 5, 6, 5, 6, 6, 7, 1, 2, 2, 3, 2, 3, 3, 4, 2, 3, 3, 4, 3, 4, 4, 5, 2, 3, 3, 4, 3, 4, 4, 5, 3, 4, 4, 5, 4, 5, 5, 6, 2, 3, 3, 4, 3, 4, 4, 5, 3, 4, 4, 5, 4, 5, 5, 6, 3, 4, 4, 5, 4, 5, 5, 6, 4, 5, 5, 6, 5, 6, 6, 7, 2, 3, 3, 4, 3, 4, 4, 5, 3, 4, 4, 5, 4, 5, 5, 6, 3, 4, 4, 5, 4, 5, 5, 6, 4, 5, 5, 6, 5, 6, 6, 7, 3, 4, 4, 5, 4, 5, 5, 6, 4, 5, 5, 6, 5, 6, 6, 7, 4, 5, 5, 6, 5, 6, 6, 7, 5, 6, 6, 7, 6, 7, 7, 8]⟩
/- math/bits.OnesCount8 -/
noncomputable def body29 : Code := (Go.Proofs.Try.f29.body).getD .skip
def lv29 (m : Nat) : List Nat := []
def f29F (a0 : Int) (h : Hp) (R : Value → Hp → Prop) : Prop :=
  (0 ≤ a0 ∧ a0 < ((strC0.size : Nat) : Int)) ∧ R ((.int .i64 (IntKind.wrap .i64 ((strC0[a0.toNat]?.getD 0).toNat)) : Value)) h
theorem f29F_eq (a0 : Int) (h : Hp) (R : Value → Hp → Prop) : evF Go.Proofs.Try.prog tab lv29 Go.Proofs.Try.f29 body29 [] [.int .u8 a0] h R = f29F a0 h R := by kernel_rfl
theorem f29F_ok {a0 : Int} {h : Hp} {R : Value → Hp → Prop} (hF : f29F a0 h R) : CallTo Go.Proofs.Try.prog 29 #[.int .u8 a0] h R :=
  callTo_of_ev (lv := lv29) (hints := []) (c := body29) (args := [.int .u8 a0]) mixed tab_ok Go.Proofs.Try.func29 (by kernel_rfl) (by kernel_rfl) (by rw [f29F_eq]; exact hF)
/- bytes.Compare -/
noncomputable def body31 : Code := (Go.Proofs.Try.f31.body).getD .skip
def lv31 (m : Nat) : List Nat := []
def f31F (a0 : Sl) (a1 : Sl) (h : Hp) (R : Value → Hp → Prop) : Prop :=
  ∃ t7 : Int, ExtTo Go.Proofs.Try.prog 58 #[.slice a0.a a0.n a0.c, .slice a1.a a1.n a1.c] h (.int .i64 t7) ∧ R (.int .i64 t7 : Value) h
theorem f31F_eq (a0 : Sl) (a1 : Sl) (h : Hp) (R : Value → Hp → Prop) : evF Go.Proofs.Try.prog tab lv31 Go.Proofs.Try.f31 body31 [] [.slice a0.a a0.n a0.c, .slice a1.a a1.n a1.c] h R = f31F a0 a1 h R := by kernel_rfl
theorem f31F_ok {a0 : Sl} {a1 : Sl} {h : Hp} {R : Value → Hp → Prop} (hF : f31F a0 a1 h R) : CallTo Go.Proofs.Try.prog 31 #[.slice a0.a a0.n a0.c, .slice a1.a a1.n a1.c] h R :=
  callTo_of_ev (lv := lv31) (hints := []) (c := body31) (args := [.slice a0.a a0.n a0.c, .slice a1.a a1.n a1.c]) mixed tab_ok Go.Proofs.Try.func31 (by kernel_rfl) (by kernel_rfl) (by rw [f31F_eq]; exact hF)
end Go.Ev
