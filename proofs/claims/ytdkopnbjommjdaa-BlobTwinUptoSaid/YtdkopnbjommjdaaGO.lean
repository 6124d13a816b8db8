/- Printed by a program (own work) out of the loaded functions: what each says of the heap, and that the evaluator says the same. No condition. -/
import Derived.Test.YtdkopnbjommjdaaG0
set_option linter.all false
set_option maxRecDepth 100000
namespace Go.Ev
/- larder/blob.Count -/
noncomputable def body11 : Code := (Go.Proofs.Try.f11.body).getD .skip
def lv11 (m : Nat) : List Nat := if m = 6 then [12, 26, 27, 28] else []
def f11I1 (J : Nat → Int → Sl → Int → Int → Hp → Prop) (n : Nat) (env : List Value) (h : Hp) : Prop := lenIs env 38 (DecI .i64 env 12 fun s12 => DecL env 26 fun s26 => DecI .i64 env 27 fun s27 => DecI .i64 env 28 fun s28 => J n s12 s26 s27 s28 h)
def f11L1 (J1 : Nat → Int → Sl → Int → Int → Hp → Prop) (n1 : Nat) (s12 : Int) (s26 : Sl) (s27 : Int) (s28 : Int) (g : Nat → Value) (h : Hp) (R : Value → Hp → Prop) : Prop :=
  Cond (decide (s28 < s27)) ((0 ≤ s28 ∧ s28 < ((s26.n : Nat) : Int)) ∧ PtrOk s26.a fun p30 => ∃ t31 : Int, cell h (p30.add (s28.toNat * 1)) = some (.int .u8 t31) ∧ CallTo Go.Proofs.Try.prog 29 #[.int .u8 t31] h fun r h2 => ∃ t34 : Int, r = .int .i64 t34 ∧ ∃ m, m < n1 ∧ J1 m (IntKind.wrap .i64 (s12 + t34)) s26 s27 (IntKind.wrap .i64 (s28 + (1 : Int))) h2) (R (.tuple #[.int .i64 s12, .int .i64 0] : Value) h)
theorem f11L1_eq (J1 : Nat → Int → Sl → Int → Int → Hp → Prop) (n1 : Nat) (s12 : Int) (s26 : Sl) (s27 : Int) (s28 : Int) (g : Nat → Value) (h : Hp) (R : Value → Hp → Prop) : (evC Go.Proofs.Try.prog tab lv11 (sub [1, 1, 1, 1, 0, 1, 0, 0] body11)) (loopK (f11I1 J1) n1 (contAt Go.Proofs.Try.prog tab lv11 [1, 1, 1, 1, 0, 1, 0] body11 [] (bodyK Go.Proofs.Try.prog Go.Proofs.Try.f11 [] R))) (mkEnv 38 [(12, .int .i64 s12), (26, .slice s26.a s26.n s26.c), (27, .int .i64 s27), (28, .int .i64 s28)] g) h = f11L1 J1 n1 s12 s26 s27 s28 g h R := by kernel_rfl
theorem f11I1_at (J : Nat → Int → Sl → Int → Int → Hp → Prop) (n : Nat) (s12 : Int) (s26 : Sl) (s27 : Int) (s28 : Int) (g : Nat → Value) (h : Hp) : f11I1 J n (mkEnv 38 [(12, .int .i64 s12), (26, .slice s26.a s26.n s26.c), (27, .int .i64 s27), (28, .int .i64 s28)] g) h = J n s12 s26 s27 s28 h := by kernel_rfl
theorem f11L1_rule  {R : Value → Hp → Prop} {s12 : Int} {s26 : Sl} {s27 : Int} {s28 : Int} {h0 : Hp} (J : Nat → Int → Sl → Int → Int → Hp → Prop) (n0 : Nat) (hi : J n0 s12 s26 s27 s28 h0)
    (hr : ∀ n s12 s26 s27 s28 g h, J n s12 s26 s27 s28 h → f11L1  J n s12 s26 s27 s28 g h R) : LoopEv (evC Go.Proofs.Try.prog tab lv11 (sub [1, 1, 1, 1, 0, 1, 0, 0] body11)) (contAt Go.Proofs.Try.prog tab lv11 [1, 1, 1, 1, 0, 1, 0] body11 [] (bodyK Go.Proofs.Try.prog Go.Proofs.Try.f11 [] R)) [(12, .int .i64 s12), (26, .slice s26.a s26.n s26.c), (27, .int .i64 s27), (28, .int .i64 s28)] 38 h0 := by
  refine ⟨f11I1 J, n0, fun g => by rw [f11I1_at]; exact hi, fun n env h hI => ?_⟩
  clear hi
  clear s12 s26 s27 s28
  obtain ⟨hlen, hI⟩ := Cond_true' hI
  have hlen : env.length = 38 := by simpa using hlen
  obtain ⟨s12, es12, hI⟩ := DecI.out hI
  obtain ⟨s26, es26, hI⟩ := DecL.out hI
  obtain ⟨s27, es27, hI⟩ := DecI.out hI
  obtain ⟨s28, es28, hI⟩ := DecI.out hI
  rw [mkEnv_of (l := [(12, .int .i64 s12), (26, .slice s26.a s26.n s26.c), (27, .int .i64 s27), (28, .int .i64 s28)]) hlen (by simp only [List.mem_cons, List.not_mem_nil, or_false, forall_eq_or_imp, forall_eq]; exact ⟨es12, es26, es27, es28⟩)]
  rw [f11L1_eq]
  exact hr n s12 s26 s27 s28 _ h hI
def f11F (a0 : Option Addr) (a1 : Int) (a2 : Int) (a3 : Int) (h : Hp) (R : Value → Hp → Prop) : Prop :=
  CallTo Go.Proofs.Try.prog 15 #[.pointer a0, .int .u64 a1, .int .i64 a2, .int .i64 a3] h fun r h1 => ∃ t20_0 : Sl, ∃ t20_1 : Int, r = .tuple #[.slice t20_0.a t20_0.n t20_0.c, .int .i64 t20_1] ∧ Cond (t20_1 != (0 : Int)) (R (.tuple #[.int .i64 0, .int .i64 t20_1] : Value) h1) (LoopEv (evC Go.Proofs.Try.prog tab lv11 (sub [1, 1, 1, 1, 0, 1, 0, 0] body11)) (contAt Go.Proofs.Try.prog tab lv11 [1, 1, 1, 1, 0, 1, 0] body11 [] (bodyK Go.Proofs.Try.prog Go.Proofs.Try.f11 [] R)) [(12, .int .i64 0), (26, .slice t20_0.a t20_0.n t20_0.c), (27, .int .i64 (((t20_0.n : Nat) : Int))), (28, .int .i64 0)] 38 h1)
theorem f11F_eq (a0 : Option Addr) (a1 : Int) (a2 : Int) (a3 : Int) (h : Hp) (R : Value → Hp → Prop) : evF Go.Proofs.Try.prog tab lv11 Go.Proofs.Try.f11 body11 [] [.pointer a0, .int .u64 a1, .int .i64 a2, .int .i64 a3] h R = f11F a0 a1 a2 a3 h R := by kernel_rfl
theorem f11F_ok {a0 : Option Addr} {a1 : Int} {a2 : Int} {a3 : Int} {h : Hp} {R : Value → Hp → Prop} (hF : f11F a0 a1 a2 a3 h R) : CallTo Go.Proofs.Try.prog 11 #[.pointer a0, .int .u64 a1, .int .i64 a2, .int .i64 a3] h R :=
  callTo_of_ev (lv := lv11) (hints := []) (c := body11) (args := [.pointer a0, .int .u64 a1, .int .i64 a2, .int .i64 a3]) mixed tab_ok Go.Proofs.Try.func11 (by kernel_rfl) (by kernel_rfl) (by rw [f11F_eq]; exact hF)
/- larder/blob.Compare -/
noncomputable def body13 : Code := (Go.Proofs.Try.f13.body).getD .skip
def lv13 (m : Nat) : List Nat := []
def f13F (a0 : Option Addr) (a1 : Int) (a2 : Sl) (h : Hp) (R : Value → Hp → Prop) : Prop :=
  CallTo Go.Proofs.Try.prog 18 #[.pointer a0, .int .u64 a1] h fun r h1 => ∃ t13_0 : Sl, ∃ t13_1 : Int, r = .tuple #[.slice t13_0.a t13_0.n t13_0.c, .int .i64 t13_1] ∧ Cond (t13_1 != (0 : Int)) (R (.tuple #[.int .i64 0, .int .i64 t13_1] : Value) h1) (CallTo Go.Proofs.Try.prog 31 #[.slice t13_0.a t13_0.n t13_0.c, .slice a2.a a2.n a2.c] h1 fun r h2 => ∃ t21 : Int, r = .int .i64 t21 ∧ R (.tuple #[.int .i64 t21, .int .i64 0] : Value) h2)
theorem f13F_eq (a0 : Option Addr) (a1 : Int) (a2 : Sl) (h : Hp) (R : Value → Hp → Prop) : evF Go.Proofs.Try.prog tab lv13 Go.Proofs.Try.f13 body13 [] [.pointer a0, .int .u64 a1, .slice a2.a a2.n a2.c] h R = f13F a0 a1 a2 h R := by kernel_rfl
theorem f13F_ok {a0 : Option Addr} {a1 : Int} {a2 : Sl} {h : Hp} {R : Value → Hp → Prop} (hF : f13F a0 a1 a2 h R) : CallTo Go.Proofs.Try.prog 13 #[.pointer a0, .int .u64 a1, .slice a2.a a2.n a2.c] h R :=
  callTo_of_ev (lv := lv13) (hints := []) (c := body13) (args := [.pointer a0, .int .u64 a1, .slice a2.a a2.n a2.c]) mixed tab_ok Go.Proofs.Try.func13 (by kernel_rfl) (by kernel_rfl) (by rw [f13F_eq]; exact hF)
/- larder/blob.Slice -/
noncomputable def body15 : Code := (Go.Proofs.Try.f15.body).getD .skip
def lv15 (m : Nat) : List Nat := []
def f15K1  (x0 : Option Addr) (x1 : Int) (x2 : Int) (x3 : Int) (x40 : Bool) (h : Hp) (R : Value → Hp → Prop) : Prop :=
  Cond x40 (R (.tuple #[.slice none 0 0, .int .i64 42] : Value) h) (CallTo Go.Proofs.Try.prog 33 #[.pointer x0, .int .u64 x1, .int .i64 (IntKind.wrap .i64 ((8 : Int) + x2)), .int .i64 x3] h fun r h2 => ∃ t47_0 : Sl, ∃ t47_1 : Int, r = .tuple #[.slice t47_0.a t47_0.n t47_0.c, .int .i64 t47_1] ∧ R (.tuple #[.slice t47_0.a t47_0.n t47_0.c, .int .i64 0] : Value) h2)
def f15F (a0 : Option Addr) (a1 : Int) (a2 : Int) (a3 : Int) (h : Hp) (R : Value → Hp → Prop) : Prop :=
  CallTo Go.Proofs.Try.prog 19 #[.pointer a0, .int .u64 a1] h fun r h1 => ∃ t17_0 : Int, ∃ t17_1 : Int, r = .tuple #[.int .i64 t17_0, .int .i64 t17_1] ∧ Cond (t17_1 != (0 : Int)) (R (.tuple #[.slice none 0 0, .int .i64 t17_1] : Value) h1) (Cond (decide (a2 < (0 : Int))) (f15K1  a0 a1 a2 a3 true h1 R) (Cond (decide (a3 < (0 : Int))) (f15K1  a0 a1 a2 a3 true h1 R) (Cond (decide (a2 > t17_0)) (f15K1  a0 a1 a2 a3 true h1 R) (f15K1  a0 a1 a2 a3 (decide (a3 > (IntKind.wrap .i64 (t17_0 - a2)))) h1 R))))
theorem f15F_eq (a0 : Option Addr) (a1 : Int) (a2 : Int) (a3 : Int) (h : Hp) (R : Value → Hp → Prop) : evF Go.Proofs.Try.prog tab lv15 Go.Proofs.Try.f15 body15 [] [.pointer a0, .int .u64 a1, .int .i64 a2, .int .i64 a3] h R = f15F a0 a1 a2 a3 h R := by kernel_rfl
theorem f15F_ok {a0 : Option Addr} {a1 : Int} {a2 : Int} {a3 : Int} {h : Hp} {R : Value → Hp → Prop} (hF : f15F a0 a1 a2 a3 h R) : CallTo Go.Proofs.Try.prog 15 #[.pointer a0, .int .u64 a1, .int .i64 a2, .int .i64 a3] h R :=
  callTo_of_ev (lv := lv15) (hints := []) (c := body15) (args := [.pointer a0, .int .u64 a1, .int .i64 a2, .int .i64 a3]) mixed tab_ok Go.Proofs.Try.func15 (by kernel_rfl) (by kernel_rfl) (by rw [f15F_eq]; exact hF)
/- larder/blob.Write -/
noncomputable def body16 : Code := (Go.Proofs.Try.f16.body).getD .skip
def lv16 (m : Nat) : List Nat := []
def f16K1  (x0 : Option Addr) (x1 : Int) (x2 : Int) (x3 : Sl) (x10 : Int) (x32 : Bool) (h : Hp) (R : Value → Hp → Prop) : Prop :=
  Cond x32 (R (.tuple #[.int .u64 0, .int .i64 42] : Value) h) (Cond ((((x3.n : Nat) : Int)) == (0 : Int)) (R (.tuple #[.int .u64 x1, .int .i64 0] : Value) h) (Cond (decide ((((x3.n : Nat) : Int)) > (IntKind.wrap .i64 ((4096 : Int) - x2)))) (R (.tuple #[.int .u64 0, .int .i64 41] : Value) h) (CallTo Go.Proofs.Try.prog 34 #[.int .i64 (if x10 < (IntKind.wrap .i64 (x2 + (((x3.n : Nat) : Int)))) then (IntKind.wrap .i64 (x2 + (((x3.n : Nat) : Int)))) else x10)] h fun r h2 => ∃ t49 : Int, r = .int .i64 t49 ∧ CallTo Go.Proofs.Try.prog 34 #[.int .i64 x10] h2 fun r h3 => ∃ t51 : Int, r = .int .i64 t51 ∧ Cond (t49 == t51) (CallTo Go.Proofs.Try.prog 35 #[.pointer x0, .int .u64 x1, .int .i64 0, .int .u64 (IntKind.wrap .u64 (if x10 < (IntKind.wrap .i64 (x2 + (((x3.n : Nat) : Int)))) then (IntKind.wrap .i64 (x2 + (((x3.n : Nat) : Int)))) else x10))] h3 fun r h4 => ∃ t57 : Int, r = .int .i64 t57 ∧ CallTo Go.Proofs.Try.prog 36 #[.pointer x0, .int .u64 x1, .int .i64 (IntKind.wrap .i64 ((8 : Int) + x2)), .slice x3.a x3.n x3.c] h4 fun r h5 => ∃ t63 : Int, r = .int .i64 t63 ∧ R (.tuple #[.int .u64 x1, .int .i64 0] : Value) h5) ((0 ≤ (if x10 < (IntKind.wrap .i64 (x2 + (((x3.n : Nat) : Int)))) then (IntKind.wrap .i64 (x2 + (((x3.n : Nat) : Int)))) else x10) ∧ (if x10 < (IntKind.wrap .i64 (x2 + (((x3.n : Nat) : Int)))) then (IntKind.wrap .i64 (x2 + (((x3.n : Nat) : Int)))) else x10) ≤ (if x10 < (IntKind.wrap .i64 (x2 + (((x3.n : Nat) : Int)))) then (IntKind.wrap .i64 (x2 + (((x3.n : Nat) : Int)))) else x10)) ∧ (if x10 < (IntKind.wrap .i64 (x2 + (((x3.n : Nat) : Int)))) then (IntKind.wrap .i64 (x2 + (((x3.n : Nat) : Int)))) else x10) < 2 ^ 62 ∧ (1 : Nat) * (if x10 < (IntKind.wrap .i64 (x2 + (((x3.n : Nat) : Int)))) then (IntKind.wrap .i64 (x2 + (((x3.n : Nat) : Int)))) else x10) ≤ 2 ^ 48 ∧ Let (h3.push (.cells (zrow #[.int .u8 0] ((if x10 < (IntKind.wrap .i64 (x2 + (((x3.n : Nat) : Int)))) then (IntKind.wrap .i64 (x2 + (((x3.n : Nat) : Int)))) else x10).toNat * 1)) 5)) fun h6 => CallTo Go.Proofs.Try.prog 18 #[.pointer x0, .int .u64 x1] h6 fun r h7 => ∃ t70_0 : Sl, ∃ t70_1 : Int, r = .tuple #[.slice t70_0.a t70_0.n t70_0.c, .int .i64 t70_1] ∧ cpySl 1 (some (nb h3)) ((if x10 < (IntKind.wrap .i64 (x2 + (((x3.n : Nat) : Int)))) then (IntKind.wrap .i64 (x2 + (((x3.n : Nat) : Int)))) else x10).toNat) t70_0.a t70_0.n h7 fun rk h8 => (0 ≤ x2 ∧ x2 ≤ (((if x10 < (IntKind.wrap .i64 (x2 + (((x3.n : Nat) : Int)))) then (IntKind.wrap .i64 (x2 + (((x3.n : Nat) : Int)))) else x10).toNat : Nat) : Int)) ∧ cpySl 1 (if (if x10 < (IntKind.wrap .i64 (x2 + (((x3.n : Nat) : Int)))) then (IntKind.wrap .i64 (x2 + (((x3.n : Nat) : Int)))) else x10).toNat = x2.toNat then some (nb h3) else Option.map (fun x => x.add (x2.toNat * 1)) (some (nb h3))) ((if x10 < (IntKind.wrap .i64 (x2 + (((x3.n : Nat) : Int)))) then (IntKind.wrap .i64 (x2 + (((x3.n : Nat) : Int)))) else x10).toNat - x2.toNat) x3.a x3.n h8 fun rk h9 => CallTo Go.Proofs.Try.prog 17 #[.pointer x0, .int .u64 x1] h9 fun r h10 => ∃ t84_0 : Int, ∃ t84_1 : Int, r = .tuple #[.int .i64 t84_0, .int .i64 t84_1] ∧ Cond (t84_1 != (0 : Int)) (R (.tuple #[.int .u64 0, .int .i64 t84_1] : Value) h10) (CallTo Go.Proofs.Try.prog 37 #[.pointer x0, .slice (some (nb h3)) ((if x10 < (IntKind.wrap .i64 (x2 + (((x3.n : Nat) : Int)))) then (IntKind.wrap .i64 (x2 + (((x3.n : Nat) : Int)))) else x10).toNat) ((if x10 < (IntKind.wrap .i64 (x2 + (((x3.n : Nat) : Int)))) then (IntKind.wrap .i64 (x2 + (((x3.n : Nat) : Int)))) else x10).toNat)] h10 fun r h11 => ∃ t93_0 : Int, ∃ t93_1 : Int, r = .tuple #[.int .u64 t93_0, .int .i64 t93_1] ∧ CallTo Go.Proofs.Try.prog 38 #[.pointer x0, .int .i64 t84_0] h11 fun r h12 => ∃ t98 : Int, r = .int .i64 t98 ∧ R (.tuple #[.int .u64 t93_0, .int .i64 t93_1] : Value) h12)))))
def f16F (a0 : Option Addr) (a1 : Int) (a2 : Int) (a3 : Sl) (h : Hp) (R : Value → Hp → Prop) : Prop :=
  CallTo Go.Proofs.Try.prog 19 #[.pointer a0, .int .u64 a1] h fun r h1 => ∃ t21_0 : Int, ∃ t21_1 : Int, r = .tuple #[.int .i64 t21_0, .int .i64 t21_1] ∧ Cond (t21_1 != (0 : Int)) (R (.tuple #[.int .u64 0, .int .i64 t21_1] : Value) h1) (Cond (decide (a2 < (0 : Int))) (f16K1  a0 a1 a2 a3 t21_0 true h1 R) (f16K1  a0 a1 a2 a3 t21_0 (decide (a2 > (4096 : Int))) h1 R))
theorem f16F_eq (a0 : Option Addr) (a1 : Int) (a2 : Int) (a3 : Sl) (h : Hp) (R : Value → Hp → Prop) : evF Go.Proofs.Try.prog tab lv16 Go.Proofs.Try.f16 body16 [] [.pointer a0, .int .u64 a1, .int .i64 a2, .slice a3.a a3.n a3.c] h R = f16F a0 a1 a2 a3 h R := by kernel_rfl
theorem f16F_ok {a0 : Option Addr} {a1 : Int} {a2 : Int} {a3 : Sl} {h : Hp} {R : Value → Hp → Prop} (hF : f16F a0 a1 a2 a3 h R) : CallTo Go.Proofs.Try.prog 16 #[.pointer a0, .int .u64 a1, .int .i64 a2, .slice a3.a a3.n a3.c] h R :=
  callTo_of_ev (lv := lv16) (hints := []) (c := body16) (args := [.pointer a0, .int .u64 a1, .int .i64 a2, .slice a3.a a3.n a3.c]) mixed tab_ok Go.Proofs.Try.func16 (by kernel_rfl) (by kernel_rfl) (by rw [f16F_eq]; exact hF)
/- larder/blob.Read -/
noncomputable def body18 : Code := (Go.Proofs.Try.f18.body).getD .skip
def lv18 (m : Nat) : List Nat := []
def f18F (a0 : Option Addr) (a1 : Int) (h : Hp) (R : Value → Hp → Prop) : Prop :=
  CallTo Go.Proofs.Try.prog 19 #[.pointer a0, .int .u64 a1] h fun r h1 => ∃ t11_0 : Int, ∃ t11_1 : Int, r = .tuple #[.int .i64 t11_0, .int .i64 t11_1] ∧ Cond (t11_1 != (0 : Int)) (R (.tuple #[.slice none 0 0, .int .i64 t11_1] : Value) h1) (CallTo Go.Proofs.Try.prog 15 #[.pointer a0, .int .u64 a1, .int .i64 0, .int .i64 t11_0] h1 fun r h2 => ∃ t20_0 : Sl, ∃ t20_1 : Int, r = .tuple #[.slice t20_0.a t20_0.n t20_0.c, .int .i64 t20_1] ∧ R (.tuple #[.slice t20_0.a t20_0.n t20_0.c, .int .i64 t20_1] : Value) h2)
theorem f18F_eq (a0 : Option Addr) (a1 : Int) (h : Hp) (R : Value → Hp → Prop) : evF Go.Proofs.Try.prog tab lv18 Go.Proofs.Try.f18 body18 [] [.pointer a0, .int .u64 a1] h R = f18F a0 a1 h R := by kernel_rfl
theorem f18F_ok {a0 : Option Addr} {a1 : Int} {h : Hp} {R : Value → Hp → Prop} (hF : f18F a0 a1 h R) : CallTo Go.Proofs.Try.prog 18 #[.pointer a0, .int .u64 a1] h R :=
  callTo_of_ev (lv := lv18) (hints := []) (c := body18) (args := [.pointer a0, .int .u64 a1]) mixed tab_ok Go.Proofs.Try.func18 (by kernel_rfl) (by kernel_rfl) (by rw [f18F_eq]; exact hF)
/- larder/blob.Len -/
noncomputable def body19 : Code := (Go.Proofs.Try.f19.body).getD .skip
def lv19 (m : Nat) : List Nat := []
def f19K1  (x0 : Option Addr) (x1 : Int) (x25 : Bool) (h : Hp) (R : Value → Hp → Prop) : Prop :=
  Cond x25 (R (.tuple #[.int .i64 0, .int .i64 40] : Value) h) (CallTo Go.Proofs.Try.prog 41 #[.pointer x0, .int .u64 x1, .int .i64 0] h fun r h2 => ∃ t29_0 : Int, ∃ t29_1 : Int, r = .tuple #[.int .u64 t29_0, .int .i64 t29_1] ∧ R ((.tuple #[.int .i64 (IntKind.wrap .i64 t29_0), .int .i64 0] : Value)) h2)
def f19F (a0 : Option Addr) (a1 : Int) (h : Hp) (R : Value → Hp → Prop) : Prop :=
  CallTo Go.Proofs.Try.prog 40 #[.pointer a0, .int .u64 a1] h fun r h1 => ∃ t15_0 : Int, ∃ t15_1 : Int, ∃ t15_2 : Int, ∃ t15_3 : Int, r = .tuple #[.int .i64 t15_0, .int .i64 t15_1, .int .i64 t15_2, .int .i64 t15_3] ∧ Cond (t15_3 != (0 : Int)) (f19K1  a0 a1 true h1 R) (f19K1  a0 a1 (t15_0 != (1 : Int)) h1 R)
theorem f19F_eq (a0 : Option Addr) (a1 : Int) (h : Hp) (R : Value → Hp → Prop) : evF Go.Proofs.Try.prog tab lv19 Go.Proofs.Try.f19 body19 [] [.pointer a0, .int .u64 a1] h R = f19F a0 a1 h R := by kernel_rfl
theorem f19F_ok {a0 : Option Addr} {a1 : Int} {h : Hp} {R : Value → Hp → Prop} (hF : f19F a0 a1 h R) : CallTo Go.Proofs.Try.prog 19 #[.pointer a0, .int .u64 a1] h R :=
  callTo_of_ev (lv := lv19) (hints := []) (c := body19) (args := [.pointer a0, .int .u64 a1]) mixed tab_ok Go.Proofs.Try.func19 (by kernel_rfl) (by kernel_rfl) (by rw [f19F_eq]; exact hF)
/- larder/blob.New -/
noncomputable def body23 : Code := (Go.Proofs.Try.f23.body).getD .skip
def lv23 (m : Nat) : List Nat := if m = 3 then [0, 1, 6, 13, 14, 15] else if m = 12 then [0, 9, 10, 28, 29, 30] else []
def f23I1 (J : Nat → Option Addr → Sl → Int → Sl → Int → Int → Hp → Prop) (n : Nat) (env : List Value) (h : Hp) : Prop := lenIs env 47 (DecP env 0 fun s0 => DecL env 1 fun s1 => DecI .i64 env 6 fun s6 => DecL env 13 fun s13 => DecI .i64 env 14 fun s14 => DecI .i64 env 15 fun s15 => J n s0 s1 s6 s13 s14 s15 h)
def f23I2 (J : Nat → Option Addr → Sl → Int → Sl → Int → Int → Hp → Prop) (n : Nat) (env : List Value) (h : Hp) : Prop := lenIs env 47 (DecP env 0 fun s0 => DecL env 9 fun s9 => DecI .i64 env 10 fun s10 => DecL env 28 fun s28 => DecI .i64 env 29 fun s29 => DecI .i64 env 30 fun s30 => J n s0 s9 s10 s28 s29 s30 h)
def f23L1 (J1 : Nat → Option Addr → Sl → Int → Sl → Int → Int → Hp → Prop) (n1 : Nat) (s0 : Option Addr) (s1 : Sl) (s6 : Int) (s13 : Sl) (s14 : Int) (s15 : Int) (g : Nat → Value) (h : Hp) (R : Value → Hp → Prop) : Prop :=
  Cond (decide (s15 < s14)) ((0 ≤ s15 ∧ s15 < ((s13.n : Nat) : Int)) ∧ PtrOk s13.a fun p17 => ∃ t18 : Sl, cell h (p17.add (s15.toNat * 1)) = some (.slice t18.a t18.n t18.c) ∧ Cond (decide ((IntKind.wrap .i64 (s6 + (((t18.n : Nat) : Int)))) > (4096 : Int))) (R (.tuple #[.int .u64 0, .int .i64 41] : Value) h) (∃ m, m < n1 ∧ J1 m s0 s1 (IntKind.wrap .i64 (s6 + (((t18.n : Nat) : Int)))) s13 s14 (IntKind.wrap .i64 (s15 + (1 : Int))) h)) ((0 ≤ s6 ∧ s6 ≤ s6) ∧ s6 < 2 ^ 62 ∧ (1 : Nat) * s6 ≤ 2 ^ 48 ∧ Let (h.push (.cells (zrow #[.int .u8 0] (s6.toNat * 1)) 5)) fun h1 => LoopEv (evC Go.Proofs.Try.prog tab lv23 (sub [1, 1, 1, 1, 1, 0, 1, 0, 0] body23)) (contAt Go.Proofs.Try.prog tab lv23 [1, 1, 1, 1, 1, 0, 1, 0] body23 [] (bodyK Go.Proofs.Try.prog Go.Proofs.Try.f23 [] R)) [(0, .pointer s0), (9, .slice (some (nb h)) s6.toNat s6.toNat), (10, .int .i64 0), (28, .slice s1.a s1.n s1.c), (29, .int .i64 (((s1.n : Nat) : Int))), (30, .int .i64 0)] 47 h1)
theorem f23L1_eq (J1 : Nat → Option Addr → Sl → Int → Sl → Int → Int → Hp → Prop) (n1 : Nat) (s0 : Option Addr) (s1 : Sl) (s6 : Int) (s13 : Sl) (s14 : Int) (s15 : Int) (g : Nat → Value) (h : Hp) (R : Value → Hp → Prop) : (evC Go.Proofs.Try.prog tab lv23 (sub [1, 1, 0, 1, 0, 0] body23)) (loopK (f23I1 J1) n1 (contAt Go.Proofs.Try.prog tab lv23 [1, 1, 0, 1, 0] body23 [] (bodyK Go.Proofs.Try.prog Go.Proofs.Try.f23 [] R))) (mkEnv 47 [(0, .pointer s0), (1, .slice s1.a s1.n s1.c), (6, .int .i64 s6), (13, .slice s13.a s13.n s13.c), (14, .int .i64 s14), (15, .int .i64 s15)] g) h = f23L1 J1 n1 s0 s1 s6 s13 s14 s15 g h R := by kernel_rfl
theorem f23I1_at (J : Nat → Option Addr → Sl → Int → Sl → Int → Int → Hp → Prop) (n : Nat) (s0 : Option Addr) (s1 : Sl) (s6 : Int) (s13 : Sl) (s14 : Int) (s15 : Int) (g : Nat → Value) (h : Hp) : f23I1 J n (mkEnv 47 [(0, .pointer s0), (1, .slice s1.a s1.n s1.c), (6, .int .i64 s6), (13, .slice s13.a s13.n s13.c), (14, .int .i64 s14), (15, .int .i64 s15)] g) h = J n s0 s1 s6 s13 s14 s15 h := by kernel_rfl
theorem f23L1_rule  {R : Value → Hp → Prop} {s0 : Option Addr} {s1 : Sl} {s6 : Int} {s13 : Sl} {s14 : Int} {s15 : Int} {h0 : Hp} (J : Nat → Option Addr → Sl → Int → Sl → Int → Int → Hp → Prop) (n0 : Nat) (hi : J n0 s0 s1 s6 s13 s14 s15 h0)
    (hr : ∀ n s0 s1 s6 s13 s14 s15 g h, J n s0 s1 s6 s13 s14 s15 h → f23L1  J n s0 s1 s6 s13 s14 s15 g h R) : LoopEv (evC Go.Proofs.Try.prog tab lv23 (sub [1, 1, 0, 1, 0, 0] body23)) (contAt Go.Proofs.Try.prog tab lv23 [1, 1, 0, 1, 0] body23 [] (bodyK Go.Proofs.Try.prog Go.Proofs.Try.f23 [] R)) [(0, .pointer s0), (1, .slice s1.a s1.n s1.c), (6, .int .i64 s6), (13, .slice s13.a s13.n s13.c), (14, .int .i64 s14), (15, .int .i64 s15)] 47 h0 := by
  refine ⟨f23I1 J, n0, fun g => by rw [f23I1_at]; exact hi, fun n env h hI => ?_⟩
  clear hi
  clear s0 s1 s6 s13 s14 s15
  obtain ⟨hlen, hI⟩ := Cond_true' hI
  have hlen : env.length = 47 := by simpa using hlen
  obtain ⟨s0, es0, hI⟩ := DecP.out hI
  obtain ⟨s1, es1, hI⟩ := DecL.out hI
  obtain ⟨s6, es6, hI⟩ := DecI.out hI
  obtain ⟨s13, es13, hI⟩ := DecL.out hI
  obtain ⟨s14, es14, hI⟩ := DecI.out hI
  obtain ⟨s15, es15, hI⟩ := DecI.out hI
  rw [mkEnv_of (l := [(0, .pointer s0), (1, .slice s1.a s1.n s1.c), (6, .int .i64 s6), (13, .slice s13.a s13.n s13.c), (14, .int .i64 s14), (15, .int .i64 s15)]) hlen (by simp only [List.mem_cons, List.not_mem_nil, or_false, forall_eq_or_imp, forall_eq]; exact ⟨es0, es1, es6, es13, es14, es15⟩)]
  rw [f23L1_eq]
  exact hr n s0 s1 s6 s13 s14 s15 _ h hI
def f23L2 (J2 : Nat → Option Addr → Sl → Int → Sl → Int → Int → Hp → Prop) (n2 : Nat) (s0 : Option Addr) (s9 : Sl) (s10 : Int) (s28 : Sl) (s29 : Int) (s30 : Int) (g : Nat → Value) (h : Hp) (R : Value → Hp → Prop) : Prop :=
  Cond (decide (s30 < s29)) ((0 ≤ s30 ∧ s30 < ((s28.n : Nat) : Int)) ∧ PtrOk s28.a fun p32 => ∃ t33 : Sl, cell h (p32.add (s30.toNat * 1)) = some (.slice t33.a t33.n t33.c) ∧ (0 ≤ s10 ∧ s10 ≤ ((s9.n : Nat) : Int)) ∧ cpySl 1 (if s9.c = s10.toNat then s9.a else Option.map (fun x => x.add (s10.toNat * 1)) s9.a) (s9.n - s10.toNat) t33.a t33.n h fun rk h2 => ∃ m, m < n2 ∧ J2 m s0 s9 (IntKind.wrap .i64 (s10 + rk)) s28 s29 (IntKind.wrap .i64 (s30 + (1 : Int))) h2) (CallTo Go.Proofs.Try.prog 37 #[.pointer s0, .slice s9.a s9.n s9.c] h fun r h3 => ∃ t44_0 : Int, ∃ t44_1 : Int, r = .tuple #[.int .u64 t44_0, .int .i64 t44_1] ∧ R (.tuple #[.int .u64 t44_0, .int .i64 t44_1] : Value) h3)
theorem f23L2_eq (J2 : Nat → Option Addr → Sl → Int → Sl → Int → Int → Hp → Prop) (n2 : Nat) (s0 : Option Addr) (s9 : Sl) (s10 : Int) (s28 : Sl) (s29 : Int) (s30 : Int) (g : Nat → Value) (h : Hp) (R : Value → Hp → Prop) : (evC Go.Proofs.Try.prog tab lv23 (sub [1, 1, 1, 1, 1, 0, 1, 0, 0] body23)) (loopK (f23I2 J2) n2 (contAt Go.Proofs.Try.prog tab lv23 [1, 1, 1, 1, 1, 0, 1, 0] body23 [] (bodyK Go.Proofs.Try.prog Go.Proofs.Try.f23 [] R))) (mkEnv 47 [(0, .pointer s0), (9, .slice s9.a s9.n s9.c), (10, .int .i64 s10), (28, .slice s28.a s28.n s28.c), (29, .int .i64 s29), (30, .int .i64 s30)] g) h = f23L2 J2 n2 s0 s9 s10 s28 s29 s30 g h R := by kernel_rfl
theorem f23I2_at (J : Nat → Option Addr → Sl → Int → Sl → Int → Int → Hp → Prop) (n : Nat) (s0 : Option Addr) (s9 : Sl) (s10 : Int) (s28 : Sl) (s29 : Int) (s30 : Int) (g : Nat → Value) (h : Hp) : f23I2 J n (mkEnv 47 [(0, .pointer s0), (9, .slice s9.a s9.n s9.c), (10, .int .i64 s10), (28, .slice s28.a s28.n s28.c), (29, .int .i64 s29), (30, .int .i64 s30)] g) h = J n s0 s9 s10 s28 s29 s30 h := by kernel_rfl
theorem f23L2_rule  {R : Value → Hp → Prop} {s0 : Option Addr} {s9 : Sl} {s10 : Int} {s28 : Sl} {s29 : Int} {s30 : Int} {h0 : Hp} (J : Nat → Option Addr → Sl → Int → Sl → Int → Int → Hp → Prop) (n0 : Nat) (hi : J n0 s0 s9 s10 s28 s29 s30 h0)
    (hr : ∀ n s0 s9 s10 s28 s29 s30 g h, J n s0 s9 s10 s28 s29 s30 h → f23L2  J n s0 s9 s10 s28 s29 s30 g h R) : LoopEv (evC Go.Proofs.Try.prog tab lv23 (sub [1, 1, 1, 1, 1, 0, 1, 0, 0] body23)) (contAt Go.Proofs.Try.prog tab lv23 [1, 1, 1, 1, 1, 0, 1, 0] body23 [] (bodyK Go.Proofs.Try.prog Go.Proofs.Try.f23 [] R)) [(0, .pointer s0), (9, .slice s9.a s9.n s9.c), (10, .int .i64 s10), (28, .slice s28.a s28.n s28.c), (29, .int .i64 s29), (30, .int .i64 s30)] 47 h0 := by
  refine ⟨f23I2 J, n0, fun g => by rw [f23I2_at]; exact hi, fun n env h hI => ?_⟩
  clear hi
  clear s0 s9 s10 s28 s29 s30
  obtain ⟨hlen, hI⟩ := Cond_true' hI
  have hlen : env.length = 47 := by simpa using hlen
  obtain ⟨s0, es0, hI⟩ := DecP.out hI
  obtain ⟨s9, es9, hI⟩ := DecL.out hI
  obtain ⟨s10, es10, hI⟩ := DecI.out hI
  obtain ⟨s28, es28, hI⟩ := DecL.out hI
  obtain ⟨s29, es29, hI⟩ := DecI.out hI
  obtain ⟨s30, es30, hI⟩ := DecI.out hI
  rw [mkEnv_of (l := [(0, .pointer s0), (9, .slice s9.a s9.n s9.c), (10, .int .i64 s10), (28, .slice s28.a s28.n s28.c), (29, .int .i64 s29), (30, .int .i64 s30)]) hlen (by simp only [List.mem_cons, List.not_mem_nil, or_false, forall_eq_or_imp, forall_eq]; exact ⟨es0, es9, es10, es28, es29, es30⟩)]
  rw [f23L2_eq]
  exact hr n s0 s9 s10 s28 s29 s30 _ h hI
def f23F (a0 : Option Addr) (a1 : Sl) (h : Hp) (R : Value → Hp → Prop) : Prop :=
  LoopEv (evC Go.Proofs.Try.prog tab lv23 (sub [1, 1, 0, 1, 0, 0] body23)) (contAt Go.Proofs.Try.prog tab lv23 [1, 1, 0, 1, 0] body23 [] (bodyK Go.Proofs.Try.prog Go.Proofs.Try.f23 [] R)) [(0, .pointer a0), (1, .slice a1.a a1.n a1.c), (6, .int .i64 0), (13, .slice a1.a a1.n a1.c), (14, .int .i64 (((a1.n : Nat) : Int))), (15, .int .i64 0)] 47 h
theorem f23F_eq (a0 : Option Addr) (a1 : Sl) (h : Hp) (R : Value → Hp → Prop) : evF Go.Proofs.Try.prog tab lv23 Go.Proofs.Try.f23 body23 [] [.pointer a0, .slice a1.a a1.n a1.c] h R = f23F a0 a1 h R := by kernel_rfl
theorem f23F_ok {a0 : Option Addr} {a1 : Sl} {h : Hp} {R : Value → Hp → Prop} (hF : f23F a0 a1 h R) : CallTo Go.Proofs.Try.prog 23 #[.pointer a0, .slice a1.a a1.n a1.c] h R :=
  callTo_of_ev (lv := lv23) (hints := []) (c := body23) (args := [.pointer a0, .slice a1.a a1.n a1.c]) mixed tab_ok Go.Proofs.Try.func23 (by kernel_rfl) (by kernel_rfl) (by rw [f23F_eq]; exact hF)
/- larder/blob.lay -/
noncomputable def body37 : Code := (Go.Proofs.Try.f37.body).getD .skip
def lv37 (m : Nat) : List Nat := []
def f37F (a0 : Option Addr) (a1 : Sl) (h : Hp) (R : Value → Hp → Prop) : Prop :=
  CallTo Go.Proofs.Try.prog 34 #[.int .i64 (((a1.n : Nat) : Int))] h fun r h1 => ∃ t12 : Int, r = .int .i64 t12 ∧ CallTo Go.Proofs.Try.prog 27 #[.pointer a0, .int .i64 1, .int .i64 0, .int .i64 (IntKind.wrap .i64 ((1 : Int) + t12))] h1 fun r h2 => ∃ t14_0 : Int, ∃ t14_1 : Int, r = .tuple #[.int .u64 t14_0, .int .i64 t14_1] ∧ Cond (t14_1 != (0 : Int)) (R (.tuple #[.int .u64 0, .int .i64 t14_1] : Value) h2) (CallTo Go.Proofs.Try.prog 35 #[.pointer a0, .int .u64 t14_0, .int .i64 0, .int .u64 (IntKind.wrap .u64 (((a1.n : Nat) : Int)))] h2 fun r h3 => ∃ t25 : Int, r = .int .i64 t25 ∧ CallTo Go.Proofs.Try.prog 36 #[.pointer a0, .int .u64 t14_0, .int .i64 8, .slice a1.a a1.n a1.c] h3 fun r h4 => ∃ t29 : Int, r = .int .i64 t29 ∧ R (.tuple #[.int .u64 t14_0, .int .i64 0] : Value) h4)
theorem f37F_eq (a0 : Option Addr) (a1 : Sl) (h : Hp) (R : Value → Hp → Prop) : evF Go.Proofs.Try.prog tab lv37 Go.Proofs.Try.f37 body37 [] [.pointer a0, .slice a1.a a1.n a1.c] h R = f37F a0 a1 h R := by kernel_rfl
theorem f37F_ok {a0 : Option Addr} {a1 : Sl} {h : Hp} {R : Value → Hp → Prop} (hF : f37F a0 a1 h R) : CallTo Go.Proofs.Try.prog 37 #[.pointer a0, .slice a1.a a1.n a1.c] h R :=
  callTo_of_ev (lv := lv37) (hints := []) (c := body37) (args := [.pointer a0, .slice a1.a a1.n a1.c]) mixed tab_ok Go.Proofs.Try.func37 (by kernel_rfl) (by kernel_rfl) (by rw [f37F_eq]; exact hF)
end Go.Ev
