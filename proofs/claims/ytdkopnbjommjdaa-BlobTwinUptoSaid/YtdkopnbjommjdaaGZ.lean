/- Printed by a program (own work) out of the loaded functions: what each says of the heap, and that the evaluator says the same. No condition. -/
import Derived.Test.YtdkopnbjommjdaaG0
set_option linter.all false
set_option maxRecDepth 100000
namespace Go.Ev
/- larder/larderref0.Eq -/
noncomputable def body14 : Code := (Go.Proofs.Try.f14.body).getD .skip
def lv14 (m : Nat) : List Nat := []
def f14F (a0 : Sl) (a1 : Sl) (h : Hp) (R : Value → Hp → Prop) : Prop :=
  CallTo Go.Proofs.Try.prog 32 #[.slice a0.a a0.n a0.c, .slice a1.a a1.n a1.c] h fun r h1 => ∃ t7 : Int, r = .int .i64 t7 ∧ R ((.bool (t7 == (0 : Int)) : Value)) h1
theorem f14F_eq (a0 : Sl) (a1 : Sl) (h : Hp) (R : Value → Hp → Prop) : evF Go.Proofs.Try.prog tab lv14 Go.Proofs.Try.f14 body14 [] [.slice a0.a a0.n a0.c, .slice a1.a a1.n a1.c] h R = f14F a0 a1 h R := by kernel_rfl
theorem f14F_ok {a0 : Sl} {a1 : Sl} {h : Hp} {R : Value → Hp → Prop} (hF : f14F a0 a1 h R) : CallTo Go.Proofs.Try.prog 14 #[.slice a0.a a0.n a0.c, .slice a1.a a1.n a1.c] h R :=
  callTo_of_ev (lv := lv14) (hints := []) (c := body14) (args := [.slice a0.a a0.n a0.c, .slice a1.a a1.n a1.c]) mixed tab_ok Go.Proofs.Try.func14 (by kernel_rfl) (by kernel_rfl) (by rw [f14F_eq]; exact hF)
/- larder/larderref0.Cmp -/
noncomputable def body32 : Code := (Go.Proofs.Try.f32.body).getD .skip
def lv32 (m : Nat) : List Nat := if m = 2 then [0, 1, 5] else []
def f32I1 (J : Nat → Sl → Sl → Int → Hp → Prop) (n : Nat) (env : List Value) (h : Hp) : Prop := lenIs env 46 (DecL env 0 fun s0 => DecL env 1 fun s1 => DecI .i64 env 5 fun s5 => J n s0 s1 s5 h)
def f32K1 (J1 : Nat → Sl → Sl → Int → Hp → Prop) (n1 : Nat) (x0 : Sl) (x1 : Sl) (x5 : Int) (x15 : Bool) (h : Hp) (R : Value → Hp → Prop) : Prop :=
  Cond x15 ((0 ≤ x5 ∧ x5 < ((x0.n : Nat) : Int)) ∧ PtrOk x0.a fun p20 => ∃ t21 : Int, cell h (p20.add (x5.toNat * 1)) = some (.int .u8 t21) ∧ (0 ≤ x5 ∧ x5 < ((x1.n : Nat) : Int)) ∧ PtrOk x1.a fun p24 => ∃ t25 : Int, cell h (p24.add (x5.toNat * 1)) = some (.int .u8 t25) ∧ Cond (decide (t21 < t25)) (R ((.int .i64 (-1) : Value)) h) ((0 ≤ x5 ∧ x5 < ((x0.n : Nat) : Int)) ∧ PtrOk x0.a fun p29 => ∃ t30 : Int, cell h (p29.add (x5.toNat * 1)) = some (.int .u8 t30) ∧ (0 ≤ x5 ∧ x5 < ((x1.n : Nat) : Int)) ∧ PtrOk x1.a fun p33 => ∃ t34 : Int, cell h (p33.add (x5.toNat * 1)) = some (.int .u8 t34) ∧ Cond (decide (t30 > t34)) (R (.int .i64 1 : Value) h) (∃ m, m < n1 ∧ J1 m x0 x1 (IntKind.wrap .i64 (x5 + (1 : Int))) h))) (Cond (decide ((((x0.n : Nat) : Int)) < (((x1.n : Nat) : Int)))) (R ((.int .i64 (-1) : Value)) h) (Cond (decide ((((x0.n : Nat) : Int)) > (((x1.n : Nat) : Int)))) (R (.int .i64 1 : Value) h) (R (.int .i64 0 : Value) h)))
def f32L1 (J1 : Nat → Sl → Sl → Int → Hp → Prop) (n1 : Nat) (s0 : Sl) (s1 : Sl) (s5 : Int) (g : Nat → Value) (h : Hp) (R : Value → Hp → Prop) : Prop :=
  Cond (decide (s5 < (((s0.n : Nat) : Int)))) (f32K1 J1 n1 s0 s1 s5 (decide (s5 < (((s1.n : Nat) : Int)))) h R) (f32K1 J1 n1 s0 s1 s5 false h R)
theorem f32L1_eq (J1 : Nat → Sl → Sl → Int → Hp → Prop) (n1 : Nat) (s0 : Sl) (s1 : Sl) (s5 : Int) (g : Nat → Value) (h : Hp) (R : Value → Hp → Prop) : (evC Go.Proofs.Try.prog tab lv32 (sub [1, 0, 1, 0, 0] body32)) (loopK (f32I1 J1) n1 (contAt Go.Proofs.Try.prog tab lv32 [1, 0, 1, 0] body32 [] (bodyK Go.Proofs.Try.prog Go.Proofs.Try.f32 [] R))) (mkEnv 46 [(0, .slice s0.a s0.n s0.c), (1, .slice s1.a s1.n s1.c), (5, .int .i64 s5)] g) h = f32L1 J1 n1 s0 s1 s5 g h R := by kernel_rfl
theorem f32I1_at (J : Nat → Sl → Sl → Int → Hp → Prop) (n : Nat) (s0 : Sl) (s1 : Sl) (s5 : Int) (g : Nat → Value) (h : Hp) : f32I1 J n (mkEnv 46 [(0, .slice s0.a s0.n s0.c), (1, .slice s1.a s1.n s1.c), (5, .int .i64 s5)] g) h = J n s0 s1 s5 h := by kernel_rfl
theorem f32L1_rule  {R : Value → Hp → Prop} {s0 : Sl} {s1 : Sl} {s5 : Int} {h0 : Hp} (J : Nat → Sl → Sl → Int → Hp → Prop) (n0 : Nat) (hi : J n0 s0 s1 s5 h0)
    (hr : ∀ n s0 s1 s5 g h, J n s0 s1 s5 h → f32L1  J n s0 s1 s5 g h R) : LoopEv (evC Go.Proofs.Try.prog tab lv32 (sub [1, 0, 1, 0, 0] body32)) (contAt Go.Proofs.Try.prog tab lv32 [1, 0, 1, 0] body32 [] (bodyK Go.Proofs.Try.prog Go.Proofs.Try.f32 [] R)) [(0, .slice s0.a s0.n s0.c), (1, .slice s1.a s1.n s1.c), (5, .int .i64 s5)] 46 h0 := by
  refine ⟨f32I1 J, n0, fun g => by rw [f32I1_at]; exact hi, fun n env h hI => ?_⟩
  clear hi
  clear s0 s1 s5
  obtain ⟨hlen, hI⟩ := Cond_true' hI
  have hlen : env.length = 46 := by simpa using hlen
  obtain ⟨s0, es0, hI⟩ := DecL.out hI
  obtain ⟨s1, es1, hI⟩ := DecL.out hI
  obtain ⟨s5, es5, hI⟩ := DecI.out hI
  rw [mkEnv_of (l := [(0, .slice s0.a s0.n s0.c), (1, .slice s1.a s1.n s1.c), (5, .int .i64 s5)]) hlen (by simp only [List.mem_cons, List.not_mem_nil, or_false, forall_eq_or_imp, forall_eq]; exact ⟨es0, es1, es5⟩)]
  rw [f32L1_eq]
  exact hr n s0 s1 s5 _ h hI
def f32F (a0 : Sl) (a1 : Sl) (h : Hp) (R : Value → Hp → Prop) : Prop :=
  LoopEv (evC Go.Proofs.Try.prog tab lv32 (sub [1, 0, 1, 0, 0] body32)) (contAt Go.Proofs.Try.prog tab lv32 [1, 0, 1, 0] body32 [] (bodyK Go.Proofs.Try.prog Go.Proofs.Try.f32 [] R)) [(0, .slice a0.a a0.n a0.c), (1, .slice a1.a a1.n a1.c), (5, .int .i64 0)] 46 h
theorem f32F_eq (a0 : Sl) (a1 : Sl) (h : Hp) (R : Value → Hp → Prop) : evF Go.Proofs.Try.prog tab lv32 Go.Proofs.Try.f32 body32 [] [.slice a0.a a0.n a0.c, .slice a1.a a1.n a1.c] h R = f32F a0 a1 h R := by kernel_rfl
theorem f32F_ok {a0 : Sl} {a1 : Sl} {h : Hp} {R : Value → Hp → Prop} (hF : f32F a0 a1 h R) : CallTo Go.Proofs.Try.prog 32 #[.slice a0.a a0.n a0.c, .slice a1.a a1.n a1.c] h R :=
  callTo_of_ev (lv := lv32) (hints := []) (c := body32) (args := [.slice a0.a a0.n a0.c, .slice a1.a a1.n a1.c]) mixed tab_ok Go.Proofs.Try.func32 (by kernel_rfl) (by kernel_rfl) (by rw [f32F_eq]; exact hF)
/- larder/larderref0.Copies -/
noncomputable def body42 : Code := (Go.Proofs.Try.f42.body).getD .skip
def lv42 (m : Nat) : List Nat := if m = 3 then [0, 3, 4] else []
def f42I1 (J : Nat → Sl → Sl → Int → Hp → Prop) (n : Nat) (env : List Value) (h : Hp) : Prop := lenIs env 23 (DecL env 0 fun s0 => DecL env 3 fun s3 => DecI .i64 env 4 fun s4 => J n s0 s3 s4 h)
def f42L1 (J1 : Nat → Sl → Sl → Int → Hp → Prop) (n1 : Nat) (s0 : Sl) (s3 : Sl) (s4 : Int) (g : Nat → Value) (h : Hp) (R : Value → Hp → Prop) : Prop :=
  Cond (decide (s4 < (((s0.n : Nat) : Int)))) ((0 ≤ s4 ∧ s4 < ((s0.n : Nat) : Int)) ∧ PtrOk s0.a fun p18 => ∃ t19 : Sl, cell h (p18.add (s4.toNat * 1)) = some (.slice t19.a t19.n t19.c) ∧ CallTo Go.Proofs.Try.prog 45 #[.slice t19.a t19.n t19.c] h fun r h2 => ∃ t20 : Sl, r = .slice t20.a t20.n t20.c ∧ (0 ≤ s4 ∧ s4 < ((s3.n : Nat) : Int)) ∧ PtrOk s3.a fun p21 => stOk h2 (p21.add (s4.toNat * 1)) ∧ Let (setc h2 (p21.add (s4.toNat * 1)) (.slice t20.a t20.n t20.c)) fun h3 => ∃ m, m < n1 ∧ J1 m s0 s3 (IntKind.wrap .i64 (s4 + (1 : Int))) h3) (R (.slice s3.a s3.n s3.c : Value) h)
theorem f42L1_eq (J1 : Nat → Sl → Sl → Int → Hp → Prop) (n1 : Nat) (s0 : Sl) (s3 : Sl) (s4 : Int) (g : Nat → Value) (h : Hp) (R : Value → Hp → Prop) : (evC Go.Proofs.Try.prog tab lv42 (sub [1, 1, 0, 1, 0, 0] body42)) (loopK (f42I1 J1) n1 (contAt Go.Proofs.Try.prog tab lv42 [1, 1, 0, 1, 0] body42 [] (bodyK Go.Proofs.Try.prog Go.Proofs.Try.f42 [] R))) (mkEnv 23 [(0, .slice s0.a s0.n s0.c), (3, .slice s3.a s3.n s3.c), (4, .int .i64 s4)] g) h = f42L1 J1 n1 s0 s3 s4 g h R := by kernel_rfl
theorem f42I1_at (J : Nat → Sl → Sl → Int → Hp → Prop) (n : Nat) (s0 : Sl) (s3 : Sl) (s4 : Int) (g : Nat → Value) (h : Hp) : f42I1 J n (mkEnv 23 [(0, .slice s0.a s0.n s0.c), (3, .slice s3.a s3.n s3.c), (4, .int .i64 s4)] g) h = J n s0 s3 s4 h := by kernel_rfl
theorem f42L1_rule  {R : Value → Hp → Prop} {s0 : Sl} {s3 : Sl} {s4 : Int} {h0 : Hp} (J : Nat → Sl → Sl → Int → Hp → Prop) (n0 : Nat) (hi : J n0 s0 s3 s4 h0)
    (hr : ∀ n s0 s3 s4 g h, J n s0 s3 s4 h → f42L1  J n s0 s3 s4 g h R) : LoopEv (evC Go.Proofs.Try.prog tab lv42 (sub [1, 1, 0, 1, 0, 0] body42)) (contAt Go.Proofs.Try.prog tab lv42 [1, 1, 0, 1, 0] body42 [] (bodyK Go.Proofs.Try.prog Go.Proofs.Try.f42 [] R)) [(0, .slice s0.a s0.n s0.c), (3, .slice s3.a s3.n s3.c), (4, .int .i64 s4)] 23 h0 := by
  refine ⟨f42I1 J, n0, fun g => by rw [f42I1_at]; exact hi, fun n env h hI => ?_⟩
  clear hi
  clear s0 s3 s4
  obtain ⟨hlen, hI⟩ := Cond_true' hI
  have hlen : env.length = 23 := by simpa using hlen
  obtain ⟨s0, es0, hI⟩ := DecL.out hI
  obtain ⟨s3, es3, hI⟩ := DecL.out hI
  obtain ⟨s4, es4, hI⟩ := DecI.out hI
  rw [mkEnv_of (l := [(0, .slice s0.a s0.n s0.c), (3, .slice s3.a s3.n s3.c), (4, .int .i64 s4)]) hlen (by simp only [List.mem_cons, List.not_mem_nil, or_false, forall_eq_or_imp, forall_eq]; exact ⟨es0, es3, es4⟩)]
  rw [f42L1_eq]
  exact hr n s0 s3 s4 _ h hI
def f42F (a0 : Sl) (h : Hp) (R : Value → Hp → Prop) : Prop :=
  (0 ≤ (((a0.n : Nat) : Int)) ∧ (((a0.n : Nat) : Int)) ≤ (((a0.n : Nat) : Int))) ∧ (((a0.n : Nat) : Int)) < 2 ^ 62 ∧ (24 : Nat) * (((a0.n : Nat) : Int)) ≤ 2 ^ 48 ∧ Let (h.push (.cells (zrow #[.slice none 0 0] ((((a0.n : Nat) : Int)).toNat * 1)) 22)) fun h1 => LoopEv (evC Go.Proofs.Try.prog tab lv42 (sub [1, 1, 0, 1, 0, 0] body42)) (contAt Go.Proofs.Try.prog tab lv42 [1, 1, 0, 1, 0] body42 [] (bodyK Go.Proofs.Try.prog Go.Proofs.Try.f42 [] R)) [(0, .slice a0.a a0.n a0.c), (3, .slice (some (nb h)) ((((a0.n : Nat) : Int)).toNat) ((((a0.n : Nat) : Int)).toNat)), (4, .int .i64 0)] 23 h1
theorem f42F_eq (a0 : Sl) (h : Hp) (R : Value → Hp → Prop) : evF Go.Proofs.Try.prog tab lv42 Go.Proofs.Try.f42 body42 [] [.slice a0.a a0.n a0.c] h R = f42F a0 h R := by kernel_rfl
theorem f42F_ok {a0 : Sl} {h : Hp} {R : Value → Hp → Prop} (hF : f42F a0 h R) : CallTo Go.Proofs.Try.prog 42 #[.slice a0.a a0.n a0.c] h R :=
  callTo_of_ev (lv := lv42) (hints := []) (c := body42) (args := [.slice a0.a a0.n a0.c]) mixed tab_ok Go.Proofs.Try.func42 (by kernel_rfl) (by kernel_rfl) (by rw [f42F_eq]; exact hF)
/- larder/larderref0.Copy -/
noncomputable def body45 : Code := (Go.Proofs.Try.f45.body).getD .skip
def lv45 (m : Nat) : List Nat := []
def f45F (a0 : Sl) (h : Hp) (R : Value → Hp → Prop) : Prop :=
  (0 ≤ (((a0.n : Nat) : Int)) ∧ (((a0.n : Nat) : Int)) ≤ (((a0.n : Nat) : Int))) ∧ (((a0.n : Nat) : Int)) < 2 ^ 62 ∧ (1 : Nat) * (((a0.n : Nat) : Int)) ≤ 2 ^ 48 ∧ Let (h.push (.cells (zrow #[.int .u8 0] ((((a0.n : Nat) : Int)).toNat * 1)) 5)) fun h1 => cpySl 1 (some (nb h)) ((((a0.n : Nat) : Int)).toNat) a0.a a0.n h1 fun rk h2 => R ((.slice (some (nb h)) ((((a0.n : Nat) : Int)).toNat) ((((a0.n : Nat) : Int)).toNat) : Value)) h2
theorem f45F_eq (a0 : Sl) (h : Hp) (R : Value → Hp → Prop) : evF Go.Proofs.Try.prog tab lv45 Go.Proofs.Try.f45 body45 [] [.slice a0.a a0.n a0.c] h R = f45F a0 h R := by kernel_rfl
theorem f45F_ok {a0 : Sl} {h : Hp} {R : Value → Hp → Prop} (hF : f45F a0 h R) : CallTo Go.Proofs.Try.prog 45 #[.slice a0.a a0.n a0.c] h R :=
  callTo_of_ev (lv := lv45) (hints := []) (c := body45) (args := [.slice a0.a a0.n a0.c]) mixed tab_ok Go.Proofs.Try.func45 (by kernel_rfl) (by kernel_rfl) (by rw [f45F_eq]; exact hF)
end Go.Ev
