/- Printed by a program (own work) out of the loaded functions: what each says of the heap, and that the evaluator says the same. No condition. -/
import Derived.Test.YtgkhjbfkgckeoaaG0
set_option linter.all false
set_option maxRecDepth 100000
namespace Go.Ev
/- larder/larderref0.EqWords -/
noncomputable def body24 : Code := (Go.Proofs.Try.f24.body).getD .skip
def lv24 (m : Nat) : List Nat := if m = 4 then [0, 1, 5] else []
def f24I1 (J : Nat → Sl → Sl → Int → Hp → Prop) (n : Nat) (env : List Value) (h : Hp) : Prop := lenIs env 26 (DecL env 0 fun s0 => DecL env 1 fun s1 => DecI .i64 env 5 fun s5 => J n s0 s1 s5 h)
def f24L1 (J1 : Nat → Sl → Sl → Int → Hp → Prop) (n1 : Nat) (s0 : Sl) (s1 : Sl) (s5 : Int) (g : Nat → Value) (h : Hp) (R : Value → Hp → Prop) : Prop :=
  Cond (decide (s5 < (((s0.n : Nat) : Int)))) ((0 ≤ s5 ∧ s5 < ((s0.n : Nat) : Int)) ∧ PtrOk s0.a fun p19 => ∃ t20 : Int, cell h (p19.add (s5.toNat * 1)) = some (.int .u64 t20) ∧ (0 ≤ s5 ∧ s5 < ((s1.n : Nat) : Int)) ∧ PtrOk s1.a fun p23 => ∃ t24 : Int, cell h (p23.add (s5.toNat * 1)) = some (.int .u64 t24) ∧ Cond (t20 != t24) (R (.bool false : Value) h) (∃ m, m < n1 ∧ J1 m s0 s1 (IntKind.wrap .i64 (s5 + (1 : Int))) h)) (R (.bool true : Value) h)
theorem f24L1_eq (J1 : Nat → Sl → Sl → Int → Hp → Prop) (n1 : Nat) (s0 : Sl) (s1 : Sl) (s5 : Int) (g : Nat → Value) (h : Hp) (R : Value → Hp → Prop) : (evC Go.Proofs.Try.prog tab lv24 (sub [1, 1, 0, 1, 0, 0] body24)) (loopK (f24I1 J1) n1 (contAt Go.Proofs.Try.prog tab lv24 [1, 1, 0, 1, 0] body24 [] (bodyK Go.Proofs.Try.prog Go.Proofs.Try.f24 [] R))) (mkEnv 26 [(0, .slice s0.a s0.n s0.c), (1, .slice s1.a s1.n s1.c), (5, .int .i64 s5)] g) h = f24L1 J1 n1 s0 s1 s5 g h R := by kernel_rfl
theorem f24I1_at (J : Nat → Sl → Sl → Int → Hp → Prop) (n : Nat) (s0 : Sl) (s1 : Sl) (s5 : Int) (g : Nat → Value) (h : Hp) : f24I1 J n (mkEnv 26 [(0, .slice s0.a s0.n s0.c), (1, .slice s1.a s1.n s1.c), (5, .int .i64 s5)] g) h = J n s0 s1 s5 h := by kernel_rfl
theorem f24L1_rule  {R : Value → Hp → Prop} {s0 : Sl} {s1 : Sl} {s5 : Int} {h0 : Hp} (J : Nat → Sl → Sl → Int → Hp → Prop) (n0 : Nat) (hi : J n0 s0 s1 s5 h0)
    (hr : ∀ n s0 s1 s5 g h, J n s0 s1 s5 h → f24L1  J n s0 s1 s5 g h R) : LoopEv (evC Go.Proofs.Try.prog tab lv24 (sub [1, 1, 0, 1, 0, 0] body24)) (contAt Go.Proofs.Try.prog tab lv24 [1, 1, 0, 1, 0] body24 [] (bodyK Go.Proofs.Try.prog Go.Proofs.Try.f24 [] R)) [(0, .slice s0.a s0.n s0.c), (1, .slice s1.a s1.n s1.c), (5, .int .i64 s5)] 26 h0 := by
  refine ⟨f24I1 J, n0, fun g => by rw [f24I1_at]; exact hi, fun n env h hI => ?_⟩
  clear hi
  clear s0 s1 s5
  obtain ⟨hlen, hI⟩ := Cond_true' hI
  have hlen : env.length = 26 := by simpa using hlen
  obtain ⟨s0, es0, hI⟩ := DecL.out hI
  obtain ⟨s1, es1, hI⟩ := DecL.out hI
  obtain ⟨s5, es5, hI⟩ := DecI.out hI
  rw [mkEnv_of (l := [(0, .slice s0.a s0.n s0.c), (1, .slice s1.a s1.n s1.c), (5, .int .i64 s5)]) hlen (by simp only [List.mem_cons, List.not_mem_nil, or_false, forall_eq_or_imp, forall_eq]; exact ⟨es0, es1, es5⟩)]
  rw [f24L1_eq]
  exact hr n s0 s1 s5 _ h hI
def f24F (a0 : Sl) (a1 : Sl) (h : Hp) (R : Value → Hp → Prop) : Prop :=
  Cond ((((a0.n : Nat) : Int)) != (((a1.n : Nat) : Int))) (R (.bool false : Value) h) (LoopEv (evC Go.Proofs.Try.prog tab lv24 (sub [1, 1, 0, 1, 0, 0] body24)) (contAt Go.Proofs.Try.prog tab lv24 [1, 1, 0, 1, 0] body24 [] (bodyK Go.Proofs.Try.prog Go.Proofs.Try.f24 [] R)) [(0, .slice a0.a a0.n a0.c), (1, .slice a1.a a1.n a1.c), (5, .int .i64 0)] 26 h)
theorem f24F_eq (a0 : Sl) (a1 : Sl) (h : Hp) (R : Value → Hp → Prop) : evF Go.Proofs.Try.prog tab lv24 Go.Proofs.Try.f24 body24 [] [.slice a0.a a0.n a0.c, .slice a1.a a1.n a1.c] h R = f24F a0 a1 h R := by kernel_rfl
theorem f24F_ok {a0 : Sl} {a1 : Sl} {h : Hp} {R : Value → Hp → Prop} (hF : f24F a0 a1 h R) : CallTo Go.Proofs.Try.prog 24 #[.slice a0.a a0.n a0.c, .slice a1.a a1.n a1.c] h R :=
  callTo_of_ev (lv := lv24) (hints := []) (c := body24) (args := [.slice a0.a a0.n a0.c, .slice a1.a a1.n a1.c]) mixed tab_ok Go.Proofs.Try.func24 (by kernel_rfl) (by kernel_rfl) (by rw [f24F_eq]; exact hF)
/- larder/larderref0.Eq -/
noncomputable def body98 : Code := (Go.Proofs.Try.f98.body).getD .skip
def lv98 (m : Nat) : List Nat := []
def f98F (a0 : Sl) (a1 : Sl) (h : Hp) (R : Value → Hp → Prop) : Prop :=
  CallTo Go.Proofs.Try.prog 113 #[.slice a0.a a0.n a0.c, .slice a1.a a1.n a1.c] h fun r h1 => ∃ t7 : Int, r = .int .i64 t7 ∧ R ((.bool (t7 == (0 : Int)) : Value)) h1
theorem f98F_eq (a0 : Sl) (a1 : Sl) (h : Hp) (R : Value → Hp → Prop) : evF Go.Proofs.Try.prog tab lv98 Go.Proofs.Try.f98 body98 [] [.slice a0.a a0.n a0.c, .slice a1.a a1.n a1.c] h R = f98F a0 a1 h R := by kernel_rfl
theorem f98F_ok {a0 : Sl} {a1 : Sl} {h : Hp} {R : Value → Hp → Prop} (hF : f98F a0 a1 h R) : CallTo Go.Proofs.Try.prog 98 #[.slice a0.a a0.n a0.c, .slice a1.a a1.n a1.c] h R :=
  callTo_of_ev (lv := lv98) (hints := []) (c := body98) (args := [.slice a0.a a0.n a0.c, .slice a1.a a1.n a1.c]) mixed tab_ok Go.Proofs.Try.func98 (by kernel_rfl) (by kernel_rfl) (by rw [f98F_eq]; exact hF)
/- larder/larderref0.Copy -/
noncomputable def body107 : Code := (Go.Proofs.Try.f107.body).getD .skip
def lv107 (m : Nat) : List Nat := []
def f107F (a0 : Sl) (h : Hp) (R : Value → Hp → Prop) : Prop :=
  (0 ≤ (((a0.n : Nat) : Int)) ∧ (((a0.n : Nat) : Int)) ≤ (((a0.n : Nat) : Int))) ∧ (((a0.n : Nat) : Int)) < 2 ^ 62 ∧ (1 : Nat) * (((a0.n : Nat) : Int)) ≤ 2 ^ 48 ∧ Let (h.push (.cells (zrow #[.int .u8 0] ((((a0.n : Nat) : Int)).toNat * 1)) 5)) fun h1 => cpySl 1 (some (nb h)) ((((a0.n : Nat) : Int)).toNat) a0.a a0.n h1 fun rk h2 => R ((.slice (some (nb h)) ((((a0.n : Nat) : Int)).toNat) ((((a0.n : Nat) : Int)).toNat) : Value)) h2
theorem f107F_eq (a0 : Sl) (h : Hp) (R : Value → Hp → Prop) : evF Go.Proofs.Try.prog tab lv107 Go.Proofs.Try.f107 body107 [] [.slice a0.a a0.n a0.c] h R = f107F a0 h R := by kernel_rfl
theorem f107F_ok {a0 : Sl} {h : Hp} {R : Value → Hp → Prop} (hF : f107F a0 h R) : CallTo Go.Proofs.Try.prog 107 #[.slice a0.a a0.n a0.c] h R :=
  callTo_of_ev (lv := lv107) (hints := []) (c := body107) (args := [.slice a0.a a0.n a0.c]) mixed tab_ok Go.Proofs.Try.func107 (by kernel_rfl) (by kernel_rfl) (by rw [f107F_eq]; exact hF)
/- larder/larderref0.Cmp -/
noncomputable def body113 : Code := (Go.Proofs.Try.f113.body).getD .skip
def lv113 (m : Nat) : List Nat := if m = 2 then [0, 1, 5] else []
def f113I1 (J : Nat → Sl → Sl → Int → Hp → Prop) (n : Nat) (env : List Value) (h : Hp) : Prop := lenIs env 46 (DecL env 0 fun s0 => DecL env 1 fun s1 => DecI .i64 env 5 fun s5 => J n s0 s1 s5 h)
def f113K1 (J1 : Nat → Sl → Sl → Int → Hp → Prop) (n1 : Nat) (x0 : Sl) (x1 : Sl) (x5 : Int) (x15 : Bool) (h : Hp) (R : Value → Hp → Prop) : Prop :=
  Cond x15 ((0 ≤ x5 ∧ x5 < ((x0.n : Nat) : Int)) ∧ PtrOk x0.a fun p20 => ∃ t21 : Int, cell h (p20.add (x5.toNat * 1)) = some (.int .u8 t21) ∧ (0 ≤ x5 ∧ x5 < ((x1.n : Nat) : Int)) ∧ PtrOk x1.a fun p24 => ∃ t25 : Int, cell h (p24.add (x5.toNat * 1)) = some (.int .u8 t25) ∧ Cond (decide (t21 < t25)) (R ((.int .i64 (-1) : Value)) h) ((0 ≤ x5 ∧ x5 < ((x0.n : Nat) : Int)) ∧ PtrOk x0.a fun p29 => ∃ t30 : Int, cell h (p29.add (x5.toNat * 1)) = some (.int .u8 t30) ∧ (0 ≤ x5 ∧ x5 < ((x1.n : Nat) : Int)) ∧ PtrOk x1.a fun p33 => ∃ t34 : Int, cell h (p33.add (x5.toNat * 1)) = some (.int .u8 t34) ∧ Cond (decide (t30 > t34)) (R (.int .i64 1 : Value) h) (∃ m, m < n1 ∧ J1 m x0 x1 (IntKind.wrap .i64 (x5 + (1 : Int))) h))) (Cond (decide ((((x0.n : Nat) : Int)) < (((x1.n : Nat) : Int)))) (R ((.int .i64 (-1) : Value)) h) (Cond (decide ((((x0.n : Nat) : Int)) > (((x1.n : Nat) : Int)))) (R (.int .i64 1 : Value) h) (R (.int .i64 0 : Value) h)))
def f113L1 (J1 : Nat → Sl → Sl → Int → Hp → Prop) (n1 : Nat) (s0 : Sl) (s1 : Sl) (s5 : Int) (g : Nat → Value) (h : Hp) (R : Value → Hp → Prop) : Prop :=
  Cond (decide (s5 < (((s0.n : Nat) : Int)))) (f113K1 J1 n1 s0 s1 s5 (decide (s5 < (((s1.n : Nat) : Int)))) h R) (f113K1 J1 n1 s0 s1 s5 false h R)
theorem f113L1_eq (J1 : Nat → Sl → Sl → Int → Hp → Prop) (n1 : Nat) (s0 : Sl) (s1 : Sl) (s5 : Int) (g : Nat → Value) (h : Hp) (R : Value → Hp → Prop) : (evC Go.Proofs.Try.prog tab lv113 (sub [1, 0, 1, 0, 0] body113)) (loopK (f113I1 J1) n1 (contAt Go.Proofs.Try.prog tab lv113 [1, 0, 1, 0] body113 [] (bodyK Go.Proofs.Try.prog Go.Proofs.Try.f113 [] R))) (mkEnv 46 [(0, .slice s0.a s0.n s0.c), (1, .slice s1.a s1.n s1.c), (5, .int .i64 s5)] g) h = f113L1 J1 n1 s0 s1 s5 g h R := by kernel_rfl
theorem f113I1_at (J : Nat → Sl → Sl → Int → Hp → Prop) (n : Nat) (s0 : Sl) (s1 : Sl) (s5 : Int) (g : Nat → Value) (h : Hp) : f113I1 J n (mkEnv 46 [(0, .slice s0.a s0.n s0.c), (1, .slice s1.a s1.n s1.c), (5, .int .i64 s5)] g) h = J n s0 s1 s5 h := by kernel_rfl
theorem f113L1_rule  {R : Value → Hp → Prop} {s0 : Sl} {s1 : Sl} {s5 : Int} {h0 : Hp} (J : Nat → Sl → Sl → Int → Hp → Prop) (n0 : Nat) (hi : J n0 s0 s1 s5 h0)
    (hr : ∀ n s0 s1 s5 g h, J n s0 s1 s5 h → f113L1  J n s0 s1 s5 g h R) : LoopEv (evC Go.Proofs.Try.prog tab lv113 (sub [1, 0, 1, 0, 0] body113)) (contAt Go.Proofs.Try.prog tab lv113 [1, 0, 1, 0] body113 [] (bodyK Go.Proofs.Try.prog Go.Proofs.Try.f113 [] R)) [(0, .slice s0.a s0.n s0.c), (1, .slice s1.a s1.n s1.c), (5, .int .i64 s5)] 46 h0 := by
  refine ⟨f113I1 J, n0, fun g => by rw [f113I1_at]; exact hi, fun n env h hI => ?_⟩
  clear hi
  clear s0 s1 s5
  obtain ⟨hlen, hI⟩ := Cond_true' hI
  have hlen : env.length = 46 := by simpa using hlen
  obtain ⟨s0, es0, hI⟩ := DecL.out hI
  obtain ⟨s1, es1, hI⟩ := DecL.out hI
  obtain ⟨s5, es5, hI⟩ := DecI.out hI
  rw [mkEnv_of (l := [(0, .slice s0.a s0.n s0.c), (1, .slice s1.a s1.n s1.c), (5, .int .i64 s5)]) hlen (by simp only [List.mem_cons, List.not_mem_nil, or_false, forall_eq_or_imp, forall_eq]; exact ⟨es0, es1, es5⟩)]
  rw [f113L1_eq]
  exact hr n s0 s1 s5 _ h hI
def f113F (a0 : Sl) (a1 : Sl) (h : Hp) (R : Value → Hp → Prop) : Prop :=
  LoopEv (evC Go.Proofs.Try.prog tab lv113 (sub [1, 0, 1, 0, 0] body113)) (contAt Go.Proofs.Try.prog tab lv113 [1, 0, 1, 0] body113 [] (bodyK Go.Proofs.Try.prog Go.Proofs.Try.f113 [] R)) [(0, .slice a0.a a0.n a0.c), (1, .slice a1.a a1.n a1.c), (5, .int .i64 0)] 46 h
theorem f113F_eq (a0 : Sl) (a1 : Sl) (h : Hp) (R : Value → Hp → Prop) : evF Go.Proofs.Try.prog tab lv113 Go.Proofs.Try.f113 body113 [] [.slice a0.a a0.n a0.c, .slice a1.a a1.n a1.c] h R = f113F a0 a1 h R := by kernel_rfl
theorem f113F_ok {a0 : Sl} {a1 : Sl} {h : Hp} {R : Value → Hp → Prop} (hF : f113F a0 a1 h R) : CallTo Go.Proofs.Try.prog 113 #[.slice a0.a a0.n a0.c, .slice a1.a a1.n a1.c] h R :=
  callTo_of_ev (lv := lv113) (hints := []) (c := body113) (args := [.slice a0.a a0.n a0.c, .slice a1.a a1.n a1.c]) mixed tab_ok Go.Proofs.Try.func113 (by kernel_rfl) (by kernel_rfl) (by rw [f113F_eq]; exact hF)
end Go.Ev
