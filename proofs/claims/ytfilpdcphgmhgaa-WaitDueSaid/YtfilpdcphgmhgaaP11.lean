/- Printed by a program (own work) out of the loaded functions: what each says of the heap, and that the evaluator says the same / larderlaw18's small functions: ints, same, place / The program's and the document's side by side: one step. No condition but that these are ones. -/
import Derived.Test.YtfilpdcphgmhgaaP4
import Derived.Test.YtfilpdcphgmhgaaP10
set_option linter.all false
set_option maxRecDepth 100000
namespace Go.Ev
open Go.Proofs
/- larder/larderlaw18.WaitRefused -/
/- larder/larderlaw18.WaitBlocks -/
noncomputable def body4:Code:=(Try.f4.body).getD .skip
def lv4 (m:Nat):List Nat:=[]
def f4F (a0_0:Int) (a0_1:Sl) (h:Hp) (R:Value→Hp→Prop):Prop :=
 Let (h.push (.cells #[.int .i64 a0_0,.slice a0_1.a a0_1.n a0_1.c] 24)) fun h1=>∃ t3_0:Int,cell h1 (nb h)=some (.int .i64 t3_0)∧∃ t3_1:Sl,cell h1 ((nb h).add 1)=some (.slice t3_1.a t3_1.n t3_1.c)∧CallTo Try.prog 20 #[.agg #[.int .i64 t3_0,.slice t3_1.a t3_1.n t3_1.c],.int .i64 1,.int .i64 2] h1 fun r h2=>∃ t4:Bool,r=.bool t4∧R (.bool t4:Value) h2
theorem f4F_eq (a0_0:Int) (a0_1:Sl) (h:Hp) (R:Value→Hp→Prop):evF Try.prog tab lv4 Try.f4 body4 [] [.agg #[.int .i64 a0_0,.slice a0_1.a a0_1.n a0_1.c]] h R=f4F a0_0 a0_1 h R:=by kernel_rfl
theorem f4F_ok {a0_0:Int} {a0_1:Sl} {h:Hp} {R:Value→Hp→Prop} (hF:f4F a0_0 a0_1 h R):CallTo Try.prog 4 #[.agg #[.int .i64 a0_0,.slice a0_1.a a0_1.n a0_1.c]] h R :=
 callTo_of_ev (lv:=lv4) (hints:=[]) (c:=body4) (args:=[.agg #[.int .i64 a0_0,.slice a0_1.a a0_1.n a0_1.c]]) mixed tab_ok Try.func4 (by kernel_rfl) (by kernel_rfl) (by rw [f4F_eq]; exact hF)
/- larder/larderlaw18.WaitNext -/
noncomputable def body5:Code:=(Try.f5.body).getD .skip
def lv5 (m:Nat):List Nat:=[]
def f5F (a0_0:Int) (a0_1:Sl) (h:Hp) (R:Value→Hp→Prop):Prop :=
 Let (h.push (.cells #[.int .i64 a0_0,.slice a0_1.a a0_1.n a0_1.c] 24)) fun h1=>∃ t3_0:Int,cell h1 (nb h)=some (.int .i64 t3_0)∧∃ t3_1:Sl,cell h1 ((nb h).add 1)=some (.slice t3_1.a t3_1.n t3_1.c)∧CallTo Try.prog 20 #[.agg #[.int .i64 t3_0,.slice t3_1.a t3_1.n t3_1.c],.int .i64 3,.int .i64 3] h1 fun r h2=>∃ t4:Bool,r=.bool t4∧R (.bool t4:Value) h2
theorem f5F_eq (a0_0:Int) (a0_1:Sl) (h:Hp) (R:Value→Hp→Prop):evF Try.prog tab lv5 Try.f5 body5 [] [.agg #[.int .i64 a0_0,.slice a0_1.a a0_1.n a0_1.c]] h R=f5F a0_0 a0_1 h R:=by kernel_rfl
theorem f5F_ok {a0_0:Int} {a0_1:Sl} {h:Hp} {R:Value→Hp→Prop} (hF:f5F a0_0 a0_1 h R):CallTo Try.prog 5 #[.agg #[.int .i64 a0_0,.slice a0_1.a a0_1.n a0_1.c]] h R :=
 callTo_of_ev (lv:=lv5) (hints:=[]) (c:=body5) (args:=[.agg #[.int .i64 a0_0,.slice a0_1.a a0_1.n a0_1.c]]) mixed tab_ok Try.func5 (by kernel_rfl) (by kernel_rfl) (by rw [f5F_eq]; exact hF)
/- larder/larderlaw18.WaitDue -/
noncomputable def body6:Code:=(Try.f6.body).getD .skip
def lv6 (m:Nat):List Nat:=[]
def f6F (a0_0:Int) (a0_1:Sl) (h:Hp) (R:Value→Hp→Prop):Prop :=
 Let (h.push (.cells #[.int .i64 a0_0,.slice a0_1.a a0_1.n a0_1.c] 24)) fun h1=>∃ t3_0:Int,cell h1 (nb h)=some (.int .i64 t3_0)∧∃ t3_1:Sl,cell h1 ((nb h).add 1)=some (.slice t3_1.a t3_1.n t3_1.c)∧CallTo Try.prog 20 #[.agg #[.int .i64 t3_0,.slice t3_1.a t3_1.n t3_1.c],.int .i64 4,.int .i64 4] h1 fun r h2=>∃ t4:Bool,r=.bool t4∧R (.bool t4:Value) h2
theorem f6F_eq (a0_0:Int) (a0_1:Sl) (h:Hp) (R:Value→Hp→Prop):evF Try.prog tab lv6 Try.f6 body6 [] [.agg #[.int .i64 a0_0,.slice a0_1.a a0_1.n a0_1.c]] h R=f6F a0_0 a0_1 h R:=by kernel_rfl
theorem f6F_ok {a0_0:Int} {a0_1:Sl} {h:Hp} {R:Value→Hp→Prop} (hF:f6F a0_0 a0_1 h R):CallTo Try.prog 6 #[.agg #[.int .i64 a0_0,.slice a0_1.a a0_1.n a0_1.c]] h R :=
 callTo_of_ev (lv:=lv6) (hints:=[]) (c:=body6) (args:=[.agg #[.int .i64 a0_0,.slice a0_1.a a0_1.n a0_1.c]]) mixed tab_ok Try.func6 (by kernel_rfl) (by kernel_rfl) (by rw [f6F_eq]; exact hF)
/- larder/larderlaw18.WaitTells -/
noncomputable def body7:Code:=(Try.f7.body).getD .skip
def lv7 (m:Nat):List Nat:=[]
def f7F (a0_0:Int) (a0_1:Sl) (h:Hp) (R:Value→Hp→Prop):Prop :=
 Let (h.push (.cells #[.int .i64 a0_0,.slice a0_1.a a0_1.n a0_1.c] 24)) fun h1=>∃ t3_0:Int,cell h1 (nb h)=some (.int .i64 t3_0)∧∃ t3_1:Sl,cell h1 ((nb h).add 1)=some (.slice t3_1.a t3_1.n t3_1.c)∧CallTo Try.prog 20 #[.agg #[.int .i64 t3_0,.slice t3_1.a t3_1.n t3_1.c],.int .i64 5,.int .i64 7] h1 fun r h2=>∃ t4:Bool,r=.bool t4∧R (.bool t4:Value) h2
theorem f7F_eq (a0_0:Int) (a0_1:Sl) (h:Hp) (R:Value→Hp→Prop):evF Try.prog tab lv7 Try.f7 body7 [] [.agg #[.int .i64 a0_0,.slice a0_1.a a0_1.n a0_1.c]] h R=f7F a0_0 a0_1 h R:=by kernel_rfl
theorem f7F_ok {a0_0:Int} {a0_1:Sl} {h:Hp} {R:Value→Hp→Prop} (hF:f7F a0_0 a0_1 h R):CallTo Try.prog 7 #[.agg #[.int .i64 a0_0,.slice a0_1.a a0_1.n a0_1.c]] h R :=
 callTo_of_ev (lv:=lv7) (hints:=[]) (c:=body7) (args:=[.agg #[.int .i64 a0_0,.slice a0_1.a a0_1.n a0_1.c]]) mixed tab_ok Try.func7 (by kernel_rfl) (by kernel_rfl) (by rw [f7F_eq]; exact hF)
/- larder/larderlaw18.WaitExact -/
noncomputable def body8:Code:=(Try.f8.body).getD .skip
def lv8 (m:Nat):List Nat:=[]
def f8F (a0_0:Int) (a0_1:Sl) (h:Hp) (R:Value→Hp→Prop):Prop :=
 Let (h.push (.cells #[.int .i64 a0_0,.slice a0_1.a a0_1.n a0_1.c] 24)) fun h1=>∃ t3_0:Int,cell h1 (nb h)=some (.int .i64 t3_0)∧∃ t3_1:Sl,cell h1 ((nb h).add 1)=some (.slice t3_1.a t3_1.n t3_1.c)∧CallTo Try.prog 20 #[.agg #[.int .i64 t3_0,.slice t3_1.a t3_1.n t3_1.c],.int .i64 1,.int .i64 7] h1 fun r h2=>∃ t4:Bool,r=.bool t4∧R (.bool t4:Value) h2
theorem f8F_eq (a0_0:Int) (a0_1:Sl) (h:Hp) (R:Value→Hp→Prop):evF Try.prog tab lv8 Try.f8 body8 [] [.agg #[.int .i64 a0_0,.slice a0_1.a a0_1.n a0_1.c]] h R=f8F a0_0 a0_1 h R:=by kernel_rfl
theorem f8F_ok {a0_0:Int} {a0_1:Sl} {h:Hp} {R:Value→Hp→Prop} (hF:f8F a0_0 a0_1 h R):CallTo Try.prog 8 #[.agg #[.int .i64 a0_0,.slice a0_1.a a0_1.n a0_1.c]] h R :=
 callTo_of_ev (lv:=lv8) (hints:=[]) (c:=body8) (args:=[.agg #[.int .i64 a0_0,.slice a0_1.a a0_1.n a0_1.c]]) mixed tab_ok Try.func8 (by kernel_rfl) (by kernel_rfl) (by rw [f8F_eq]; exact hF)
/- larder/larderlaw18.wakes -/
noncomputable def body11:Code:=(Try.f11.body).getD .skip
def lv11 (m:Nat):List Nat:=[]
def f11F  (h:Hp) (R:Value→Hp→Prop):Prop :=
 CallTo Try.prog 12 #[] h fun r h1=>∃ t8:Option Addr,r=.pointer t8∧Cond (Option.isNone t8) (R (.bool false:Value) h1) (Let (h1.push (.cells #[.int .i64 1,.string ⟨#[107]⟩] 40)) fun h2=>CallTo Try.prog 18 #[.pointer t8,.int .i64 3,.int .i64 2,.slice (some (nb h1)) 1 1,.int .u64 0] h2 fun r h3=>∃ t14:Int,r=.int .i64 t14∧CallTo Try.prog 26 #[.pointer t8,.agg #[.int .i64 1,.string ⟨#[107]⟩],.int .i64 2] h3 fun r h4=>∃ t18_0:Int,∃ t18_1:Bool,r=.tuple #[.int .i64 t18_0,.bool t18_1]∧CallTo Try.prog 26 #[.pointer t8,.agg #[.int .i64 1,.string ⟨#[107]⟩],.int .i64 5] h4 fun r h5=>∃ t24_0:Int,∃ t24_1:Bool,r=.tuple #[.int .i64 t24_0,.bool t24_1]∧Let (h5.push (.cells #[.int .i64 1,.string ⟨#[107]⟩] 40)) fun h6=>CallTo Try.prog 18 #[.pointer t8,.int .i64 3,.int .i64 2,.slice (some (nb h5)) 1 1,.int .u64 0] h6 fun r h7=>∃ t30:Int,r=.int .i64 t30∧Cond (t14 == (0:Int)) (Cond t18_1 (Cond (t18_0 == (3:Int)) (Cond (!t24_1) (R ((.bool (t30 == (181:Int)):Value)) h7) (R (.bool false:Value) h7)) (R (.bool false:Value) h7)) (R (.bool false:Value) h7)) (R (.bool false:Value) h7))
theorem f11F_eq  (h:Hp) (R:Value→Hp→Prop):evF Try.prog tab lv11 Try.f11 body11 [] [] h R=f11F  h R:=by kernel_rfl
theorem f11F_ok {h:Hp} {R:Value→Hp→Prop} (hF:f11F h R):CallTo Try.prog 11 #[] h R :=
 callTo_of_ev (lv:=lv11) (hints:=[]) (c:=body11) (args:=[]) mixed tab_ok Try.func11 (by kernel_rfl) (by kernel_rfl) (by rw [f11F_eq]; exact hF)
/- larder/larderlaw18.ints -/
noncomputable def body17:Code:=(Try.f17.body).getD .skip
def lv17 (m:Nat):List Nat:=if m=4 then [0,1,5] else []
def f17I1 (J:Nat→Sl→Sl→Int→Hp→Prop) (n:Nat) (env:List Value) (h:Hp):Prop:=lenIs env 26 (DecL env 0 fun s0=>DecL env 1 fun s1=>DecI .i64 env 5 fun s5=>J n s0 s1 s5 h)
def f17L1 (J1:Nat→Sl→Sl→Int→Hp→Prop) (n1:Nat) (s0:Sl) (s1:Sl) (s5:Int) (g:Nat→Value) (h:Hp) (R:Value→Hp→Prop):Prop :=
 Cond (decide (s5 < (((s0.n:Nat):Int)))) ((0 ≤ s5∧s5 < ((s0.n:Nat):Int))∧PtrOk s0.a fun p19=>∃ t20:Int,cell h (p19.add (s5.toNat * 1))=some (.int .i64 t20)∧(0 ≤ s5∧s5 < ((s1.n:Nat):Int))∧PtrOk s1.a fun p23=>∃ t24:Int,cell h (p23.add (s5.toNat * 1))=some (.int .i64 t24)∧Cond (t20 != t24) (R (.bool false:Value) h) (∃ m,m < n1∧J1 m s0 s1 (IntKind.wrap .i64 (s5 + (1:Int))) h)) (R (.bool true:Value) h)
theorem f17L1_eq (J1:Nat→Sl→Sl→Int→Hp→Prop) (n1:Nat) (s0:Sl) (s1:Sl) (s5:Int) (g:Nat→Value) (h:Hp) (R:Value→Hp→Prop):(evC Try.prog tab lv17 (sub [1,1,0,1,0,0] body17)) (loopK (f17I1 J1) n1 (contAt Try.prog tab lv17 [1,1,0,1,0] body17 [] (bodyK Try.prog Try.f17 [] R))) (mkEnv 26 [(0,.slice s0.a s0.n s0.c),(1,.slice s1.a s1.n s1.c),(5,.int .i64 s5)] g) h=f17L1 J1 n1 s0 s1 s5 g h R:=by kernel_rfl
theorem f17I1_at (J:Nat→Sl→Sl→Int→Hp→Prop) (n:Nat) (s0:Sl) (s1:Sl) (s5:Int) (g:Nat→Value) (h:Hp):f17I1 J n (mkEnv 26 [(0,.slice s0.a s0.n s0.c),(1,.slice s1.a s1.n s1.c),(5,.int .i64 s5)] g) h=J n s0 s1 s5 h:=by kernel_rfl
theorem f17L1_rule  {R:Value→Hp→Prop} {s0:Sl} {s1:Sl} {s5:Int} {h0:Hp} (J:Nat→Sl→Sl→Int→Hp→Prop) (n0:Nat) (hi:J n0 s0 s1 s5 h0)
  (hr:∀ n s0 s1 s5 g h,J n s0 s1 s5 h→f17L1  J n s0 s1 s5 g h R):LoopEv (evC Try.prog tab lv17 (sub [1,1,0,1,0,0] body17)) (contAt Try.prog tab lv17 [1,1,0,1,0] body17 [] (bodyK Try.prog Try.f17 [] R)) [(0,.slice s0.a s0.n s0.c),(1,.slice s1.a s1.n s1.c),(5,.int .i64 s5)] 26 h0:=by
 refine ⟨f17I1 J,n0,fun g=>by rw [f17I1_at]; exact hi,fun n env h hI=>?_⟩
 clear hi
 clear s0 s1 s5
 obtain ⟨hlen,hI⟩:=Cond_true' hI
 have hlen:env.length=26:=by simpa using hlen
 obtain ⟨s0,es0,hI⟩:=DecL.out hI
 obtain ⟨s1,es1,hI⟩:=DecL.out hI
 obtain ⟨s5,es5,hI⟩:=DecI.out hI
 rw [mkEnv_of (l:=[(0,.slice s0.a s0.n s0.c),(1,.slice s1.a s1.n s1.c),(5,.int .i64 s5)]) hlen (by simp only [List.mem_cons,List.not_mem_nil,or_false,forall_eq_or_imp,forall_eq]; exact ⟨es0,es1,es5⟩)]
 rw [f17L1_eq]
 exact hr n s0 s1 s5 _ h hI
def f17F (a0:Sl) (a1:Sl) (h:Hp) (R:Value→Hp→Prop):Prop :=
 Cond ((((a0.n:Nat):Int)) != (((a1.n:Nat):Int))) (R (.bool false:Value) h) (LoopEv (evC Try.prog tab lv17 (sub [1,1,0,1,0,0] body17)) (contAt Try.prog tab lv17 [1,1,0,1,0] body17 [] (bodyK Try.prog Try.f17 [] R)) [(0,.slice a0.a a0.n a0.c),(1,.slice a1.a a1.n a1.c),(5,.int .i64 0)] 26 h)
theorem f17F_eq (a0:Sl) (a1:Sl) (h:Hp) (R:Value→Hp→Prop):evF Try.prog tab lv17 Try.f17 body17 [] [.slice a0.a a0.n a0.c,.slice a1.a a1.n a1.c] h R=f17F a0 a1 h R:=by kernel_rfl
theorem f17F_ok {a0:Sl} {a1:Sl} {h:Hp} {R:Value→Hp→Prop} (hF:f17F a0 a1 h R):CallTo Try.prog 17 #[.slice a0.a a0.n a0.c,.slice a1.a a1.n a1.c] h R :=
 callTo_of_ev (lv:=lv17) (hints:=[]) (c:=body17) (args:=[.slice a0.a a0.n a0.c,.slice a1.a a1.n a1.c]) mixed tab_ok Try.func17 (by kernel_rfl) (by kernel_rfl) (by rw [f17F_eq]; exact hF)
/- larder/larderlaw18.twin -/
noncomputable def body19:Code:=(Try.f19.body).getD .skip
def lv19 (m:Nat):List Nat:=[]
def f19F (a0:Sl) (h:Hp) (R:Value→Hp→Prop):Prop :=
 Cond (Option.isNone a0.a) (R (.slice none 0 0:Value) h) ((0 ≤ (((a0.n:Nat):Int))∧(((a0.n:Nat):Int)) ≤ (((a0.n:Nat):Int)))∧(((a0.n:Nat):Int)) < 2 ^ 62∧(24:Nat) * (((a0.n:Nat):Int)) ≤ 2 ^ 48∧Let (h.push (.cells (zrow #[.int .i64 0,.string ⟨#[]⟩] ((((a0.n:Nat):Int)).toNat * 2)) 40)) fun h1=>cpySl 2 (some (nb h)) ((((a0.n:Nat):Int)).toNat) a0.a a0.n h1 fun rk h2=>R ((.slice (some (nb h)) ((((a0.n:Nat):Int)).toNat) ((((a0.n:Nat):Int)).toNat):Value)) h2)
theorem f19F_eq (a0:Sl) (h:Hp) (R:Value→Hp→Prop):evF Try.prog tab lv19 Try.f19 body19 [] [.slice a0.a a0.n a0.c] h R=f19F a0 h R:=by kernel_rfl
theorem f19F_ok {a0:Sl} {h:Hp} {R:Value→Hp→Prop} (hF:f19F a0 h R):CallTo Try.prog 19 #[.slice a0.a a0.n a0.c] h R :=
 callTo_of_ev (lv:=lv19) (hints:=[]) (c:=body19) (args:=[.slice a0.a a0.n a0.c]) mixed tab_ok Try.func19 (by kernel_rfl) (by kernel_rfl) (by rw [f19F_eq]; exact hF)
/- larder/larderlaw18.holds -/
noncomputable def body20:Code:=(Try.f20.body).getD .skip
def lv20 (m:Nat):List Nat:=if m=5 then [1,2,3,7,8] else if m=12 then [1,2,3,7,10] else []
def f20I1 (J:Nat→Int→Int→Addr→Sl→Int→Hp→Prop) (n:Nat) (env:List Value) (h:Hp):Prop:=lenIs env 78 (DecI .i64 env 1 fun s1=>DecI .i64 env 2 fun s2=>DecA env 3 fun s3=>DecL env 7 fun s7=>DecI .i64 env 8 fun s8=>J n s1 s2 s3 s7 s8 h)
def f20I2 (J:Nat→Int→Int→Addr→Sl→Int→Hp→Prop) (n:Nat) (env:List Value) (h:Hp):Prop:=lenIs env 78 (DecI .i64 env 1 fun s1=>DecI .i64 env 2 fun s2=>DecA env 3 fun s3=>DecL env 7 fun s7=>DecI .i64 env 10 fun s10=>J n s1 s2 s3 s7 s10 h)
def f20K2 (J2:Nat→Int→Int→Addr→Sl→Int→Hp→Prop) (n2:Nat) (x1:Int) (x2:Int) (x3:Addr) (x7:Sl) (x10:Int) (x77:Bool) (h:Hp) (R:Value→Hp→Prop):Prop :=
 Cond x77 (R (.bool false:Value) h) (∃ m,m < n2∧J2 m x1 x2 x3 x7 (IntKind.wrap .i64 (x10 + (1:Int))) h)
def f20K1 (J2:Nat→Int→Int→Addr→Sl→Int→Hp→Prop) (n2:Nat) (x1:Int) (x2:Int) (x3:Addr) (x7:Sl) (x10:Int) (x45:Bool) (h:Hp) (R:Value→Hp→Prop):Prop :=
 Cond x45 (∃ t49:Sl,cell h (x3.add 1)=some (.slice t49.a t49.n t49.c)∧(0 ≤ x10∧x10 < ((t49.n:Nat):Int))∧PtrOk t49.a fun p51=>∃ t52_0:Int,cell h (p51.add (x10.toNat * 6))=some (.int .i64 t52_0)∧∃ t52_1:Int,cell h ((p51.add (x10.toNat * 6)).add 1)=some (.int .i64 t52_1)∧∃ t52_2:Int,cell h ((p51.add (x10.toNat * 6)).add 2)=some (.int .i64 t52_2)∧∃ t52_3:Int,cell h ((p51.add (x10.toNat * 6)).add 3)=some (.int .i64 t52_3)∧∃ t52_4:Sl,cell h ((p51.add (x10.toNat * 6)).add 4)=some (.slice t52_4.a t52_4.n t52_4.c)∧∃ t52_5:Int,cell h ((p51.add (x10.toNat * 6)).add 5)=some (.int .u64 t52_5)∧Let (h.push (.cells #[.int .i64 0,.int .i64 0,.int .i64 0,.int .i64 0,.slice none 0 0,.int .u64 0] 31)) fun h8=>stOk h8 (nb h)∧Let (setc h8 (nb h) (.int .i64 t52_0)) fun h9=>stOk h9 ((nb h).add 1)∧Let (setc h9 ((nb h).add 1) (.int .i64 t52_1)) fun h10=>stOk h10 ((nb h).add 2)∧Let (setc h10 ((nb h).add 2) (.int .i64 t52_2)) fun h11=>stOk h11 ((nb h).add 3)∧Let (setc h11 ((nb h).add 3) (.int .i64 t52_3)) fun h12=>stOk h12 ((nb h).add 4)∧Let (setc h12 ((nb h).add 4) (.slice t52_4.a t52_4.n t52_4.c)) fun h13=>stOk h13 ((nb h).add 5)∧Let (setc h13 ((nb h).add 5) (.int .u64 t52_5)) fun h14=>∃ t55:Int,cell h14 (nb h)=some (.int .i64 t55)∧(((x7.n:Nat):Int)) ≠ 0∧(0 ≤ (Int.tmod (andI .i64 t55 (1023:Int)) (((x7.n:Nat):Int)))∧(Int.tmod (andI .i64 t55 (1023:Int)) (((x7.n:Nat):Int))) < ((x7.n:Nat):Int))∧PtrOk x7.a fun p60=>∃ t61:Option Addr,cell h14 (p60.add ((Int.tmod (andI .i64 t55 (1023:Int)) (((x7.n:Nat):Int))).toNat * 1))=some (.pointer t61)∧∃ t62_0:Int,cell h14 (nb h)=some (.int .i64 t62_0)∧∃ t62_1:Int,cell h14 ((nb h).add 1)=some (.int .i64 t62_1)∧∃ t62_2:Int,cell h14 ((nb h).add 2)=some (.int .i64 t62_2)∧∃ t62_3:Int,cell h14 ((nb h).add 3)=some (.int .i64 t62_3)∧∃ t62_4:Sl,cell h14 ((nb h).add 4)=some (.slice t62_4.a t62_4.n t62_4.c)∧∃ t62_5:Int,cell h14 ((nb h).add 5)=some (.int .u64 t62_5)∧CallTo Try.prog 37 #[.pointer t61,.agg #[.int .i64 t62_0,.int .i64 t62_1,.int .i64 t62_2,.int .i64 t62_3,.slice t62_4.a t62_4.n t62_4.c,.int .u64 t62_5]] h14 fun r h15=>∃ t63:Bool,r=.bool t63∧Cond (!t63) (∃ t68:Int,cell h15 ((nb h).add 1)=some (.int .i64 t68)∧Cond (decide (t68 ≥ x1)) (∃ t74:Int,cell h15 ((nb h).add 1)=some (.int .i64 t74)∧f20K2 J2 n2 x1 x2 x3 x7 x10 (decide (t74 ≤ x2)) h15 R) (f20K2 J2 n2 x1 x2 x3 x7 x10 false h15 R)) (f20K2 J2 n2 x1 x2 x3 x7 x10 false h15 R)) (R (.bool true:Value) h)
def f20L1 (J1:Nat→Int→Int→Addr→Sl→Int→Hp→Prop) (n1:Nat) (s1:Int) (s2:Int) (s3:Addr) (s7:Sl) (s8:Int) (g:Nat→Value) (h:Hp) (R:Value→Hp→Prop):Prop :=
 ∃ t17:Int,cell h s3=some (.int .i64 t17)∧Cond (decide (s8 < (IntKind.wrap .i64 ((2:Int) + (andI .i64 t17 (63:Int)))))) (CallTo Try.prog 12 #[] h fun r h3=>∃ t23:Option Addr,r=.pointer t23∧Let (h3.push (.cells #[.slice none 0 0] 81)) fun h4=>Let (h4.push (.cells #[.pointer t23,.pointer (some (nb h3))] 83)) fun h5=>∃ t31:Option Addr,cell h5 (nb h4)=some (.pointer t31)∧Cond (Option.isNone t31) (R (.bool false:Value) h5) (Let (h5.push (.cells #[.pointer (some (nb h4))] 77)) fun h6=>appSl 77 1 8 #[.pointer none] s7.a s7.n s7.c (some (nb h5)) 1 h6 fun ra7 rn7 rc7 h7=>∃ m,m < n1∧J1 m s1 s2 s3 ⟨ra7,rn7,rc7⟩ (IntKind.wrap .i64 (s8 + (1:Int))) h7)) (LoopEv (evC Try.prog tab lv20 (sub [1,1,1,1,0,1,0,0] body20)) (contAt Try.prog tab lv20 [1,1,1,1,0,1,0] body20 [] (bodyK Try.prog Try.f20 [] R)) [(1,.int .i64 s1),(2,.int .i64 s2),(3,.pointer (some s3)),(7,.slice s7.a s7.n s7.c),(10,.int .i64 0)] 78 h)
theorem f20L1_eq (J1:Nat→Int→Int→Addr→Sl→Int→Hp→Prop) (n1:Nat) (s1:Int) (s2:Int) (s3:Addr) (s7:Sl) (s8:Int) (g:Nat→Value) (h:Hp) (R:Value→Hp→Prop):(evC Try.prog tab lv20 (sub [1,1,1,0,1,0,0] body20)) (loopK (f20I1 J1) n1 (contAt Try.prog tab lv20 [1,1,1,0,1,0] body20 [] (bodyK Try.prog Try.f20 [] R))) (mkEnv 78 [(1,.int .i64 s1),(2,.int .i64 s2),(3,.pointer (some s3)),(7,.slice s7.a s7.n s7.c),(8,.int .i64 s8)] g) h=f20L1 J1 n1 s1 s2 s3 s7 s8 g h R:=by kernel_rfl
theorem f20I1_at (J:Nat→Int→Int→Addr→Sl→Int→Hp→Prop) (n:Nat) (s1:Int) (s2:Int) (s3:Addr) (s7:Sl) (s8:Int) (g:Nat→Value) (h:Hp):f20I1 J n (mkEnv 78 [(1,.int .i64 s1),(2,.int .i64 s2),(3,.pointer (some s3)),(7,.slice s7.a s7.n s7.c),(8,.int .i64 s8)] g) h=J n s1 s2 s3 s7 s8 h:=by kernel_rfl
theorem f20L1_rule  {R:Value→Hp→Prop} {s1:Int} {s2:Int} {s3:Addr} {s7:Sl} {s8:Int} {h0:Hp} (J:Nat→Int→Int→Addr→Sl→Int→Hp→Prop) (n0:Nat) (hi:J n0 s1 s2 s3 s7 s8 h0)
  (hr:∀ n s1 s2 s3 s7 s8 g h,J n s1 s2 s3 s7 s8 h→f20L1  J n s1 s2 s3 s7 s8 g h R):LoopEv (evC Try.prog tab lv20 (sub [1,1,1,0,1,0,0] body20)) (contAt Try.prog tab lv20 [1,1,1,0,1,0] body20 [] (bodyK Try.prog Try.f20 [] R)) [(1,.int .i64 s1),(2,.int .i64 s2),(3,.pointer (some s3)),(7,.slice s7.a s7.n s7.c),(8,.int .i64 s8)] 78 h0:=by
 refine ⟨f20I1 J,n0,fun g=>by rw [f20I1_at]; exact hi,fun n env h hI=>?_⟩
 clear hi
 clear s1 s2 s3 s7 s8
 obtain ⟨hlen,hI⟩:=Cond_true' hI
 have hlen:env.length=78:=by simpa using hlen
 obtain ⟨s1,es1,hI⟩:=DecI.out hI
 obtain ⟨s2,es2,hI⟩:=DecI.out hI
 obtain ⟨s3,es3,hI⟩:=DecA.out hI
 obtain ⟨s7,es7,hI⟩:=DecL.out hI
 obtain ⟨s8,es8,hI⟩:=DecI.out hI
 rw [mkEnv_of (l:=[(1,.int .i64 s1),(2,.int .i64 s2),(3,.pointer (some s3)),(7,.slice s7.a s7.n s7.c),(8,.int .i64 s8)]) hlen (by simp only [List.mem_cons,List.not_mem_nil,or_false,forall_eq_or_imp,forall_eq]; exact ⟨es1,es2,es3,es7,es8⟩)]
 rw [f20L1_eq]
 exact hr n s1 s2 s3 s7 s8 _ h hI
def f20L2 (J2:Nat→Int→Int→Addr→Sl→Int→Hp→Prop) (n2:Nat) (s1:Int) (s2:Int) (s3:Addr) (s7:Sl) (s10:Int) (g:Nat→Value) (h:Hp) (R:Value→Hp→Prop):Prop :=
 ∃ t39:Sl,cell h (s3.add 1)=some (.slice t39.a t39.n t39.c)∧Cond (decide (s10 < (((t39.n:Nat):Int)))) (f20K1 J2 n2 s1 s2 s3 s7 s10 (decide (s10 < (2000:Int))) h R) (f20K1 J2 n2 s1 s2 s3 s7 s10 false h R)
theorem f20L2_eq (J2:Nat→Int→Int→Addr→Sl→Int→Hp→Prop) (n2:Nat) (s1:Int) (s2:Int) (s3:Addr) (s7:Sl) (s10:Int) (g:Nat→Value) (h:Hp) (R:Value→Hp→Prop):(evC Try.prog tab lv20 (sub [1,1,1,1,0,1,0,0] body20)) (loopK (f20I2 J2) n2 (contAt Try.prog tab lv20 [1,1,1,1,0,1,0] body20 [] (bodyK Try.prog Try.f20 [] R))) (mkEnv 78 [(1,.int .i64 s1),(2,.int .i64 s2),(3,.pointer (some s3)),(7,.slice s7.a s7.n s7.c),(10,.int .i64 s10)] g) h=f20L2 J2 n2 s1 s2 s3 s7 s10 g h R:=by kernel_rfl
theorem f20I2_at (J:Nat→Int→Int→Addr→Sl→Int→Hp→Prop) (n:Nat) (s1:Int) (s2:Int) (s3:Addr) (s7:Sl) (s10:Int) (g:Nat→Value) (h:Hp):f20I2 J n (mkEnv 78 [(1,.int .i64 s1),(2,.int .i64 s2),(3,.pointer (some s3)),(7,.slice s7.a s7.n s7.c),(10,.int .i64 s10)] g) h=J n s1 s2 s3 s7 s10 h:=by kernel_rfl
theorem f20L2_rule  {R:Value→Hp→Prop} {s1:Int} {s2:Int} {s3:Addr} {s7:Sl} {s10:Int} {h0:Hp} (J:Nat→Int→Int→Addr→Sl→Int→Hp→Prop) (n0:Nat) (hi:J n0 s1 s2 s3 s7 s10 h0)
  (hr:∀ n s1 s2 s3 s7 s10 g h,J n s1 s2 s3 s7 s10 h→f20L2  J n s1 s2 s3 s7 s10 g h R):LoopEv (evC Try.prog tab lv20 (sub [1,1,1,1,0,1,0,0] body20)) (contAt Try.prog tab lv20 [1,1,1,1,0,1,0] body20 [] (bodyK Try.prog Try.f20 [] R)) [(1,.int .i64 s1),(2,.int .i64 s2),(3,.pointer (some s3)),(7,.slice s7.a s7.n s7.c),(10,.int .i64 s10)] 78 h0:=by
 refine ⟨f20I2 J,n0,fun g=>by rw [f20I2_at]; exact hi,fun n env h hI=>?_⟩
 clear hi
 clear s1 s2 s3 s7 s10
 obtain ⟨hlen,hI⟩:=Cond_true' hI
 have hlen:env.length=78:=by simpa using hlen
 obtain ⟨s1,es1,hI⟩:=DecI.out hI
 obtain ⟨s2,es2,hI⟩:=DecI.out hI
 obtain ⟨s3,es3,hI⟩:=DecA.out hI
 obtain ⟨s7,es7,hI⟩:=DecL.out hI
 obtain ⟨s10,es10,hI⟩:=DecI.out hI
 rw [mkEnv_of (l:=[(1,.int .i64 s1),(2,.int .i64 s2),(3,.pointer (some s3)),(7,.slice s7.a s7.n s7.c),(10,.int .i64 s10)]) hlen (by simp only [List.mem_cons,List.not_mem_nil,or_false,forall_eq_or_imp,forall_eq]; exact ⟨es1,es2,es3,es7,es10⟩)]
 rw [f20L2_eq]
 exact hr n s1 s2 s3 s7 s10 _ h hI
def f20F (a0_0:Int) (a0_1:Sl) (a1:Int) (a2:Int) (h:Hp) (R:Value→Hp→Prop):Prop :=
 Let (h.push (.cells #[.int .i64 a0_0,.slice a0_1.a a0_1.n a0_1.c] 24)) fun h1=>CallTo Try.prog 11 #[] h1 fun r h2=>∃ t13:Bool,r=.bool t13∧Cond (!t13) (R (.bool false:Value) h2) (LoopEv (evC Try.prog tab lv20 (sub [1,1,1,0,1,0,0] body20)) (contAt Try.prog tab lv20 [1,1,1,0,1,0] body20 [] (bodyK Try.prog Try.f20 [] R)) [(1,.int .i64 a1),(2,.int .i64 a2),(3,.pointer (some (nb h))),(7,.slice none 0 0),(8,.int .i64 0)] 78 h2)
theorem f20F_eq (a0_0:Int) (a0_1:Sl) (a1:Int) (a2:Int) (h:Hp) (R:Value→Hp→Prop):evF Try.prog tab lv20 Try.f20 body20 [] [.agg #[.int .i64 a0_0,.slice a0_1.a a0_1.n a0_1.c],.int .i64 a1,.int .i64 a2] h R=f20F a0_0 a0_1 a1 a2 h R:=by kernel_rfl
theorem f20F_ok {a0_0:Int} {a0_1:Sl} {a1:Int} {a2:Int} {h:Hp} {R:Value→Hp→Prop} (hF:f20F a0_0 a0_1 a1 a2 h R):CallTo Try.prog 20 #[.agg #[.int .i64 a0_0,.slice a0_1.a a0_1.n a0_1.c],.int .i64 a1,.int .i64 a2] h R :=
 callTo_of_ev (lv:=lv20) (hints:=[]) (c:=body20) (args:=[.agg #[.int .i64 a0_0,.slice a0_1.a a0_1.n a0_1.c],.int .i64 a1,.int .i64 a2]) mixed tab_ok Try.func20 (by kernel_rfl) (by kernel_rfl) (by rw [f20F_eq]; exact hF)
/- (*larder/larderlaw18.side).plays -/
noncomputable def body37:Code:=(Try.f37.body).getD .skip
def lv37 (m:Nat):List Nat:=[]
def f37F (a0:Option Addr) (a1_0:Int) (a1_1:Int) (a1_2:Int) (a1_3:Int) (a1_4:Sl) (a1_5:Int) (h:Hp) (R:Value→Hp→Prop):Prop :=
 Let (h.push (.cells #[.int .i64 a1_0,.int .i64 a1_1,.int .i64 a1_2,.int .i64 a1_3,.slice a1_4.a a1_4.n a1_4.c,.int .u64 a1_5] 31)) fun h1=>∃ t18:Int,cell h1 ((nb h).add 1)=some (.int .i64 t18)∧Cond (t18 == (1:Int)) (PtrOk a0 fun p22=>∃ t24:Option Addr,cell h1 p22=some (.pointer t24)∧∃ t26:Int,cell h1 ((nb h).add 2)=some (.int .i64 t26)∧∃ t28:Int,cell h1 ((nb h).add 3)=some (.int .i64 t28)∧∃ t30:Sl,cell h1 ((nb h).add 4)=some (.slice t30.a t30.n t30.c)∧∃ t33:Int,cell h1 ((nb h).add 5)=some (.int .u64 t33)∧CallTo Try.prog 19 #[.slice t30.a t30.n t30.c] h1 fun r h2=>∃ t31:Sl,r=.slice t31.a t31.n t31.c∧(∃ y0:Int,cell h2 ((nb h).add 5)=some (.int .u64 y0)∧Next.value (.int .u64 y0)=Next.value (.int .u64 t33))∧(∃ y0:Int,cell h2 ((nb h).add 3)=some (.int .i64 y0)∧Next.value (.int .i64 y0)=Next.value (.int .i64 t28))∧(∃ y0:Int,cell h2 ((nb h).add 2)=some (.int .i64 y0)∧Next.value (.int .i64 y0)=Next.value (.int .i64 t26))∧(∃ y0:Option Addr,cell h2 p22=some (.pointer y0)∧Next.value (.pointer y0)=Next.value (.pointer t24))∧CallTo Try.prog 18 #[.pointer t24,.int .i64 t26,.int .i64 t28,.slice t31.a t31.n t31.c,.int .u64 t33] h2 fun r h3=>∃ t34:Int,r=.int .i64 t34∧PtrOk a0 fun p36=>∃ t38:Option Addr,cell h3 (p36.add 1)=some (.pointer t38)∧∃ t40:Int,cell h3 ((nb h).add 2)=some (.int .i64 t40)∧∃ t42:Int,cell h3 ((nb h).add 3)=some (.int .i64 t42)∧∃ t44:Sl,cell h3 ((nb h).add 4)=some (.slice t44.a t44.n t44.c)∧∃ t46:Int,cell h3 ((nb h).add 5)=some (.int .u64 t46)∧CallTo Try.prog 43 #[.pointer t38,.int .i64 t40,.int .i64 t42,.slice t44.a t44.n t44.c,.int .u64 t46] h3 fun r h4=>∃ t47:Int,r=.int .i64 t47∧R ((.bool (t34 == t47):Value)) h4) (Cond (t18 == (2:Int)) (PtrOk a0 fun p54=>∃ t56:Option Addr,cell h1 p54=some (.pointer t56)∧∃ t58:Int,cell h1 ((nb h).add 2)=some (.int .i64 t58)∧CallTo Try.prog 16 #[.pointer t56,.int .i64 t58] h1 fun r h5=>∃ t59:Bool,r=.bool t59∧PtrOk a0 fun p61=>∃ t63:Option Addr,cell h5 (p61.add 1)=some (.pointer t63)∧∃ t65:Int,cell h5 ((nb h).add 2)=some (.int .i64 t65)∧CallTo Try.prog 59 #[.pointer t63,.int .i64 t65] h5 fun r h6=>∃ t66:Bool,r=.bool t66∧R ((.bool (t59 == t66):Value)) h6) (Cond (t18 == (3:Int)) (PtrOk a0 fun p74=>∃ t76:Option Addr,cell h1 p74=some (.pointer t76)∧∃ t77_0:Int,cell h1 (nb h)=some (.int .i64 t77_0)∧∃ t77_1:Int,cell h1 ((nb h).add 1)=some (.int .i64 t77_1)∧∃ t77_2:Int,cell h1 ((nb h).add 2)=some (.int .i64 t77_2)∧∃ t77_3:Int,cell h1 ((nb h).add 3)=some (.int .i64 t77_3)∧∃ t77_4:Sl,cell h1 ((nb h).add 4)=some (.slice t77_4.a t77_4.n t77_4.c)∧∃ t77_5:Int,cell h1 ((nb h).add 5)=some (.int .u64 t77_5)∧∃ t80:Int,cell h1 ((nb h).add 3)=some (.int .i64 t80)∧CallTo Try.prog 60 #[.agg #[.int .i64 t77_0,.int .i64 t77_1,.int .i64 t77_2,.int .i64 t77_3,.slice t77_4.a t77_4.n t77_4.c,.int .u64 t77_5]] h1 fun r h7=>∃ t78_0:Int,∃ t78_1:ByteArray,r=.agg #[.int .i64 t78_0,.string t78_1]∧(∃ y0:Int,cell h7 ((nb h).add 3)=some (.int .i64 y0)∧Next.value (.int .i64 y0)=Next.value (.int .i64 t80))∧(∃ y0:Option Addr,cell h7 p74=some (.pointer y0)∧Next.value (.pointer y0)=Next.value (.pointer t76))∧CallTo Try.prog 26 #[.pointer t76,.agg #[.int .i64 t78_0,.string t78_1],.int .i64 t80] h7 fun r h8=>∃ t81_0:Int,∃ t81_1:Bool,r=.tuple #[.int .i64 t81_0,.bool t81_1]∧PtrOk a0 fun p86=>∃ t88:Option Addr,cell h8 (p86.add 1)=some (.pointer t88)∧∃ t89_0:Int,cell h8 (nb h)=some (.int .i64 t89_0)∧∃ t89_1:Int,cell h8 ((nb h).add 1)=some (.int .i64 t89_1)∧∃ t89_2:Int,cell h8 ((nb h).add 2)=some (.int .i64 t89_2)∧∃ t89_3:Int,cell h8 ((nb h).add 3)=some (.int .i64 t89_3)∧∃ t89_4:Sl,cell h8 ((nb h).add 4)=some (.slice t89_4.a t89_4.n t89_4.c)∧∃ t89_5:Int,cell h8 ((nb h).add 5)=some (.int .u64 t89_5)∧∃ t92:Int,cell h8 ((nb h).add 3)=some (.int .i64 t92)∧CallTo Try.prog 60 #[.agg #[.int .i64 t89_0,.int .i64 t89_1,.int .i64 t89_2,.int .i64 t89_3,.slice t89_4.a t89_4.n t89_4.c,.int .u64 t89_5]] h8 fun r h9=>∃ t90_0:Int,∃ t90_1:ByteArray,r=.agg #[.int .i64 t90_0,.string t90_1]∧(∃ y0:Int,cell h9 ((nb h).add 3)=some (.int .i64 y0)∧Next.value (.int .i64 y0)=Next.value (.int .i64 t92))∧(∃ y0:Option Addr,cell h9 (p86.add 1)=some (.pointer y0)∧Next.value (.pointer y0)=Next.value (.pointer t88))∧CallTo Try.prog 61 #[.pointer t88,.agg #[.int .i64 t90_0,.string t90_1],.int .i64 t92] h9 fun r h10=>∃ t93_0:Int,∃ t93_1:Bool,r=.tuple #[.int .i64 t93_0,.bool t93_1]∧Cond (t81_0 == t93_0) (R ((.bool (t81_1 == t93_1):Value)) h10) (R (.bool false:Value) h10)) (Cond (t18 == (4:Int)) (PtrOk a0 fun p107=>∃ t109:Option Addr,cell h1 p107=some (.pointer t109)∧∃ t111:Int,cell h1 ((nb h).add 5)=some (.int .u64 t111)∧PtrOk a0 fun p114=>∃ t116:Option Addr,cell h1 (p114.add 1)=some (.pointer t116)∧∃ t118:Int,cell h1 ((nb h).add 5)=some (.int .u64 t118)∧CallTo Try.prog 14 #[.pointer t109,.int .u64 t111] h1 fun r h11=>∃ t112:Sl,r=.slice t112.a t112.n t112.c∧(∃ y0:Int,cell h11 ((nb h).add 5)=some (.int .u64 y0)∧Next.value (.int .u64 y0)=Next.value (.int .u64 t118))∧(∃ y0:Option Addr,cell h11 (p114.add 1)=some (.pointer y0)∧Next.value (.pointer y0)=Next.value (.pointer t116))∧CallTo Try.prog 45 #[.pointer t116,.int .u64 t118] h11 fun r h12=>∃ t119:Sl,r=.slice t119.a t119.n t119.c∧∃ t120:Bool,CallTo Try.prog 17 #[.slice t112.a t112.n t112.c,.slice t119.a t119.n t119.c] h12 (fun v h'=>v=(.bool t120)∧h'=h12)∧R (.bool t120:Value) h12) (Cond (t18 == (5:Int)) (PtrOk a0 fun p125=>∃ t127:Option Addr,cell h1 p125=some (.pointer t127)∧∃ t129:Int,cell h1 ((nb h).add 2)=some (.int .i64 t129)∧CallTo Try.prog 15 #[.pointer t127,.int .i64 t129] h1 fun r h14=>∃ t130_0:Int,∃ t130_1:Bool,r=.tuple #[.int .u64 t130_0,.bool t130_1]∧PtrOk a0 fun p135=>∃ t137:Option Addr,cell h14 (p135.add 1)=some (.pointer t137)∧∃ t139:Int,cell h14 ((nb h).add 2)=some (.int .i64 t139)∧∃ t140_0:Int,∃ t140_1:Bool,CallTo Try.prog 62 #[.pointer t137,.int .i64 t139] h14 (fun v h'=>v=(.tuple #[.int .u64 t140_0,.bool t140_1])∧h'=h14)∧Cond (t130_0 == t140_0) (R ((.bool (t130_1 == t140_1):Value)) h14) (R (.bool false:Value) h14)) (Cond (t18 == (6:Int)) (PtrOk a0 fun p154=>∃ t156:Option Addr,cell h1 p154=some (.pointer t156)∧∃ t158:Int,cell h1 ((nb h).add 2)=some (.int .i64 t158)∧PtrOk a0 fun p161=>∃ t163:Option Addr,cell h1 (p161.add 1)=some (.pointer t163)∧∃ t165:Int,cell h1 ((nb h).add 2)=some (.int .i64 t165)∧CallTo Try.prog 40 #[.pointer t156,.int .i64 t158] h1 fun r h16=>∃ t159:Sl,r=.slice t159.a t159.n t159.c∧(∃ y0:Int,cell h16 ((nb h).add 2)=some (.int .i64 y0)∧Next.value (.int .i64 y0)=Next.value (.int .i64 t165))∧(∃ y0:Option Addr,cell h16 (p161.add 1)=some (.pointer y0)∧Next.value (.pointer y0)=Next.value (.pointer t163))∧CallTo Try.prog 44 #[.pointer t163,.int .i64 t165] h16 fun r h17=>∃ t166:Sl,r=.slice t166.a t166.n t166.c∧∃ t167:Bool,CallTo Try.prog 39 #[.slice t159.a t159.n t159.c,.slice t166.a t166.n t166.c] h17 (fun v h'=>v=(.bool t167)∧h'=h17)∧R (.bool t167:Value) h17) (Cond (t18 == (7:Int)) (PtrOk a0 fun p171=>∃ t173:Option Addr,cell h1 p171=some (.pointer t173)∧PtrOk a0 fun p176=>∃ t178:Option Addr,cell h1 (p176.add 1)=some (.pointer t178)∧CallTo Try.prog 13 #[.pointer t173] h1 fun r h19=>∃ t174:Sl,r=.slice t174.a t174.n t174.c∧(∃ y0:Option Addr,cell h19 (p176.add 1)=some (.pointer y0)∧Next.value (.pointer y0)=Next.value (.pointer t178))∧CallTo Try.prog 46 #[.pointer t178] h19 fun r h20=>∃ t179:Sl,r=.slice t179.a t179.n t179.c∧∃ t180:Bool,CallTo Try.prog 17 #[.slice t174.a t174.n t174.c,.slice t179.a t179.n t179.c] h20 (fun v h'=>v=(.bool t180)∧h'=h20)∧R (.bool t180:Value) h20) (R (.bool true:Value) h1)))))))
theorem f37F_eq (a0:Option Addr) (a1_0:Int) (a1_1:Int) (a1_2:Int) (a1_3:Int) (a1_4:Sl) (a1_5:Int) (h:Hp) (R:Value→Hp→Prop):evF Try.prog tab lv37 Try.f37 body37 [] [.pointer a0,.agg #[.int .i64 a1_0,.int .i64 a1_1,.int .i64 a1_2,.int .i64 a1_3,.slice a1_4.a a1_4.n a1_4.c,.int .u64 a1_5]] h R=f37F a0 a1_0 a1_1 a1_2 a1_3 a1_4 a1_5 h R:=by kernel_rfl
theorem f37F_ok {a0:Option Addr} {a1_0:Int} {a1_1:Int} {a1_2:Int} {a1_3:Int} {a1_4:Sl} {a1_5:Int} {h:Hp} {R:Value→Hp→Prop} (hF:f37F a0 a1_0 a1_1 a1_2 a1_3 a1_4 a1_5 h R):CallTo Try.prog 37 #[.pointer a0,.agg #[.int .i64 a1_0,.int .i64 a1_1,.int .i64 a1_2,.int .i64 a1_3,.slice a1_4.a a1_4.n a1_4.c,.int .u64 a1_5]] h R :=
 callTo_of_ev (lv:=lv37) (hints:=[]) (c:=body37) (args:=[.pointer a0,.agg #[.int .i64 a1_0,.int .i64 a1_1,.int .i64 a1_2,.int .i64 a1_3,.slice a1_4.a a1_4.n a1_4.c,.int .u64 a1_5]]) mixed tab_ok Try.func37 (by kernel_rfl) (by kernel_rfl) (by rw [f37F_eq]; exact hF)
/- larder/larderlaw18.same -/
noncomputable def body39:Code:=(Try.f39.body).getD .skip
def lv39 (m:Nat):List Nat:=if m=4 then [0,1,5] else []
def f39I1 (J:Nat→Sl→Sl→Int→Hp→Prop) (n:Nat) (env:List Value) (h:Hp):Prop:=lenIs env 41 (DecL env 0 fun s0=>DecL env 1 fun s1=>DecI .i64 env 5 fun s5=>J n s0 s1 s5 h)
def f39K1 (J1:Nat→Sl→Sl→Int→Hp→Prop) (n1:Nat) (x0:Sl) (x1:Sl) (x5:Int) (x40:Bool) (h:Hp) (R:Value→Hp→Prop):Prop :=
 Cond x40 (R (.bool false:Value) h) (∃ m,m < n1∧J1 m x0 x1 (IntKind.wrap .i64 (x5 + (1:Int))) h)
def f39L1 (J1:Nat→Sl→Sl→Int→Hp→Prop) (n1:Nat) (s0:Sl) (s1:Sl) (s5:Int) (g:Nat→Value) (h:Hp) (R:Value→Hp→Prop):Prop :=
 Cond (decide (s5 < (((s0.n:Nat):Int)))) ((0 ≤ s5∧s5 < ((s0.n:Nat):Int))∧PtrOk s0.a fun p19=>∃ t21:Int,cell h (p19.add (s5.toNat * 2))=some (.int .i64 t21)∧(0 ≤ s5∧s5 < ((s1.n:Nat):Int))∧PtrOk s1.a fun p24=>∃ t26:Int,cell h (p24.add (s5.toNat * 2))=some (.int .i64 t26)∧Cond (t21 != t26) (f39K1 J1 n1 s0 s1 s5 true h R) ((0 ≤ s5∧s5 < ((s0.n:Nat):Int))∧PtrOk s0.a fun p31=>∃ t33:ByteArray,cell h ((p31.add (s5.toNat * 2)).add 1)=some (.string t33)∧(0 ≤ s5∧s5 < ((s1.n:Nat):Int))∧PtrOk s1.a fun p36=>∃ t38:ByteArray,cell h ((p36.add (s5.toNat * 2)).add 1)=some (.string t38)∧f39K1 J1 n1 s0 s1 s5 (!((ByteArray.toList t33) == (ByteArray.toList t38))) h R)) (R (.bool true:Value) h)
theorem f39L1_eq (J1:Nat→Sl→Sl→Int→Hp→Prop) (n1:Nat) (s0:Sl) (s1:Sl) (s5:Int) (g:Nat→Value) (h:Hp) (R:Value→Hp→Prop):(evC Try.prog tab lv39 (sub [1,1,0,1,0,0] body39)) (loopK (f39I1 J1) n1 (contAt Try.prog tab lv39 [1,1,0,1,0] body39 [] (bodyK Try.prog Try.f39 [] R))) (mkEnv 41 [(0,.slice s0.a s0.n s0.c),(1,.slice s1.a s1.n s1.c),(5,.int .i64 s5)] g) h=f39L1 J1 n1 s0 s1 s5 g h R:=by kernel_rfl
theorem f39I1_at (J:Nat→Sl→Sl→Int→Hp→Prop) (n:Nat) (s0:Sl) (s1:Sl) (s5:Int) (g:Nat→Value) (h:Hp):f39I1 J n (mkEnv 41 [(0,.slice s0.a s0.n s0.c),(1,.slice s1.a s1.n s1.c),(5,.int .i64 s5)] g) h=J n s0 s1 s5 h:=by kernel_rfl
theorem f39L1_rule  {R:Value→Hp→Prop} {s0:Sl} {s1:Sl} {s5:Int} {h0:Hp} (J:Nat→Sl→Sl→Int→Hp→Prop) (n0:Nat) (hi:J n0 s0 s1 s5 h0)
  (hr:∀ n s0 s1 s5 g h,J n s0 s1 s5 h→f39L1  J n s0 s1 s5 g h R):LoopEv (evC Try.prog tab lv39 (sub [1,1,0,1,0,0] body39)) (contAt Try.prog tab lv39 [1,1,0,1,0] body39 [] (bodyK Try.prog Try.f39 [] R)) [(0,.slice s0.a s0.n s0.c),(1,.slice s1.a s1.n s1.c),(5,.int .i64 s5)] 41 h0:=by
 refine ⟨f39I1 J,n0,fun g=>by rw [f39I1_at]; exact hi,fun n env h hI=>?_⟩
 clear hi
 clear s0 s1 s5
 obtain ⟨hlen,hI⟩:=Cond_true' hI
 have hlen:env.length=41:=by simpa using hlen
 obtain ⟨s0,es0,hI⟩:=DecL.out hI
 obtain ⟨s1,es1,hI⟩:=DecL.out hI
 obtain ⟨s5,es5,hI⟩:=DecI.out hI
 rw [mkEnv_of (l:=[(0,.slice s0.a s0.n s0.c),(1,.slice s1.a s1.n s1.c),(5,.int .i64 s5)]) hlen (by simp only [List.mem_cons,List.not_mem_nil,or_false,forall_eq_or_imp,forall_eq]; exact ⟨es0,es1,es5⟩)]
 rw [f39L1_eq]
 exact hr n s0 s1 s5 _ h hI
def f39F (a0:Sl) (a1:Sl) (h:Hp) (R:Value→Hp→Prop):Prop :=
 Cond ((((a0.n:Nat):Int)) != (((a1.n:Nat):Int))) (R (.bool false:Value) h) (LoopEv (evC Try.prog tab lv39 (sub [1,1,0,1,0,0] body39)) (contAt Try.prog tab lv39 [1,1,0,1,0] body39 [] (bodyK Try.prog Try.f39 [] R)) [(0,.slice a0.a a0.n a0.c),(1,.slice a1.a a1.n a1.c),(5,.int .i64 0)] 41 h)
theorem f39F_eq (a0:Sl) (a1:Sl) (h:Hp) (R:Value→Hp→Prop):evF Try.prog tab lv39 Try.f39 body39 [] [.slice a0.a a0.n a0.c,.slice a1.a a1.n a1.c] h R=f39F a0 a1 h R:=by kernel_rfl
theorem f39F_ok {a0:Sl} {a1:Sl} {h:Hp} {R:Value→Hp→Prop} (hF:f39F a0 a1 h R):CallTo Try.prog 39 #[.slice a0.a a0.n a0.c,.slice a1.a a1.n a1.c] h R :=
 callTo_of_ev (lv:=lv39) (hints:=[]) (c:=body39) (args:=[.slice a0.a a0.n a0.c,.slice a1.a a1.n a1.c]) mixed tab_ok Try.func39 (by kernel_rfl) (by kernel_rfl) (by rw [f39F_eq]; exact hF)
/- larder/larderlaw18.place -/
noncomputable def body60:Code:=(Try.f60.body).getD .skip
def lv60 (m:Nat):List Nat:=[]
def f60F (a0_0:Int) (a0_1:Int) (a0_2:Int) (a0_3:Int) (a0_4:Sl) (a0_5:Int) (h:Hp) (R:Value→Hp→Prop):Prop :=
 Let (h.push (.cells #[.int .i64 a0_0,.int .i64 a0_1,.int .i64 a0_2,.int .i64 a0_3,.slice a0_4.a a0_4.n a0_4.c,.int .u64 a0_5] 31)) fun h1=>Let (h1.push (.cells #[.int .i64 0,.string ⟨#[]⟩] 40)) fun h2=>∃ t4:Sl,cell h2 ((nb h).add 4)=some (.slice t4.a t4.n t4.c)∧Cond ((((t4.n:Nat):Int)) == (0:Int)) (stOk h2 (nb h1)∧Let (setc h2 (nb h1) (.int .i64 0)) fun h3=>stOk h3 ((nb h1).add 1)∧Let (setc h3 ((nb h1).add 1) (.string ByteArray.empty)) fun h4=>∃ v0_0:Int,cell h4 (nb h1)=some (.int .i64 v0_0)∧∃ v0_1:ByteArray,cell h4 ((nb h1).add 1)=some (.string v0_1)∧R (.agg #[.int .i64 v0_0,.string v0_1]:Value) h4) (∃ t9:Sl,cell h2 ((nb h).add 4)=some (.slice t9.a t9.n t9.c)∧(0 ≤ (0:Int)∧(0:Int) < ((t9.n:Nat):Int))∧PtrOk t9.a fun p10=>∃ t11_0:Int,cell h2 (p10.add ((0:Int).toNat * 2))=some (.int .i64 t11_0)∧∃ t11_1:ByteArray,cell h2 ((p10.add ((0:Int).toNat * 2)).add 1)=some (.string t11_1)∧stOk h2 (nb h1)∧Let (setc h2 (nb h1) (.int .i64 t11_0)) fun h5=>stOk h5 ((nb h1).add 1)∧Let (setc h5 ((nb h1).add 1) (.string t11_1)) fun h6=>∃ v0_0:Int,cell h6 (nb h1)=some (.int .i64 v0_0)∧∃ v0_1:ByteArray,cell h6 ((nb h1).add 1)=some (.string v0_1)∧R (.agg #[.int .i64 v0_0,.string v0_1]:Value) h6)
theorem f60F_eq (a0_0:Int) (a0_1:Int) (a0_2:Int) (a0_3:Int) (a0_4:Sl) (a0_5:Int) (h:Hp) (R:Value→Hp→Prop):evF Try.prog tab lv60 Try.f60 body60 [.int .i64,.str] [.agg #[.int .i64 a0_0,.int .i64 a0_1,.int .i64 a0_2,.int .i64 a0_3,.slice a0_4.a a0_4.n a0_4.c,.int .u64 a0_5]] h R=f60F a0_0 a0_1 a0_2 a0_3 a0_4 a0_5 h R:=by kernel_rfl
theorem f60F_ok {a0_0:Int} {a0_1:Int} {a0_2:Int} {a0_3:Int} {a0_4:Sl} {a0_5:Int} {h:Hp} {R:Value→Hp→Prop} (hF:f60F a0_0 a0_1 a0_2 a0_3 a0_4 a0_5 h R):CallTo Try.prog 60 #[.agg #[.int .i64 a0_0,.int .i64 a0_1,.int .i64 a0_2,.int .i64 a0_3,.slice a0_4.a a0_4.n a0_4.c,.int .u64 a0_5]] h R :=
 callTo_of_ev (lv:=lv60) (hints:=[.int .i64,.str]) (c:=body60) (args:=[.agg #[.int .i64 a0_0,.int .i64 a0_1,.int .i64 a0_2,.int .i64 a0_3,.slice a0_4.a a0_4.n a0_4.c,.int .u64 a0_5]]) mixed tab_ok Try.func60 (by kernel_rfl) (by kernel_rfl) (by rw [f60F_eq]; exact hF)
end Go.Ev
set_option linter.all false
set_option maxRecDepth 1000000
namespace Go.Ev
open Go.Proofs
theorem il_rd {h:Hp} {s:Sl} {c:Nat} {l:List Int} (x:IL h s c l):ReadsO h s.a (l.map iv):=by
 by_cases hne:l=[]
 ·rw [x.nl hne,hne]; exact rfl
 ·obtain ⟨junk,r,_⟩:=x.row hne
  rw [x.at_ hne]
  exact reads_head r
theorem IL.keep {h h':Hp} {S:Nat→Prop} {s:Sl} {c:Nat} {l:List Int} (x:IL h s c l) (k:Kept S h h') (hS:l ≠ []→¬ S c):IL h' s c l :=
 ⟨x.n,x.at_,fun hne=>by obtain ⟨junk,r,e⟩:=x.row hne; exact ⟨junk,kept_row k r (hS hne),e⟩,x.nl⟩
section
variable {h h':Hp} {R:Value→Hp→Prop}
theorem ints_ok {a b:Sl} {l m:List Int} (ra:ReadsO h a.a (l.map iv)) (na:a.n=l.length) (rb:ReadsO h b.a (m.map iv)) (nb:b.n=m.length) (hl:l.length < 100000) (hR:R (.bool (decide (l=m))) h) :
  CallTo Try.prog 17 #[.slice a.a a.n a.c,.slice b.a b.n b.c] h R:=by
 refine f17F_ok (a0:=a) (a1:=b) ?_
 unfold f17F
 refine Cond_b (fun e=>?_) fun e=>?_
 ·have e:l.length ≠ m.length:=fun z=>by rw [na,nb,z] at e; simp at e
  rw [decide_eq_false fun z=>e (congrArg List.length z)] at hR
  exact hR
 ·have e:l.length=m.length:=by
   have:((a.n:Nat):Int)=((b.n:Nat):Int):=by simpa using e
   omega
  refine f17L1_rule (s0:=a) (s1:=b) (fun k s0 s1 s5 h'=>∃ i:Nat,i ≤ l.length∧k=l.length - i∧a=s0∧b=s1∧s5=(i:Int)∧l.take i=m.take i∧h=h') l.length ⟨0,Nat.zero_le _,rfl,rfl,rfl,rfl,rfl,rfl⟩ ?_
  rintro k s0 s1 s5 g h1 ⟨i,hi,rfl,rfl,rfl,rfl,ht,rfl⟩
  unfold f17L1
  refine Cond_dec (fun hlt=>⟨⟨by omega,by omega⟩,?_⟩) fun hge=>?_
  ·obtain ⟨x,hx⟩:∃ x,l[i]?=some x:=⟨_,List.getElem?_eq_getElem (by omega)⟩
   obtain ⟨y,hy⟩:∃ y,m[i]?=some y:=⟨_,List.getElem?_eq_getElem (by omega)⟩
   obtain ⟨p,hp,cp⟩:=readsO_get ra (show (l.map iv)[i]?=some (iv x) by rw [List.getElem?_map,hx]; rfl)
   obtain ⟨q,hq,cq⟩:=readsO_get rb (show (m.map iv)[i]?=some (iv y) by rw [List.getElem?_map,hy]; rfl)
   refine PtrOk_of hp ⟨x,by rw [Int.toNat_natCast,Nat.mul_one]; exact cp,⟨by omega,by omega⟩,PtrOk_of hq ⟨y,by rw [Int.toNat_natCast,Nat.mul_one]; exact cq,Cond_b (fun e2=>?_) fun e2=>?_⟩⟩
   ·have e2:x ≠ y:=by simpa using e2
    rw [decide_eq_false fun z=>e2 (by rw [z,hy] at hx; exact (Option.some.inj hx).symm)] at hR
    exact hR
   ·have e2:x=y:=by simpa using e2
    subst e2
    exact ⟨l.length - (i + 1),by omega,i + 1,by omega,rfl,(by first | rfl | trivial),(by first | rfl | trivial),nxt8 (by omega),by rw [List.take_add_one,List.take_add_one,ht,hx,hy],rfl⟩
  ·have ei:i=l.length:=by omega
   rw [ei,List.take_length,e,List.take_length] at ht
   rw [decide_eq_true ht] at hR
   exact hR
theorem same_ok {a b:Sl} {l m:List Plc} (ra:ReadsO h a.a (l.flatMap plC)) (na:a.n=l.length) (rb:ReadsO h b.a (m.flatMap plC)) (nb:b.n=m.length) (hl:l.length < 100000) (hR:R (.bool (decide (l=m))) h) :
  CallTo Try.prog 39 #[.slice a.a a.n a.c,.slice b.a b.n b.c] h R:=by
 refine f39F_ok (a0:=a) (a1:=b) ?_
 unfold f39F
 refine Cond_b (fun e=>?_) fun e=>?_
 ·have e:l.length ≠ m.length:=fun z=>by rw [na,nb,z] at e; simp at e
  rw [decide_eq_false fun z=>e (congrArg List.length z)] at hR
  exact hR
 ·have e:l.length=m.length:=by
   have:((a.n:Nat):Int)=((b.n:Nat):Int):=by simpa using e
   omega
  refine f39L1_rule (s0:=a) (s1:=b) (fun k s0 s1 s5 h'=>∃ i:Nat,i ≤ l.length∧k=l.length - i∧a=s0∧b=s1∧s5=(i:Int)∧l.take i=m.take i∧h=h') l.length ⟨0,Nat.zero_le _,rfl,rfl,rfl,rfl,rfl,rfl⟩ ?_
  rintro k s0 s1 s5 g h1 ⟨i,hi,rfl,rfl,rfl,rfl,ht,rfl⟩
  unfold f39L1
  refine Cond_dec (fun hlt=>⟨⟨by omega,by omega⟩,?_⟩) fun hge=>?_
  ·obtain ⟨x,hx⟩:∃ x,l[i]?=some x:=⟨_,List.getElem?_eq_getElem (by omega)⟩
   obtain ⟨y,hy⟩:∃ y,m[i]?=some y:=⟨_,List.getElem?_eq_getElem (by omega)⟩
   obtain ⟨p,hp,c0,c1⟩:=pl_read ra hx
   obtain ⟨q,hq,d0,d1⟩:=pl_read rb hy
   rw [Int.toNat_natCast]
   have no:x ≠ y→R (.bool false) h:=fun e2=>by
    rw [decide_eq_false fun z=>e2 (by rw [z,hy] at hx; exact (Option.some.inj hx).symm)] at hR
    exact hR
   refine PtrOk_of hp ⟨_,c0,⟨by omega,by omega⟩,PtrOk_of hq ⟨_,d0,Cond_b (fun e2=>?_) fun e2=>⟨⟨by omega,by omega⟩,PtrOk_of hp ⟨_,c1,⟨by omega,by omega⟩,PtrOk_of hq ⟨_,d1,?_⟩⟩⟩⟩⟩
   ·unfold f39K1
    have e2:x.1 ≠ y.1:=by simpa using e2
    exact Cond_t rfl (no fun z=>e2 (by rw [z]))
   ·unfold f39K1
    have e2:x.1=y.1:=by simpa using e2
    rw [bl_eq]
    by_cases e3:x.2=y.2
    ·rw [decide_eq_true e3]
     have:x=y:=Prod.ext e2 e3
     subst this
     exact Cond_f rfl ⟨l.length - (i + 1),by omega,i + 1,by omega,rfl,(by first | rfl | trivial),(by first | rfl | trivial),nxt8 (by omega),by rw [List.take_add_one,List.take_add_one,ht,hx,hy],rfl⟩
    ·rw [decide_eq_false e3]
     exact Cond_t rfl (no fun z=>e3 (by rw [z]))
  ·have ei:i=l.length:=by omega
   rw [ei,List.take_length,e,List.take_length] at ht
   rw [decide_eq_true ht] at hR
   exact hR
/-- A step of a script. -/
structure Opw where
 on:Int
 dO:Int
 conn:Int
 kind:Int
 sl:Sl
 pls:List Plc
 time:Int
def Opw.cells (o:Opw):List Value:=[.int .i64 o.on,.int .i64 o.dO,.int .i64 o.conn,.int .i64 o.kind,.slice o.sl.a o.sl.n o.sl.c,.int .u64 o.time]
structure OpwOk (h:Hp) (o:Opw):Prop where
 pl:PlIn h o.sl o.pls
 len:o.pls.length < 11000000000000
 blk:∀ p,o.sl.a=some p→o.pls ≠ []→p.block < h.size
 tm:0 ≤ o.time
def Opw.place (o:Opw):Plc:=match o.pls with | p :: _=>p | []=>(0,ByteArray.empty)
theorem place_ok {o:Opw} (x:PlIn h o.sl o.pls) (hR:∀ h',Kept N h h'→R (.agg #[.int .i64 o.place.1,.string o.place.2]) h') :
  CallTo Try.prog 60 #[.agg #[.int .i64 o.on,.int .i64 o.dO,.int .i64 o.conn,.int .i64 o.kind,.slice o.sl.a o.sl.n o.sl.c,.int .u64 o.time]] h R:=by
 refine f60F_ok (a0_4:=o.sl) ?_
 unfold f60F
 refine Let_mk fun h1 e1=>Let_mk fun h2 e2=>?_
 have k1:Kept N h h1:=e1 ▸ kept_push _ _ _
 have k2:Kept N h1 h2:=e2 ▸ kept_push _ _ _
 have r1:Row h1 h.size o.cells:=e1 ▸ row_new h _ 31
 have r12:=kept_row k2 r1 _root_.id
 have r2:Row h2 h1.size [.int .i64 0,.string ⟨#[]⟩]:=e2 ▸ row_new h1 _ 40
 have n1:nb h=ad h.size:=rfl
 have n2:nb h1=ad h1.size:=rfl
 rw [n1,n2]
 have c4:cell h2 ((ad h.size).add 4)=some (.slice o.sl.a o.sl.n o.sl.c):=by rw [add_ad]; exact (cell_row r12 4).trans rfl
 have xn:=x.n
 have fin:∀ {v0:Int} {v1:ByteArray} {K:Int→ByteArray→Hp→Prop},(∀ h',Kept N h h'→K v0 v1 h')→stOk h2 (ad h1.size)∧Let (setc h2 (ad h1.size) (.int .i64 v0)) fun h3=>stOk h3 ((ad h1.size).add 1)∧Let (setc h3 ((ad h1.size).add 1) (.string v1)) fun h4=>∃ v0_0:Int,cell h4 (ad h1.size)=some (.int .i64 v0_0)∧∃ v0_1:ByteArray,cell h4 ((ad h1.size).add 1)=some (.string v0_1)∧K v0_0 v0_1 h4:=fun hK =>
  row_st r2 (i:=0) rfl (by show 0 < 2; omega) fun h3 r3 k3=>row_st r3 (i:=1) (add_ad _ _) (by show 1 < 2; omega) fun h4 r4 k4=>⟨_,(cell_row r4 0).trans rfl,_,by rw [add_ad]; exact (cell_row r4 1).trans rfl,hK h4 (kept_fresh (k1.trans (Kept.refl _ _)) ((k2.mono fun _ _ z=>z.elim).trans (k3.trans k4)) fun i e=>by have:i=h1.size:=e; have:=k1.1; omega)⟩
 refine ⟨_,c4,Cond_b (fun e=>?_) fun e=>⟨_,c4,?_⟩⟩
 ·have e:o.pls=[]:=by
   have:((o.sl.n:Nat):Int)=0:=by simpa using e
   exact List.length_eq_zero_iff.1 (by omega)
  refine fin (K:=fun a b h'=>R (.agg #[.int .i64 a,.string b]) h') fun h' k=>?_
  have:=hR h' k
  unfold Opw.place at this
  rw [e] at this
  exact this
 ·have e:o.pls ≠ []:=fun z=>by
   rw [z] at xn
   rw [xn] at e
   cases e
  obtain ⟨p,t,ep⟩:=List.exists_cons_of_ne_nil e
  obtain ⟨pa,ea,c0,c1⟩:=pl_read ((x.keepN k1).keepN k2).rd (show o.pls[0]?=some p by rw [ep]; rfl)
  have z0:(0:Int).toNat=0:=rfl
  rw [z0]
  refine ⟨⟨by omega,by rw [xn,ep,List.length_cons]; omega⟩,PtrOk_of ea ⟨_,c0,_,c1,fin (K:=fun a b h'=>R (.agg #[.int .i64 a,.string b]) h') fun h' k=>?_⟩⟩
  have:=hR h' k
  unfold Opw.place at this
  rw [ep] at this
  exact this
end
end Go.Ev
set_option linter.all false
set_option maxRecDepth 1000000
namespace Go.Ev
open Go.Proofs
section
variable {h h' h1 h2:Hp} {W W':WP} {D D':DP} {R:Value→Hp→Prop}
theorem zrow_size {z:Array Value} (n:Nat):(zrow z n).toList.length=n:=by rw [Array.length_toList]; exact zrow_len z n
theorem twin_ok {s:Sl} {ps:List Plc} (x:PlIn h s ps) (hlen:ps.length < 11000000000000)
  (hR:∀ s' h',PlIn h' s' ps→(∀ p,s'.a=some p→ps ≠ []→h.size ≤ p.block∧p.block < h'.size)→Kept N h h'→R (.slice s'.a s'.n s'.c) h'):CallTo Try.prog 19 #[.slice s.a s.n s.c] h R:=by
 refine f19F_ok (a0:=s) ?_
 unfold f19F
 have xn:=x.n
 cases ea:s.a with
 | none =>
  have l0:ps.flatMap plC=[]:=by have:=x.rd; rw [ea] at this; exact this
  have hl:=flat_len plC_len ps
  rw [l0] at hl
  have p0:ps=[]:=List.length_eq_zero_iff.1 (by simp at hl; omega)
  exact Cond_t rfl (hR ⟨none,0,0⟩ h ⟨by rw [p0]; exact rfl,by rw [p0]; rfl,Nat.le_refl _⟩ (fun _ _ z=>absurd p0 z) (Kept.refl _ _))
 | some pa =>
  refine Cond_f rfl ⟨⟨by omega,by omega⟩,by omega,by omega,Let_mk fun h1 e1=>?_⟩
  have k1:Kept N h h1:=e1 ▸ kept_push _ _ _
  have r1:Row h1 h.size (zrow #[.int .i64 0,.string ⟨#[]⟩] ((((s.n:Nat):Int)).toNat * 2)).toList:=e1 ▸ row_new h _ 40
  rw [Int.toNat_natCast] at r1 ⊢
  have fl:(ps.flatMap plC).length=min s.n s.n * 2:=by rw [flat_len plC_len,Nat.min_self,xn]
  refine ⟨ps.flatMap plC,by rw [← ea]; exact reads_keptN k1 x.rd,fl,?_⟩
  have fit:0 + 0 + (ps.flatMap plC).length ≤ (zrow #[.int .i64 0,.string ⟨#[]⟩] (s.n * 2)).toList.length:=by rw [zrow_size,fl,Nat.min_self]; omega
  have ha:(nb h).add 0=⟨h.size,0,none⟩:=rfl
  show stsOk h1 ((nb h).add 0) _ 0∧_
  rw [ha]
  refine ⟨stsOk_row _ _ _ 0 0 r1 fit (fun v hv=>?_),?_⟩
  ·obtain ⟨p,_,hp⟩:=List.mem_flatMap.1 hv
   simp only [plC,List.mem_cons,List.not_mem_nil,or_false] at hp
   rcases hp with rfl | rfl <;> rfl
  ·have r2:=row_setcs (ps.flatMap plC) h1 _ 0 0 r1 fit
   have k2:Kept (fun i=>i=h.size) h1 (setcs h1 ⟨h.size,0,none⟩ (ps.flatMap plC) 0):=kept_setcs _ _ _ _ rfl
   generalize setcs h1 ⟨h.size,0,none⟩ (ps.flatMap plC) 0=h2 at r2 k2
   have eo:ovw (zrow #[.int .i64 0,.string ⟨#[]⟩] (s.n * 2)).toList (0 + 0) (ps.flatMap plC)=ps.flatMap plC:=by
    unfold ovw
    rw [List.drop_eq_nil_of_le (by rw [zrow_size,fl,Nat.min_self]; omega)]
    simp
   rw [eo] at r2
   refine hR ⟨some (ad h.size),s.n,s.n⟩ h2 ⟨row_reads r2,xn,Nat.le_refl _⟩ (fun p hp _=>?_) (kept_fresh k1 k2 fun i e=>by omega)
   obtain rfl:=Option.some.inj hp
   exact ⟨Nat.le_refl _,row_lt r2⟩
/-! ### They agree -/
theorem ag_find (ag:W.ws.map (·.w)=D.ds.map (·.w)) (c:Int):(W.find c=none∧D.find c=none) ∨ ∃ y z,W.find c=some y∧D.find c=some z∧y.w=z.w:=by
 have e1:(W.find c).map (·.w)=(W.ws.map (·.w)).find? fun w=>decide (w.conn=c):=by rw [List.find?_map]; rfl
 have e2:(D.find c).map (·.w)=(D.ds.map (·.w)).find? fun w=>decide (w.conn=c):=by rw [List.find?_map]; rfl
 rw [ag,← e2] at e1
 cases hw:W.find c with
 | none =>
  rw [hw] at e1
  cases hd:D.find c with
  | none=>exact .inl ⟨rfl,rfl⟩
  | some z=>rw [hd] at e1; cases e1
 | some y =>
  rw [hw] at e1
  cases hd:D.find c with
  | none=>rw [hd] at e1; cases e1
  | some z=>rw [hd] at e1; exact .inr ⟨y,z,rfl,rfl,Option.some.inj e1⟩
theorem ag_busy (ag:W.ws.map (·.w)=D.ds.map (·.w)) (c:Int):(D.find c).isSome=(W.find c).isSome:=by
 rcases ag_find ag c with ⟨e1,e2⟩ | ⟨y,z,e1,e2,_⟩ <;> rw [e1,e2] <;> rfl
theorem ag_pls (ag:W.ws.map (·.w)=D.ds.map (·.w)) (c:Int):dplsOf D c=plsOf W c:=by
 unfold dplsOf plsOf
 rcases ag_find ag c with ⟨e1,e2⟩ | ⟨y,z,e1,e2,e3⟩ <;> rw [e1,e2]
 show z.w.pls=y.w.pls
 rw [e3]
theorem ag_conns (ag:W.ws.map (·.w)=D.ds.map (·.w)) (p:Plc) (k:Int):connsOf W.ws p k=(D.ds.filter fun y=>wants y.w p k).map (·.w.conn):=by
 have e:connsOf W.ws p k=((W.ws.map (·.w)).filter fun w=>wants w p k).map (·.conn):=by rw [List.filter_map,List.map_map]; rfl
 rw [e,ag,List.filter_map,List.map_map]
 rfl
theorem ag_next (ag:W.ws.map (·.w)=D.ds.map (·.w)) (p:Plc) (k:Int):D.next p k=match connsOf W.ws p k with | []=>.tuple #[.int .i64 0,.bool false] | c :: _=>.tuple #[.int .i64 c,.bool true]:=by
 rw [ag_conns ag]
 unfold DP.next
 rw [← List.head?_filter]
 cases D.ds.filter fun y=>wants y.w p k <;> rfl
theorem ag_waits (ag:W.ws.map (·.w)=D.ds.map (·.w)):D.ds.map (·.w.conn)=W.ws.map (·.w.conn):=by
 have e1:D.ds.map (·.w.conn)=(D.ds.map (·.w)).map (·.conn):=by rw [List.map_map]; rfl
 rw [e1,← ag,List.map_map]
 rfl
theorem ag_at (ag:W.ws.map (·.w)=D.ds.map (·.w)) {i:Nat} {z:DW} (hz:D.ds[i]?=some z):∃ y,W.ws[i]?=some y∧y.w=z.w:=by
 have:(W.ws.map (·.w))[i]?=some z.w:=by rw [ag,List.getElem?_map,hz]; rfl
 rw [List.getElem?_map] at this
 exact Option.map_eq_some_iff.1 this
theorem dues_ix (D:DP) (now:Int):(((List.range D.ds.length).filter fun i=>dueB now (D.til i)).map D.conn)=(D.ds.filter fun y=>dueB now y.w.til).map (·.w.conn):=by
 have e:D.ds.map (fun y=>(y.w.til,y.w.conn))=(List.range D.ds.length).map fun i=>(D.til i,D.conn i):=by
  apply List.ext_getElem?
  intro i
  rw [List.getElem?_map,List.getElem?_map]
  by_cases hi:i < D.ds.length
  ·rw [List.getElem?_range hi,List.getElem?_eq_getElem hi]
   show some (D.ds[i].w.til,D.ds[i].w.conn)=some (D.til i,D.conn i)
   unfold DP.til DP.conn
   rw [List.getElem?_eq_getElem hi]
  ·rw [List.getElem?_eq_none (by omega),List.getElem?_eq_none (by simpa using hi)]; rfl
 have h1:(D.ds.filter fun y=>dueB now y.w.til).map (·.w.conn)=((D.ds.map fun y=>(y.w.til,y.w.conn)).filter fun q=>dueB now q.1).map (·.2):=by rw [List.filter_map,List.map_map]; rfl
 rw [h1,e,List.filter_map,List.map_map]
 rfl
theorem ag_dues (x:WMem h W) (ag:W.ws.map (·.w)=D.ds.map (·.w)) {now:Int} {is:List Nat} (hin:∀ i,i ∈ is ↔ i < D.ds.length∧dueB now (D.til i)=true) (nd:is.Nodup) (pw:is.Pairwise (lexI D.til)) :
  (is.map D.conn).Perm (duesOf W now)∧(is.map D.conn).Pairwise fun a b=>duV W a b < 0:=by
 constructor
 ·have e:duesOf W now=(D.ds.filter fun y=>dueB now y.w.til).map (·.w.conn):=by
   have e1:duesOf W now=((W.ws.map (·.w)).filter fun w=>dueB now w.til).map (·.conn):=by unfold duesOf; rw [List.filter_map,List.map_map]; rfl
   rw [e1,ag,List.filter_map,List.map_map]
   rfl
  rw [e,← dues_ix]
  refine List.Perm.map _ ((List.perm_ext_iff_of_nodup nd (List.filter_sublist.nodup List.nodup_range)).2 fun i=>?_)
  rw [hin,List.mem_filter,List.mem_range]
 ·rw [List.pairwise_map]
  refine List.Pairwise.imp_of_mem (fun {i j} hi hj hl=>?_) pw
  obtain ⟨hi1,_⟩:=(hin i).1 hi
  obtain ⟨hj1,_⟩:=(hin j).1 hj
  obtain ⟨y,hy⟩:∃ y,D.ds[i]?=some y:=⟨_,List.getElem?_eq_getElem hi1⟩
  obtain ⟨z,hz⟩:∃ z,D.ds[j]?=some z:=⟨_,List.getElem?_eq_getElem hj1⟩
  obtain ⟨y',hy',ey⟩:=ag_at ag hy
  obtain ⟨z',hz',ez⟩:=ag_at ag hz
  have ci:D.conn i=y'.w.conn:=by unfold DP.conn; rw [hy,ey]
  have cj:D.conn j=z'.w.conn:=by unfold DP.conn; rw [hz,ez]
  have ti:D.til i=y'.w.til:=by unfold DP.til; rw [hy,ey]
  have tj:D.til j=z'.w.til:=by unfold DP.til; rw [hz,ez]
  show duV W (D.conn i) (D.conn j) < 0
  rw [duV_lt,ci,cj,x.til_self (List.mem_of_getElem? hy'),x.til_self (List.mem_of_getElem? hz'),x.turn_self (List.mem_of_getElem? hy'),x.turn_self (List.mem_of_getElem? hz')]
  unfold lexI at hl
  rw [ti,tj] at hl
  rcases hl with hl | ⟨hl,hij⟩
  ·exact .inl hl
  ·refine .inr ⟨hl,?_⟩
   have tn:=x.tn
   rw [List.pairwise_iff_getElem] at tn
   obtain ⟨l1,g1⟩:=List.getElem?_eq_some_iff.1 hy'
   obtain ⟨l2,g2⟩:=List.getElem?_eq_some_iff.1 hz'
   have:=tn i j l1 l2 hij
   rw [g1,g2] at this
   omega
theorem ag_cut (cn:(W.ws.map (·.w.conn)).Nodup) (ag:W.ws.map (·.w)=D.ds.map (·.w)) {i j:Nat} {y:PW} {z:DW} (hy:W.ws[i]?=some y) (hz:D.ds[j]?=some z) (e:y.w.conn=z.w.conn):(W.ws.eraseIdx i).map (·.w)=(D.ds.eraseIdx j).map (·.w):=by
 obtain ⟨y',hy',ey⟩:=ag_at ag hz
 have:i=j:=map_inj_at cn hy hy' (by rw [e,ey])
 subst this
 have em:∀ {α:Type} (l:List α) (f:α→Wtr),(l.eraseIdx i).map f=(l.map f).eraseIdx i:=fun l f=>by
  rw [List.eraseIdx_eq_take_drop_succ,List.eraseIdx_eq_take_drop_succ,List.map_append,List.map_take,List.map_drop]
 rw [em,em,ag]
end
end Go.Ev
