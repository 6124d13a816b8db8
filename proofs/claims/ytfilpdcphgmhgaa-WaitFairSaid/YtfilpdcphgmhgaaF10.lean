/- Printed by a program (own work) out of the loaded functions: what each says of the heap, and that the evaluator says the same / larderlaw18's small functions: ints, same, place. No condition but that these are ones. -/
import Derived.Test.YtfilpdcphgmhgaaF4
import Derived.Test.YtfilpdcphgmhgaaF9
set_option linter.all false
set_option maxRecDepth 100000
namespace Go.Ev
open Go.Proofs
/- larder/larderlaw18.WaitRefused -/
/- larder/larderlaw18.WaitBlocks -/
/- larder/larderlaw18.WaitNext -/
/- larder/larderlaw18.WaitDue -/
/- larder/larderlaw18.WaitFair -/
noncomputable def body9:Code:=(Try.f9.body).getD .skip
def lv9 (m:Nat):List Nat:=if m=9 then [1,3,4,6] else if m=14 then [3,4] else []
def f9I1 (J:Nat→Addr→Option Addr→Sl→Int→Hp→Prop) (n:Nat) (env:List Value) (h:Hp):Prop:=lenIs env 83 (DecA env 1 fun s1=>DecP env 3 fun s3=>DecL env 4 fun s4=>DecI .i64 env 6 fun s6=>J n s1 s3 s4 s6 h)
def f9I2 (J:Nat→Option Addr→Sl→Hp→Prop) (n:Nat) (env:List Value) (h:Hp):Prop:=lenIs env 83 (DecP env 3 fun s3=>DecL env 4 fun s4=>J n s3 s4 h)
def f9K2 (J1:Nat→Addr→Option Addr→Sl→Int→Hp→Prop) (n1:Nat) (x1:Addr) (x3:Option Addr) (x4:Sl) (x6:Int) (x42:Bool) (h:Hp) (R:Value→Hp→Prop):Prop :=
 Cond x42 (R (.bool false:Value) h) (∃ m,m < n1∧J1 m x1 x3 x4 (IntKind.wrap .i64 (x6 + (1:Int))) h)
def f9K3 (J2:Nat→Option Addr→Sl→Hp→Prop) (n2:Nat) (x3:Option Addr) (x4:Sl) (x78:Bool) (h:Hp) (R:Value→Hp→Prop):Prop :=
 Cond x78 (R (.bool false:Value) h) (∃ m,m < n2∧J2 m x3 x4 h)
def f9K1 (J1:Nat→Addr→Option Addr→Sl→Int→Hp→Prop) (n1:Nat) (x1:Addr) (x3:Option Addr) (x4:Sl) (x6:Int) (x21:Bool) (h:Hp) (R:Value→Hp→Prop):Prop :=
 Cond x21 (∃ t28:Sl,cell h x1=some (.slice t28.a t28.n t28.c)∧(0 ≤ x6∧x6 < ((t28.n:Nat):Int))∧PtrOk t28.a fun p30=>∃ t31_0:Int,cell h (p30.add (x6.toNat * 6))=some (.int .i64 t31_0)∧∃ t31_1:Int,cell h ((p30.add (x6.toNat * 6)).add 1)=some (.int .i64 t31_1)∧∃ t31_2:Int,cell h ((p30.add (x6.toNat * 6)).add 2)=some (.int .i64 t31_2)∧∃ t31_3:Sl,cell h ((p30.add (x6.toNat * 6)).add 3)=some (.slice t31_3.a t31_3.n t31_3.c)∧∃ t31_4:Int,cell h ((p30.add (x6.toNat * 6)).add 4)=some (.int .u64 t31_4)∧∃ t31_5:Int,cell h ((p30.add (x6.toNat * 6)).add 5)=some (.int .i64 t31_5)∧CallTo Try.prog 21 #[.pointer x3,.slice x4.a x4.n x4.c,.agg #[.int .i64 t31_0,.int .i64 t31_1,.int .i64 t31_2,.slice t31_3.a t31_3.n t31_3.c,.int .u64 t31_4,.int .i64 t31_5]] h fun r h4=>∃ t32_0:Sl,∃ t32_1:Bool,r=.tuple #[.slice t32_0.a t32_0.n t32_0.c,.bool t32_1]∧Cond (!t32_1) (f9K2 J1 n1 x1 x3 t32_0 x6 true h4 R) (CallTo Try.prog 22 #[.pointer x3,.slice t32_0.a t32_0.n t32_0.c] h4 fun r h5=>∃ t40:Bool,r=.bool t40∧f9K2 J1 n1 x1 x3 t32_0 x6 (!t40) h5 R)) (LoopEv (evC Try.prog tab lv9 (sub [1,1,1,1,1,1,1,0,0,0] body9)) (contAt Try.prog tab lv9 [1,1,1,1,1,1,1,0,0] body9 [] (bodyK Try.prog Try.f9 [] R)) [(3,.pointer x3),(4,.slice x4.a x4.n x4.c)] 83 h)
def f9L1 (J1:Nat→Addr→Option Addr→Sl→Int→Hp→Prop) (n1:Nat) (s1:Addr) (s3:Option Addr) (s4:Sl) (s6:Int) (g:Nat→Value) (h:Hp) (R:Value→Hp→Prop):Prop :=
 ∃ t15:Sl,cell h s1=some (.slice t15.a t15.n t15.c)∧Cond (decide (s6 < (((t15.n:Nat):Int)))) (f9K1 J1 n1 s1 s3 s4 s6 (decide (s6 < (300:Int))) h R) (f9K1 J1 n1 s1 s3 s4 s6 false h R)
theorem f9L1_eq (J1:Nat→Addr→Option Addr→Sl→Int→Hp→Prop) (n1:Nat) (s1:Addr) (s3:Option Addr) (s4:Sl) (s6:Int) (g:Nat→Value) (h:Hp) (R:Value→Hp→Prop):(evC Try.prog tab lv9 (sub [1,1,1,1,1,1,0,1,0,0] body9)) (loopK (f9I1 J1) n1 (contAt Try.prog tab lv9 [1,1,1,1,1,1,0,1,0] body9 [] (bodyK Try.prog Try.f9 [] R))) (mkEnv 83 [(1,.pointer (some s1)),(3,.pointer s3),(4,.slice s4.a s4.n s4.c),(6,.int .i64 s6)] g) h=f9L1 J1 n1 s1 s3 s4 s6 g h R:=by kernel_rfl
theorem f9I1_at (J:Nat→Addr→Option Addr→Sl→Int→Hp→Prop) (n:Nat) (s1:Addr) (s3:Option Addr) (s4:Sl) (s6:Int) (g:Nat→Value) (h:Hp):f9I1 J n (mkEnv 83 [(1,.pointer (some s1)),(3,.pointer s3),(4,.slice s4.a s4.n s4.c),(6,.int .i64 s6)] g) h=J n s1 s3 s4 s6 h:=by kernel_rfl
theorem f9L1_rule  {R:Value→Hp→Prop} {s1:Addr} {s3:Option Addr} {s4:Sl} {s6:Int} {h0:Hp} (J:Nat→Addr→Option Addr→Sl→Int→Hp→Prop) (n0:Nat) (hi:J n0 s1 s3 s4 s6 h0)
  (hr:∀ n s1 s3 s4 s6 g h,J n s1 s3 s4 s6 h→f9L1  J n s1 s3 s4 s6 g h R):LoopEv (evC Try.prog tab lv9 (sub [1,1,1,1,1,1,0,1,0,0] body9)) (contAt Try.prog tab lv9 [1,1,1,1,1,1,0,1,0] body9 [] (bodyK Try.prog Try.f9 [] R)) [(1,.pointer (some s1)),(3,.pointer s3),(4,.slice s4.a s4.n s4.c),(6,.int .i64 s6)] 83 h0:=by
 refine ⟨f9I1 J,n0,fun g=>by rw [f9I1_at]; exact hi,fun n env h hI=>?_⟩
 clear hi
 clear s1 s3 s4 s6
 obtain ⟨hlen,hI⟩:=Cond_true' hI
 have hlen:env.length=83:=by simpa using hlen
 obtain ⟨s1,es1,hI⟩:=DecA.out hI
 obtain ⟨s3,es3,hI⟩:=DecP.out hI
 obtain ⟨s4,es4,hI⟩:=DecL.out hI
 obtain ⟨s6,es6,hI⟩:=DecI.out hI
 rw [mkEnv_of (l:=[(1,.pointer (some s1)),(3,.pointer s3),(4,.slice s4.a s4.n s4.c),(6,.int .i64 s6)]) hlen (by simp only [List.mem_cons,List.not_mem_nil,or_false,forall_eq_or_imp,forall_eq]; exact ⟨es1,es3,es4,es6⟩)]
 rw [f9L1_eq]
 exact hr n s1 s3 s4 s6 _ h hI
def f9L2 (J2:Nat→Option Addr→Sl→Hp→Prop) (n2:Nat) (s3:Option Addr) (s4:Sl) (g:Nat→Value) (h:Hp) (R:Value→Hp→Prop):Prop :=
 Cond (decide ((((s4.n:Nat):Int)) > (0:Int))) ((0 ≤ (0:Int)∧(0:Int) < ((s4.n:Nat):Int))∧PtrOk s4.a fun p52=>∃ t54:Sl,cell h ((p52.add ((0:Int).toNat * 4)).add 2)=some (.slice t54.a t54.n t54.c)∧(0 ≤ (0:Int)∧(0:Int) < ((t54.n:Nat):Int))∧PtrOk t54.a fun p55=>∃ t56_0:Int,cell h (p55.add ((0:Int).toNat * 2))=some (.int .i64 t56_0)∧∃ t56_1:ByteArray,cell h ((p55.add ((0:Int).toNat * 2)).add 1)=some (.string t56_1)∧(0 ≤ (0:Int)∧(0:Int) < ((s4.n:Nat):Int))∧PtrOk s4.a fun p58=>∃ t60:Int,cell h ((p58.add ((0:Int).toNat * 4)).add 1)=some (.int .i64 t60)∧CallTo Try.prog 23 #[.pointer s3,.slice s4.a s4.n s4.c,.agg #[.int .i64 t56_0,.string t56_1],.int .i64 t60,.int .i64 1] h fun r h6=>∃ t61_0:Sl,∃ t61_1:Bool,r=.tuple #[.slice t61_0.a t61_0.n t61_0.c,.bool t61_1]∧Cond (!t61_1) (f9K3 J2 n2 s3 t61_0 true h6 R) (Cond ((((t61_0.n:Nat):Int)) != (IntKind.wrap .i64 ((((s4.n:Nat):Int)) - (1:Int)))) (f9K3 J2 n2 s3 t61_0 true h6 R) (CallTo Try.prog 22 #[.pointer s3,.slice t61_0.a t61_0.n t61_0.c] h6 fun r h7=>∃ t76:Bool,r=.bool t76∧f9K3 J2 n2 s3 t61_0 (!t76) h7 R))) (CallTo Try.prog 13 #[.pointer s3] h fun r h8=>∃ t80:Sl,r=.slice t80.a t80.n t80.c∧R ((.bool ((((t80.n:Nat):Int)) == (0:Int)):Value)) h8)
theorem f9L2_eq (J2:Nat→Option Addr→Sl→Hp→Prop) (n2:Nat) (s3:Option Addr) (s4:Sl) (g:Nat→Value) (h:Hp) (R:Value→Hp→Prop):(evC Try.prog tab lv9 (sub [1,1,1,1,1,1,1,0,0,0] body9)) (loopK (f9I2 J2) n2 (contAt Try.prog tab lv9 [1,1,1,1,1,1,1,0,0] body9 [] (bodyK Try.prog Try.f9 [] R))) (mkEnv 83 [(3,.pointer s3),(4,.slice s4.a s4.n s4.c)] g) h=f9L2 J2 n2 s3 s4 g h R:=by kernel_rfl
theorem f9I2_at (J:Nat→Option Addr→Sl→Hp→Prop) (n:Nat) (s3:Option Addr) (s4:Sl) (g:Nat→Value) (h:Hp):f9I2 J n (mkEnv 83 [(3,.pointer s3),(4,.slice s4.a s4.n s4.c)] g) h=J n s3 s4 h:=by kernel_rfl
theorem f9L2_rule  {R:Value→Hp→Prop} {s3:Option Addr} {s4:Sl} {h0:Hp} (J:Nat→Option Addr→Sl→Hp→Prop) (n0:Nat) (hi:J n0 s3 s4 h0)
  (hr:∀ n s3 s4 g h,J n s3 s4 h→f9L2  J n s3 s4 g h R):LoopEv (evC Try.prog tab lv9 (sub [1,1,1,1,1,1,1,0,0,0] body9)) (contAt Try.prog tab lv9 [1,1,1,1,1,1,1,0,0] body9 [] (bodyK Try.prog Try.f9 [] R)) [(3,.pointer s3),(4,.slice s4.a s4.n s4.c)] 83 h0:=by
 refine ⟨f9I2 J,n0,fun g=>by rw [f9I2_at]; exact hi,fun n env h hI=>?_⟩
 clear hi
 clear s3 s4
 obtain ⟨hlen,hI⟩:=Cond_true' hI
 have hlen:env.length=83:=by simpa using hlen
 obtain ⟨s3,es3,hI⟩:=DecP.out hI
 obtain ⟨s4,es4,hI⟩:=DecL.out hI
 rw [mkEnv_of (l:=[(3,.pointer s3),(4,.slice s4.a s4.n s4.c)]) hlen (by simp only [List.mem_cons,List.not_mem_nil,or_false,forall_eq_or_imp,forall_eq]; exact ⟨es3,es4⟩)]
 rw [f9L2_eq]
 exact hr n s3 s4 _ h hI
def f9F (a0:Sl) (h:Hp) (R:Value→Hp→Prop):Prop :=
 Let (h.push (.cells #[.slice a0.a a0.n a0.c] 48)) fun h1=>CallTo Try.prog 11 #[] h1 fun r h2=>∃ t8:Bool,r=.bool t8∧Cond (!t8) (R (.bool false:Value) h2) (CallTo Try.prog 12 #[] h2 fun r h3=>∃ t10:Option Addr,r=.pointer t10∧Cond (Option.isNone t10) (R (.bool false:Value) h3) (LoopEv (evC Try.prog tab lv9 (sub [1,1,1,1,1,1,0,1,0,0] body9)) (contAt Try.prog tab lv9 [1,1,1,1,1,1,0,1,0] body9 [] (bodyK Try.prog Try.f9 [] R)) [(1,.pointer (some (nb h))),(3,.pointer t10),(4,.slice none 0 0),(6,.int .i64 0)] 83 h3))
theorem f9F_eq (a0:Sl) (h:Hp) (R:Value→Hp→Prop):evF Try.prog tab lv9 Try.f9 body9 [] [.agg #[.slice a0.a a0.n a0.c]] h R=f9F a0 h R:=by kernel_rfl
theorem f9F_ok {a0:Sl} {h:Hp} {R:Value→Hp→Prop} (hF:f9F a0 h R):CallTo Try.prog 9 #[.agg #[.slice a0.a a0.n a0.c]] h R :=
 callTo_of_ev (lv:=lv9) (hints:=[]) (c:=body9) (args:=[.agg #[.slice a0.a a0.n a0.c]]) mixed tab_ok Try.func9 (by kernel_rfl) (by kernel_rfl) (by rw [f9F_eq]; exact hF)
/- larder/larderlaw18.wakes -/
noncomputable def body11:Code:=(Try.f11.body).getD .skip
def lv11 (m:Nat):List Nat:=[]
def f11F  (h:Hp) (R:Value→Hp→Prop):Prop :=
 CallTo Try.prog 12 #[] h fun r h1=>∃ t8:Option Addr,r=.pointer t8∧Cond (Option.isNone t8) (R (.bool false:Value) h1) (Let (h1.push (.cells #[.int .i64 1,.string ⟨#[107]⟩] 40)) fun h2=>CallTo Try.prog 18 #[.pointer t8,.int .i64 3,.int .i64 2,.slice (some (nb h1)) 1 1,.int .u64 0] h2 fun r h3=>∃ t14:Int,r=.int .i64 t14∧CallTo Try.prog 26 #[.pointer t8,.agg #[.int .i64 1,.string ⟨#[107]⟩],.int .i64 2] h3 fun r h4=>∃ t18_0:Int,∃ t18_1:Bool,r=.tuple #[.int .i64 t18_0,.bool t18_1]∧CallTo Try.prog 26 #[.pointer t8,.agg #[.int .i64 1,.string ⟨#[107]⟩],.int .i64 5] h4 fun r h5=>∃ t24_0:Int,∃ t24_1:Bool,r=.tuple #[.int .i64 t24_0,.bool t24_1]∧Let (h5.push (.cells #[.int .i64 1,.string ⟨#[107]⟩] 40)) fun h6=>CallTo Try.prog 18 #[.pointer t8,.int .i64 3,.int .i64 2,.slice (some (nb h5)) 1 1,.int .u64 0] h6 fun r h7=>∃ t30:Int,r=.int .i64 t30∧Cond (t14 == (0:Int)) (Cond t18_1 (Cond (t18_0 == (3:Int)) (Cond (!t24_1) (R ((.bool (t30 == (181:Int)):Value)) h7) (R (.bool false:Value) h7)) (R (.bool false:Value) h7)) (R (.bool false:Value) h7)) (R (.bool false:Value) h7))
theorem f11F_eq  (h:Hp) (R:Value→Hp→Prop):evF Try.prog tab lv11 Try.f11 body11 [] [] h R=f11F  h R:=by kernel_rfl
theorem f11F_ok {h:Hp} {R:Value→Hp→Prop} (hF:f11F h R):CallTo Try.prog 11 #[] h R :=
 callTo_of_ev (lv:=lv11) (hints:=[]) (c:=body11) (args:=[]) mixed tab_ok Try.func11 (by kernel_rfl) (by kernel_rfl) (by rw [f11F_eq]; exact hF)
/- larder/larderlaw18.ints -/
/- larder/larderlaw18.twin -/
noncomputable def body19:Code:=(Try.f19.body).getD .skip
def lv19 (m:Nat):List Nat:=[]
def f19F (a0:Sl) (h:Hp) (R:Value→Hp→Prop):Prop :=
 Cond (Option.isNone a0.a) (R (.slice none 0 0:Value) h) ((0 ≤ (((a0.n:Nat):Int))∧(((a0.n:Nat):Int)) ≤ (((a0.n:Nat):Int)))∧(((a0.n:Nat):Int)) < 2 ^ 62∧(24:Nat) * (((a0.n:Nat):Int)) ≤ 2 ^ 48∧Let (h.push (.cells (zrow #[.int .i64 0,.string ⟨#[]⟩] ((((a0.n:Nat):Int)).toNat * 2)) 40)) fun h1=>cpySl 2 (some (nb h)) ((((a0.n:Nat):Int)).toNat) a0.a a0.n h1 fun rk h2=>R ((.slice (some (nb h)) ((((a0.n:Nat):Int)).toNat) ((((a0.n:Nat):Int)).toNat):Value)) h2)
theorem f19F_eq (a0:Sl) (h:Hp) (R:Value→Hp→Prop):evF Try.prog tab lv19 Try.f19 body19 [] [.slice a0.a a0.n a0.c] h R=f19F a0 h R:=by kernel_rfl
theorem f19F_ok {a0:Sl} {h:Hp} {R:Value→Hp→Prop} (hF:f19F a0 h R):CallTo Try.prog 19 #[.slice a0.a a0.n a0.c] h R :=
 callTo_of_ev (lv:=lv19) (hints:=[]) (c:=body19) (args:=[.slice a0.a a0.n a0.c]) mixed tab_ok Try.func19 (by kernel_rfl) (by kernel_rfl) (by rw [f19F_eq]; exact hF)
/- larder/larderlaw18.holds -/
/- larder/larderlaw18.turn -/
noncomputable def body21:Code:=(Try.f21.body).getD .skip
def lv21 (m:Nat):List Nat:=[]
def f21K1  (x1:Sl) (x5:Addr) (x8:Int) (h:Hp) (R:Value→Hp→Prop):Prop :=
 Cond (x8 != (0:Int)) (R (.tuple #[.slice x1.a x1.n x1.c,.bool true]:Value) h) (∃ t43:Sl,cell h (x5.add 3)=some (.slice t43.a t43.n t43.c)∧R ((.tuple #[.slice x1.a x1.n x1.c,.bool (decide ((((t43.n:Nat):Int)) > (0:Int)))]:Value)) h)
def f21F (a0:Option Addr) (a1:Sl) (a2_0:Int) (a2_1:Int) (a2_2:Int) (a2_3:Sl) (a2_4:Int) (a2_5:Int) (h:Hp) (R:Value→Hp→Prop):Prop :=
 Let (h.push (.cells #[.int .i64 a2_0,.int .i64 a2_1,.int .i64 a2_2,.slice a2_3.a a2_3.n a2_3.c,.int .u64 a2_4,.int .i64 a2_5] 53)) fun h1=>∃ t10:Int,cell h1 (nb h)=some (.int .i64 t10)∧Cond (t10 == (0:Int)) (∃ t15:Int,cell h1 ((nb h).add 1)=some (.int .i64 t15)∧∃ t17:Int,cell h1 ((nb h).add 2)=some (.int .i64 t17)∧∃ t19:Sl,cell h1 ((nb h).add 3)=some (.slice t19.a t19.n t19.c)∧∃ t22:Int,cell h1 ((nb h).add 4)=some (.int .u64 t22)∧CallTo Try.prog 19 #[.slice t19.a t19.n t19.c] h1 fun r h2=>∃ t20:Sl,r=.slice t20.a t20.n t20.c∧(∃ y0:Int,cell h2 ((nb h).add 4)=some (.int .u64 y0)∧Next.value (.int .u64 y0)=Next.value (.int .u64 t22))∧(∃ y0:Int,cell h2 ((nb h).add 2)=some (.int .i64 y0)∧Next.value (.int .i64 y0)=Next.value (.int .i64 t17))∧(∃ y0:Int,cell h2 ((nb h).add 1)=some (.int .i64 y0)∧Next.value (.int .i64 y0)=Next.value (.int .i64 t15))∧CallTo Try.prog 18 #[.pointer a0,.int .i64 t15,.int .i64 t17,.slice t20.a t20.n t20.c,.int .u64 t22] h2 fun r h3=>∃ t23:Int,r=.int .i64 t23∧Cond (t23 == (0:Int)) (∃ t28:Int,cell h3 ((nb h).add 1)=some (.int .i64 t28)∧∃ t30:Int,cell h3 ((nb h).add 2)=some (.int .i64 t30)∧∃ t32:Sl,cell h3 ((nb h).add 3)=some (.slice t32.a t32.n t32.c)∧∃ t34:Int,cell h3 ((nb h).add 4)=some (.int .u64 t34)∧Let (h3.push (.cells #[.int .i64 t28,.int .i64 t30,.slice t32.a t32.n t32.c,.int .u64 t34] 57)) fun h4=>appSl 57 4 48 #[.int .i64 0,.int .i64 0,.slice none 0 0,.int .u64 0] a1.a a1.n a1.c (some (nb h3)) 1 h4 fun ra5 rn5 rc5 h5=>f21K1  ⟨ra5,rn5,rc5⟩ (nb h) t23 h5 R) (f21K1  a1 (nb h) t23 h3 R)) (Cond (t10 == (1:Int)) (∃ t50:Sl,cell h1 ((nb h).add 3)=some (.slice t50.a t50.n t50.c)∧Cond ((((t50.n:Nat):Int)) == (0:Int)) (R (.tuple #[.slice a1.a a1.n a1.c,.bool true]:Value) h1) (∃ t57:Sl,cell h1 ((nb h).add 3)=some (.slice t57.a t57.n t57.c)∧(0 ≤ (0:Int)∧(0:Int) < ((t57.n:Nat):Int))∧PtrOk t57.a fun p58=>∃ t59_0:Int,cell h1 (p58.add ((0:Int).toNat * 2))=some (.int .i64 t59_0)∧∃ t59_1:ByteArray,cell h1 ((p58.add ((0:Int).toNat * 2)).add 1)=some (.string t59_1)∧∃ t61:Int,cell h1 ((nb h).add 2)=some (.int .i64 t61)∧∃ t63:Int,cell h1 ((nb h).add 5)=some (.int .i64 t63)∧CallTo Try.prog 23 #[.pointer a0,.slice a1.a a1.n a1.c,.agg #[.int .i64 t59_0,.string t59_1],.int .i64 t61,.int .i64 t63] h1 fun r h6=>∃ t64_0:Sl,∃ t64_1:Bool,r=.tuple #[.slice t64_0.a t64_0.n t64_0.c,.bool t64_1]∧R (.tuple #[.slice t64_0.a t64_0.n t64_0.c,.bool t64_1]:Value) h6)) (∃ t70:Int,cell h1 ((nb h).add 4)=some (.int .u64 t70)∧CallTo Try.prog 38 #[.pointer a0,.slice a1.a a1.n a1.c,.int .u64 t70] h1 fun r h7=>∃ t71_0:Sl,∃ t71_1:Bool,r=.tuple #[.slice t71_0.a t71_0.n t71_0.c,.bool t71_1]∧R (.tuple #[.slice t71_0.a t71_0.n t71_0.c,.bool t71_1]:Value) h7))
theorem f21F_eq (a0:Option Addr) (a1:Sl) (a2_0:Int) (a2_1:Int) (a2_2:Int) (a2_3:Sl) (a2_4:Int) (a2_5:Int) (h:Hp) (R:Value→Hp→Prop):evF Try.prog tab lv21 Try.f21 body21 [] [.pointer a0,.slice a1.a a1.n a1.c,.agg #[.int .i64 a2_0,.int .i64 a2_1,.int .i64 a2_2,.slice a2_3.a a2_3.n a2_3.c,.int .u64 a2_4,.int .i64 a2_5]] h R=f21F a0 a1 a2_0 a2_1 a2_2 a2_3 a2_4 a2_5 h R:=by kernel_rfl
theorem f21F_ok {a0:Option Addr} {a1:Sl} {a2_0:Int} {a2_1:Int} {a2_2:Int} {a2_3:Sl} {a2_4:Int} {a2_5:Int} {h:Hp} {R:Value→Hp→Prop} (hF:f21F a0 a1 a2_0 a2_1 a2_2 a2_3 a2_4 a2_5 h R):CallTo Try.prog 21 #[.pointer a0,.slice a1.a a1.n a1.c,.agg #[.int .i64 a2_0,.int .i64 a2_1,.int .i64 a2_2,.slice a2_3.a a2_3.n a2_3.c,.int .u64 a2_4,.int .i64 a2_5]] h R :=
 callTo_of_ev (lv:=lv21) (hints:=[]) (c:=body21) (args:=[.pointer a0,.slice a1.a a1.n a1.c,.agg #[.int .i64 a2_0,.int .i64 a2_1,.int .i64 a2_2,.slice a2_3.a a2_3.n a2_3.c,.int .u64 a2_4,.int .i64 a2_5]]) mixed tab_ok Try.func21 (by kernel_rfl) (by kernel_rfl) (by rw [f21F_eq]; exact hF)
/- larder/larderlaw18.lined -/
noncomputable def body22:Code:=(Try.f22.body).getD .skip
def lv22 (m:Nat):List Nat:=if m=5 then [0,1,5,6] else []
def f22I1 (J:Nat→Option Addr→Sl→Sl→Int→Hp→Prop) (n:Nat) (env:List Value) (h:Hp):Prop:=lenIs env 67 (DecP env 0 fun s0=>DecL env 1 fun s1=>DecL env 5 fun s5=>DecI .i64 env 6 fun s6=>J n s0 s1 s5 s6 h)
def f22K1 (J1:Nat→Option Addr→Sl→Sl→Int→Hp→Prop) (n1:Nat) (x0:Option Addr) (x1:Sl) (x5:Sl) (x6:Int) (x66:Bool) (h:Hp) (R:Value→Hp→Prop):Prop :=
 Cond x66 (R (.bool false:Value) h) (∃ m,m < n1∧J1 m x0 x1 x5 (IntKind.wrap .i64 (x6 + (1:Int))) h)
def f22L1 (J1:Nat→Option Addr→Sl→Sl→Int→Hp→Prop) (n1:Nat) (s0:Option Addr) (s1:Sl) (s5:Sl) (s6:Int) (g:Nat→Value) (h:Hp) (R:Value→Hp→Prop):Prop :=
 Cond (decide (s6 < (((s5.n:Nat):Int)))) ((0 ≤ s6∧s6 < ((s5.n:Nat):Int))∧PtrOk s5.a fun p24=>∃ t25:Int,cell h (p24.add (s6.toNat * 1))=some (.int .i64 t25)∧(0 ≤ s6∧s6 < ((s1.n:Nat):Int))∧PtrOk s1.a fun p28=>∃ t30:Int,cell h (p28.add (s6.toNat * 4))=some (.int .i64 t30)∧Cond (t25 != t30) (R (.bool false:Value) h) ((0 ≤ s6∧s6 < ((s5.n:Nat):Int))∧PtrOk s5.a fun p36=>∃ t37:Int,cell h (p36.add (s6.toNat * 1))=some (.int .i64 t37)∧CallTo Try.prog 15 #[.pointer s0,.int .i64 t37] h fun r h2=>∃ t38_0:Int,∃ t38_1:Bool,r=.tuple #[.int .u64 t38_0,.bool t38_1]∧Cond (!t38_1) (f22K1 J1 n1 s0 s1 s5 s6 true h2 R) ((0 ≤ s6∧s6 < ((s1.n:Nat):Int))∧PtrOk s1.a fun p47=>∃ t49:Int,cell h2 ((p47.add (s6.toNat * 4)).add 3)=some (.int .u64 t49)∧Cond (t38_0 != t49) (f22K1 J1 n1 s0 s1 s5 s6 true h2 R) ((0 ≤ s6∧s6 < ((s5.n:Nat):Int))∧PtrOk s5.a fun p56=>∃ t57:Int,cell h2 (p56.add (s6.toNat * 1))=some (.int .i64 t57)∧(0 ≤ s6∧s6 < ((s1.n:Nat):Int))∧PtrOk s1.a fun p61=>∃ t63:Sl,cell h2 ((p61.add (s6.toNat * 4)).add 2)=some (.slice t63.a t63.n t63.c)∧CallTo Try.prog 40 #[.pointer s0,.int .i64 t57] h2 fun r h3=>∃ t58:Sl,r=.slice t58.a t58.n t58.c∧(∃ y0:Sl,cell h3 ((p61.add (s6.toNat * 4)).add 2)=some (.slice y0.a y0.n y0.c)∧Next.value (.slice y0.a y0.n y0.c)=Next.value (.slice t63.a t63.n t63.c))∧∃ t64:Bool,CallTo Try.prog 39 #[.slice t58.a t58.n t58.c,.slice t63.a t63.n t63.c] h3 (fun v h'=>v=(.bool t64)∧h'=h3)∧f22K1 J1 n1 s0 s1 s5 s6 (!t64) h3 R)))) (R (.bool true:Value) h)
theorem f22L1_eq (J1:Nat→Option Addr→Sl→Sl→Int→Hp→Prop) (n1:Nat) (s0:Option Addr) (s1:Sl) (s5:Sl) (s6:Int) (g:Nat→Value) (h:Hp) (R:Value→Hp→Prop):(evC Try.prog tab lv22 (sub [1,1,1,0,1,0,0] body22)) (loopK (f22I1 J1) n1 (contAt Try.prog tab lv22 [1,1,1,0,1,0] body22 [] (bodyK Try.prog Try.f22 [] R))) (mkEnv 67 [(0,.pointer s0),(1,.slice s1.a s1.n s1.c),(5,.slice s5.a s5.n s5.c),(6,.int .i64 s6)] g) h=f22L1 J1 n1 s0 s1 s5 s6 g h R:=by kernel_rfl
theorem f22I1_at (J:Nat→Option Addr→Sl→Sl→Int→Hp→Prop) (n:Nat) (s0:Option Addr) (s1:Sl) (s5:Sl) (s6:Int) (g:Nat→Value) (h:Hp):f22I1 J n (mkEnv 67 [(0,.pointer s0),(1,.slice s1.a s1.n s1.c),(5,.slice s5.a s5.n s5.c),(6,.int .i64 s6)] g) h=J n s0 s1 s5 s6 h:=by kernel_rfl
theorem f22L1_rule  {R:Value→Hp→Prop} {s0:Option Addr} {s1:Sl} {s5:Sl} {s6:Int} {h0:Hp} (J:Nat→Option Addr→Sl→Sl→Int→Hp→Prop) (n0:Nat) (hi:J n0 s0 s1 s5 s6 h0)
  (hr:∀ n s0 s1 s5 s6 g h,J n s0 s1 s5 s6 h→f22L1  J n s0 s1 s5 s6 g h R):LoopEv (evC Try.prog tab lv22 (sub [1,1,1,0,1,0,0] body22)) (contAt Try.prog tab lv22 [1,1,1,0,1,0] body22 [] (bodyK Try.prog Try.f22 [] R)) [(0,.pointer s0),(1,.slice s1.a s1.n s1.c),(5,.slice s5.a s5.n s5.c),(6,.int .i64 s6)] 67 h0:=by
 refine ⟨f22I1 J,n0,fun g=>by rw [f22I1_at]; exact hi,fun n env h hI=>?_⟩
 clear hi
 clear s0 s1 s5 s6
 obtain ⟨hlen,hI⟩:=Cond_true' hI
 have hlen:env.length=67:=by simpa using hlen
 obtain ⟨s0,es0,hI⟩:=DecP.out hI
 obtain ⟨s1,es1,hI⟩:=DecL.out hI
 obtain ⟨s5,es5,hI⟩:=DecL.out hI
 obtain ⟨s6,es6,hI⟩:=DecI.out hI
 rw [mkEnv_of (l:=[(0,.pointer s0),(1,.slice s1.a s1.n s1.c),(5,.slice s5.a s5.n s5.c),(6,.int .i64 s6)]) hlen (by simp only [List.mem_cons,List.not_mem_nil,or_false,forall_eq_or_imp,forall_eq]; exact ⟨es0,es1,es5,es6⟩)]
 rw [f22L1_eq]
 exact hr n s0 s1 s5 s6 _ h hI
def f22F (a0:Option Addr) (a1:Sl) (h:Hp) (R:Value→Hp→Prop):Prop :=
 CallTo Try.prog 13 #[.pointer a0] h fun r h1=>∃ t10:Sl,r=.slice t10.a t10.n t10.c∧Cond ((((t10.n:Nat):Int)) != (((a1.n:Nat):Int))) (R (.bool false:Value) h1) (LoopEv (evC Try.prog tab lv22 (sub [1,1,1,0,1,0,0] body22)) (contAt Try.prog tab lv22 [1,1,1,0,1,0] body22 [] (bodyK Try.prog Try.f22 [] R)) [(0,.pointer a0),(1,.slice a1.a a1.n a1.c),(5,.slice t10.a t10.n t10.c),(6,.int .i64 0)] 67 h1)
theorem f22F_eq (a0:Option Addr) (a1:Sl) (h:Hp) (R:Value→Hp→Prop):evF Try.prog tab lv22 Try.f22 body22 [] [.pointer a0,.slice a1.a a1.n a1.c] h R=f22F a0 a1 h R:=by kernel_rfl
theorem f22F_ok {a0:Option Addr} {a1:Sl} {h:Hp} {R:Value→Hp→Prop} (hF:f22F a0 a1 h R):CallTo Try.prog 22 #[.pointer a0,.slice a1.a a1.n a1.c] h R :=
 callTo_of_ev (lv:=lv22) (hints:=[]) (c:=body22) (args:=[.pointer a0,.slice a1.a a1.n a1.c]) mixed tab_ok Try.func22 (by kernel_rfl) (by kernel_rfl) (by rw [f22F_eq]; exact hF)
/- larder/larderlaw18.serve -/
noncomputable def body23:Code:=(Try.f23.body).getD .skip
def lv23 (m:Nat):List Nat:=if m=2 then [0,1,3,4,7,12] else if m=6 then [0,1,3,4,7,12,13,14,15] else []
def f23I1 (J:Nat→Option Addr→Sl→Int→Int→Addr→Int→Hp→Prop) (n:Nat) (env:List Value) (h:Hp):Prop:=lenIs env 81 (DecP env 0 fun s0=>DecL env 1 fun s1=>DecI .i64 env 3 fun s3=>DecI .i64 env 4 fun s4=>DecA env 7 fun s7=>DecI .i64 env 12 fun s12=>J n s0 s1 s3 s4 s7 s12 h)
def f23I2 (J:Nat→Option Addr→Sl→Int→Int→Addr→Int→Int→Bool→Int→Hp→Prop) (n:Nat) (env:List Value) (h:Hp):Prop:=lenIs env 81 (DecP env 0 fun s0=>DecL env 1 fun s1=>DecI .i64 env 3 fun s3=>DecI .i64 env 4 fun s4=>DecA env 7 fun s7=>DecI .i64 env 12 fun s12=>DecI .i64 env 13 fun s13=>DecB env 14 fun s14=>DecI .i64 env 15 fun s15=>J n s0 s1 s3 s4 s7 s12 s13 s14 s15 h)
def f23K3 (J1:Nat→Option Addr→Sl→Int→Int→Addr→Int→Hp→Prop) (n1:Nat) (x0:Option Addr) (x1:Sl) (x3:Int) (x4:Int) (x7:Addr) (x12:Int) (x15:Int) (x75:Bool) (h:Hp) (R:Value→Hp→Prop):Prop :=
 Cond x75 (R (.tuple #[.slice x1.a x1.n x1.c,.bool false]:Value) h) (CallTo Try.prog 42 #[.slice x1.a x1.n x1.c,.int .i64 x15] h fun r h4=>∃ t79:Sl,r=.slice t79.a t79.n t79.c∧∃ m,m < n1∧J1 m x0 t79 x3 x4 x7 (IntKind.wrap .i64 (x12 + (1:Int))) h4)
def f23K2 (J1:Nat→Option Addr→Sl→Int→Int→Addr→Int→Hp→Prop) (n1:Nat) (J2:Nat→Option Addr→Sl→Int→Int→Addr→Int→Int→Bool→Int→Hp→Prop) (n2:Nat) (x0:Option Addr) (x1:Sl) (x3:Int) (x4:Int) (x7:Addr) (x12:Int) (x13:Int) (x14:Bool) (x15:Int) (x45:Bool) (h:Hp) (R:Value→Hp→Prop):Prop :=
 Cond x45 (∃ m,m < n2∧J2 m x0 x1 x3 x4 x7 x12 x13 x14 (IntKind.wrap .i64 (x15 + (1:Int))) h) (Cond (x15 == (((x1.n:Nat):Int))) (Cond (!x14) (R ((.tuple #[.slice x1.a x1.n x1.c,.bool (x13 == (0:Int))]:Value)) h) (R (.tuple #[.slice x1.a x1.n x1.c,.bool false]:Value) h)) (Cond (!x14) (f23K3 J1 n1 x0 x1 x3 x4 x7 x12 x15 true h R) ((0 ≤ x15∧x15 < ((x1.n:Nat):Int))∧PtrOk x1.a fun p65=>∃ t67:Int,cell h (p65.add (x15.toNat * 4))=some (.int .i64 t67)∧Cond (x13 != t67) (f23K3 J1 n1 x0 x1 x3 x4 x7 x12 x15 true h R) (CallTo Try.prog 16 #[.pointer x0,.int .i64 x13] h fun r h5=>∃ t73:Bool,r=.bool t73∧f23K3 J1 n1 x0 x1 x3 x4 x7 x12 x15 (!t73) h5 R))))
def f23K1 (J1:Nat→Option Addr→Sl→Int→Int→Addr→Int→Hp→Prop) (n1:Nat) (x0:Option Addr) (x1:Sl) (x3:Int) (x4:Int) (x7:Addr) (x12:Int) (x22:Bool) (h:Hp) (R:Value→Hp→Prop):Prop :=
 Cond x22 (∃ t27_0:Int,cell h x7=some (.int .i64 t27_0)∧∃ t27_1:ByteArray,cell h (x7.add 1)=some (.string t27_1)∧CallTo Try.prog 26 #[.pointer x0,.agg #[.int .i64 t27_0,.string t27_1],.int .i64 x3] h fun r h2=>∃ t29_0:Int,∃ t29_1:Bool,r=.tuple #[.int .i64 t29_0,.bool t29_1]∧LoopEv (evC Try.prog tab lv23 (sub [1,0,1,0,0,1,0,0,1,1,0,0,0] body23)) (contAt Try.prog tab lv23 [1,0,1,0,0,1,0,0,1,1,0,0] body23 [loopK (f23I1 J1) n1] (bodyK Try.prog Try.f23 [] R)) [(0,.pointer x0),(1,.slice x1.a x1.n x1.c),(3,.int .i64 x3),(4,.int .i64 x4),(7,.pointer (some x7)),(12,.int .i64 x12),(13,.int .i64 t29_0),(14,.bool t29_1),(15,.int .i64 0)] 81 h2) (R (.tuple #[.slice x1.a x1.n x1.c,.bool true]:Value) h)
def f23L1 (J1:Nat→Option Addr→Sl→Int→Int→Addr→Int→Hp→Prop) (n1:Nat) (s0:Option Addr) (s1:Sl) (s3:Int) (s4:Int) (s7:Addr) (s12:Int) (g:Nat→Value) (h:Hp) (R:Value→Hp→Prop):Prop :=
 Cond (decide (s12 < s4)) (f23K1 J1 n1 s0 s1 s3 s4 s7 s12 (decide (s12 < (20:Int))) h R) (f23K1 J1 n1 s0 s1 s3 s4 s7 s12 false h R)
theorem f23L1_eq (J1:Nat→Option Addr→Sl→Int→Int→Addr→Int→Hp→Prop) (n1:Nat) (s0:Option Addr) (s1:Sl) (s3:Int) (s4:Int) (s7:Addr) (s12:Int) (g:Nat→Value) (h:Hp) (R:Value→Hp→Prop):(evC Try.prog tab lv23 (sub [1,0,1,0,0] body23)) (loopK (f23I1 J1) n1 (contAt Try.prog tab lv23 [1,0,1,0] body23 [] (bodyK Try.prog Try.f23 [] R))) (mkEnv 81 [(0,.pointer s0),(1,.slice s1.a s1.n s1.c),(3,.int .i64 s3),(4,.int .i64 s4),(7,.pointer (some s7)),(12,.int .i64 s12)] g) h=f23L1 J1 n1 s0 s1 s3 s4 s7 s12 g h R:=by kernel_rfl
theorem f23I1_at (J:Nat→Option Addr→Sl→Int→Int→Addr→Int→Hp→Prop) (n:Nat) (s0:Option Addr) (s1:Sl) (s3:Int) (s4:Int) (s7:Addr) (s12:Int) (g:Nat→Value) (h:Hp):f23I1 J n (mkEnv 81 [(0,.pointer s0),(1,.slice s1.a s1.n s1.c),(3,.int .i64 s3),(4,.int .i64 s4),(7,.pointer (some s7)),(12,.int .i64 s12)] g) h=J n s0 s1 s3 s4 s7 s12 h:=by kernel_rfl
theorem f23L1_rule  {R:Value→Hp→Prop} {s0:Option Addr} {s1:Sl} {s3:Int} {s4:Int} {s7:Addr} {s12:Int} {h0:Hp} (J:Nat→Option Addr→Sl→Int→Int→Addr→Int→Hp→Prop) (n0:Nat) (hi:J n0 s0 s1 s3 s4 s7 s12 h0)
  (hr:∀ n s0 s1 s3 s4 s7 s12 g h,J n s0 s1 s3 s4 s7 s12 h→f23L1  J n s0 s1 s3 s4 s7 s12 g h R):LoopEv (evC Try.prog tab lv23 (sub [1,0,1,0,0] body23)) (contAt Try.prog tab lv23 [1,0,1,0] body23 [] (bodyK Try.prog Try.f23 [] R)) [(0,.pointer s0),(1,.slice s1.a s1.n s1.c),(3,.int .i64 s3),(4,.int .i64 s4),(7,.pointer (some s7)),(12,.int .i64 s12)] 81 h0:=by
 refine ⟨f23I1 J,n0,fun g=>by rw [f23I1_at]; exact hi,fun n env h hI=>?_⟩
 clear hi
 clear s0 s1 s3 s4 s7 s12
 obtain ⟨hlen,hI⟩:=Cond_true' hI
 have hlen:env.length=81:=by simpa using hlen
 obtain ⟨s0,es0,hI⟩:=DecP.out hI
 obtain ⟨s1,es1,hI⟩:=DecL.out hI
 obtain ⟨s3,es3,hI⟩:=DecI.out hI
 obtain ⟨s4,es4,hI⟩:=DecI.out hI
 obtain ⟨s7,es7,hI⟩:=DecA.out hI
 obtain ⟨s12,es12,hI⟩:=DecI.out hI
 rw [mkEnv_of (l:=[(0,.pointer s0),(1,.slice s1.a s1.n s1.c),(3,.int .i64 s3),(4,.int .i64 s4),(7,.pointer (some s7)),(12,.int .i64 s12)]) hlen (by simp only [List.mem_cons,List.not_mem_nil,or_false,forall_eq_or_imp,forall_eq]; exact ⟨es0,es1,es3,es4,es7,es12⟩)]
 rw [f23L1_eq]
 exact hr n s0 s1 s3 s4 s7 s12 _ h hI
def f23L2 (J1:Nat→Option Addr→Sl→Int→Int→Addr→Int→Hp→Prop) (n1:Nat) (J2:Nat→Option Addr→Sl→Int→Int→Addr→Int→Int→Bool→Int→Hp→Prop) (n2:Nat) (s0:Option Addr) (s1:Sl) (s3:Int) (s4:Int) (s7:Addr) (s12:Int) (s13:Int) (s14:Bool) (s15:Int) (g:Nat→Value) (h:Hp) (R:Value→Hp→Prop):Prop :=
 Cond (decide (s15 < (((s1.n:Nat):Int)))) ((0 ≤ s15∧s15 < ((s1.n:Nat):Int))∧PtrOk s1.a fun p39=>∃ t40_0:Int,cell h (p39.add (s15.toNat * 4))=some (.int .i64 t40_0)∧∃ t40_1:Int,cell h ((p39.add (s15.toNat * 4)).add 1)=some (.int .i64 t40_1)∧∃ t40_2:Sl,cell h ((p39.add (s15.toNat * 4)).add 2)=some (.slice t40_2.a t40_2.n t40_2.c)∧∃ t40_3:Int,cell h ((p39.add (s15.toNat * 4)).add 3)=some (.int .u64 t40_3)∧∃ t41_0:Int,cell h s7=some (.int .i64 t41_0)∧∃ t41_1:ByteArray,cell h (s7.add 1)=some (.string t41_1)∧CallTo Try.prog 41 #[.agg #[.int .i64 t40_0,.int .i64 t40_1,.slice t40_2.a t40_2.n t40_2.c,.int .u64 t40_3],.agg #[.int .i64 t41_0,.string t41_1],.int .i64 s3] h fun r h3=>∃ t43:Bool,r=.bool t43∧f23K2 J1 n1 J2 n2 s0 s1 s3 s4 s7 s12 s13 s14 s15 (!t43) h3 R) (f23K2 J1 n1 J2 n2 s0 s1 s3 s4 s7 s12 s13 s14 s15 false h R)
theorem f23L2_eq (J1:Nat→Option Addr→Sl→Int→Int→Addr→Int→Hp→Prop) (n1:Nat) (J2:Nat→Option Addr→Sl→Int→Int→Addr→Int→Int→Bool→Int→Hp→Prop) (n2:Nat) (s0:Option Addr) (s1:Sl) (s3:Int) (s4:Int) (s7:Addr) (s12:Int) (s13:Int) (s14:Bool) (s15:Int) (g:Nat→Value) (h:Hp) (R:Value→Hp→Prop):(evC Try.prog tab lv23 (sub [1,0,1,0,0,1,0,0,1,1,0,0,0] body23)) (loopK (f23I2 J2) n2 (contAt Try.prog tab lv23 [1,0,1,0,0,1,0,0,1,1,0,0] body23 [loopK (f23I1 J1) n1] (bodyK Try.prog Try.f23 [] R))) (mkEnv 81 [(0,.pointer s0),(1,.slice s1.a s1.n s1.c),(3,.int .i64 s3),(4,.int .i64 s4),(7,.pointer (some s7)),(12,.int .i64 s12),(13,.int .i64 s13),(14,.bool s14),(15,.int .i64 s15)] g) h=f23L2 J1 n1 J2 n2 s0 s1 s3 s4 s7 s12 s13 s14 s15 g h R:=by kernel_rfl
theorem f23I2_at (J:Nat→Option Addr→Sl→Int→Int→Addr→Int→Int→Bool→Int→Hp→Prop) (n:Nat) (s0:Option Addr) (s1:Sl) (s3:Int) (s4:Int) (s7:Addr) (s12:Int) (s13:Int) (s14:Bool) (s15:Int) (g:Nat→Value) (h:Hp):f23I2 J n (mkEnv 81 [(0,.pointer s0),(1,.slice s1.a s1.n s1.c),(3,.int .i64 s3),(4,.int .i64 s4),(7,.pointer (some s7)),(12,.int .i64 s12),(13,.int .i64 s13),(14,.bool s14),(15,.int .i64 s15)] g) h=J n s0 s1 s3 s4 s7 s12 s13 s14 s15 h:=by kernel_rfl
theorem f23L2_rule {J1:Nat→Option Addr→Sl→Int→Int→Addr→Int→Hp→Prop} {n1:Nat} {R:Value→Hp→Prop} {s0:Option Addr} {s1:Sl} {s3:Int} {s4:Int} {s7:Addr} {s12:Int} {s13:Int} {s14:Bool} {s15:Int} {h0:Hp} (J:Nat→Option Addr→Sl→Int→Int→Addr→Int→Int→Bool→Int→Hp→Prop) (n0:Nat) (hi:J n0 s0 s1 s3 s4 s7 s12 s13 s14 s15 h0)
  (hr:∀ n s0 s1 s3 s4 s7 s12 s13 s14 s15 g h,J n s0 s1 s3 s4 s7 s12 s13 s14 s15 h→f23L2 J1 n1 J n s0 s1 s3 s4 s7 s12 s13 s14 s15 g h R):LoopEv (evC Try.prog tab lv23 (sub [1,0,1,0,0,1,0,0,1,1,0,0,0] body23)) (contAt Try.prog tab lv23 [1,0,1,0,0,1,0,0,1,1,0,0] body23 [loopK (f23I1 J1) n1] (bodyK Try.prog Try.f23 [] R)) [(0,.pointer s0),(1,.slice s1.a s1.n s1.c),(3,.int .i64 s3),(4,.int .i64 s4),(7,.pointer (some s7)),(12,.int .i64 s12),(13,.int .i64 s13),(14,.bool s14),(15,.int .i64 s15)] 81 h0:=by
 refine ⟨f23I2 J,n0,fun g=>by rw [f23I2_at]; exact hi,fun n env h hI=>?_⟩
 clear hi
 clear s0 s1 s3 s4 s7 s12 s13 s14 s15
 obtain ⟨hlen,hI⟩:=Cond_true' hI
 have hlen:env.length=81:=by simpa using hlen
 obtain ⟨s0,es0,hI⟩:=DecP.out hI
 obtain ⟨s1,es1,hI⟩:=DecL.out hI
 obtain ⟨s3,es3,hI⟩:=DecI.out hI
 obtain ⟨s4,es4,hI⟩:=DecI.out hI
 obtain ⟨s7,es7,hI⟩:=DecA.out hI
 obtain ⟨s12,es12,hI⟩:=DecI.out hI
 obtain ⟨s13,es13,hI⟩:=DecI.out hI
 obtain ⟨s14,es14,hI⟩:=DecB.out hI
 obtain ⟨s15,es15,hI⟩:=DecI.out hI
 rw [mkEnv_of (l:=[(0,.pointer s0),(1,.slice s1.a s1.n s1.c),(3,.int .i64 s3),(4,.int .i64 s4),(7,.pointer (some s7)),(12,.int .i64 s12),(13,.int .i64 s13),(14,.bool s14),(15,.int .i64 s15)]) hlen (by simp only [List.mem_cons,List.not_mem_nil,or_false,forall_eq_or_imp,forall_eq]; exact ⟨es0,es1,es3,es4,es7,es12,es13,es14,es15⟩)]
 rw [f23L2_eq]
 exact hr n s0 s1 s3 s4 s7 s12 s13 s14 s15 _ h hI
def f23F (a0:Option Addr) (a1:Sl) (a2_0:Int) (a2_1:ByteArray) (a3:Int) (a4:Int) (h:Hp) (R:Value→Hp→Prop):Prop :=
 Let (h.push (.cells #[.int .i64 a2_0,.string a2_1] 40)) fun h1=>LoopEv (evC Try.prog tab lv23 (sub [1,0,1,0,0] body23)) (contAt Try.prog tab lv23 [1,0,1,0] body23 [] (bodyK Try.prog Try.f23 [] R)) [(0,.pointer a0),(1,.slice a1.a a1.n a1.c),(3,.int .i64 a3),(4,.int .i64 a4),(7,.pointer (some (nb h))),(12,.int .i64 0)] 81 h1
theorem f23F_eq (a0:Option Addr) (a1:Sl) (a2_0:Int) (a2_1:ByteArray) (a3:Int) (a4:Int) (h:Hp) (R:Value→Hp→Prop):evF Try.prog tab lv23 Try.f23 body23 [] [.pointer a0,.slice a1.a a1.n a1.c,.agg #[.int .i64 a2_0,.string a2_1],.int .i64 a3,.int .i64 a4] h R=f23F a0 a1 a2_0 a2_1 a3 a4 h R:=by kernel_rfl
theorem f23F_ok {a0:Option Addr} {a1:Sl} {a2_0:Int} {a2_1:ByteArray} {a3:Int} {a4:Int} {h:Hp} {R:Value→Hp→Prop} (hF:f23F a0 a1 a2_0 a2_1 a3 a4 h R):CallTo Try.prog 23 #[.pointer a0,.slice a1.a a1.n a1.c,.agg #[.int .i64 a2_0,.string a2_1],.int .i64 a3,.int .i64 a4] h R :=
 callTo_of_ev (lv:=lv23) (hints:=[]) (c:=body23) (args:=[.pointer a0,.slice a1.a a1.n a1.c,.agg #[.int .i64 a2_0,.string a2_1],.int .i64 a3,.int .i64 a4]) mixed tab_ok Try.func23 (by kernel_rfl) (by kernel_rfl) (by rw [f23F_eq]; exact hF)
/- (*larder/larderlaw18.side).plays -/
/- larder/larderlaw18.leave -/
noncomputable def body38:Code:=(Try.f38.body).getD .skip
def lv38 (m:Nat):List Nat:=if m=4 then [0,1,2,8,9,10] else if m=7 then [0,1,2,8,9,10,11] else if m=14 then [0,1,2,12] else []
def f38I1 (J:Nat→Option Addr→Sl→Int→Sl→Int→Int→Hp→Prop) (n:Nat) (env:List Value) (h:Hp):Prop:=lenIs env 116 (DecP env 0 fun s0=>DecL env 1 fun s1=>DecI .u64 env 2 fun s2=>DecL env 8 fun s8=>DecI .u64 env 9 fun s9=>DecI .i64 env 10 fun s10=>J n s0 s1 s2 s8 s9 s10 h)
def f38I2 (J:Nat→Option Addr→Sl→Int→Sl→Int→Int→Int→Hp→Prop) (n:Nat) (env:List Value) (h:Hp):Prop:=lenIs env 116 (DecP env 0 fun s0=>DecL env 1 fun s1=>DecI .u64 env 2 fun s2=>DecL env 8 fun s8=>DecI .u64 env 9 fun s9=>DecI .i64 env 10 fun s10=>DecI .i64 env 11 fun s11=>J n s0 s1 s2 s8 s9 s10 s11 h)
def f38I3 (J:Nat→Option Addr→Sl→Int→Int→Hp→Prop) (n:Nat) (env:List Value) (h:Hp):Prop:=lenIs env 116 (DecP env 0 fun s0=>DecL env 1 fun s1=>DecI .u64 env 2 fun s2=>DecI .i64 env 12 fun s12=>J n s0 s1 s2 s12 h)
def f38K2 (J1:Nat→Option Addr→Sl→Int→Sl→Int→Int→Hp→Prop) (n1:Nat) (x0:Option Addr) (x1:Sl) (x2:Int) (x8:Sl) (x10:Int) (x11:Int) (x78:Bool) (h:Hp) (R:Value→Hp→Prop):Prop :=
 Cond x78 (R (.tuple #[.slice x1.a x1.n x1.c,.bool false]:Value) h) ((0 ≤ x11∧x11 < ((x1.n:Nat):Int))∧PtrOk x1.a fun p82=>∃ t84:Int,cell h ((p82.add (x11.toNat * 4)).add 3)=some (.int .u64 t84)∧CallTo Try.prog 42 #[.slice x1.a x1.n x1.c,.int .i64 x11] h fun r h2=>∃ t87:Sl,r=.slice t87.a t87.n t87.c∧∃ m,m < n1∧J1 m x0 t87 x2 x8 t84 (IntKind.wrap .i64 (x10 + (1:Int))) h2)
def f38K1 (J1:Nat→Option Addr→Sl→Int→Sl→Int→Int→Hp→Prop) (n1:Nat) (J2:Nat→Option Addr→Sl→Int→Sl→Int→Int→Int→Hp→Prop) (n2:Nat) (x0:Option Addr) (x1:Sl) (x2:Int) (x8:Sl) (x9:Int) (x10:Int) (x11:Int) (x37:Bool) (h:Hp) (R:Value→Hp→Prop):Prop :=
 Cond x37 (∃ m,m < n2∧J2 m x0 x1 x2 x8 x9 x10 (IntKind.wrap .i64 (x11 + (1:Int))) h) (Cond (x11 == (((x1.n:Nat):Int))) (f38K2 J1 n1 x0 x1 x2 x8 x10 x11 true h R) ((0 ≤ x11∧x11 < ((x1.n:Nat):Int))∧PtrOk x1.a fun p47=>∃ t49:Int,cell h ((p47.add (x11.toNat * 4)).add 3)=some (.int .u64 t49)∧Cond (t49 == (0:Int)) (f38K2 J1 n1 x0 x1 x2 x8 x10 x11 true h R) ((0 ≤ x11∧x11 < ((x1.n:Nat):Int))∧PtrOk x1.a fun p55=>∃ t57:Int,cell h ((p55.add (x11.toNat * 4)).add 3)=some (.int .u64 t57)∧Cond (decide (t57 > x2)) (f38K2 J1 n1 x0 x1 x2 x8 x10 x11 true h R) ((0 ≤ x11∧x11 < ((x1.n:Nat):Int))∧PtrOk x1.a fun p64=>∃ t66:Int,cell h ((p64.add (x11.toNat * 4)).add 3)=some (.int .u64 t66)∧Cond (decide (t66 < x9)) (f38K2 J1 n1 x0 x1 x2 x8 x10 x11 true h R) ((0 ≤ x10∧x10 < ((x8.n:Nat):Int))∧PtrOk x8.a fun p74=>∃ t75:Int,cell h (p74.add (x10.toNat * 1))=some (.int .i64 t75)∧CallTo Try.prog 16 #[.pointer x0,.int .i64 t75] h fun r h3=>∃ t76:Bool,r=.bool t76∧f38K2 J1 n1 x0 x1 x2 x8 x10 x11 (!t76) h3 R)))))
def f38K3 (J3:Nat→Option Addr→Sl→Int→Int→Hp→Prop) (n3:Nat) (x0:Option Addr) (x1:Sl) (x2:Int) (x12:Int) (x108:Bool) (h:Hp) (R:Value→Hp→Prop):Prop :=
 Cond x108 (R (.tuple #[.slice x1.a x1.n x1.c,.bool false]:Value) h) (∃ m,m < n3∧J3 m x0 x1 x2 (IntKind.wrap .i64 (x12 + (1:Int))) h)
def f38L1 (J1:Nat→Option Addr→Sl→Int→Sl→Int→Int→Hp→Prop) (n1:Nat) (s0:Option Addr) (s1:Sl) (s2:Int) (s8:Sl) (s9:Int) (s10:Int) (g:Nat→Value) (h:Hp) (R:Value→Hp→Prop):Prop :=
 Cond (decide (s10 < (((s8.n:Nat):Int)))) (LoopEv (evC Try.prog tab lv38 (sub [1,1,1,0,1,0,0,1,0,0,1,0,0,0] body38)) (contAt Try.prog tab lv38 [1,1,1,0,1,0,0,1,0,0,1,0,0] body38 [loopK (f38I1 J1) n1] (bodyK Try.prog Try.f38 [] R)) [(0,.pointer s0),(1,.slice s1.a s1.n s1.c),(2,.int .u64 s2),(8,.slice s8.a s8.n s8.c),(9,.int .u64 s9),(10,.int .i64 s10),(11,.int .i64 0)] 116 h) (LoopEv (evC Try.prog tab lv38 (sub [1,1,1,1,0,1,0,0] body38)) (contAt Try.prog tab lv38 [1,1,1,1,0,1,0] body38 [] (bodyK Try.prog Try.f38 [] R)) [(0,.pointer s0),(1,.slice s1.a s1.n s1.c),(2,.int .u64 s2),(12,.int .i64 0)] 116 h)
theorem f38L1_eq (J1:Nat→Option Addr→Sl→Int→Sl→Int→Int→Hp→Prop) (n1:Nat) (s0:Option Addr) (s1:Sl) (s2:Int) (s8:Sl) (s9:Int) (s10:Int) (g:Nat→Value) (h:Hp) (R:Value→Hp→Prop):(evC Try.prog tab lv38 (sub [1,1,1,0,1,0,0] body38)) (loopK (f38I1 J1) n1 (contAt Try.prog tab lv38 [1,1,1,0,1,0] body38 [] (bodyK Try.prog Try.f38 [] R))) (mkEnv 116 [(0,.pointer s0),(1,.slice s1.a s1.n s1.c),(2,.int .u64 s2),(8,.slice s8.a s8.n s8.c),(9,.int .u64 s9),(10,.int .i64 s10)] g) h=f38L1 J1 n1 s0 s1 s2 s8 s9 s10 g h R:=by kernel_rfl
theorem f38I1_at (J:Nat→Option Addr→Sl→Int→Sl→Int→Int→Hp→Prop) (n:Nat) (s0:Option Addr) (s1:Sl) (s2:Int) (s8:Sl) (s9:Int) (s10:Int) (g:Nat→Value) (h:Hp):f38I1 J n (mkEnv 116 [(0,.pointer s0),(1,.slice s1.a s1.n s1.c),(2,.int .u64 s2),(8,.slice s8.a s8.n s8.c),(9,.int .u64 s9),(10,.int .i64 s10)] g) h=J n s0 s1 s2 s8 s9 s10 h:=by kernel_rfl
theorem f38L1_rule  {R:Value→Hp→Prop} {s0:Option Addr} {s1:Sl} {s2:Int} {s8:Sl} {s9:Int} {s10:Int} {h0:Hp} (J:Nat→Option Addr→Sl→Int→Sl→Int→Int→Hp→Prop) (n0:Nat) (hi:J n0 s0 s1 s2 s8 s9 s10 h0)
  (hr:∀ n s0 s1 s2 s8 s9 s10 g h,J n s0 s1 s2 s8 s9 s10 h→f38L1  J n s0 s1 s2 s8 s9 s10 g h R):LoopEv (evC Try.prog tab lv38 (sub [1,1,1,0,1,0,0] body38)) (contAt Try.prog tab lv38 [1,1,1,0,1,0] body38 [] (bodyK Try.prog Try.f38 [] R)) [(0,.pointer s0),(1,.slice s1.a s1.n s1.c),(2,.int .u64 s2),(8,.slice s8.a s8.n s8.c),(9,.int .u64 s9),(10,.int .i64 s10)] 116 h0:=by
 refine ⟨f38I1 J,n0,fun g=>by rw [f38I1_at]; exact hi,fun n env h hI=>?_⟩
 clear hi
 clear s0 s1 s2 s8 s9 s10
 obtain ⟨hlen,hI⟩:=Cond_true' hI
 have hlen:env.length=116:=by simpa using hlen
 obtain ⟨s0,es0,hI⟩:=DecP.out hI
 obtain ⟨s1,es1,hI⟩:=DecL.out hI
 obtain ⟨s2,es2,hI⟩:=DecI.out hI
 obtain ⟨s8,es8,hI⟩:=DecL.out hI
 obtain ⟨s9,es9,hI⟩:=DecI.out hI
 obtain ⟨s10,es10,hI⟩:=DecI.out hI
 rw [mkEnv_of (l:=[(0,.pointer s0),(1,.slice s1.a s1.n s1.c),(2,.int .u64 s2),(8,.slice s8.a s8.n s8.c),(9,.int .u64 s9),(10,.int .i64 s10)]) hlen (by simp only [List.mem_cons,List.not_mem_nil,or_false,forall_eq_or_imp,forall_eq]; exact ⟨es0,es1,es2,es8,es9,es10⟩)]
 rw [f38L1_eq]
 exact hr n s0 s1 s2 s8 s9 s10 _ h hI
def f38L2 (J1:Nat→Option Addr→Sl→Int→Sl→Int→Int→Hp→Prop) (n1:Nat) (J2:Nat→Option Addr→Sl→Int→Sl→Int→Int→Int→Hp→Prop) (n2:Nat) (s0:Option Addr) (s1:Sl) (s2:Int) (s8:Sl) (s9:Int) (s10:Int) (s11:Int) (g:Nat→Value) (h:Hp) (R:Value→Hp→Prop):Prop :=
 Cond (decide (s11 < (((s1.n:Nat):Int)))) ((0 ≤ s11∧s11 < ((s1.n:Nat):Int))∧PtrOk s1.a fun p29=>∃ t31:Int,cell h (p29.add (s11.toNat * 4))=some (.int .i64 t31)∧(0 ≤ s10∧s10 < ((s8.n:Nat):Int))∧PtrOk s8.a fun p34=>∃ t35:Int,cell h (p34.add (s10.toNat * 1))=some (.int .i64 t35)∧f38K1 J1 n1 J2 n2 s0 s1 s2 s8 s9 s10 s11 (t31 != t35) h R) (f38K1 J1 n1 J2 n2 s0 s1 s2 s8 s9 s10 s11 false h R)
theorem f38L2_eq (J1:Nat→Option Addr→Sl→Int→Sl→Int→Int→Hp→Prop) (n1:Nat) (J2:Nat→Option Addr→Sl→Int→Sl→Int→Int→Int→Hp→Prop) (n2:Nat) (s0:Option Addr) (s1:Sl) (s2:Int) (s8:Sl) (s9:Int) (s10:Int) (s11:Int) (g:Nat→Value) (h:Hp) (R:Value→Hp→Prop):(evC Try.prog tab lv38 (sub [1,1,1,0,1,0,0,1,0,0,1,0,0,0] body38)) (loopK (f38I2 J2) n2 (contAt Try.prog tab lv38 [1,1,1,0,1,0,0,1,0,0,1,0,0] body38 [loopK (f38I1 J1) n1] (bodyK Try.prog Try.f38 [] R))) (mkEnv 116 [(0,.pointer s0),(1,.slice s1.a s1.n s1.c),(2,.int .u64 s2),(8,.slice s8.a s8.n s8.c),(9,.int .u64 s9),(10,.int .i64 s10),(11,.int .i64 s11)] g) h=f38L2 J1 n1 J2 n2 s0 s1 s2 s8 s9 s10 s11 g h R:=by kernel_rfl
theorem f38I2_at (J:Nat→Option Addr→Sl→Int→Sl→Int→Int→Int→Hp→Prop) (n:Nat) (s0:Option Addr) (s1:Sl) (s2:Int) (s8:Sl) (s9:Int) (s10:Int) (s11:Int) (g:Nat→Value) (h:Hp):f38I2 J n (mkEnv 116 [(0,.pointer s0),(1,.slice s1.a s1.n s1.c),(2,.int .u64 s2),(8,.slice s8.a s8.n s8.c),(9,.int .u64 s9),(10,.int .i64 s10),(11,.int .i64 s11)] g) h=J n s0 s1 s2 s8 s9 s10 s11 h:=by kernel_rfl
theorem f38L2_rule {J1:Nat→Option Addr→Sl→Int→Sl→Int→Int→Hp→Prop} {n1:Nat} {R:Value→Hp→Prop} {s0:Option Addr} {s1:Sl} {s2:Int} {s8:Sl} {s9:Int} {s10:Int} {s11:Int} {h0:Hp} (J:Nat→Option Addr→Sl→Int→Sl→Int→Int→Int→Hp→Prop) (n0:Nat) (hi:J n0 s0 s1 s2 s8 s9 s10 s11 h0)
  (hr:∀ n s0 s1 s2 s8 s9 s10 s11 g h,J n s0 s1 s2 s8 s9 s10 s11 h→f38L2 J1 n1 J n s0 s1 s2 s8 s9 s10 s11 g h R):LoopEv (evC Try.prog tab lv38 (sub [1,1,1,0,1,0,0,1,0,0,1,0,0,0] body38)) (contAt Try.prog tab lv38 [1,1,1,0,1,0,0,1,0,0,1,0,0] body38 [loopK (f38I1 J1) n1] (bodyK Try.prog Try.f38 [] R)) [(0,.pointer s0),(1,.slice s1.a s1.n s1.c),(2,.int .u64 s2),(8,.slice s8.a s8.n s8.c),(9,.int .u64 s9),(10,.int .i64 s10),(11,.int .i64 s11)] 116 h0:=by
 refine ⟨f38I2 J,n0,fun g=>by rw [f38I2_at]; exact hi,fun n env h hI=>?_⟩
 clear hi
 clear s0 s1 s2 s8 s9 s10 s11
 obtain ⟨hlen,hI⟩:=Cond_true' hI
 have hlen:env.length=116:=by simpa using hlen
 obtain ⟨s0,es0,hI⟩:=DecP.out hI
 obtain ⟨s1,es1,hI⟩:=DecL.out hI
 obtain ⟨s2,es2,hI⟩:=DecI.out hI
 obtain ⟨s8,es8,hI⟩:=DecL.out hI
 obtain ⟨s9,es9,hI⟩:=DecI.out hI
 obtain ⟨s10,es10,hI⟩:=DecI.out hI
 obtain ⟨s11,es11,hI⟩:=DecI.out hI
 rw [mkEnv_of (l:=[(0,.pointer s0),(1,.slice s1.a s1.n s1.c),(2,.int .u64 s2),(8,.slice s8.a s8.n s8.c),(9,.int .u64 s9),(10,.int .i64 s10),(11,.int .i64 s11)]) hlen (by simp only [List.mem_cons,List.not_mem_nil,or_false,forall_eq_or_imp,forall_eq]; exact ⟨es0,es1,es2,es8,es9,es10,es11⟩)]
 rw [f38L2_eq]
 exact hr n s0 s1 s2 s8 s9 s10 s11 _ h hI
def f38L3 (J3:Nat→Option Addr→Sl→Int→Int→Hp→Prop) (n3:Nat) (s0:Option Addr) (s1:Sl) (s2:Int) (s12:Int) (g:Nat→Value) (h:Hp) (R:Value→Hp→Prop):Prop :=
 Cond (decide (s12 < (((s1.n:Nat):Int)))) ((0 ≤ s12∧s12 < ((s1.n:Nat):Int))∧PtrOk s1.a fun p96=>∃ t98:Int,cell h ((p96.add (s12.toNat * 4)).add 3)=some (.int .u64 t98)∧Cond (t98 != (0:Int)) ((0 ≤ s12∧s12 < ((s1.n:Nat):Int))∧PtrOk s1.a fun p103=>∃ t105:Int,cell h ((p103.add (s12.toNat * 4)).add 3)=some (.int .u64 t105)∧f38K3 J3 n3 s0 s1 s2 s12 (decide (t105 ≤ s2)) h R) (f38K3 J3 n3 s0 s1 s2 s12 false h R)) (CallTo Try.prog 14 #[.pointer s0,.int .u64 s2] h fun r h4=>∃ t113:Sl,r=.slice t113.a t113.n t113.c∧R ((.tuple #[.slice s1.a s1.n s1.c,.bool ((((t113.n:Nat):Int)) == (0:Int))]:Value)) h4)
theorem f38L3_eq (J3:Nat→Option Addr→Sl→Int→Int→Hp→Prop) (n3:Nat) (s0:Option Addr) (s1:Sl) (s2:Int) (s12:Int) (g:Nat→Value) (h:Hp) (R:Value→Hp→Prop):(evC Try.prog tab lv38 (sub [1,1,1,1,0,1,0,0] body38)) (loopK (f38I3 J3) n3 (contAt Try.prog tab lv38 [1,1,1,1,0,1,0] body38 [] (bodyK Try.prog Try.f38 [] R))) (mkEnv 116 [(0,.pointer s0),(1,.slice s1.a s1.n s1.c),(2,.int .u64 s2),(12,.int .i64 s12)] g) h=f38L3 J3 n3 s0 s1 s2 s12 g h R:=by kernel_rfl
theorem f38I3_at (J:Nat→Option Addr→Sl→Int→Int→Hp→Prop) (n:Nat) (s0:Option Addr) (s1:Sl) (s2:Int) (s12:Int) (g:Nat→Value) (h:Hp):f38I3 J n (mkEnv 116 [(0,.pointer s0),(1,.slice s1.a s1.n s1.c),(2,.int .u64 s2),(12,.int .i64 s12)] g) h=J n s0 s1 s2 s12 h:=by kernel_rfl
theorem f38L3_rule  {R:Value→Hp→Prop} {s0:Option Addr} {s1:Sl} {s2:Int} {s12:Int} {h0:Hp} (J:Nat→Option Addr→Sl→Int→Int→Hp→Prop) (n0:Nat) (hi:J n0 s0 s1 s2 s12 h0)
  (hr:∀ n s0 s1 s2 s12 g h,J n s0 s1 s2 s12 h→f38L3  J n s0 s1 s2 s12 g h R):LoopEv (evC Try.prog tab lv38 (sub [1,1,1,1,0,1,0,0] body38)) (contAt Try.prog tab lv38 [1,1,1,1,0,1,0] body38 [] (bodyK Try.prog Try.f38 [] R)) [(0,.pointer s0),(1,.slice s1.a s1.n s1.c),(2,.int .u64 s2),(12,.int .i64 s12)] 116 h0:=by
 refine ⟨f38I3 J,n0,fun g=>by rw [f38I3_at]; exact hi,fun n env h hI=>?_⟩
 clear hi
 clear s0 s1 s2 s12
 obtain ⟨hlen,hI⟩:=Cond_true' hI
 have hlen:env.length=116:=by simpa using hlen
 obtain ⟨s0,es0,hI⟩:=DecP.out hI
 obtain ⟨s1,es1,hI⟩:=DecL.out hI
 obtain ⟨s2,es2,hI⟩:=DecI.out hI
 obtain ⟨s12,es12,hI⟩:=DecI.out hI
 rw [mkEnv_of (l:=[(0,.pointer s0),(1,.slice s1.a s1.n s1.c),(2,.int .u64 s2),(12,.int .i64 s12)]) hlen (by simp only [List.mem_cons,List.not_mem_nil,or_false,forall_eq_or_imp,forall_eq]; exact ⟨es0,es1,es2,es12⟩)]
 rw [f38L3_eq]
 exact hr n s0 s1 s2 s12 _ h hI
def f38F (a0:Option Addr) (a1:Sl) (a2:Int) (h:Hp) (R:Value→Hp→Prop):Prop :=
 CallTo Try.prog 14 #[.pointer a0,.int .u64 a2] h fun r h1=>∃ t15:Sl,r=.slice t15.a t15.n t15.c∧LoopEv (evC Try.prog tab lv38 (sub [1,1,1,0,1,0,0] body38)) (contAt Try.prog tab lv38 [1,1,1,0,1,0] body38 [] (bodyK Try.prog Try.f38 [] R)) [(0,.pointer a0),(1,.slice a1.a a1.n a1.c),(2,.int .u64 a2),(8,.slice t15.a t15.n t15.c),(9,.int .u64 0),(10,.int .i64 0)] 116 h1
theorem f38F_eq (a0:Option Addr) (a1:Sl) (a2:Int) (h:Hp) (R:Value→Hp→Prop):evF Try.prog tab lv38 Try.f38 body38 [] [.pointer a0,.slice a1.a a1.n a1.c,.int .u64 a2] h R=f38F a0 a1 a2 h R:=by kernel_rfl
theorem f38F_ok {a0:Option Addr} {a1:Sl} {a2:Int} {h:Hp} {R:Value→Hp→Prop} (hF:f38F a0 a1 a2 h R):CallTo Try.prog 38 #[.pointer a0,.slice a1.a a1.n a1.c,.int .u64 a2] h R :=
 callTo_of_ev (lv:=lv38) (hints:=[]) (c:=body38) (args:=[.pointer a0,.slice a1.a a1.n a1.c,.int .u64 a2]) mixed tab_ok Try.func38 (by kernel_rfl) (by kernel_rfl) (by rw [f38F_eq]; exact hF)
/- larder/larderlaw18.same -/
noncomputable def body39:Code:=(Try.f39.body).getD .skip
def lv39 (m:Nat):List Nat:=if m=4 then [0,1,5] else []
def f39I1 (J:Nat→Sl→Sl→Int→Hp→Prop) (n:Nat) (env:List Value) (h:Hp):Prop:=lenIs env 41 (DecL env 0 fun s0=>DecL env 1 fun s1=>DecI .i64 env 5 fun s5=>J n s0 s1 s5 h)
def f39K1 (J1:Nat→Sl→Sl→Int→Hp→Prop) (n1:Nat) (x0:Sl) (x1:Sl) (x5:Int) (x40:Bool) (h:Hp) (R:Value→Hp→Prop):Prop :=
 Cond x40 (R (.bool false:Value) h) (∃ m,m < n1∧J1 m x0 x1 (IntKind.wrap .i64 (x5 + (1:Int))) h)
def f39L1 (J1:Nat→Sl→Sl→Int→Hp→Prop) (n1:Nat) (s0:Sl) (s1:Sl) (s5:Int) (g:Nat→Value) (h:Hp) (R:Value→Hp→Prop):Prop :=
 Cond (decide (s5 < (((s0.n:Nat):Int)))) ((0 ≤ s5∧s5 < ((s0.n:Nat):Int))∧PtrOk s0.a fun p19=>∃ t21:Int,cell h (p19.add (s5.toNat * 2))=some (.int .i64 t21)∧(0 ≤ s5∧s5 < ((s1.n:Nat):Int))∧PtrOk s1.a fun p24=>∃ t26:Int,cell h (p24.add (s5.toNat * 2))=some (.int .i64 t26)∧Cond (t21 != t26) (f39K1 J1 n1 s0 s1 s5 true h R) ((0 ≤ s5∧s5 < ((s0.n:Nat):Int))∧PtrOk s0.a fun p31=>∃ t33:ByteArray,cell h ((p31.add (s5.toNat * 2)).add 1)=some (.string t33)∧(0 ≤ s5∧s5 < ((s1.n:Nat):Int))∧PtrOk s1.a fun p36=>∃ t38:ByteArray,cell h ((p36.add (s5.toNat * 2)).add 1)=some (.string t38)∧f39K1 J1 n1 s0 s1 s5 (!((ByteArray.toList t33) == (ByteArray.toList t38))) h R)) (R (.bool true:Value) h)
theorem f39L1_eq (J1:Nat→Sl→Sl→Int→Hp→Prop) (n1:Nat) (s0:Sl) (s1:Sl) (s5:Int) (g:Nat→Value) (h:Hp) (R:Value→Hp→Prop):(evC Try.prog tab lv39 (sub [1,1,0,1,0,0] body39)) (loopK (f39I1 J1) n1 (contAt Try.prog tab lv39 [1,1,0,1,0] body39 [] (bodyK Try.prog Try.f39 [] R))) (mkEnv 41 [(0,.slice s0.a s0.n s0.c),(1,.slice s1.a s1.n s1.c),(5,.int .i64 s5)] g) h=f39L1 J1 n1 s0 s1 s5 g h R:=by kernel_rfl
theorem f39I1_at (J:Nat→Sl→Sl→Int→Hp→Prop) (n:Nat) (s0:Sl) (s1:Sl) (s5:Int) (g:Nat→Value) (h:Hp):f39I1 J n (mkEnv 41 [(0,.slice s0.a s0.n s0.c),(1,.slice s1.a s1.n s1.c),(5,.int .i64 s5)] g) h=J n s0 s1 s5 h:=by kernel_rfl
theorem f39L1_rule  {R:Value→Hp→Prop} {s0:Sl} {s1:Sl} {s5:Int} {h0:Hp} (J:Nat→Sl→Sl→Int→Hp→Prop) (n0:Nat) (hi:J n0 s0 s1 s5 h0)
  (hr:∀ n s0 s1 s5 g h,J n s0 s1 s5 h→f39L1  J n s0 s1 s5 g h R):LoopEv (evC Try.prog tab lv39 (sub [1,1,0,1,0,0] body39)) (contAt Try.prog tab lv39 [1,1,0,1,0] body39 [] (bodyK Try.prog Try.f39 [] R)) [(0,.slice s0.a s0.n s0.c),(1,.slice s1.a s1.n s1.c),(5,.int .i64 s5)] 41 h0:=by
 refine ⟨f39I1 J,n0,fun g=>by rw [f39I1_at]; exact hi,fun n env h hI=>?_⟩
 clear hi
 clear s0 s1 s5
 obtain ⟨hlen,hI⟩:=Cond_true' hI
 have hlen:env.length=41:=by simpa using hlen
 obtain ⟨s0,es0,hI⟩:=DecL.out hI
 obtain ⟨s1,es1,hI⟩:=DecL.out hI
 obtain ⟨s5,es5,hI⟩:=DecI.out hI
 rw [mkEnv_of (l:=[(0,.slice s0.a s0.n s0.c),(1,.slice s1.a s1.n s1.c),(5,.int .i64 s5)]) hlen (by simp only [List.mem_cons,List.not_mem_nil,or_false,forall_eq_or_imp,forall_eq]; exact ⟨es0,es1,es5⟩)]
 rw [f39L1_eq]
 exact hr n s0 s1 s5 _ h hI
def f39F (a0:Sl) (a1:Sl) (h:Hp) (R:Value→Hp→Prop):Prop :=
 Cond ((((a0.n:Nat):Int)) != (((a1.n:Nat):Int))) (R (.bool false:Value) h) (LoopEv (evC Try.prog tab lv39 (sub [1,1,0,1,0,0] body39)) (contAt Try.prog tab lv39 [1,1,0,1,0] body39 [] (bodyK Try.prog Try.f39 [] R)) [(0,.slice a0.a a0.n a0.c),(1,.slice a1.a a1.n a1.c),(5,.int .i64 0)] 41 h)
theorem f39F_eq (a0:Sl) (a1:Sl) (h:Hp) (R:Value→Hp→Prop):evF Try.prog tab lv39 Try.f39 body39 [] [.slice a0.a a0.n a0.c,.slice a1.a a1.n a1.c] h R=f39F a0 a1 h R:=by kernel_rfl
theorem f39F_ok {a0:Sl} {a1:Sl} {h:Hp} {R:Value→Hp→Prop} (hF:f39F a0 a1 h R):CallTo Try.prog 39 #[.slice a0.a a0.n a0.c,.slice a1.a a1.n a1.c] h R :=
 callTo_of_ev (lv:=lv39) (hints:=[]) (c:=body39) (args:=[.slice a0.a a0.n a0.c,.slice a1.a a1.n a1.c]) mixed tab_ok Try.func39 (by kernel_rfl) (by kernel_rfl) (by rw [f39F_eq]; exact hF)
/- (larder/larderlaw18.asked).wants -/
noncomputable def body41:Code:=(Try.f41.body).getD .skip
def lv41 (m:Nat):List Nat:=if m=2 then [2,3,4,7] else []
def f41I1 (J:Nat→Int→Addr→Addr→Int→Hp→Prop) (n:Nat) (env:List Value) (h:Hp):Prop:=lenIs env 41 (DecI .i64 env 2 fun s2=>DecA env 3 fun s3=>DecA env 4 fun s4=>DecI .i64 env 7 fun s7=>J n s2 s3 s4 s7 h)
def f41K1 (J1:Nat→Int→Addr→Addr→Int→Hp→Prop) (n1:Nat) (x2:Int) (x3:Addr) (x4:Addr) (x7:Int) (x40:Bool) (h:Hp) (R:Value→Hp→Prop):Prop :=
 Cond x40 (R (.bool true:Value) h) (∃ m,m < n1∧J1 m x2 x3 x4 (IntKind.wrap .i64 (x7 + (1:Int))) h)
def f41L1 (J1:Nat→Int→Addr→Addr→Int→Hp→Prop) (n1:Nat) (s2:Int) (s3:Addr) (s4:Addr) (s7:Int) (g:Nat→Value) (h:Hp) (R:Value→Hp→Prop):Prop :=
 ∃ t10:Sl,cell h (s3.add 2)=some (.slice t10.a t10.n t10.c)∧Cond (decide (s7 < (((t10.n:Nat):Int)))) (∃ t16:Int,cell h (s3.add 1)=some (.int .i64 t16)∧Cond (t16 == s2) (∃ t21:Sl,cell h (s3.add 2)=some (.slice t21.a t21.n t21.c)∧(0 ≤ s7∧s7 < ((t21.n:Nat):Int))∧PtrOk t21.a fun p23=>∃ t25:Int,cell h (p23.add (s7.toNat * 2))=some (.int .i64 t25)∧∃ t27:Int,cell h s4=some (.int .i64 t27)∧Cond (t25 == t27) (∃ t32:Sl,cell h (s3.add 2)=some (.slice t32.a t32.n t32.c)∧(0 ≤ s7∧s7 < ((t32.n:Nat):Int))∧PtrOk t32.a fun p34=>∃ t36:ByteArray,cell h ((p34.add (s7.toNat * 2)).add 1)=some (.string t36)∧∃ t38:ByteArray,cell h (s4.add 1)=some (.string t38)∧f41K1 J1 n1 s2 s3 s4 s7 ((ByteArray.toList t36) == (ByteArray.toList t38)) h R) (f41K1 J1 n1 s2 s3 s4 s7 false h R)) (f41K1 J1 n1 s2 s3 s4 s7 false h R)) (R (.bool false:Value) h)
theorem f41L1_eq (J1:Nat→Int→Addr→Addr→Int→Hp→Prop) (n1:Nat) (s2:Int) (s3:Addr) (s4:Addr) (s7:Int) (g:Nat→Value) (h:Hp) (R:Value→Hp→Prop):(evC Try.prog tab lv41 (sub [1,0,1,0,0] body41)) (loopK (f41I1 J1) n1 (contAt Try.prog tab lv41 [1,0,1,0] body41 [] (bodyK Try.prog Try.f41 [] R))) (mkEnv 41 [(2,.int .i64 s2),(3,.pointer (some s3)),(4,.pointer (some s4)),(7,.int .i64 s7)] g) h=f41L1 J1 n1 s2 s3 s4 s7 g h R:=by kernel_rfl
theorem f41I1_at (J:Nat→Int→Addr→Addr→Int→Hp→Prop) (n:Nat) (s2:Int) (s3:Addr) (s4:Addr) (s7:Int) (g:Nat→Value) (h:Hp):f41I1 J n (mkEnv 41 [(2,.int .i64 s2),(3,.pointer (some s3)),(4,.pointer (some s4)),(7,.int .i64 s7)] g) h=J n s2 s3 s4 s7 h:=by kernel_rfl
theorem f41L1_rule  {R:Value→Hp→Prop} {s2:Int} {s3:Addr} {s4:Addr} {s7:Int} {h0:Hp} (J:Nat→Int→Addr→Addr→Int→Hp→Prop) (n0:Nat) (hi:J n0 s2 s3 s4 s7 h0)
  (hr:∀ n s2 s3 s4 s7 g h,J n s2 s3 s4 s7 h→f41L1  J n s2 s3 s4 s7 g h R):LoopEv (evC Try.prog tab lv41 (sub [1,0,1,0,0] body41)) (contAt Try.prog tab lv41 [1,0,1,0] body41 [] (bodyK Try.prog Try.f41 [] R)) [(2,.int .i64 s2),(3,.pointer (some s3)),(4,.pointer (some s4)),(7,.int .i64 s7)] 41 h0:=by
 refine ⟨f41I1 J,n0,fun g=>by rw [f41I1_at]; exact hi,fun n env h hI=>?_⟩
 clear hi
 clear s2 s3 s4 s7
 obtain ⟨hlen,hI⟩:=Cond_true' hI
 have hlen:env.length=41:=by simpa using hlen
 obtain ⟨s2,es2,hI⟩:=DecI.out hI
 obtain ⟨s3,es3,hI⟩:=DecA.out hI
 obtain ⟨s4,es4,hI⟩:=DecA.out hI
 obtain ⟨s7,es7,hI⟩:=DecI.out hI
 rw [mkEnv_of (l:=[(2,.int .i64 s2),(3,.pointer (some s3)),(4,.pointer (some s4)),(7,.int .i64 s7)]) hlen (by simp only [List.mem_cons,List.not_mem_nil,or_false,forall_eq_or_imp,forall_eq]; exact ⟨es2,es3,es4,es7⟩)]
 rw [f41L1_eq]
 exact hr n s2 s3 s4 s7 _ h hI
def f41F (a0_0:Int) (a0_1:Int) (a0_2:Sl) (a0_3:Int) (a1_0:Int) (a1_1:ByteArray) (a2:Int) (h:Hp) (R:Value→Hp→Prop):Prop :=
 Let (h.push (.cells #[.int .i64 a0_0,.int .i64 a0_1,.slice a0_2.a a0_2.n a0_2.c,.int .u64 a0_3] 57)) fun h1=>Let (h1.push (.cells #[.int .i64 a1_0,.string a1_1] 40)) fun h2=>LoopEv (evC Try.prog tab lv41 (sub [1,0,1,0,0] body41)) (contAt Try.prog tab lv41 [1,0,1,0] body41 [] (bodyK Try.prog Try.f41 [] R)) [(2,.int .i64 a2),(3,.pointer (some (nb h))),(4,.pointer (some (nb h1))),(7,.int .i64 0)] 41 h2
theorem f41F_eq (a0_0:Int) (a0_1:Int) (a0_2:Sl) (a0_3:Int) (a1_0:Int) (a1_1:ByteArray) (a2:Int) (h:Hp) (R:Value→Hp→Prop):evF Try.prog tab lv41 Try.f41 body41 [] [.agg #[.int .i64 a0_0,.int .i64 a0_1,.slice a0_2.a a0_2.n a0_2.c,.int .u64 a0_3],.agg #[.int .i64 a1_0,.string a1_1],.int .i64 a2] h R=f41F a0_0 a0_1 a0_2 a0_3 a1_0 a1_1 a2 h R:=by kernel_rfl
theorem f41F_ok {a0_0:Int} {a0_1:Int} {a0_2:Sl} {a0_3:Int} {a1_0:Int} {a1_1:ByteArray} {a2:Int} {h:Hp} {R:Value→Hp→Prop} (hF:f41F a0_0 a0_1 a0_2 a0_3 a1_0 a1_1 a2 h R):CallTo Try.prog 41 #[.agg #[.int .i64 a0_0,.int .i64 a0_1,.slice a0_2.a a0_2.n a0_2.c,.int .u64 a0_3],.agg #[.int .i64 a1_0,.string a1_1],.int .i64 a2] h R :=
 callTo_of_ev (lv:=lv41) (hints:=[]) (c:=body41) (args:=[.agg #[.int .i64 a0_0,.int .i64 a0_1,.slice a0_2.a a0_2.n a0_2.c,.int .u64 a0_3],.agg #[.int .i64 a1_0,.string a1_1],.int .i64 a2]) mixed tab_ok Try.func41 (by kernel_rfl) (by kernel_rfl) (by rw [f41F_eq]; exact hF)
/- larder/larderlaw18.gone -/
noncomputable def body42:Code:=(Try.f42.body).getD .skip
def lv42 (m:Nat):List Nat:=[]
def f42F (a0:Sl) (a1:Int) (h:Hp) (R:Value→Hp→Prop):Prop :=
 (0 ≤ a1∧a1 ≤ ((a0.c:Nat):Int))∧(0 ≤ (0:Int)∧(0:Int) ≤ a1)∧appSl 57 4 48 #[.int .i64 0,.int .i64 0,.slice none 0 0,.int .u64 0] none 0 0 (if a0.c=(0:Int).toNat then a0.a else Option.map (fun x=>x.add ((0:Int).toNat * 4)) a0.a) (a1.toNat - (0:Int).toNat) h fun ra1 rn1 rc1 h1=>(0 ≤ (IntKind.wrap .i64 (a1 + (1:Int)))∧(IntKind.wrap .i64 (a1 + (1:Int))) ≤ ((a0.n:Nat):Int))∧appSl 57 4 48 #[.int .i64 0,.int .i64 0,.slice none 0 0,.int .u64 0] ra1 rn1 rc1 (if a0.c=(IntKind.wrap .i64 (a1 + (1:Int))).toNat then a0.a else Option.map (fun x=>x.add ((IntKind.wrap .i64 (a1 + (1:Int))).toNat * 4)) a0.a) (a0.n - (IntKind.wrap .i64 (a1 + (1:Int))).toNat) h1 fun ra2 rn2 rc2 h2=>R (.slice ra2 rn2 rc2:Value) h2
theorem f42F_eq (a0:Sl) (a1:Int) (h:Hp) (R:Value→Hp→Prop):evF Try.prog tab lv42 Try.f42 body42 [] [.slice a0.a a0.n a0.c,.int .i64 a1] h R=f42F a0 a1 h R:=by kernel_rfl
theorem f42F_ok {a0:Sl} {a1:Int} {h:Hp} {R:Value→Hp→Prop} (hF:f42F a0 a1 h R):CallTo Try.prog 42 #[.slice a0.a a0.n a0.c,.int .i64 a1] h R :=
 callTo_of_ev (lv:=lv42) (hints:=[]) (c:=body42) (args:=[.slice a0.a a0.n a0.c,.int .i64 a1]) mixed tab_ok Try.func42 (by kernel_rfl) (by kernel_rfl) (by rw [f42F_eq]; exact hF)
/- larder/larderlaw18.place -/
end Go.Ev
set_option linter.all false
set_option maxRecDepth 1000000
namespace Go.Ev
open Go.Proofs
theorem il_rd {h:Hp} {s:Sl} {c:Nat} {l:List Int} (x:IL h s c l):ReadsO h s.a (l.map iv):=by
 by_cases hne:l=[]
 ·rw [x.nl hne,hne]; exact rfl
 ·obtain ⟨junk,r,_⟩:=x.row hne
  rw [x.at_ hne]
  exact reads_head r
theorem IL.keep {h h':Hp} {S:Nat→Prop} {s:Sl} {c:Nat} {l:List Int} (x:IL h s c l) (k:Kept S h h') (hS:l ≠ []→¬ S c):IL h' s c l :=
 ⟨x.n,x.at_,fun hne=>by obtain ⟨junk,r,e⟩:=x.row hne; exact ⟨junk,kept_row k r (hS hne),e⟩,x.nl⟩
section
variable {h h':Hp} {R:Value→Hp→Prop}
theorem same_ok {a b:Sl} {l m:List Plc} (ra:ReadsO h a.a (l.flatMap plC)) (na:a.n=l.length) (rb:ReadsO h b.a (m.flatMap plC)) (nb:b.n=m.length) (hl:l.length < 100000) (hR:R (.bool (decide (l=m))) h) :
  CallTo Try.prog 39 #[.slice a.a a.n a.c,.slice b.a b.n b.c] h R:=by
 refine f39F_ok (a0:=a) (a1:=b) ?_
 unfold f39F
 refine Cond_b (fun e=>?_) fun e=>?_
 ·have e:l.length ≠ m.length:=fun z=>by rw [na,nb,z] at e; simp at e
  rw [decide_eq_false fun z=>e (congrArg List.length z)] at hR
  exact hR
 ·have e:l.length=m.length:=by
   have:((a.n:Nat):Int)=((b.n:Nat):Int):=by simpa using e
   omega
  refine f39L1_rule (s0:=a) (s1:=b) (fun k s0 s1 s5 h'=>∃ i:Nat,i ≤ l.length∧k=l.length - i∧a=s0∧b=s1∧s5=(i:Int)∧l.take i=m.take i∧h=h') l.length ⟨0,Nat.zero_le _,rfl,rfl,rfl,rfl,rfl,rfl⟩ ?_
  rintro k s0 s1 s5 g h1 ⟨i,hi,rfl,rfl,rfl,rfl,ht,rfl⟩
  unfold f39L1
  refine Cond_dec (fun hlt=>⟨⟨by omega,by omega⟩,?_⟩) fun hge=>?_
  ·obtain ⟨x,hx⟩:∃ x,l[i]?=some x:=⟨_,List.getElem?_eq_getElem (by omega)⟩
   obtain ⟨y,hy⟩:∃ y,m[i]?=some y:=⟨_,List.getElem?_eq_getElem (by omega)⟩
   obtain ⟨p,hp,c0,c1⟩:=pl_read ra hx
   obtain ⟨q,hq,d0,d1⟩:=pl_read rb hy
   rw [Int.toNat_natCast]
   have no:x ≠ y→R (.bool false) h:=fun e2=>by
    rw [decide_eq_false fun z=>e2 (by rw [z,hy] at hx; exact (Option.some.inj hx).symm)] at hR
    exact hR
   refine PtrOk_of hp ⟨_,c0,⟨by omega,by omega⟩,PtrOk_of hq ⟨_,d0,Cond_b (fun e2=>?_) fun e2=>⟨⟨by omega,by omega⟩,PtrOk_of hp ⟨_,c1,⟨by omega,by omega⟩,PtrOk_of hq ⟨_,d1,?_⟩⟩⟩⟩⟩
   ·unfold f39K1
    have e2:x.1 ≠ y.1:=by simpa using e2
    exact Cond_t rfl (no fun z=>e2 (by rw [z]))
   ·unfold f39K1
    have e2:x.1=y.1:=by simpa using e2
    rw [bl_eq]
    by_cases e3:x.2=y.2
    ·rw [decide_eq_true e3]
     have:x=y:=Prod.ext e2 e3
     subst this
     exact Cond_f rfl ⟨l.length - (i + 1),by omega,i + 1,by omega,rfl,(by first | rfl | trivial),(by first | rfl | trivial),nxt8 (by omega),by rw [List.take_add_one,List.take_add_one,ht,hx,hy],rfl⟩
    ·rw [decide_eq_false e3]
     exact Cond_t rfl (no fun z=>e3 (by rw [z]))
  ·have ei:i=l.length:=by omega
   rw [ei,List.take_length,e,List.take_length] at ht
   rw [decide_eq_true ht] at hR
   exact hR
/-- A step of a script. -/
structure Opw where
 on:Int
 dO:Int
 conn:Int
 kind:Int
 sl:Sl
 pls:List Plc
 time:Int
def Opw.cells (o:Opw):List Value:=[.int .i64 o.on,.int .i64 o.dO,.int .i64 o.conn,.int .i64 o.kind,.slice o.sl.a o.sl.n o.sl.c,.int .u64 o.time]
structure OpwOk (h:Hp) (o:Opw):Prop where
 pl:PlIn h o.sl o.pls
 len:o.pls.length < 11000000000000
 blk:∀ p,o.sl.a=some p→o.pls ≠ []→p.block < h.size
 tm:0 ≤ o.time
def Opw.place (o:Opw):Plc:=match o.pls with | p :: _=>p | []=>(0,ByteArray.empty)
end
end Go.Ev
