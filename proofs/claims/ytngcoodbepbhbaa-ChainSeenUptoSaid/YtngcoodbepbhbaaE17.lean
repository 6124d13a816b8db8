/- Printed by a program (own work) out of the loaded functions: what each says of the heap, and that the evaluator says the same / The program's list in memory; its reading functions over the heap's graph. No condition but that these are ones. -/
import Derived.Test.YtngcoodbepbhbaaE4
import Derived.Test.YtngcoodbepbhbaaE7
import Derived.Test.YtngcoodbepbhbaaE16
set_option linter.all false
set_option maxRecDepth 100000
namespace Go.Ev
open Go.Proofs
/- larder/chain.New -/
noncomputable def body12:Code:=(Try.f12.body).getD .skip
def lv12 (m:Nat):List Nat:=[]
def f12F (a0:Option Addr) (h:Hp) (R:Value→Hp→Prop):Prop :=
 CallTo Try.prog 40 #[.pointer a0,.int .i64 2,.int .i64 2,.int .i64 1] h fun r h1=>∃ t8_0:Int,∃ t8_1:Int,r=.tuple #[.int .u64 t8_0,.int .i64 t8_1]∧Cond (t8_1 != (0:Int)) (R (.tuple #[.pointer none,.int .i64 t8_1]:Value) h1) (CallTo Try.prog 41 #[.pointer a0,.int .u64 t8_0] h1 fun r h2=>∃ t16_0:Option Addr,∃ t16_1:Int,r=.tuple #[.pointer t16_0,.int .i64 t16_1]∧R (.tuple #[.pointer t16_0,.int .i64 t16_1]:Value) h2)
theorem f12F_eq (a0:Option Addr) (h:Hp) (R:Value→Hp→Prop):evF Try.prog tab lv12 Try.f12 body12 [] [.pointer a0] h R=f12F a0 h R:=by kernel_rfl
theorem f12F_ok {a0:Option Addr} {h:Hp} {R:Value→Hp→Prop} (hF:f12F a0 h R):CallTo Try.prog 12 #[.pointer a0] h R :=
 callTo_of_ev (lv:=lv12) (hints:=[]) (c:=body12) (args:=[.pointer a0]) mixed tab_ok Try.func12 (by kernel_rfl) (by kernel_rfl) (by rw [f12F_eq]; exact hF)
/- (*larder/chain.List).Push -/
noncomputable def body13:Code:=(Try.f13.body).getD .skip
def lv13 (m:Nat):List Nat:=[]
def f13F (a0:Option Addr) (a1:Bool) (a2:Sl) (h:Hp) (R:Value→Hp→Prop):Prop :=
 Cond a1 (CallTo Try.prog 14 #[.pointer a0,.int .i64 0,.slice a2.a a2.n a2.c] h fun r h1=>∃ t10:Int,r=.int .i64 t10∧R (.int .i64 t10:Value) h1) (CallTo Try.prog 16 #[.pointer a0] h fun r h2=>∃ t13:Int,r=.int .i64 t13∧CallTo Try.prog 14 #[.pointer a0,.int .i64 t13,.slice a2.a a2.n a2.c] h2 fun r h3=>∃ t15:Int,r=.int .i64 t15∧R (.int .i64 t15:Value) h3)
theorem f13F_eq (a0:Option Addr) (a1:Bool) (a2:Sl) (h:Hp) (R:Value→Hp→Prop):evF Try.prog tab lv13 Try.f13 body13 [] [.pointer a0,.bool a1,.slice a2.a a2.n a2.c] h R=f13F a0 a1 a2 h R:=by kernel_rfl
theorem f13F_ok {a0:Option Addr} {a1:Bool} {a2:Sl} {h:Hp} {R:Value→Hp→Prop} (hF:f13F a0 a1 a2 h R):CallTo Try.prog 13 #[.pointer a0,.bool a1,.slice a2.a a2.n a2.c] h R :=
 callTo_of_ev (lv:=lv13) (hints:=[]) (c:=body13) (args:=[.pointer a0,.bool a1,.slice a2.a a2.n a2.c]) mixed tab_ok Try.func13 (by kernel_rfl) (by kernel_rfl) (by rw [f13F_eq]; exact hF)
/- (*larder/chain.List).Insert -/
noncomputable def body14:Code:=(Try.f14.body).getD .skip
def lv14 (m:Nat):List Nat:=[]
def f14F (a0:Option Addr) (a1:Int) (a2:Sl) (h:Hp) (R:Value→Hp→Prop):Prop :=
 CallTo Try.prog 42 #[.pointer a0,.int .i64 a1,.int .i64 0] h fun r h1=>∃ t12:Int,r=.int .i64 t12∧Cond (t12 != (0:Int)) (R (.int .i64 t12:Value) h1) (CallTo Try.prog 43 #[.pointer a0,.slice a2.a a2.n a2.c] h1 fun r h2=>∃ t19_0:Int,∃ t19_1:Int,r=.tuple #[.int .u64 t19_0,.int .i64 t19_1]∧Cond (t19_1 != (0:Int)) (R (.int .i64 t19_1:Value) h2) (CallTo Try.prog 45 #[.pointer a0,.int .i64 a1] h2 fun r h3=>∃ t29:Int,r=.int .u64 t29∧CallTo Try.prog 44 #[.pointer a0,.int .u64 t19_0,.int .u64 t29] h3 fun r h4=>r=.tuple #[]∧R (.int .i64 0:Value) h4))
theorem f14F_eq (a0:Option Addr) (a1:Int) (a2:Sl) (h:Hp) (R:Value→Hp→Prop):evF Try.prog tab lv14 Try.f14 body14 [] [.pointer a0,.int .i64 a1,.slice a2.a a2.n a2.c] h R=f14F a0 a1 a2 h R:=by kernel_rfl
theorem f14F_ok {a0:Option Addr} {a1:Int} {a2:Sl} {h:Hp} {R:Value→Hp→Prop} (hF:f14F a0 a1 a2 h R):CallTo Try.prog 14 #[.pointer a0,.int .i64 a1,.slice a2.a a2.n a2.c] h R :=
 callTo_of_ev (lv:=lv14) (hints:=[]) (c:=body14) (args:=[.pointer a0,.int .i64 a1,.slice a2.a a2.n a2.c]) mixed tab_ok Try.func14 (by kernel_rfl) (by kernel_rfl) (by rw [f14F_eq]; exact hF)
/- (*larder/chain.List).Slice -/
noncomputable def body15:Code:=(Try.f15.body).getD .skip
def lv15 (m:Nat):List Nat:=if m=7 then [0,9,10,21,22] else []
def f15I1 (J:Nat→Option Addr→Sl→Int→Int→Int→Hp→Prop) (n:Nat) (env:List Value) (h:Hp):Prop:=lenIs env 35 (DecP env 0 fun s0=>DecL env 9 fun s9=>DecI .u64 env 10 fun s10=>DecI .i64 env 21 fun s21=>DecI .i64 env 22 fun s22=>J n s0 s9 s10 s21 s22 h)
def f15L1 (J1:Nat→Option Addr→Sl→Int→Int→Int→Hp→Prop) (n1:Nat) (s0:Option Addr) (s9:Sl) (s10:Int) (s21:Int) (s22:Int) (g:Nat→Value) (h:Hp) (R:Value→Hp→Prop):Prop :=
 Cond (decide (s22 < s21)) (CallTo Try.prog 46 #[.pointer s0,.int .u64 s10] h fun r h3=>∃ t27:Sl,r=.slice t27.a t27.n t27.c∧Let (h3.push (.cells #[.slice t27.a t27.n t27.c] 23)) fun h4=>appSl 23 1 24 #[.slice none 0 0] s9.a s9.n s9.c (some (nb h3)) 1 h4 fun ra5 rn5 rc5 h5=>CallTo Try.prog 47 #[.pointer s0,.int .u64 s10,.int .i64 1] h5 fun r h6=>∃ t32:Int,r=.int .u64 t32∧∃ m,m < n1∧J1 m s0 ⟨ra5,rn5,rc5⟩ t32 s21 (IntKind.wrap .i64 (s22 + (1:Int))) h6) (R (.tuple #[.slice s9.a s9.n s9.c,.int .i64 0]:Value) h)
theorem f15L1_eq (J1:Nat→Option Addr→Sl→Int→Int→Int→Hp→Prop) (n1:Nat) (s0:Option Addr) (s9:Sl) (s10:Int) (s21:Int) (s22:Int) (g:Nat→Value) (h:Hp) (R:Value→Hp→Prop):(evC Try.prog tab lv15 (sub [1,1,1,1,0,1,0,0] body15)) (loopK (f15I1 J1) n1 (contAt Try.prog tab lv15 [1,1,1,1,0,1,0] body15 [] (bodyK Try.prog Try.f15 [] R))) (mkEnv 35 [(0,.pointer s0),(9,.slice s9.a s9.n s9.c),(10,.int .u64 s10),(21,.int .i64 s21),(22,.int .i64 s22)] g) h=f15L1 J1 n1 s0 s9 s10 s21 s22 g h R:=by kernel_rfl
theorem f15I1_at (J:Nat→Option Addr→Sl→Int→Int→Int→Hp→Prop) (n:Nat) (s0:Option Addr) (s9:Sl) (s10:Int) (s21:Int) (s22:Int) (g:Nat→Value) (h:Hp):f15I1 J n (mkEnv 35 [(0,.pointer s0),(9,.slice s9.a s9.n s9.c),(10,.int .u64 s10),(21,.int .i64 s21),(22,.int .i64 s22)] g) h=J n s0 s9 s10 s21 s22 h:=by kernel_rfl
theorem f15L1_rule  {R:Value→Hp→Prop} {s0:Option Addr} {s9:Sl} {s10:Int} {s21:Int} {s22:Int} {h0:Hp} (J:Nat→Option Addr→Sl→Int→Int→Int→Hp→Prop) (n0:Nat) (hi:J n0 s0 s9 s10 s21 s22 h0)
  (hr:∀ n s0 s9 s10 s21 s22 g h,J n s0 s9 s10 s21 s22 h→f15L1  J n s0 s9 s10 s21 s22 g h R):LoopEv (evC Try.prog tab lv15 (sub [1,1,1,1,0,1,0,0] body15)) (contAt Try.prog tab lv15 [1,1,1,1,0,1,0] body15 [] (bodyK Try.prog Try.f15 [] R)) [(0,.pointer s0),(9,.slice s9.a s9.n s9.c),(10,.int .u64 s10),(21,.int .i64 s21),(22,.int .i64 s22)] 35 h0:=by
 refine ⟨f15I1 J,n0,fun g=>by rw [f15I1_at]; exact hi,fun n env h hI=>?_⟩
 clear hi
 clear s0 s9 s10 s21 s22
 obtain ⟨hlen,hI⟩:=Cond_true' hI
 have hlen:env.length=35:=by simpa using hlen
 obtain ⟨s0,es0,hI⟩:=DecP.out hI
 obtain ⟨s9,es9,hI⟩:=DecL.out hI
 obtain ⟨s10,es10,hI⟩:=DecI.out hI
 obtain ⟨s21,es21,hI⟩:=DecI.out hI
 obtain ⟨s22,es22,hI⟩:=DecI.out hI
 rw [mkEnv_of (l:=[(0,.pointer s0),(9,.slice s9.a s9.n s9.c),(10,.int .u64 s10),(21,.int .i64 s21),(22,.int .i64 s22)]) hlen (by simp only [List.mem_cons,List.not_mem_nil,or_false,forall_eq_or_imp,forall_eq]; exact ⟨es0,es9,es10,es21,es22⟩)]
 rw [f15L1_eq]
 exact hr n s0 s9 s10 s21 s22 _ h hI
def f15F (a0:Option Addr) (a1:Int) (a2:Int) (h:Hp) (R:Value→Hp→Prop):Prop :=
 CallTo Try.prog 42 #[.pointer a0,.int .i64 a1,.int .i64 a2] h fun r h1=>∃ t14:Int,r=.int .i64 t14∧Cond (t14 != (0:Int)) (R (.tuple #[.slice none 0 0,.int .i64 t14]:Value) h1) (CallTo Try.prog 45 #[.pointer a0,.int .i64 a1] h1 fun r h2=>∃ t20:Int,r=.int .u64 t20∧LoopEv (evC Try.prog tab lv15 (sub [1,1,1,1,0,1,0,0] body15)) (contAt Try.prog tab lv15 [1,1,1,1,0,1,0] body15 [] (bodyK Try.prog Try.f15 [] R)) [(0,.pointer a0),(9,.slice none 0 0),(10,.int .u64 t20),(21,.int .i64 a2),(22,.int .i64 0)] 35 h2)
theorem f15F_eq (a0:Option Addr) (a1:Int) (a2:Int) (h:Hp) (R:Value→Hp→Prop):evF Try.prog tab lv15 Try.f15 body15 [] [.pointer a0,.int .i64 a1,.int .i64 a2] h R=f15F a0 a1 a2 h R:=by kernel_rfl
theorem f15F_ok {a0:Option Addr} {a1:Int} {a2:Int} {h:Hp} {R:Value→Hp→Prop} (hF:f15F a0 a1 a2 h R):CallTo Try.prog 15 #[.pointer a0,.int .i64 a1,.int .i64 a2] h R :=
 callTo_of_ev (lv:=lv15) (hints:=[]) (c:=body15) (args:=[.pointer a0,.int .i64 a1,.int .i64 a2]) mixed tab_ok Try.func15 (by kernel_rfl) (by kernel_rfl) (by rw [f15F_eq]; exact hF)
/- (*larder/chain.List).Len -/
noncomputable def body16:Code:=(Try.f16.body).getD .skip
def lv16 (m:Nat):List Nat:=[]
def f16F (a0:Option Addr) (h:Hp) (R:Value→Hp→Prop):Prop :=
 PtrOk a0 fun p4=>∃ t6:Int,cell h (p4.add 1)=some (.int .i64 t6)∧Cond (t6 == (0:Int)) (R (.int .i64 0:Value) h) (CallTo Try.prog 48 #[.pointer a0] h fun r h1=>∃ t10:Int,r=.int .u64 t10∧CallTo Try.prog 47 #[.pointer a0,.int .u64 t10,.int .i64 2] h1 fun r h2=>∃ t11:Int,r=.int .u64 t11∧R ((.int .i64 (IntKind.wrap .i64 t11):Value)) h2)
theorem f16F_eq (a0:Option Addr) (h:Hp) (R:Value→Hp→Prop):evF Try.prog tab lv16 Try.f16 body16 [] [.pointer a0] h R=f16F a0 h R:=by kernel_rfl
theorem f16F_ok {a0:Option Addr} {h:Hp} {R:Value→Hp→Prop} (hF:f16F a0 h R):CallTo Try.prog 16 #[.pointer a0] h R :=
 callTo_of_ev (lv:=lv16) (hints:=[]) (c:=body16) (args:=[.pointer a0]) mixed tab_ok Try.func16 (by kernel_rfl) (by kernel_rfl) (by rw [f16F_eq]; exact hF)
/- (*larder/chain.List).Cut -/
noncomputable def body19:Code:=(Try.f19.body).getD .skip
def lv19 (m:Nat):List Nat:=if m=6 then [0,8,19,20] else []
def f19I1 (J:Nat→Option Addr→Int→Int→Int→Hp→Prop) (n:Nat) (env:List Value) (h:Hp):Prop:=lenIs env 26 (DecP env 0 fun s0=>DecI .u64 env 8 fun s8=>DecI .i64 env 19 fun s19=>DecI .i64 env 20 fun s20=>J n s0 s8 s19 s20 h)
def f19L1 (J1:Nat→Option Addr→Int→Int→Int→Hp→Prop) (n1:Nat) (s0:Option Addr) (s8:Int) (s19:Int) (s20:Int) (g:Nat→Value) (h:Hp) (R:Value→Hp→Prop):Prop :=
 Cond (decide (s20 < s19)) (CallTo Try.prog 52 #[.pointer s0,.int .u64 s8] h fun r h3=>∃ t24:Int,r=.int .u64 t24∧∃ m,m < n1∧J1 m s0 t24 s19 (IntKind.wrap .i64 (s20 + (1:Int))) h3) (R (.int .i64 0:Value) h)
theorem f19L1_eq (J1:Nat→Option Addr→Int→Int→Int→Hp→Prop) (n1:Nat) (s0:Option Addr) (s8:Int) (s19:Int) (s20:Int) (g:Nat→Value) (h:Hp) (R:Value→Hp→Prop):(evC Try.prog tab lv19 (sub [1,1,1,0,1,0,0] body19)) (loopK (f19I1 J1) n1 (contAt Try.prog tab lv19 [1,1,1,0,1,0] body19 [] (bodyK Try.prog Try.f19 [] R))) (mkEnv 26 [(0,.pointer s0),(8,.int .u64 s8),(19,.int .i64 s19),(20,.int .i64 s20)] g) h=f19L1 J1 n1 s0 s8 s19 s20 g h R:=by kernel_rfl
theorem f19I1_at (J:Nat→Option Addr→Int→Int→Int→Hp→Prop) (n:Nat) (s0:Option Addr) (s8:Int) (s19:Int) (s20:Int) (g:Nat→Value) (h:Hp):f19I1 J n (mkEnv 26 [(0,.pointer s0),(8,.int .u64 s8),(19,.int .i64 s19),(20,.int .i64 s20)] g) h=J n s0 s8 s19 s20 h:=by kernel_rfl
theorem f19L1_rule  {R:Value→Hp→Prop} {s0:Option Addr} {s8:Int} {s19:Int} {s20:Int} {h0:Hp} (J:Nat→Option Addr→Int→Int→Int→Hp→Prop) (n0:Nat) (hi:J n0 s0 s8 s19 s20 h0)
  (hr:∀ n s0 s8 s19 s20 g h,J n s0 s8 s19 s20 h→f19L1  J n s0 s8 s19 s20 g h R):LoopEv (evC Try.prog tab lv19 (sub [1,1,1,0,1,0,0] body19)) (contAt Try.prog tab lv19 [1,1,1,0,1,0] body19 [] (bodyK Try.prog Try.f19 [] R)) [(0,.pointer s0),(8,.int .u64 s8),(19,.int .i64 s19),(20,.int .i64 s20)] 26 h0:=by
 refine ⟨f19I1 J,n0,fun g=>by rw [f19I1_at]; exact hi,fun n env h hI=>?_⟩
 clear hi
 clear s0 s8 s19 s20
 obtain ⟨hlen,hI⟩:=Cond_true' hI
 have hlen:env.length=26:=by simpa using hlen
 obtain ⟨s0,es0,hI⟩:=DecP.out hI
 obtain ⟨s8,es8,hI⟩:=DecI.out hI
 obtain ⟨s19,es19,hI⟩:=DecI.out hI
 obtain ⟨s20,es20,hI⟩:=DecI.out hI
 rw [mkEnv_of (l:=[(0,.pointer s0),(8,.int .u64 s8),(19,.int .i64 s19),(20,.int .i64 s20)]) hlen (by simp only [List.mem_cons,List.not_mem_nil,or_false,forall_eq_or_imp,forall_eq]; exact ⟨es0,es8,es19,es20⟩)]
 rw [f19L1_eq]
 exact hr n s0 s8 s19 s20 _ h hI
def f19F (a0:Option Addr) (a1:Int) (a2:Int) (h:Hp) (R:Value→Hp→Prop):Prop :=
 CallTo Try.prog 42 #[.pointer a0,.int .i64 a1,.int .i64 a2] h fun r h1=>∃ t12:Int,r=.int .i64 t12∧Cond (t12 != (0:Int)) (R (.int .i64 t12:Value) h1) (CallTo Try.prog 45 #[.pointer a0,.int .i64 a1] h1 fun r h2=>∃ t18:Int,r=.int .u64 t18∧LoopEv (evC Try.prog tab lv19 (sub [1,1,1,0,1,0,0] body19)) (contAt Try.prog tab lv19 [1,1,1,0,1,0] body19 [] (bodyK Try.prog Try.f19 [] R)) [(0,.pointer a0),(8,.int .u64 t18),(19,.int .i64 a2),(20,.int .i64 0)] 26 h2)
theorem f19F_eq (a0:Option Addr) (a1:Int) (a2:Int) (h:Hp) (R:Value→Hp→Prop):evF Try.prog tab lv19 Try.f19 body19 [] [.pointer a0,.int .i64 a1,.int .i64 a2] h R=f19F a0 a1 a2 h R:=by kernel_rfl
theorem f19F_ok {a0:Option Addr} {a1:Int} {a2:Int} {h:Hp} {R:Value→Hp→Prop} (hF:f19F a0 a1 a2 h R):CallTo Try.prog 19 #[.pointer a0,.int .i64 a1,.int .i64 a2] h R :=
 callTo_of_ev (lv:=lv19) (hints:=[]) (c:=body19) (args:=[.pointer a0,.int .i64 a1,.int .i64 a2]) mixed tab_ok Try.func19 (by kernel_rfl) (by kernel_rfl) (by rw [f19F_eq]; exact hF)
/- (*larder/chain.List).Pop -/
noncomputable def body22:Code:=(Try.f22.body).getD .skip
def lv22 (m:Nat):List Nat:=[]
def f22K1  (x0:Option Addr) (x6:Int) (h:Hp) (R:Value→Hp→Prop):Prop :=
 CallTo Try.prog 48 #[.pointer x0] h fun r h1=>∃ t17:Int,r=.int .u64 t17∧CallTo Try.prog 47 #[.pointer x0,.int .u64 t17,.int .i64 x6] h1 fun r h2=>∃ t19:Int,r=.int .u64 t19∧Cond (t19 == (0:Int)) (R (.tuple #[.slice none 0 0,.int .i64 53]:Value) h2) (CallTo Try.prog 46 #[.pointer x0,.int .u64 t19] h2 fun r h3=>∃ t24:Sl,r=.slice t24.a t24.n t24.c∧CallTo Try.prog 52 #[.pointer x0,.int .u64 t19] h3 fun r h4=>∃ t27:Int,r=.int .u64 t27∧R (.tuple #[.slice t24.a t24.n t24.c,.int .i64 0]:Value) h4)
def f22F (a0:Option Addr) (a1:Bool) (h:Hp) (R:Value→Hp→Prop):Prop :=
 PtrOk a0 fun p10=>∃ t12:Int,cell h (p10.add 1)=some (.int .i64 t12)∧Cond (t12 == (0:Int)) (R (.tuple #[.slice none 0 0,.int .i64 51]:Value) h) (Cond a1 (f22K1  a0 (0:Int) h R) (f22K1  a0 (1:Int) h R))
theorem f22F_eq (a0:Option Addr) (a1:Bool) (h:Hp) (R:Value→Hp→Prop):evF Try.prog tab lv22 Try.f22 body22 [] [.pointer a0,.bool a1] h R=f22F a0 a1 h R:=by kernel_rfl
theorem f22F_ok {a0:Option Addr} {a1:Bool} {h:Hp} {R:Value→Hp→Prop} (hF:f22F a0 a1 h R):CallTo Try.prog 22 #[.pointer a0,.bool a1] h R :=
 callTo_of_ev (lv:=lv22) (hints:=[]) (c:=body22) (args:=[.pointer a0,.bool a1]) mixed tab_ok Try.func22 (by kernel_rfl) (by kernel_rfl) (by rw [f22F_eq]; exact hF)
/- (*larder/chain.List).Get -/
noncomputable def body23:Code:=(Try.f23.body).getD .skip
def lv23 (m:Nat):List Nat:=[]
def f23F (a0:Option Addr) (a1:Int) (h:Hp) (R:Value→Hp→Prop):Prop :=
 CallTo Try.prog 42 #[.pointer a0,.int .i64 a1,.int .i64 1] h fun r h1=>∃ t9:Int,r=.int .i64 t9∧Cond (t9 != (0:Int)) (R (.tuple #[.slice none 0 0,.int .i64 t9]:Value) h1) (CallTo Try.prog 45 #[.pointer a0,.int .i64 a1] h1 fun r h2=>∃ t16:Int,r=.int .u64 t16∧CallTo Try.prog 46 #[.pointer a0,.int .u64 t16] h2 fun r h3=>∃ t17:Sl,r=.slice t17.a t17.n t17.c∧R (.tuple #[.slice t17.a t17.n t17.c,.int .i64 0]:Value) h3)
theorem f23F_eq (a0:Option Addr) (a1:Int) (h:Hp) (R:Value→Hp→Prop):evF Try.prog tab lv23 Try.f23 body23 [] [.pointer a0,.int .i64 a1] h R=f23F a0 a1 h R:=by kernel_rfl
theorem f23F_ok {a0:Option Addr} {a1:Int} {h:Hp} {R:Value→Hp→Prop} (hF:f23F a0 a1 h R):CallTo Try.prog 23 #[.pointer a0,.int .i64 a1] h R :=
 callTo_of_ev (lv:=lv23) (hints:=[]) (c:=body23) (args:=[.pointer a0,.int .i64 a1]) mixed tab_ok Try.func23 (by kernel_rfl) (by kernel_rfl) (by rw [f23F_eq]; exact hF)
/- (*larder/chain.List).Set -/
noncomputable def body24:Code:=(Try.f24.body).getD .skip
def lv24 (m:Nat):List Nat:=[]
def f24F (a0:Option Addr) (a1:Int) (a2:Sl) (h:Hp) (R:Value→Hp→Prop):Prop :=
 CallTo Try.prog 42 #[.pointer a0,.int .i64 a1,.int .i64 1] h fun r h1=>∃ t12:Int,r=.int .i64 t12∧Cond (t12 != (0:Int)) (R (.int .i64 t12:Value) h1) (PtrOk a0 fun p18=>∃ t20:Option Addr,cell h1 p18=some (.pointer t20)∧Let (h1.push (.cells #[.slice a2.a a2.n a2.c] 23)) fun h2=>CallTo Try.prog 53 #[.pointer t20,.slice (some (nb h1)) 1 1] h2 fun r h3=>∃ t23_0:Int,∃ t23_1:Int,r=.tuple #[.int .u64 t23_0,.int .i64 t23_1]∧Cond (t23_1 != (0:Int)) (R (.int .i64 t23_1:Value) h3) (CallTo Try.prog 45 #[.pointer a0,.int .i64 a1] h3 fun r h4=>∃ t32:Int,r=.int .u64 t32∧CallTo Try.prog 54 #[.pointer a0,.int .u64 t32,.int .i64 2,.int .u64 t23_0] h4 fun r h5=>r=.tuple #[]∧R (.int .i64 0:Value) h5))
theorem f24F_eq (a0:Option Addr) (a1:Int) (a2:Sl) (h:Hp) (R:Value→Hp→Prop):evF Try.prog tab lv24 Try.f24 body24 [] [.pointer a0,.int .i64 a1,.slice a2.a a2.n a2.c] h R=f24F a0 a1 a2 h R:=by kernel_rfl
theorem f24F_ok {a0:Option Addr} {a1:Int} {a2:Sl} {h:Hp} {R:Value→Hp→Prop} (hF:f24F a0 a1 a2 h R):CallTo Try.prog 24 #[.pointer a0,.int .i64 a1,.slice a2.a a2.n a2.c] h R :=
 callTo_of_ev (lv:=lv24) (hints:=[]) (c:=body24) (args:=[.pointer a0,.int .i64 a1,.slice a2.a a2.n a2.c]) mixed tab_ok Try.func24 (by kernel_rfl) (by kernel_rfl) (by rw [f24F_eq]; exact hF)
/- (*larder/chain.List).Strike -/
noncomputable def body26:Code:=(Try.f26.body).getD .skip
def lv26 (m:Nat):List Nat:=if m=8 then [0,2,3,11,12,13] else []
def f26I1 (J:Nat→Option Addr→Int→Sl→Int→Int→Int→Hp→Prop) (n:Nat) (env:List Value) (h:Hp):Prop:=lenIs env 49 (DecP env 0 fun s0=>DecI .i64 env 2 fun s2=>DecL env 3 fun s3=>DecI .i64 env 11 fun s11=>DecI .i64 env 12 fun s12=>DecI .u64 env 13 fun s13=>J n s0 s2 s3 s11 s12 s13 h)
def f26K2 (J1:Nat→Option Addr→Int→Sl→Int→Int→Int→Hp→Prop) (n1:Nat) (x0:Option Addr) (x2:Int) (x3:Sl) (x11:Int) (x12:Int) (x13:Int) (x32:Bool) (h:Hp) (R:Value→Hp→Prop):Prop :=
 Cond x32 (CallTo Try.prog 47 #[.pointer x0,.int .u64 x13,.int .i64 x11] h fun r h3=>∃ t36:Int,r=.int .u64 t36∧CallTo Try.prog 46 #[.pointer x0,.int .u64 x13] h3 fun r h4=>∃ t39:Sl,r=.slice t39.a t39.n t39.c∧CallTo Try.prog 55 #[.slice t39.a t39.n t39.c,.slice x3.a x3.n x3.c] h4 fun r h5=>∃ t41:Bool,r=.bool t41∧Cond t41 (CallTo Try.prog 52 #[.pointer x0,.int .u64 x13] h5 fun r h6=>∃ t44:Int,r=.int .u64 t44∧∃ m,m < n1∧J1 m x0 x2 x3 x11 (IntKind.wrap .i64 (x12 + (1:Int))) t36 h6) (∃ m,m < n1∧J1 m x0 x2 x3 x11 x12 t36 h5)) (R (.tuple #[.int .i64 x12,.int .i64 0]:Value) h)
def f26K1  (x0:Option Addr) (x2:Int) (x3:Sl) (x10:Int) (x11:Int) (h:Hp) (R:Value→Hp→Prop):Prop :=
 CallTo Try.prog 48 #[.pointer x0] h fun r h1=>∃ t23:Int,r=.int .u64 t23∧CallTo Try.prog 47 #[.pointer x0,.int .u64 t23,.int .i64 x10] h1 fun r h2=>∃ t25:Int,r=.int .u64 t25∧LoopEv (evC Try.prog tab lv26 (sub [1,1,1,1,1,0,1,0,0] body26)) (contAt Try.prog tab lv26 [1,1,1,1,1,0,1,0] body26 [] (bodyK Try.prog Try.f26 [] R)) [(0,.pointer x0),(2,.int .i64 x2),(3,.slice x3.a x3.n x3.c),(11,.int .i64 x11),(12,.int .i64 0),(13,.int .u64 t25)] 49 h2
def f26L1 (J1:Nat→Option Addr→Int→Sl→Int→Int→Int→Hp→Prop) (n1:Nat) (s0:Option Addr) (s2:Int) (s3:Sl) (s11:Int) (s12:Int) (s13:Int) (g:Nat→Value) (h:Hp) (R:Value→Hp→Prop):Prop :=
 Cond (s13 != (0:Int)) (f26K2 J1 n1 s0 s2 s3 s11 s12 s13 (decide (s12 < s2)) h R) (f26K2 J1 n1 s0 s2 s3 s11 s12 s13 false h R)
theorem f26L1_eq (J1:Nat→Option Addr→Int→Sl→Int→Int→Int→Hp→Prop) (n1:Nat) (s0:Option Addr) (s2:Int) (s3:Sl) (s11:Int) (s12:Int) (s13:Int) (g:Nat→Value) (h:Hp) (R:Value→Hp→Prop):(evC Try.prog tab lv26 (sub [1,1,1,1,1,0,1,0,0] body26)) (loopK (f26I1 J1) n1 (contAt Try.prog tab lv26 [1,1,1,1,1,0,1,0] body26 [] (bodyK Try.prog Try.f26 [] R))) (mkEnv 49 [(0,.pointer s0),(2,.int .i64 s2),(3,.slice s3.a s3.n s3.c),(11,.int .i64 s11),(12,.int .i64 s12),(13,.int .u64 s13)] g) h=f26L1 J1 n1 s0 s2 s3 s11 s12 s13 g h R:=by kernel_rfl
theorem f26I1_at (J:Nat→Option Addr→Int→Sl→Int→Int→Int→Hp→Prop) (n:Nat) (s0:Option Addr) (s2:Int) (s3:Sl) (s11:Int) (s12:Int) (s13:Int) (g:Nat→Value) (h:Hp):f26I1 J n (mkEnv 49 [(0,.pointer s0),(2,.int .i64 s2),(3,.slice s3.a s3.n s3.c),(11,.int .i64 s11),(12,.int .i64 s12),(13,.int .u64 s13)] g) h=J n s0 s2 s3 s11 s12 s13 h:=by kernel_rfl
theorem f26L1_rule  {R:Value→Hp→Prop} {s0:Option Addr} {s2:Int} {s3:Sl} {s11:Int} {s12:Int} {s13:Int} {h0:Hp} (J:Nat→Option Addr→Int→Sl→Int→Int→Int→Hp→Prop) (n0:Nat) (hi:J n0 s0 s2 s3 s11 s12 s13 h0)
  (hr:∀ n s0 s2 s3 s11 s12 s13 g h,J n s0 s2 s3 s11 s12 s13 h→f26L1  J n s0 s2 s3 s11 s12 s13 g h R):LoopEv (evC Try.prog tab lv26 (sub [1,1,1,1,1,0,1,0,0] body26)) (contAt Try.prog tab lv26 [1,1,1,1,1,0,1,0] body26 [] (bodyK Try.prog Try.f26 [] R)) [(0,.pointer s0),(2,.int .i64 s2),(3,.slice s3.a s3.n s3.c),(11,.int .i64 s11),(12,.int .i64 s12),(13,.int .u64 s13)] 49 h0:=by
 refine ⟨f26I1 J,n0,fun g=>by rw [f26I1_at]; exact hi,fun n env h hI=>?_⟩
 clear hi
 clear s0 s2 s3 s11 s12 s13
 obtain ⟨hlen,hI⟩:=Cond_true' hI
 have hlen:env.length=49:=by simpa using hlen
 obtain ⟨s0,es0,hI⟩:=DecP.out hI
 obtain ⟨s2,es2,hI⟩:=DecI.out hI
 obtain ⟨s3,es3,hI⟩:=DecL.out hI
 obtain ⟨s11,es11,hI⟩:=DecI.out hI
 obtain ⟨s12,es12,hI⟩:=DecI.out hI
 obtain ⟨s13,es13,hI⟩:=DecI.out hI
 rw [mkEnv_of (l:=[(0,.pointer s0),(2,.int .i64 s2),(3,.slice s3.a s3.n s3.c),(11,.int .i64 s11),(12,.int .i64 s12),(13,.int .u64 s13)]) hlen (by simp only [List.mem_cons,List.not_mem_nil,or_false,forall_eq_or_imp,forall_eq]; exact ⟨es0,es2,es3,es11,es12,es13⟩)]
 rw [f26L1_eq]
 exact hr n s0 s2 s3 s11 s12 s13 _ h hI
def f26F (a0:Option Addr) (a1:Bool) (a2:Int) (a3:Sl) (h:Hp) (R:Value→Hp→Prop):Prop :=
 PtrOk a0 fun p16=>∃ t18:Int,cell h (p16.add 1)=some (.int .i64 t18)∧Cond (t18 == (0:Int)) (R (.tuple #[.int .i64 0,.int .i64 51]:Value) h) (Cond a1 (f26K1  a0 a2 a3 (0:Int) (1:Int) h R) (f26K1  a0 a2 a3 (1:Int) (0:Int) h R))
theorem f26F_eq (a0:Option Addr) (a1:Bool) (a2:Int) (a3:Sl) (h:Hp) (R:Value→Hp→Prop):evF Try.prog tab lv26 Try.f26 body26 [] [.pointer a0,.bool a1,.int .i64 a2,.slice a3.a a3.n a3.c] h R=f26F a0 a1 a2 a3 h R:=by kernel_rfl
theorem f26F_ok {a0:Option Addr} {a1:Bool} {a2:Int} {a3:Sl} {h:Hp} {R:Value→Hp→Prop} (hF:f26F a0 a1 a2 a3 h R):CallTo Try.prog 26 #[.pointer a0,.bool a1,.int .i64 a2,.slice a3.a a3.n a3.c] h R :=
 callTo_of_ev (lv:=lv26) (hints:=[]) (c:=body26) (args:=[.pointer a0,.bool a1,.int .i64 a2,.slice a3.a a3.n a3.c]) mixed tab_ok Try.func26 (by kernel_rfl) (by kernel_rfl) (by rw [f26F_eq]; exact hF)
/- (*larder/chain.List).All -/
noncomputable def body35:Code:=(Try.f35.body).getD .skip
def lv35 (m:Nat):List Nat:=[]
def f35F (a0:Option Addr) (h:Hp) (R:Value→Hp→Prop):Prop :=
 Let (h.push (.cells #[.pointer a0] 32)) fun h1=>R ((.func (.func 62) #[] #[.pointer (some (nb h))]:Value)) h1
theorem f35F_eq (a0:Option Addr) (h:Hp) (R:Value→Hp→Prop):evF Try.prog tab lv35 Try.f35 body35 [] [.pointer a0] h R=f35F a0 h R:=by kernel_rfl
theorem f35F_ok {a0:Option Addr} {h:Hp} {R:Value→Hp→Prop} (hF:f35F a0 h R):CallTo Try.prog 35 #[.pointer a0] h R :=
 callTo_of_ev (lv:=lv35) (hints:=[]) (c:=body35) (args:=[.pointer a0]) mixed tab_ok Try.func35 (by kernel_rfl) (by kernel_rfl) (by rw [f35F_eq]; exact hF)
/- (*larder/chain.List).Close -/
noncomputable def body38:Code:=(Try.f38.body).getD .skip
def lv38 (m:Nat):List Nat:=[]
def f38F (a0:Option Addr) (h:Hp) (R:Value→Hp→Prop):Prop :=
 PtrOk a0 fun p3=>∃ t5:Int,cell h (p3.add 1)=some (.int .i64 t5)∧Cond (t5 != (0:Int)) (PtrOk a0 fun p8=>∃ t10:Option Addr,cell h p8=some (.pointer t10)∧PtrOk a0 fun p12=>∃ t14:Int,cell h (p12.add 1)=some (.int .i64 t14)∧CallTo Try.prog 63 #[.pointer t10,.int .i64 t14] h fun r h1=>∃ t15:Int,r=.int .i64 t15∧PtrOk a0 fun p17=>stOk h1 (p17.add 1)∧Let (setc h1 (p17.add 1) (.int .i64 0)) fun h2=>R (.tuple #[]:Value) h2) (R (.tuple #[]:Value) h)
theorem f38F_eq (a0:Option Addr) (h:Hp) (R:Value→Hp→Prop):evF Try.prog tab lv38 Try.f38 body38 [] [.pointer a0] h R=f38F a0 h R:=by kernel_rfl
theorem f38F_ok {a0:Option Addr} {h:Hp} {R:Value→Hp→Prop} (hF:f38F a0 h R):CallTo Try.prog 38 #[.pointer a0] h R :=
 callTo_of_ev (lv:=lv38) (hints:=[]) (c:=body38) (args:=[.pointer a0]) mixed tab_ok Try.func38 (by kernel_rfl) (by kernel_rfl) (by rw [f38F_eq]; exact hF)
/- larder/chain.hold -/
noncomputable def body41:Code:=(Try.f41.body).getD .skip
def lv41 (m:Nat):List Nat:=[]
def f41F (a0:Option Addr) (a1:Int) (h:Hp) (R:Value→Hp→Prop):Prop :=
 CallTo Try.prog 66 #[.pointer a0,.int .u64 a1] h fun r h1=>∃ t11_0:Int,∃ t11_1:Int,r=.tuple #[.int .i64 t11_0,.int .i64 t11_1]∧Cond (t11_1 != (0:Int)) (R (.tuple #[.pointer none,.int .i64 t11_1]:Value) h1) (Let (h1.push (.cells #[.pointer a0,.int .i64 t11_0] 116)) fun h2=>R ((.tuple #[.pointer (some (nb h1)),.int .i64 0]:Value)) h2)
theorem f41F_eq (a0:Option Addr) (a1:Int) (h:Hp) (R:Value→Hp→Prop):evF Try.prog tab lv41 Try.f41 body41 [] [.pointer a0,.int .u64 a1] h R=f41F a0 a1 h R:=by kernel_rfl
theorem f41F_ok {a0:Option Addr} {a1:Int} {h:Hp} {R:Value→Hp→Prop} (hF:f41F a0 a1 h R):CallTo Try.prog 41 #[.pointer a0,.int .u64 a1] h R :=
 callTo_of_ev (lv:=lv41) (hints:=[]) (c:=body41) (args:=[.pointer a0,.int .u64 a1]) mixed tab_ok Try.func41 (by kernel_rfl) (by kernel_rfl) (by rw [f41F_eq]; exact hF)
/- (*larder/chain.List).span -/
noncomputable def body42:Code:=(Try.f42.body).getD .skip
def lv42 (m:Nat):List Nat:=[]
def f42K1  (x32:Bool) (h:Hp) (R:Value→Hp→Prop):Prop :=
 Cond x32 (R (.int .i64 52:Value) h) (R (.int .i64 0:Value) h)
def f42F (a0:Option Addr) (a1:Int) (a2:Int) (h:Hp) (R:Value→Hp→Prop):Prop :=
 PtrOk a0 fun p9=>∃ t11:Int,cell h (p9.add 1)=some (.int .i64 t11)∧Cond (t11 == (0:Int)) (R (.int .i64 51:Value) h) (CallTo Try.prog 16 #[.pointer a0] h fun r h1=>∃ t14:Int,r=.int .i64 t14∧Cond (decide (a1 < (0:Int))) (f42K1  true h1 R) (Cond (decide (a2 < (0:Int))) (f42K1  true h1 R) (Cond (decide (a1 > t14)) (f42K1  true h1 R) (f42K1  (decide (a2 > (IntKind.wrap .i64 (t14 - a1)))) h1 R))))
theorem f42F_eq (a0:Option Addr) (a1:Int) (a2:Int) (h:Hp) (R:Value→Hp→Prop):evF Try.prog tab lv42 Try.f42 body42 [] [.pointer a0,.int .i64 a1,.int .i64 a2] h R=f42F a0 a1 a2 h R:=by kernel_rfl
theorem f42F_ok {a0:Option Addr} {a1:Int} {a2:Int} {h:Hp} {R:Value→Hp→Prop} (hF:f42F a0 a1 a2 h R):CallTo Try.prog 42 #[.pointer a0,.int .i64 a1,.int .i64 a2] h R :=
 callTo_of_ev (lv:=lv42) (hints:=[]) (c:=body42) (args:=[.pointer a0,.int .i64 a1,.int .i64 a2]) mixed tab_ok Try.func42 (by kernel_rfl) (by kernel_rfl) (by rw [f42F_eq]; exact hF)
/- (*larder/chain.List).lay -/
noncomputable def body43:Code:=(Try.f43.body).getD .skip
def lv43 (m:Nat):List Nat:=[]
def f43F (a0:Option Addr) (a1:Sl) (h:Hp) (R:Value→Hp→Prop):Prop :=
 PtrOk a0 fun p12=>∃ t14:Option Addr,cell h p12=some (.pointer t14)∧Let (h.push (.cells #[.slice a1.a a1.n a1.c] 23)) fun h1=>CallTo Try.prog 53 #[.pointer t14,.slice (some (nb h)) 1 1] h1 fun r h2=>∃ t17_0:Int,∃ t17_1:Int,r=.tuple #[.int .u64 t17_0,.int .i64 t17_1]∧Cond (t17_1 != (0:Int)) (R (.tuple #[.int .u64 0,.int .i64 t17_1]:Value) h2) (PtrOk a0 fun p25=>∃ t27:Option Addr,cell h2 p25=some (.pointer t27)∧CallTo Try.prog 66 #[.pointer t27,.int .u64 t17_0] h2 fun r h3=>∃ t29_0:Int,∃ t29_1:Int,r=.tuple #[.int .i64 t29_0,.int .i64 t29_1]∧Cond (t29_1 != (0:Int)) (R (.tuple #[.int .u64 0,.int .i64 t29_1]:Value) h3) (PtrOk a0 fun p36=>∃ t38:Option Addr,cell h3 p36=some (.pointer t38)∧PtrOk a0 fun p42=>∃ t44:Option Addr,cell h3 p42=some (.pointer t44)∧CallTo Try.prog 40 #[.pointer t44,.int .i64 3,.int .i64 3,.int .i64 0] h3 fun r h4=>∃ t45_0:Int,∃ t45_1:Int,r=.tuple #[.int .u64 t45_0,.int .i64 t45_1]∧Cond (t45_1 != (0:Int)) (DCallTo Try.prog 63 #[.pointer t38,.int .i64 t29_0] h4 fun _ h5=>R (.tuple #[.int .u64 0,.int .i64 t45_1]:Value) h5) (PtrOk a0 fun p53=>∃ t55:Option Addr,cell h4 p53=some (.pointer t55)∧CallTo Try.prog 67 #[.pointer t55,.int .i64 t29_0] h4 fun r h6=>∃ t57_0:Int,∃ t57_1:Int,r=.tuple #[.int .u64 t57_0,.int .i64 t57_1]∧CallTo Try.prog 54 #[.pointer a0,.int .u64 t45_0,.int .i64 2,.int .u64 t57_0] h6 fun r h7=>r=.tuple #[]∧DCallTo Try.prog 63 #[.pointer t38,.int .i64 t29_0] h7 fun _ h8=>R (.tuple #[.int .u64 t45_0,.int .i64 0]:Value) h8)))
theorem f43F_eq (a0:Option Addr) (a1:Sl) (h:Hp) (R:Value→Hp→Prop):evFD Try.prog tab lv43 Try.f43 body43 [] [.pointer a0,.slice a1.a a1.n a1.c] h R=f43F a0 a1 h R:=by kernel_rfl
theorem f43F_ok {a0:Option Addr} {a1:Sl} {h:Hp} {R:Value→Hp→Prop} (hF:f43F a0 a1 h R):CallTo Try.prog 43 #[.pointer a0,.slice a1.a a1.n a1.c] h R :=
 callTo_of_evD (lv:=lv43) (hints:=[]) (c:=body43) (args:=[.pointer a0,.slice a1.a a1.n a1.c]) mixed tab_ok Try.func43 (by kernel_rfl) (by kernel_rfl) (by rw [f43F_eq]; exact hF)
/- (*larder/chain.List).link -/
noncomputable def body44:Code:=(Try.f44.body).getD .skip
def lv44 (m:Nat):List Nat:=[]
def f44K2  (x0:Option Addr) (x1:Int) (x2:Int) (x6:Int) (x7:Int) (h:Hp) (R:Value→Hp→Prop):Prop :=
 CallTo Try.prog 54 #[.pointer x0,.int .u64 x1,.int .i64 0,.int .u64 x7] h fun r h6=>r=.tuple #[]∧CallTo Try.prog 54 #[.pointer x0,.int .u64 x1,.int .i64 1,.int .u64 x2] h6 fun r h7=>r=.tuple #[]∧CallTo Try.prog 47 #[.pointer x0,.int .u64 x6,.int .i64 2] h7 fun r h8=>∃ t48:Int,r=.int .u64 t48∧CallTo Try.prog 54 #[.pointer x0,.int .u64 x6,.int .i64 2,.int .u64 (IntKind.wrap .u64 (t48 + (1:Int)))] h8 fun r h9=>r=.tuple #[]∧R (.tuple #[]:Value) h9
def f44K1  (x0:Option Addr) (x1:Int) (x2:Int) (x6:Int) (x7:Int) (h:Hp) (R:Value→Hp→Prop):Prop :=
 Cond (x7 != (0:Int)) (CallTo Try.prog 54 #[.pointer x0,.int .u64 x7,.int .i64 1,.int .u64 x1] h fun r h5=>r=.tuple #[]∧f44K2  x0 x1 x2 x6 x7 h5 R) (CallTo Try.prog 54 #[.pointer x0,.int .u64 x6,.int .i64 0,.int .u64 x1] h fun r h10=>r=.tuple #[]∧f44K2  x0 x1 x2 x6 x7 h10 R)
def f44F (a0:Option Addr) (a1:Int) (a2:Int) (h:Hp) (R:Value→Hp→Prop):Prop :=
 CallTo Try.prog 48 #[.pointer a0] h fun r h1=>∃ t9:Int,r=.int .u64 t9∧CallTo Try.prog 47 #[.pointer a0,.int .u64 t9,.int .i64 1] h1 fun r h2=>∃ t12:Int,r=.int .u64 t12∧Cond (a2 != (0:Int)) (CallTo Try.prog 47 #[.pointer a0,.int .u64 a2,.int .i64 0] h2 fun r h3=>∃ t17:Int,r=.int .u64 t17∧CallTo Try.prog 54 #[.pointer a0,.int .u64 a2,.int .i64 0,.int .u64 a1] h3 fun r h4=>r=.tuple #[]∧f44K1  a0 a1 a2 t9 t17 h4 R) (CallTo Try.prog 54 #[.pointer a0,.int .u64 t9,.int .i64 1,.int .u64 a1] h2 fun r h11=>r=.tuple #[]∧f44K1  a0 a1 a2 t9 t12 h11 R)
theorem f44F_eq (a0:Option Addr) (a1:Int) (a2:Int) (h:Hp) (R:Value→Hp→Prop):evF Try.prog tab lv44 Try.f44 body44 [] [.pointer a0,.int .u64 a1,.int .u64 a2] h R=f44F a0 a1 a2 h R:=by kernel_rfl
theorem f44F_ok {a0:Option Addr} {a1:Int} {a2:Int} {h:Hp} {R:Value→Hp→Prop} (hF:f44F a0 a1 a2 h R):CallTo Try.prog 44 #[.pointer a0,.int .u64 a1,.int .u64 a2] h R :=
 callTo_of_ev (lv:=lv44) (hints:=[]) (c:=body44) (args:=[.pointer a0,.int .u64 a1,.int .u64 a2]) mixed tab_ok Try.func44 (by kernel_rfl) (by kernel_rfl) (by rw [f44F_eq]; exact hF)
/- (*larder/chain.List).node -/
noncomputable def body45:Code:=(Try.f45.body).getD .skip
def lv45 (m:Nat):List Nat:=if m=7 then [0,7,23,24] else if m=13 then [0,8,37,38] else []
def f45I1 (J:Nat→Option Addr→Int→Int→Int→Hp→Prop) (n:Nat) (env:List Value) (h:Hp):Prop:=lenIs env 45 (DecP env 0 fun s0=>DecI .u64 env 7 fun s7=>DecI .i64 env 23 fun s23=>DecI .i64 env 24 fun s24=>J n s0 s7 s23 s24 h)
def f45I2 (J:Nat→Option Addr→Int→Int→Int→Hp→Prop) (n:Nat) (env:List Value) (h:Hp):Prop:=lenIs env 45 (DecP env 0 fun s0=>DecI .u64 env 8 fun s8=>DecI .i64 env 37 fun s37=>DecI .i64 env 38 fun s38=>J n s0 s8 s37 s38 h)
def f45L1 (J1:Nat→Option Addr→Int→Int→Int→Hp→Prop) (n1:Nat) (s0:Option Addr) (s7:Int) (s23:Int) (s24:Int) (g:Nat→Value) (h:Hp) (R:Value→Hp→Prop):Prop :=
 Cond (decide (s24 < s23)) (CallTo Try.prog 47 #[.pointer s0,.int .u64 s7,.int .i64 1] h fun r h4=>∃ t28:Int,r=.int .u64 t28∧∃ m,m < n1∧J1 m s0 t28 s23 (IntKind.wrap .i64 (s24 + (1:Int))) h4) (R (.int .u64 s7:Value) h)
theorem f45L1_eq (J1:Nat→Option Addr→Int→Int→Int→Hp→Prop) (n1:Nat) (s0:Option Addr) (s7:Int) (s23:Int) (s24:Int) (g:Nat→Value) (h:Hp) (R:Value→Hp→Prop):(evC Try.prog tab lv45 (sub [1,1,1,0,1,0,1,0,1,0,0] body45)) (loopK (f45I1 J1) n1 (contAt Try.prog tab lv45 [1,1,1,0,1,0,1,0,1,0] body45 [] (bodyK Try.prog Try.f45 [] R))) (mkEnv 45 [(0,.pointer s0),(7,.int .u64 s7),(23,.int .i64 s23),(24,.int .i64 s24)] g) h=f45L1 J1 n1 s0 s7 s23 s24 g h R:=by kernel_rfl
theorem f45I1_at (J:Nat→Option Addr→Int→Int→Int→Hp→Prop) (n:Nat) (s0:Option Addr) (s7:Int) (s23:Int) (s24:Int) (g:Nat→Value) (h:Hp):f45I1 J n (mkEnv 45 [(0,.pointer s0),(7,.int .u64 s7),(23,.int .i64 s23),(24,.int .i64 s24)] g) h=J n s0 s7 s23 s24 h:=by kernel_rfl
theorem f45L1_rule  {R:Value→Hp→Prop} {s0:Option Addr} {s7:Int} {s23:Int} {s24:Int} {h0:Hp} (J:Nat→Option Addr→Int→Int→Int→Hp→Prop) (n0:Nat) (hi:J n0 s0 s7 s23 s24 h0)
  (hr:∀ n s0 s7 s23 s24 g h,J n s0 s7 s23 s24 h→f45L1  J n s0 s7 s23 s24 g h R):LoopEv (evC Try.prog tab lv45 (sub [1,1,1,0,1,0,1,0,1,0,0] body45)) (contAt Try.prog tab lv45 [1,1,1,0,1,0,1,0,1,0] body45 [] (bodyK Try.prog Try.f45 [] R)) [(0,.pointer s0),(7,.int .u64 s7),(23,.int .i64 s23),(24,.int .i64 s24)] 45 h0:=by
 refine ⟨f45I1 J,n0,fun g=>by rw [f45I1_at]; exact hi,fun n env h hI=>?_⟩
 clear hi
 clear s0 s7 s23 s24
 obtain ⟨hlen,hI⟩:=Cond_true' hI
 have hlen:env.length=45:=by simpa using hlen
 obtain ⟨s0,es0,hI⟩:=DecP.out hI
 obtain ⟨s7,es7,hI⟩:=DecI.out hI
 obtain ⟨s23,es23,hI⟩:=DecI.out hI
 obtain ⟨s24,es24,hI⟩:=DecI.out hI
 rw [mkEnv_of (l:=[(0,.pointer s0),(7,.int .u64 s7),(23,.int .i64 s23),(24,.int .i64 s24)]) hlen (by simp only [List.mem_cons,List.not_mem_nil,or_false,forall_eq_or_imp,forall_eq]; exact ⟨es0,es7,es23,es24⟩)]
 rw [f45L1_eq]
 exact hr n s0 s7 s23 s24 _ h hI
def f45L2 (J2:Nat→Option Addr→Int→Int→Int→Hp→Prop) (n2:Nat) (s0:Option Addr) (s8:Int) (s37:Int) (s38:Int) (g:Nat→Value) (h:Hp) (R:Value→Hp→Prop):Prop :=
 Cond (decide (s38 < s37)) (CallTo Try.prog 47 #[.pointer s0,.int .u64 s8,.int .i64 0] h fun r h6=>∃ t42:Int,r=.int .u64 t42∧∃ m,m < n2∧J2 m s0 t42 s37 (IntKind.wrap .i64 (s38 + (1:Int))) h6) (R (.int .u64 s8:Value) h)
theorem f45L2_eq (J2:Nat→Option Addr→Int→Int→Int→Hp→Prop) (n2:Nat) (s0:Option Addr) (s8:Int) (s37:Int) (s38:Int) (g:Nat→Value) (h:Hp) (R:Value→Hp→Prop):(evC Try.prog tab lv45 (sub [1,1,1,1,1,0,1,0,0] body45)) (loopK (f45I2 J2) n2 (contAt Try.prog tab lv45 [1,1,1,1,1,0,1,0] body45 [] (bodyK Try.prog Try.f45 [] R))) (mkEnv 45 [(0,.pointer s0),(8,.int .u64 s8),(37,.int .i64 s37),(38,.int .i64 s38)] g) h=f45L2 J2 n2 s0 s8 s37 s38 g h R:=by kernel_rfl
theorem f45I2_at (J:Nat→Option Addr→Int→Int→Int→Hp→Prop) (n:Nat) (s0:Option Addr) (s8:Int) (s37:Int) (s38:Int) (g:Nat→Value) (h:Hp):f45I2 J n (mkEnv 45 [(0,.pointer s0),(8,.int .u64 s8),(37,.int .i64 s37),(38,.int .i64 s38)] g) h=J n s0 s8 s37 s38 h:=by kernel_rfl
theorem f45L2_rule  {R:Value→Hp→Prop} {s0:Option Addr} {s8:Int} {s37:Int} {s38:Int} {h0:Hp} (J:Nat→Option Addr→Int→Int→Int→Hp→Prop) (n0:Nat) (hi:J n0 s0 s8 s37 s38 h0)
  (hr:∀ n s0 s8 s37 s38 g h,J n s0 s8 s37 s38 h→f45L2  J n s0 s8 s37 s38 g h R):LoopEv (evC Try.prog tab lv45 (sub [1,1,1,1,1,0,1,0,0] body45)) (contAt Try.prog tab lv45 [1,1,1,1,1,0,1,0] body45 [] (bodyK Try.prog Try.f45 [] R)) [(0,.pointer s0),(8,.int .u64 s8),(37,.int .i64 s37),(38,.int .i64 s38)] 45 h0:=by
 refine ⟨f45I2 J,n0,fun g=>by rw [f45I2_at]; exact hi,fun n env h hI=>?_⟩
 clear hi
 clear s0 s8 s37 s38
 obtain ⟨hlen,hI⟩:=Cond_true' hI
 have hlen:env.length=45:=by simpa using hlen
 obtain ⟨s0,es0,hI⟩:=DecP.out hI
 obtain ⟨s8,es8,hI⟩:=DecI.out hI
 obtain ⟨s37,es37,hI⟩:=DecI.out hI
 obtain ⟨s38,es38,hI⟩:=DecI.out hI
 rw [mkEnv_of (l:=[(0,.pointer s0),(8,.int .u64 s8),(37,.int .i64 s37),(38,.int .i64 s38)]) hlen (by simp only [List.mem_cons,List.not_mem_nil,or_false,forall_eq_or_imp,forall_eq]; exact ⟨es0,es8,es37,es38⟩)]
 rw [f45L2_eq]
 exact hr n s0 s8 s37 s38 _ h hI
def f45F (a0:Option Addr) (a1:Int) (h:Hp) (R:Value→Hp→Prop):Prop :=
 CallTo Try.prog 48 #[.pointer a0] h fun r h1=>∃ t10:Int,r=.int .u64 t10∧CallTo Try.prog 16 #[.pointer a0] h1 fun r h2=>∃ t12:Int,r=.int .i64 t12∧Cond (decide (a1 ≥ t12)) (R (.int .u64 0:Value) h2) ((2:Int) ≠ 0∧Cond (decide (a1 < (IntKind.wrap .i64 (Int.tdiv t12 (2:Int))))) (CallTo Try.prog 47 #[.pointer a0,.int .u64 t10,.int .i64 0] h2 fun r h3=>∃ t22:Int,r=.int .u64 t22∧LoopEv (evC Try.prog tab lv45 (sub [1,1,1,0,1,0,1,0,1,0,0] body45)) (contAt Try.prog tab lv45 [1,1,1,0,1,0,1,0,1,0] body45 [] (bodyK Try.prog Try.f45 [] R)) [(0,.pointer a0),(7,.int .u64 t22),(23,.int .i64 a1),(24,.int .i64 0)] 45 h3) (CallTo Try.prog 47 #[.pointer a0,.int .u64 t10,.int .i64 1] h2 fun r h5=>∃ t33:Int,r=.int .u64 t33∧LoopEv (evC Try.prog tab lv45 (sub [1,1,1,1,1,0,1,0,0] body45)) (contAt Try.prog tab lv45 [1,1,1,1,1,0,1,0] body45 [] (bodyK Try.prog Try.f45 [] R)) [(0,.pointer a0),(8,.int .u64 t33),(37,.int .i64 (IntKind.wrap .i64 ((IntKind.wrap .i64 (t12 - (1:Int))) - a1))),(38,.int .i64 0)] 45 h5))
theorem f45F_eq (a0:Option Addr) (a1:Int) (h:Hp) (R:Value→Hp→Prop):evF Try.prog tab lv45 Try.f45 body45 [] [.pointer a0,.int .i64 a1] h R=f45F a0 a1 h R:=by kernel_rfl
theorem f45F_ok {a0:Option Addr} {a1:Int} {h:Hp} {R:Value→Hp→Prop} (hF:f45F a0 a1 h R):CallTo Try.prog 45 #[.pointer a0,.int .i64 a1] h R :=
 callTo_of_ev (lv:=lv45) (hints:=[]) (c:=body45) (args:=[.pointer a0,.int .i64 a1]) mixed tab_ok Try.func45 (by kernel_rfl) (by kernel_rfl) (by rw [f45F_eq]; exact hF)
/- (*larder/chain.List).read -/
noncomputable def body46:Code:=(Try.f46.body).getD .skip
def lv46 (m:Nat):List Nat:=[]
def f46F (a0:Option Addr) (a1:Int) (h:Hp) (R:Value→Hp→Prop):Prop :=
 PtrOk a0 fun p9=>∃ t11:Option Addr,cell h p9=some (.pointer t11)∧CallTo Try.prog 47 #[.pointer a0,.int .u64 a1,.int .i64 2] h fun r h1=>∃ t14:Int,r=.int .u64 t14∧(∃ y0:Option Addr,cell h1 p9=some (.pointer y0)∧Next.value (.pointer y0)=Next.value (.pointer t11))∧CallTo Try.prog 68 #[.pointer t11,.int .u64 t14] h1 fun r h2=>∃ t15_0:Sl,∃ t15_1:Int,r=.tuple #[.slice t15_0.a t15_0.n t15_0.c,.int .i64 t15_1]∧R (.slice t15_0.a t15_0.n t15_0.c:Value) h2
theorem f46F_eq (a0:Option Addr) (a1:Int) (h:Hp) (R:Value→Hp→Prop):evF Try.prog tab lv46 Try.f46 body46 [] [.pointer a0,.int .u64 a1] h R=f46F a0 a1 h R:=by kernel_rfl
theorem f46F_ok {a0:Option Addr} {a1:Int} {h:Hp} {R:Value→Hp→Prop} (hF:f46F a0 a1 h R):CallTo Try.prog 46 #[.pointer a0,.int .u64 a1] h R :=
 callTo_of_ev (lv:=lv46) (hints:=[]) (c:=body46) (args:=[.pointer a0,.int .u64 a1]) mixed tab_ok Try.func46 (by kernel_rfl) (by kernel_rfl) (by rw [f46F_eq]; exact hF)
/- (*larder/chain.List).get -/
noncomputable def body47:Code:=(Try.f47.body).getD .skip
def lv47 (m:Nat):List Nat:=[]
def f47F (a0:Option Addr) (a1:Int) (a2:Int) (h:Hp) (R:Value→Hp→Prop):Prop :=
 PtrOk a0 fun p11=>∃ t13:Option Addr,cell h p11=some (.pointer t13)∧CallTo Try.prog 69 #[.pointer t13,.int .u64 a1,.int .i64 a2] h fun r h1=>∃ t16_0:Int,∃ t16_1:Int,r=.tuple #[.int .u64 t16_0,.int .i64 t16_1]∧R (.int .u64 t16_0:Value) h1
theorem f47F_eq (a0:Option Addr) (a1:Int) (a2:Int) (h:Hp) (R:Value→Hp→Prop):evF Try.prog tab lv47 Try.f47 body47 [] [.pointer a0,.int .u64 a1,.int .i64 a2] h R=f47F a0 a1 a2 h R:=by kernel_rfl
theorem f47F_ok {a0:Option Addr} {a1:Int} {a2:Int} {h:Hp} {R:Value→Hp→Prop} (hF:f47F a0 a1 a2 h R):CallTo Try.prog 47 #[.pointer a0,.int .u64 a1,.int .i64 a2] h R :=
 callTo_of_ev (lv:=lv47) (hints:=[]) (c:=body47) (args:=[.pointer a0,.int .u64 a1,.int .i64 a2]) mixed tab_ok Try.func47 (by kernel_rfl) (by kernel_rfl) (by rw [f47F_eq]; exact hF)
/- (*larder/chain.List).Ref -/
noncomputable def body48:Code:=(Try.f48.body).getD .skip
def lv48 (m:Nat):List Nat:=[]
def f48F (a0:Option Addr) (h:Hp) (R:Value→Hp→Prop):Prop :=
 PtrOk a0 fun p6=>∃ t8:Int,cell h (p6.add 1)=some (.int .i64 t8)∧Cond (t8 == (0:Int)) (R (.int .u64 0:Value) h) (PtrOk a0 fun p12=>∃ t14:Option Addr,cell h p12=some (.pointer t14)∧PtrOk a0 fun p16=>∃ t18:Int,cell h (p16.add 1)=some (.int .i64 t18)∧∃ t19_0:Int,∃ t19_1:Int,CallTo Try.prog 67 #[.pointer t14,.int .i64 t18] h (fun v h'=>v=(.tuple #[.int .u64 t19_0,.int .i64 t19_1])∧h'=h)∧R (.int .u64 t19_0:Value) h)
theorem f48F_eq (a0:Option Addr) (h:Hp) (R:Value→Hp→Prop):evF Try.prog tab lv48 Try.f48 body48 [] [.pointer a0] h R=f48F a0 h R:=by kernel_rfl
theorem f48F_ok {a0:Option Addr} {h:Hp} {R:Value→Hp→Prop} (hF:f48F a0 h R):CallTo Try.prog 48 #[.pointer a0] h R :=
 callTo_of_ev (lv:=lv48) (hints:=[]) (c:=body48) (args:=[.pointer a0]) mixed tab_ok Try.func48 (by kernel_rfl) (by kernel_rfl) (by rw [f48F_eq]; exact hF)
/- (*larder/chain.List).unlink -/
noncomputable def body52:Code:=(Try.f52.body).getD .skip
def lv52 (m:Nat):List Nat:=[]
def f52K2  (x0:Option Addr) (x5:Int) (x7:Int) (h:Hp) (R:Value→Hp→Prop):Prop :=
 CallTo Try.prog 47 #[.pointer x0,.int .u64 x5,.int .i64 2] h fun r h6=>∃ t40:Int,r=.int .u64 t40∧CallTo Try.prog 54 #[.pointer x0,.int .u64 x5,.int .i64 2,.int .u64 (IntKind.wrap .u64 (t40 - (1:Int)))] h6 fun r h7=>r=.tuple #[]∧R (.int .u64 x7:Value) h7
def f52K1  (x0:Option Addr) (x5:Int) (x6:Int) (x7:Int) (h:Hp) (R:Value→Hp→Prop):Prop :=
 Cond (x7 != (0:Int)) (CallTo Try.prog 54 #[.pointer x0,.int .u64 x7,.int .i64 0,.int .u64 x6] h fun r h5=>r=.tuple #[]∧f52K2  x0 x5 x7 h5 R) (CallTo Try.prog 54 #[.pointer x0,.int .u64 x5,.int .i64 1,.int .u64 x6] h fun r h8=>r=.tuple #[]∧f52K2  x0 x5 x7 h8 R)
def f52F (a0:Option Addr) (a1:Int) (h:Hp) (R:Value→Hp→Prop):Prop :=
 CallTo Try.prog 48 #[.pointer a0] h fun r h1=>∃ t9:Int,r=.int .u64 t9∧CallTo Try.prog 47 #[.pointer a0,.int .u64 a1,.int .i64 0] h1 fun r h2=>∃ t12:Int,r=.int .u64 t12∧CallTo Try.prog 47 #[.pointer a0,.int .u64 a1,.int .i64 1] h2 fun r h3=>∃ t15:Int,r=.int .u64 t15∧Cond (t12 != (0:Int)) (CallTo Try.prog 54 #[.pointer a0,.int .u64 t12,.int .i64 1,.int .u64 t15] h3 fun r h4=>r=.tuple #[]∧f52K1  a0 t9 t12 t15 h4 R) (CallTo Try.prog 54 #[.pointer a0,.int .u64 t9,.int .i64 0,.int .u64 t15] h3 fun r h9=>r=.tuple #[]∧f52K1  a0 t9 t12 t15 h9 R)
theorem f52F_eq (a0:Option Addr) (a1:Int) (h:Hp) (R:Value→Hp→Prop):evF Try.prog tab lv52 Try.f52 body52 [] [.pointer a0,.int .u64 a1] h R=f52F a0 a1 h R:=by kernel_rfl
theorem f52F_ok {a0:Option Addr} {a1:Int} {h:Hp} {R:Value→Hp→Prop} (hF:f52F a0 a1 h R):CallTo Try.prog 52 #[.pointer a0,.int .u64 a1] h R :=
 callTo_of_ev (lv:=lv52) (hints:=[]) (c:=body52) (args:=[.pointer a0,.int .u64 a1]) mixed tab_ok Try.func52 (by kernel_rfl) (by kernel_rfl) (by rw [f52F_eq]; exact hF)
/- (*larder/chain.List).set -/
noncomputable def body54:Code:=(Try.f54.body).getD .skip
def lv54 (m:Nat):List Nat:=[]
def f54F (a0:Option Addr) (a1:Int) (a2:Int) (a3:Int) (h:Hp) (R:Value→Hp→Prop):Prop :=
 PtrOk a0 fun p9=>∃ t11:Option Addr,cell h p9=some (.pointer t11)∧CallTo Try.prog 71 #[.pointer t11,.int .u64 a1,.int .i64 a2,.int .u64 a3] h fun r h1=>∃ t15:Int,r=.int .i64 t15∧R (.tuple #[]:Value) h1
theorem f54F_eq (a0:Option Addr) (a1:Int) (a2:Int) (a3:Int) (h:Hp) (R:Value→Hp→Prop):evF Try.prog tab lv54 Try.f54 body54 [] [.pointer a0,.int .u64 a1,.int .i64 a2,.int .u64 a3] h R=f54F a0 a1 a2 a3 h R:=by kernel_rfl
theorem f54F_ok {a0:Option Addr} {a1:Int} {a2:Int} {a3:Int} {h:Hp} {R:Value→Hp→Prop} (hF:f54F a0 a1 a2 a3 h R):CallTo Try.prog 54 #[.pointer a0,.int .u64 a1,.int .i64 a2,.int .u64 a3] h R :=
 callTo_of_ev (lv:=lv54) (hints:=[]) (c:=body54) (args:=[.pointer a0,.int .u64 a1,.int .i64 a2,.int .u64 a3]) mixed tab_ok Try.func54 (by kernel_rfl) (by kernel_rfl) (by rw [f54F_eq]; exact hF)
end Go.Ev
set_option linter.all false
set_option maxRecDepth 1000000
namespace Go.Ev
open Go.Proofs
namespace RS
theorem here_count {s:RS} (v:s.Inv) {l:List Nat} (hn:l.Nodup) (hh:∀ x ∈ l,s.here x):l.length ≤ 2097152:=by
 have h1:l.length ≤ (s.small ++ s.slots).length:=len_le _ _ hn fun x hx=>(hh x hx).elim (fun h=>List.mem_append_left _ h) fun h=>List.mem_append_right _ h.2
 rw [List.length_append] at h1
 have h2:s.small.length ≤ s.sizes s.small:=by
  unfold sizes
  have:∀ l:List Nat,l.length ≤ (l.map s.size).sum:=fun l=>by
   induction l with
   | nil=>simp
   | cons y l ih =>
    have:0 < s.size y:=by unfold size RObj.size; omega
    simp only [List.map_cons,List.sum_cons,List.length_cons]
    omega
  exact this _
 have h3:=v.u1; have h4:=v.u2; have h5:=v.h2; have h6:=v.l2; have h7:=v.sll
 omega
end RS
/-- The program's List: its block, its handle. -/
structure Lst (h:Hp) (q:HQ) (lb hn:Nat):Prop where
 row:Row h lb [.pointer (some (ad q.hb)),.int .i64 (hn:Int)]
 out:q.role lb=.out
/-- A list's places and its elements. -/
structure LD where
 hd:Nat
 ns:List Nat
 bs:List Nat
 rows:List (List Nat)
def LD.all (L:LD):List Nat:=L.hd :: (L.ns ++ L.bs)
abbrev LD.ok (nd:List NodeD) (L:LD):Prop:=Ch nd L.hd L.ns L.bs L.rows
/-- An open list. -/
structure Opn (h:Hp) (q:HQ) (s:RS) (nd:List NodeD) (lb hn:Nat) (L:LD):Prop where
 g:Gs h q s nd
 l:Lst h q lb hn
 pos:1 ≤ hn
 lt:hn < 1000000000
 held:s.roots.getD (hn - 1) none=some L.hd
 c:L.ok nd
section
variable {h h' h2:Hp} {q q':HQ} {s s':RS} {nd nd':List NodeD} {n:NodeD} {id lb hn:Nat} {L:LD} {R:Value→Hp→Prop} {b:List Nat}
theorem Lst.c0 (l:Lst h q lb hn):cell h (ad lb)=some (.pointer (some (ad q.hb))):=(cell_row l.row 0).trans rfl
theorem Lst.c1 (l:Lst h q lb hn):cell h ((ad lb).add 1)=some (.int .i64 (hn:Int)):=by rw [add_ad]; exact (cell_row l.row 1).trans rfl
theorem Lst.ex (l:Lst h q lb hn) (x:Ex h q h' q'):Lst h' q' lb hn :=
 ⟨by rw [x.1]; exact kept_row x.kept l.row fun e=>e l.out,x.out (row_lt l.row) l.out⟩
theorem Lst.keepN (l:Lst h q lb hn) (k:Kept N h h'):Lst h' q lb hn:=⟨kept_row k l.row id,l.out⟩
theorem Opn.rch (o:Opn h q s nd lb hn L) {x:Nat} (hx:x ∈ L.all):Rch nd s.roots x:=o.c.rch (.root (mem_roots.2 ⟨_,o.held⟩) o.c.nz_h) hx
theorem Opn.here (o:Opn h q s nd lb hn L) {x:Nat} (hx:x ∈ L.all):s.here x:=o.g.here (o.rch hx)
theorem Opn.hh (o:Opn h q s nd lb hn L):s.here L.hd:=o.here (List.mem_cons_self ..)
theorem Opn.hn' (o:Opn h q s nd lb hn L) {i:Nat} (hi:i < L.rows.length):s.here (nx L.ns i):=o.here (List.mem_cons_of_mem _ (List.mem_append_left _ (nx_mem (by rw [o.c.ln]; exact hi))))
theorem Opn.hb' (o:Opn h q s nd lb hn L) {i:Nat} (hi:i < L.rows.length):s.here (nx L.bs i):=o.here (List.mem_cons_of_mem _ (List.mem_append_right _ (nx_mem (by rw [o.c.lb]; exact hi))))
theorem Opn.keepN (o:Opn h q s nd lb hn L) (k:Kept N h h'):Opn h' q s nd lb hn L:=⟨o.g.keepN k,o.l.keepN k,o.pos,o.lt,o.held,o.c⟩
theorem Opn.len (o:Opn h q s nd lb hn L):L.rows.length ≤ 2097152:=by
 rw [← o.c.ln]
 exact RS.here_count o.g.v o.c.ids.2.2.1 fun x hx=>o.here (List.mem_cons_of_mem _ (List.mem_append_left _ hx))
theorem Opn.nx0 (o:Opn h q s nd lb hn L) (i:Nat):nx L.ns i=0 ∨ s.here (nx L.ns i):=by
 by_cases h:i < L.rows.length
 ·exact .inr (o.hn' h)
 ·exact .inl (nx_out (by rw [o.c.ln]; omega))
theorem Opn.pv0 (o:Opn h q s nd lb hn L) (i:Nat):pv L.ns i=0 ∨ s.here (pv L.ns i):=by
 by_cases h:i=0
 ·rw [h]; exact .inl rfl
 ·rw [pv_eq i h]; exact o.nx0 _
theorem RS.ref_nz (v:s.Inv) (hh:s.here id):s.ref id ≠ 0:=fun e=>by
 have h1:=RS.ident_ref v (.inr hh)
 rw [e,RS.ident_zero] at h1
 exact RS.here_nz v hh h1.symm
/-! ### Fields -/
theorem lget (x:Gs h q s nd) (l:Lst h q lb hn) (hm:nd[id]?=some n) (hh:s.here id) {k r:Nat} (hk:n.refs[k]?=some r) {i:Int} (hi:i=(k:Int)) (hR:R (uv (s.ref r)) h) :
  CallTo Try.prog 47 #[.pointer (some (ad lb)),uv (s.ref id),.int .i64 i] h R :=
 f47F_ok (by unfold f47F; exact PtrOk_mk ⟨_,l.c0,q_get x hm hh hk hi ⟨_,_,rfl,hR⟩⟩)
theorem lgetw (x:Gs h q s nd) (l:Lst h q lb hn) (hm:nd[id]?=some n) (hh:s.here id) {k w:Nat} (hk:n.raws[k]?=some w) {i:Int} (hi:i=((n.refs.length + k:Nat):Int)) (hR:R (uv w) h) :
  CallTo Try.prog 47 #[.pointer (some (ad lb)),uv (s.ref id),.int .i64 i] h R :=
 f47F_ok (by unfold f47F; exact PtrOk_mk ⟨_,l.c0,q_getw x hm hh hk hi ⟨_,_,rfl,hR⟩⟩)
theorem lset (x:Gs h q s nd) (l:Lst h q lb hn) (hm:nd[id]?=some n) (hh:s.here id) {k t:Nat} (ht:t=0 ∨ s.here t) (hk:k < n.refs.length) {i:Int} (hi:i=(k:Int))
  (hR:∀ h' q' s',Gs h' q' s' (nd.set id ⟨n.kind,n.refs.set k t,n.raws⟩)→s'.Alk s→s'.roots=s.roots→Ex h q h' q'→R (.tuple #[]) h') :
  CallTo Try.prog 54 #[.pointer (some (ad lb)),uv (s.ref id),.int .i64 i,uv (s.ref t)] h R :=
 f54F_ok (by unfold f54F; exact PtrOk_mk ⟨_,l.c0,q_set x hm hh ht hk hi fun h' q' s' x' al er ex=>⟨_,rfl,hR h' q' s' x' al er ex⟩⟩)
theorem lsetw (x:Gs h q s nd) (l:Lst h q lb hn) (hm:nd[id]?=some n) (hh:s.here id) {k w:Nat} (hw:w < 18446744073709551616) (hk:k < n.raws.length) {i:Int} (hi:i=((n.refs.length + k:Nat):Int))
  (hR:∀ h' q' s',Gs h' q' s' (nd.set id ⟨n.kind,n.refs,n.raws.set k w⟩)→s'.Alk s→s'.roots=s.roots→Ex h q h' q'→R (.tuple #[]) h') :
  CallTo Try.prog 54 #[.pointer (some (ad lb)),uv (s.ref id),.int .i64 i,uv w] h R :=
 f54F_ok (by unfold f54F; exact PtrOk_mk ⟨_,l.c0,q_setw x hm hh hw hk hi fun h' q' s' x' al er ex=>⟨_,rfl,hR h' q' s' x' al er ex⟩⟩)
/-! ### Ref, Len, span -/
theorem lref (o:Opn h q s nd lb hn L) (hR:R (uv (s.ref L.hd)) h):CallTo Try.prog 48 #[.pointer (some (ad lb))] h R:=by
 refine f48F_ok ?_
 unfold f48F
 have:=o.pos
 exact PtrOk_mk ⟨_,o.l.c1,Cond_f (by rw [beq_eq_false_iff_ne]; omega) (PtrOk_mk ⟨_,o.l.c0,PtrOk_mk ⟨_,o.l.c1,_,_,q_at o.g o.pos o.held ⟨rfl,rfl⟩,hR⟩⟩)⟩
theorem llen (o:Opn h q s nd lb hn L) (hR:R (.int .i64 (L.rows.length:Nat)) h):CallTo Try.prog 16 #[.pointer (some (ad lb))] h R:=by
 refine f16F_ok ?_
 unfold f16F
 have:=o.pos
 have hl:=o.len
 refine PtrOk_mk ⟨_,o.l.c1,Cond_f (by rw [beq_eq_false_iff_ne]; omega) (lref o ⟨_,rfl,lgetw o.g o.l o.c.hn o.hh (k:=0) rfl rfl ⟨_,rfl,?_⟩⟩)⟩
 rw [wrap_i64' (by omega) (by omega)]
 exact hR
theorem llen0 (l:Lst h q lb 0) (hR:R (.int .i64 0) h):CallTo Try.prog 16 #[.pointer (some (ad lb))] h R:=by
 refine f16F_ok ?_
 unfold f16F
 exact PtrOk_mk ⟨_,l.c1,Cond_t rfl hR⟩
def InL (k:Nat) (i n:Int):Prop:=0 ≤ i∧0 ≤ n∧i ≤ (k:Int)∧n ≤ (k:Int) - i
instance (k:Nat) (i n:Int):Decidable (InL k i n):=inferInstanceAs (Decidable (_∧_))
theorem lspan (o:Opn h q s nd lb hn L) {i m:Int} (hi:-9223372036854775808 ≤ i∧i < 9223372036854775808) (hR:R (.int .i64 (if InL L.rows.length i m then 0 else 52)) h) :
  CallTo Try.prog 42 #[.pointer (some (ad lb)),.int .i64 i,.int .i64 m] h R:=by
 refine f42F_ok ?_
 unfold f42F
 have:=o.pos
 have hl:=o.len
 refine PtrOk_mk ⟨_,o.l.c1,Cond_f (by rw [beq_eq_false_iff_ne]; omega) (llen o ⟨_,rfl,?_⟩)⟩
 have bad:¬ InL L.rows.length i m→f42K1 true h R:=fun hn=>by
  unfold f42K1
  rw [if_neg hn] at hR
  exact Cond_t rfl hR
 refine Cond_dec (fun hc=>bad fun z=>by have:=z.1; omega) fun c1=>Cond_dec (fun hc=>bad fun z=>by have:=z.2.1; omega) fun c2=>Cond_dec (fun hc=>bad fun z=>by have:=z.2.2.1; omega) fun c3=>?_
 rw [wrap_i64' (x:=((L.rows.length:Nat):Int) - i) (by omega) (by omega)]
 by_cases c4:m > ((L.rows.length:Nat):Int) - i
 ·rw [decide_eq_true c4]; exact bad fun z=>by have:=z.2.2.2; omega
 ·rw [decide_eq_false c4]
  unfold f42K1
  rw [if_pos ⟨by omega,by omega,by omega,by omega⟩] at hR
  exact Cond_f rfl hR
theorem lspan0 (l:Lst h q lb 0) {i m:Int} (hR:R (.int .i64 51) h):CallTo Try.prog 42 #[.pointer (some (ad lb)),.int .i64 i,.int .i64 m] h R:=by
 refine f42F_ok ?_
 unfold f42F
 exact PtrOk_mk ⟨_,l.c1,Cond_t rfl hR⟩
/-! ### node, read -/
theorem lnode (o:Opn h q s nd lb hn L) {i:Nat} (hi:i ≤ L.rows.length) (hR:R (uv (s.ref (nx L.ns i))) h):CallTo Try.prog 45 #[.pointer (some (ad lb)),.int .i64 (i:Nat)] h R:=by
 refine f45F_ok ?_
 unfold f45F
 have hl:=o.len
 have hln:=o.c.ln
 refine lref o ⟨_,rfl,llen o ⟨_,rfl,Cond_dec (fun hge=>?_) fun hlt=>⟨by omega,?_⟩⟩⟩
 ·have e:nx L.ns i=0:=nx_out (by omega)
  rw [e,RS.ref_zero] at hR
  exact hR
 ·rw [Int.tdiv_eq_ediv_of_nonneg (by omega),wrap_i64' (by omega) (by omega)]
  refine Cond_dec (fun hfst=>?_) fun hsnd=>?_
  ·refine lget o.g o.l o.c.hn o.hh (k:=0) rfl rfl ⟨_,rfl,?_⟩
   refine f45L1_rule (fun m s0 s7 s23 s24 h'=>∃ k:Nat,k ≤ i∧m=i - k∧some (ad lb)=s0∧s7=((s.ref (nx L.ns k):Nat):Int)∧s23=(i:Int)∧s24=(k:Int)∧h=h') i ⟨0,Nat.zero_le _,rfl,rfl,rfl,rfl,rfl,rfl⟩ ?_
   rintro m s0 s7 s23 s24 g h1 ⟨k,hk,rfl,rfl,rfl,rfl,rfl,rfl⟩
   unfold f45L1
   refine Cond_dec (fun hlt2=>?_) fun hge2=>?_
   ·refine lget o.g o.l (o.c.nn k (by omega)) (o.hn' (by omega)) (k:=1) rfl rfl ⟨_,rfl,i - (k + 1),by omega,k + 1,by omega,rfl,rfl,rfl,rfl,by rw [wrap_i64' (by omega) (by omega)]; rfl,rfl⟩
   ·have:k=i:=by omega
    subst this
    exact hR
  ·have e0:pv L.ns L.rows.length=nx L.ns (L.rows.length - 1):=pv_eq _ (by omega)
   refine lget o.g o.l o.c.hn o.hh (k:=1) rfl rfl ⟨_,rfl,?_⟩
   rw [wrap_i64' (x:=((L.rows.length:Nat):Int) - 1) (by omega) (by omega),wrap_i64' (by omega) (by omega),e0]
   refine f45L2_rule (fun m s0 s8 s37 s38 h'=>∃ k:Nat,k + i ≤ L.rows.length - 1∧m=L.rows.length - k∧some (ad lb)=s0∧s8=((s.ref (nx L.ns (L.rows.length - 1 - k)):Nat):Int)∧s37=((L.rows.length:Nat):Int) - 1 - i∧s38=(k:Int)∧h=h') L.rows.length
    ⟨0,by omega,rfl,rfl,rfl,rfl,rfl,rfl⟩ ?_
   rintro m s0 s8 s37 s38 g h1 ⟨k,hk,rfl,rfl,rfl,rfl,rfl,rfl⟩
   unfold f45L2
   refine Cond_dec (fun hlt2=>?_) fun hge2=>?_
   ·refine lget o.g o.l (o.c.nn (L.rows.length - 1 - k) (by omega)) (o.hn' (by omega)) (k:=0) rfl rfl ⟨_,rfl,L.rows.length - (k + 1),by omega,k + 1,by omega,rfl,rfl,?_,rfl,by rw [wrap_i64' (by omega) (by omega)]; rfl,rfl⟩
    rw [pv_eq _ (by omega)]
    rfl
   ·have:L.rows.length - 1 - k=i:=by omega
    rw [this]
    exact hR
theorem lread (o:Opn h q s nd lb hn L) {i:Nat} {r:List Nat} (hr:L.rows[i]?=some r) (hR:∀ c h',Row h' c (r.map bv)→h.size ≤ c→Kept N h h'→R (.slice (some (ad c)) r.length r.length) h') :
  CallTo Try.prog 46 #[.pointer (some (ad lb)),uv (s.ref (nx L.ns i))] h R:=by
 have hi:=(List.getElem?_eq_some_iff.1 hr).1
 refine f46F_ok ?_
 unfold f46F
 obtain ⟨hb,ok⟩:=o.c.bn i r hr
 refine PtrOk_mk ⟨_,o.l.c0,lget o.g o.l (o.c.nn i hi) (o.hn' hi) (k:=2) rfl rfl ⟨_,rfl,⟨_,o.l.c0,rfl⟩,?_⟩⟩
 exact q_read o.g (o.hb' hi) hb ok fun c h' row hc k=>⟨⟨_,_,_⟩,_,rfl,hR c h' row hc k⟩
end
end Go.Ev
