/- Printed by a program (own work) out of the loaded functions: what each says of the heap, and that the evaluator says the same. No condition but that these are ones. -/
import Derived.Test.YtfilpdcphgmhgaaF4
set_option linter.all false
set_option maxRecDepth 100000
namespace Go.Ev
open Go.Proofs
/- larder/wait.New -/
noncomputable def body12:Code:=(Try.f12.body).getD .skip
def lv12 (m:Nat):List Nat:=[]
def f12F  (h:Hp) (R:Value→Hp→Prop):Prop :=
 Let (h.push (.map #[] 0)) fun h1=>Let (h1.push (.map #[] 0)) fun h2=>Let (h2.push (.cells #[.map (some (Array.size h)),.map (some (Array.size h1)),.int .i64 0] 64)) fun h3=>R ((.pointer (some (nb h2)):Value)) h3
theorem f12F_eq  (h:Hp) (R:Value→Hp→Prop):evF Try.prog tab lv12 Try.f12 body12 [] [] h R=f12F  h R:=by kernel_rfl
theorem f12F_ok {h:Hp} {R:Value→Hp→Prop} (hF:f12F h R):CallTo Try.prog 12 #[] h R :=
 callTo_of_ev (lv:=lv12) (hints:=[]) (c:=body12) (args:=[]) mixed tab_ok Try.func12 (by kernel_rfl) (by kernel_rfl) (by rw [f12F_eq]; exact hF)
/- (*larder/wait.Wait).Waiting -/
noncomputable def body13:Code:=(Try.f13.body).getD .skip
def lv13 (m:Nat):List Nat:=if m=3 then [1,3,9] else []
def f13I1 (J:Nat→Addr→Sl→Addr→Hp→Prop) (n:Nat) (env:List Value) (h:Hp):Prop:=lenIs env 22 (DecA env 1 fun s1=>DecL env 3 fun s3=>DecA env 9 fun s9=>J n s1 s3 s9 h)
def f13K1 (J1:Nat→Addr→Sl→Addr→Hp→Prop) (n1:Nat) (x1:Addr) (x3:Sl) (x9:Addr) (x11:Bool) (h:Hp) (R:Value→Hp→Prop):Prop :=
 Cond x11 (∃ t12k:Int,∃ t12v:Value,MapEnt (.pointer (some x9)) h (.int .i64 t12k) t12v∧Let (h.push (.cells #[.int .i64 t12k] 3)) fun h3=>appSl 3 1 8 #[.int .i64 0] x3.a x3.n x3.c (some (nb h)) 1 h3 fun ra4 rn4 rc4 h4=>∃ m,m < n1∧J1 m x1 ⟨ra4,rn4,rc4⟩ x9 h4) (CallTo Try.prog 27 #[.slice x3.a x3.n x3.c,.func (.func 28) #[] #[.pointer (some x1)]] h fun r h5=>r=.tuple #[]∧R (.slice x3.a x3.n x3.c:Value) h5)
def f13L1 (J1:Nat→Addr→Sl→Addr→Hp→Prop) (n1:Nat) (s1:Addr) (s3:Sl) (s9:Addr) (g:Nat→Value) (h:Hp) (R:Value→Hp→Prop):Prop :=
 MapNext (.pointer (some s9)) h (f13K1 J1 n1 s1 s3 s9 false h R) fun ka10 kb10 h6=>f13K1 J1 n1 s1 s3 s9 true h6 R
theorem f13L1_eq (J1:Nat→Addr→Sl→Addr→Hp→Prop) (n1:Nat) (s1:Addr) (s3:Sl) (s9:Addr) (g:Nat→Value) (h:Hp) (R:Value→Hp→Prop):(evC Try.prog tab lv13 (sub [1,1,0,1,0,0] body13)) (loopK (f13I1 J1) n1 (contAt Try.prog tab lv13 [1,1,0,1,0] body13 [] (bodyK Try.prog Try.f13 [] R))) (mkEnv 22 [(1,.pointer (some s1)),(3,.slice s3.a s3.n s3.c),(9,.pointer (some s9))] g) h=f13L1 J1 n1 s1 s3 s9 g h R:=by kernel_rfl
theorem f13I1_at (J:Nat→Addr→Sl→Addr→Hp→Prop) (n:Nat) (s1:Addr) (s3:Sl) (s9:Addr) (g:Nat→Value) (h:Hp):f13I1 J n (mkEnv 22 [(1,.pointer (some s1)),(3,.slice s3.a s3.n s3.c),(9,.pointer (some s9))] g) h=J n s1 s3 s9 h:=by kernel_rfl
theorem f13L1_rule  {R:Value→Hp→Prop} {s1:Addr} {s3:Sl} {s9:Addr} {h0:Hp} (J:Nat→Addr→Sl→Addr→Hp→Prop) (n0:Nat) (hi:J n0 s1 s3 s9 h0)
  (hr:∀ n s1 s3 s9 g h,J n s1 s3 s9 h→f13L1  J n s1 s3 s9 g h R):LoopEv (evC Try.prog tab lv13 (sub [1,1,0,1,0,0] body13)) (contAt Try.prog tab lv13 [1,1,0,1,0] body13 [] (bodyK Try.prog Try.f13 [] R)) [(1,.pointer (some s1)),(3,.slice s3.a s3.n s3.c),(9,.pointer (some s9))] 22 h0:=by
 refine ⟨f13I1 J,n0,fun g=>by rw [f13I1_at]; exact hi,fun n env h hI=>?_⟩
 clear hi
 clear s1 s3 s9
 obtain ⟨hlen,hI⟩:=Cond_true' hI
 have hlen:env.length=22:=by simpa using hlen
 obtain ⟨s1,es1,hI⟩:=DecA.out hI
 obtain ⟨s3,es3,hI⟩:=DecL.out hI
 obtain ⟨s9,es9,hI⟩:=DecA.out hI
 rw [mkEnv_of (l:=[(1,.pointer (some s1)),(3,.slice s3.a s3.n s3.c),(9,.pointer (some s9))]) hlen (by simp only [List.mem_cons,List.not_mem_nil,or_false,forall_eq_or_imp,forall_eq]; exact ⟨es1,es3,es9⟩)]
 rw [f13L1_eq]
 exact hr n s1 s3 s9 _ h hI
def f13F (a0:Option Addr) (h:Hp) (R:Value→Hp→Prop):Prop :=
 Let (h.push (.cells #[.pointer a0] 26)) fun h1=>∃ t5:Option Addr,cell h1 (nb h)=some (.pointer t5)∧PtrOk t5 fun p6=>∃ t8:Option Nat,cell h1 (p6.add 1)=some (.map t8)∧MapRange (.map t8) h1 fun h2=>LoopEv (evC Try.prog tab lv13 (sub [1,1,0,1,0,0] body13)) (contAt Try.prog tab lv13 [1,1,0,1,0] body13 [] (bodyK Try.prog Try.f13 [] R)) [(1,.pointer (some (nb h))),(3,.slice none 0 0),(9,.pointer (some (nb h1)))] 22 h2
theorem f13F_eq (a0:Option Addr) (h:Hp) (R:Value→Hp→Prop):evF Try.prog tab lv13 Try.f13 body13 [] [.pointer a0] h R=f13F a0 h R:=by kernel_rfl
theorem f13F_ok {a0:Option Addr} {h:Hp} {R:Value→Hp→Prop} (hF:f13F a0 h R):CallTo Try.prog 13 #[.pointer a0] h R :=
 callTo_of_ev (lv:=lv13) (hints:=[]) (c:=body13) (args:=[.pointer a0]) mixed tab_ok Try.func13 (by kernel_rfl) (by kernel_rfl) (by rw [f13F_eq]; exact hF)
/- (*larder/wait.Wait).Due -/
noncomputable def body14:Code:=(Try.f14.body).getD .skip
def lv14 (m:Nat):List Nat:=if m=3 then [1,2,5,12] else []
def f14I1 (J:Nat→Int→Addr→Sl→Addr→Hp→Prop) (n:Nat) (env:List Value) (h:Hp):Prop:=lenIs env 35 (DecI .u64 env 1 fun s1=>DecA env 2 fun s2=>DecL env 5 fun s5=>DecA env 12 fun s12=>J n s1 s2 s5 s12 h)
def f14K1 (J1:Nat→Int→Addr→Sl→Addr→Hp→Prop) (n1:Nat) (x1:Int) (x2:Addr) (x5:Sl) (x12:Addr) (x14:Bool) (h:Hp) (R:Value→Hp→Prop):Prop :=
 Cond x14 (∃ t15k:Int,∃ t15v_0:Int,∃ t15v_1:Sl,∃ t15v_2:Int,∃ t15v_3:Int,MapEnt (.pointer (some x12)) h (.int .i64 t15k) (.agg #[.int .i64 t15v_0,.slice t15v_1.a t15v_1.n t15v_1.c,.int .u64 t15v_2,.int .i64 t15v_3])∧Let (h.push (.cells #[.int .i64 0,.slice none 0 0,.int .u64 0,.int .i64 0] 68)) fun h3=>stOk h3 (nb h)∧Let (setc h3 (nb h) (.int .i64 t15v_0)) fun h4=>stOk h4 ((nb h).add 1)∧Let (setc h4 ((nb h).add 1) (.slice t15v_1.a t15v_1.n t15v_1.c)) fun h5=>stOk h5 ((nb h).add 2)∧Let (setc h5 ((nb h).add 2) (.int .u64 t15v_2)) fun h6=>stOk h6 ((nb h).add 3)∧Let (setc h6 ((nb h).add 3) (.int .i64 t15v_3)) fun h7=>∃ t19:Int,cell h7 ((nb h).add 2)=some (.int .u64 t19)∧Cond (t19 != (0:Int)) (∃ t23:Int,cell h7 ((nb h).add 2)=some (.int .u64 t23)∧Cond (decide (t23 ≤ x1)) (Let (h7.push (.cells #[.int .i64 t15k] 3)) fun h8=>appSl 3 1 8 #[.int .i64 0] x5.a x5.n x5.c (some (nb h7)) 1 h8 fun ra9 rn9 rc9 h9=>∃ m,m < n1∧J1 m x1 x2 ⟨ra9,rn9,rc9⟩ x12 h9) (∃ m,m < n1∧J1 m x1 x2 x5 x12 h7)) (∃ m,m < n1∧J1 m x1 x2 x5 x12 h7)) (CallTo Try.prog 27 #[.slice x5.a x5.n x5.c,.func (.func 30) #[] #[.pointer (some x2)]] h fun r h10=>r=.tuple #[]∧R (.slice x5.a x5.n x5.c:Value) h10)
def f14L1 (J1:Nat→Int→Addr→Sl→Addr→Hp→Prop) (n1:Nat) (s1:Int) (s2:Addr) (s5:Sl) (s12:Addr) (g:Nat→Value) (h:Hp) (R:Value→Hp→Prop):Prop :=
 MapNext (.pointer (some s12)) h (f14K1 J1 n1 s1 s2 s5 s12 false h R) fun ka13 kb13 h11=>f14K1 J1 n1 s1 s2 s5 s12 true h11 R
theorem f14L1_eq (J1:Nat→Int→Addr→Sl→Addr→Hp→Prop) (n1:Nat) (s1:Int) (s2:Addr) (s5:Sl) (s12:Addr) (g:Nat→Value) (h:Hp) (R:Value→Hp→Prop):(evC Try.prog tab lv14 (sub [1,1,0,1,0,0] body14)) (loopK (f14I1 J1) n1 (contAt Try.prog tab lv14 [1,1,0,1,0] body14 [] (bodyK Try.prog Try.f14 [] R))) (mkEnv 35 [(1,.int .u64 s1),(2,.pointer (some s2)),(5,.slice s5.a s5.n s5.c),(12,.pointer (some s12))] g) h=f14L1 J1 n1 s1 s2 s5 s12 g h R:=by kernel_rfl
theorem f14I1_at (J:Nat→Int→Addr→Sl→Addr→Hp→Prop) (n:Nat) (s1:Int) (s2:Addr) (s5:Sl) (s12:Addr) (g:Nat→Value) (h:Hp):f14I1 J n (mkEnv 35 [(1,.int .u64 s1),(2,.pointer (some s2)),(5,.slice s5.a s5.n s5.c),(12,.pointer (some s12))] g) h=J n s1 s2 s5 s12 h:=by kernel_rfl
theorem f14L1_rule  {R:Value→Hp→Prop} {s1:Int} {s2:Addr} {s5:Sl} {s12:Addr} {h0:Hp} (J:Nat→Int→Addr→Sl→Addr→Hp→Prop) (n0:Nat) (hi:J n0 s1 s2 s5 s12 h0)
  (hr:∀ n s1 s2 s5 s12 g h,J n s1 s2 s5 s12 h→f14L1  J n s1 s2 s5 s12 g h R):LoopEv (evC Try.prog tab lv14 (sub [1,1,0,1,0,0] body14)) (contAt Try.prog tab lv14 [1,1,0,1,0] body14 [] (bodyK Try.prog Try.f14 [] R)) [(1,.int .u64 s1),(2,.pointer (some s2)),(5,.slice s5.a s5.n s5.c),(12,.pointer (some s12))] 35 h0:=by
 refine ⟨f14I1 J,n0,fun g=>by rw [f14I1_at]; exact hi,fun n env h hI=>?_⟩
 clear hi
 clear s1 s2 s5 s12
 obtain ⟨hlen,hI⟩:=Cond_true' hI
 have hlen:env.length=35:=by simpa using hlen
 obtain ⟨s1,es1,hI⟩:=DecI.out hI
 obtain ⟨s2,es2,hI⟩:=DecA.out hI
 obtain ⟨s5,es5,hI⟩:=DecL.out hI
 obtain ⟨s12,es12,hI⟩:=DecA.out hI
 rw [mkEnv_of (l:=[(1,.int .u64 s1),(2,.pointer (some s2)),(5,.slice s5.a s5.n s5.c),(12,.pointer (some s12))]) hlen (by simp only [List.mem_cons,List.not_mem_nil,or_false,forall_eq_or_imp,forall_eq]; exact ⟨es1,es2,es5,es12⟩)]
 rw [f14L1_eq]
 exact hr n s1 s2 s5 s12 _ h hI
def f14F (a0:Option Addr) (a1:Int) (h:Hp) (R:Value→Hp→Prop):Prop :=
 Let (h.push (.cells #[.pointer a0] 26)) fun h1=>∃ t8:Option Addr,cell h1 (nb h)=some (.pointer t8)∧PtrOk t8 fun p9=>∃ t11:Option Nat,cell h1 (p9.add 1)=some (.map t11)∧MapRange (.map t11) h1 fun h2=>LoopEv (evC Try.prog tab lv14 (sub [1,1,0,1,0,0] body14)) (contAt Try.prog tab lv14 [1,1,0,1,0] body14 [] (bodyK Try.prog Try.f14 [] R)) [(1,.int .u64 a1),(2,.pointer (some (nb h))),(5,.slice none 0 0),(12,.pointer (some (nb h1)))] 35 h2
theorem f14F_eq (a0:Option Addr) (a1:Int) (h:Hp) (R:Value→Hp→Prop):evF Try.prog tab lv14 Try.f14 body14 [] [.pointer a0,.int .u64 a1] h R=f14F a0 a1 h R:=by kernel_rfl
theorem f14F_ok {a0:Option Addr} {a1:Int} {h:Hp} {R:Value→Hp→Prop} (hF:f14F a0 a1 h R):CallTo Try.prog 14 #[.pointer a0,.int .u64 a1] h R :=
 callTo_of_ev (lv:=lv14) (hints:=[]) (c:=body14) (args:=[.pointer a0,.int .u64 a1]) mixed tab_ok Try.func14 (by kernel_rfl) (by kernel_rfl) (by rw [f14F_eq]; exact hF)
/- (*larder/wait.Wait).Until -/
noncomputable def body15:Code:=(Try.f15.body).getD .skip
def lv15 (m:Nat):List Nat:=[]
def f15F (a0:Option Addr) (a1:Int) (h:Hp) (R:Value→Hp→Prop):Prop :=
 PtrOk a0 fun p10=>∃ t12:Option Nat,cell h (p10.add 1)=some (.map t12)∧∃ t14_0:Int,∃ t14_1:Sl,∃ t14_2:Int,∃ t14_3:Int,∃ kt14:Bool,MapGet Try.prog 3 68 (.map t12) (.int .i64 a1) h (.agg #[.int .i64 t14_0,.slice t14_1.a t14_1.n t14_1.c,.int .u64 t14_2,.int .i64 t14_3]) kt14∧Let (h.push (.cells #[.int .i64 0,.slice none 0 0,.int .u64 0,.int .i64 0] 68)) fun h1=>stOk h1 (nb h)∧Let (setc h1 (nb h) (.int .i64 t14_0)) fun h2=>stOk h2 ((nb h).add 1)∧Let (setc h2 ((nb h).add 1) (.slice t14_1.a t14_1.n t14_1.c)) fun h3=>stOk h3 ((nb h).add 2)∧Let (setc h3 ((nb h).add 2) (.int .u64 t14_2)) fun h4=>stOk h4 ((nb h).add 3)∧Let (setc h4 ((nb h).add 3) (.int .i64 t14_3)) fun h5=>∃ t18:Int,cell h5 ((nb h).add 2)=some (.int .u64 t18)∧R (.tuple #[.int .u64 t18,.bool kt14]:Value) h5
theorem f15F_eq (a0:Option Addr) (a1:Int) (h:Hp) (R:Value→Hp→Prop):evF Try.prog tab lv15 Try.f15 body15 [] [.pointer a0,.int .i64 a1] h R=f15F a0 a1 h R:=by kernel_rfl
theorem f15F_ok {a0:Option Addr} {a1:Int} {h:Hp} {R:Value→Hp→Prop} (hF:f15F a0 a1 h R):CallTo Try.prog 15 #[.pointer a0,.int .i64 a1] h R :=
 callTo_of_ev (lv:=lv15) (hints:=[]) (c:=body15) (args:=[.pointer a0,.int .i64 a1]) mixed tab_ok Try.func15 (by kernel_rfl) (by kernel_rfl) (by rw [f15F_eq]; exact hF)
/- (*larder/wait.Wait).Release -/
noncomputable def body16:Code:=(Try.f16.body).getD .skip
def lv16 (m:Nat):List Nat:=if m=6 then [0,1,5,29,30,31] else []
def f16I1 (J:Nat→Option Addr→Int→Addr→Sl→Int→Int→Hp→Prop) (n:Nat) (env:List Value) (h:Hp):Prop:=lenIs env 74 (DecP env 0 fun s0=>DecI .i64 env 1 fun s1=>DecA env 5 fun s5=>DecL env 29 fun s29=>DecI .i64 env 30 fun s30=>DecI .i64 env 31 fun s31=>J n s0 s1 s5 s29 s30 s31 h)
def f16K1 (J1:Nat→Option Addr→Int→Addr→Sl→Int→Int→Hp→Prop) (n1:Nat) (x0:Option Addr) (x1:Int) (x5:Addr) (x29:Sl) (x30:Int) (x31:Int) (h:Hp) (R:Value→Hp→Prop):Prop :=
 ∃ m,m < n1∧J1 m x0 x1 x5 x29 x30 (IntKind.wrap .i64 (x31 + (1:Int))) h
def f16L1 (J1:Nat→Option Addr→Int→Addr→Sl→Int→Int→Hp→Prop) (n1:Nat) (s0:Option Addr) (s1:Int) (s5:Addr) (s29:Sl) (s30:Int) (s31:Int) (g:Nat→Value) (h:Hp) (R:Value→Hp→Prop):Prop :=
 Cond (decide (s31 < s30)) ((0 ≤ s31∧s31 < ((s29.n:Nat):Int))∧PtrOk s29.a fun p34=>∃ t35_0:Int,cell h (p34.add (s31.toNat * 2))=some (.int .i64 t35_0)∧∃ t35_1:ByteArray,cell h ((p34.add (s31.toNat * 2)).add 1)=some (.string t35_1)∧Let (h.push (.cells #[.int .i64 0,.string ⟨#[]⟩] 40)) fun h7=>stOk h7 (nb h)∧Let (setc h7 (nb h) (.int .i64 t35_0)) fun h8=>stOk h8 ((nb h).add 1)∧Let (setc h8 ((nb h).add 1) (.string t35_1)) fun h9=>∃ t37:Sl,cell h9 (s5.add 1)=some (.slice t37.a t37.n t37.c)∧CallTo Try.prog 32 #[.slice t37.a t37.n t37.c,.int .i64 s31] h9 fun r h10=>∃ t39:Bool,r=.bool t39∧Cond (!t39) (f16K1 J1 n1 s0 s1 s5 s29 s30 s31 h10 R) (∃ t41_0:Int,cell h10 (nb h)=some (.int .i64 t41_0)∧∃ t41_1:ByteArray,cell h10 ((nb h).add 1)=some (.string t41_1)∧∃ t43:Int,cell h10 s5=some (.int .i64 t43)∧Let (h10.push (.cells #[.int .i64 0,.string ⟨#[]⟩,.int .i64 0] 73)) fun h11=>stOk h11 (nb h10)∧Let (setc h11 (nb h10) (.int .i64 t41_0)) fun h12=>stOk h12 ((nb h10).add 1)∧Let (setc h12 ((nb h10).add 1) (.string t41_1)) fun h13=>stOk h13 ((nb h10).add 2)∧Let (setc h13 ((nb h10).add 2) (.int .i64 t43)) fun h14=>PtrOk s0 fun p46=>∃ t48:Option Nat,cell h14 p46=some (.map t48)∧∃ t49_0:Int,cell h14 (nb h10)=some (.int .i64 t49_0)∧∃ t49_1:ByteArray,cell h14 ((nb h10).add 1)=some (.string t49_1)∧∃ t49_2:Int,cell h14 ((nb h10).add 2)=some (.int .i64 t49_2)∧∃ t50:Sl,∃ kt50:Bool,MapGet Try.prog 73 32 (.map t48) (.agg #[.int .i64 t49_0,.string t49_1,.int .i64 t49_2]) h14 (.slice t50.a t50.n t50.c) kt50∧CallTo Try.prog 33 #[.slice t50.a t50.n t50.c,.int .i64 s1] h14 fun r h15=>∃ t53:Int,r=.int .i64 t53∧CallTo Try.prog 34 #[.slice t50.a t50.n t50.c,.int .i64 t53,.int .i64 (IntKind.wrap .i64 (t53 + (1:Int)))] h15 fun r h16=>∃ t58:Sl,r=.slice t58.a t58.n t58.c∧Cond ((((t58.n:Nat):Int)) == (0:Int)) (PtrOk s0 fun p63=>∃ t65:Option Nat,cell h16 p63=some (.map t65)∧∃ t66_0:Int,cell h16 (nb h10)=some (.int .i64 t66_0)∧∃ t66_1:ByteArray,cell h16 ((nb h10).add 1)=some (.string t66_1)∧∃ t66_2:Int,cell h16 ((nb h10).add 2)=some (.int .i64 t66_2)∧MapDel Try.prog 73 (.map t65) (.agg #[.int .i64 t66_0,.string t66_1,.int .i64 t66_2]) h16 fun h17=>f16K1 J1 n1 s0 s1 s5 s29 s30 s31 h17 R) (PtrOk s0 fun p68=>∃ t70:Option Nat,cell h16 p68=some (.map t70)∧∃ t71_0:Int,cell h16 (nb h10)=some (.int .i64 t71_0)∧∃ t71_1:ByteArray,cell h16 ((nb h10).add 1)=some (.string t71_1)∧∃ t71_2:Int,cell h16 ((nb h10).add 2)=some (.int .i64 t71_2)∧MapPut Try.prog 73 (.map t70) (.agg #[.int .i64 t71_0,.string t71_1,.int .i64 t71_2]) (.slice t58.a t58.n t58.c) h16 fun h18=>f16K1 J1 n1 s0 s1 s5 s29 s30 s31 h18 R))) (R (.bool true:Value) h)
theorem f16L1_eq (J1:Nat→Option Addr→Int→Addr→Sl→Int→Int→Hp→Prop) (n1:Nat) (s0:Option Addr) (s1:Int) (s5:Addr) (s29:Sl) (s30:Int) (s31:Int) (g:Nat→Value) (h:Hp) (R:Value→Hp→Prop):(evC Try.prog tab lv16 (sub [1,1,1,1,0,1,0,0] body16)) (loopK (f16I1 J1) n1 (contAt Try.prog tab lv16 [1,1,1,1,0,1,0] body16 [] (bodyK Try.prog Try.f16 [] R))) (mkEnv 74 [(0,.pointer s0),(1,.int .i64 s1),(5,.pointer (some s5)),(29,.slice s29.a s29.n s29.c),(30,.int .i64 s30),(31,.int .i64 s31)] g) h=f16L1 J1 n1 s0 s1 s5 s29 s30 s31 g h R:=by kernel_rfl
theorem f16I1_at (J:Nat→Option Addr→Int→Addr→Sl→Int→Int→Hp→Prop) (n:Nat) (s0:Option Addr) (s1:Int) (s5:Addr) (s29:Sl) (s30:Int) (s31:Int) (g:Nat→Value) (h:Hp):f16I1 J n (mkEnv 74 [(0,.pointer s0),(1,.int .i64 s1),(5,.pointer (some s5)),(29,.slice s29.a s29.n s29.c),(30,.int .i64 s30),(31,.int .i64 s31)] g) h=J n s0 s1 s5 s29 s30 s31 h:=by kernel_rfl
theorem f16L1_rule  {R:Value→Hp→Prop} {s0:Option Addr} {s1:Int} {s5:Addr} {s29:Sl} {s30:Int} {s31:Int} {h0:Hp} (J:Nat→Option Addr→Int→Addr→Sl→Int→Int→Hp→Prop) (n0:Nat) (hi:J n0 s0 s1 s5 s29 s30 s31 h0)
  (hr:∀ n s0 s1 s5 s29 s30 s31 g h,J n s0 s1 s5 s29 s30 s31 h→f16L1  J n s0 s1 s5 s29 s30 s31 g h R):LoopEv (evC Try.prog tab lv16 (sub [1,1,1,1,0,1,0,0] body16)) (contAt Try.prog tab lv16 [1,1,1,1,0,1,0] body16 [] (bodyK Try.prog Try.f16 [] R)) [(0,.pointer s0),(1,.int .i64 s1),(5,.pointer (some s5)),(29,.slice s29.a s29.n s29.c),(30,.int .i64 s30),(31,.int .i64 s31)] 74 h0:=by
 refine ⟨f16I1 J,n0,fun g=>by rw [f16I1_at]; exact hi,fun n env h hI=>?_⟩
 clear hi
 clear s0 s1 s5 s29 s30 s31
 obtain ⟨hlen,hI⟩:=Cond_true' hI
 have hlen:env.length=74:=by simpa using hlen
 obtain ⟨s0,es0,hI⟩:=DecP.out hI
 obtain ⟨s1,es1,hI⟩:=DecI.out hI
 obtain ⟨s5,es5,hI⟩:=DecA.out hI
 obtain ⟨s29,es29,hI⟩:=DecL.out hI
 obtain ⟨s30,es30,hI⟩:=DecI.out hI
 obtain ⟨s31,es31,hI⟩:=DecI.out hI
 rw [mkEnv_of (l:=[(0,.pointer s0),(1,.int .i64 s1),(5,.pointer (some s5)),(29,.slice s29.a s29.n s29.c),(30,.int .i64 s30),(31,.int .i64 s31)]) hlen (by simp only [List.mem_cons,List.not_mem_nil,or_false,forall_eq_or_imp,forall_eq]; exact ⟨es0,es1,es5,es29,es30,es31⟩)]
 rw [f16L1_eq]
 exact hr n s0 s1 s5 s29 s30 s31 _ h hI
def f16F (a0:Option Addr) (a1:Int) (h:Hp) (R:Value→Hp→Prop):Prop :=
 PtrOk a0 fun p14=>∃ t16:Option Nat,cell h (p14.add 1)=some (.map t16)∧∃ t18_0:Int,∃ t18_1:Sl,∃ t18_2:Int,∃ t18_3:Int,∃ kt18:Bool,MapGet Try.prog 3 68 (.map t16) (.int .i64 a1) h (.agg #[.int .i64 t18_0,.slice t18_1.a t18_1.n t18_1.c,.int .u64 t18_2,.int .i64 t18_3]) kt18∧Let (h.push (.cells #[.int .i64 0,.slice none 0 0,.int .u64 0,.int .i64 0] 68)) fun h1=>stOk h1 (nb h)∧Let (setc h1 (nb h) (.int .i64 t18_0)) fun h2=>stOk h2 ((nb h).add 1)∧Let (setc h2 ((nb h).add 1) (.slice t18_1.a t18_1.n t18_1.c)) fun h3=>stOk h3 ((nb h).add 2)∧Let (setc h3 ((nb h).add 2) (.int .u64 t18_2)) fun h4=>stOk h4 ((nb h).add 3)∧Let (setc h4 ((nb h).add 3) (.int .i64 t18_3)) fun h5=>Cond (!kt18) (R (.bool false:Value) h5) (PtrOk a0 fun p24=>∃ t26:Option Nat,cell h5 (p24.add 1)=some (.map t26)∧MapDel Try.prog 3 (.map t26) (.int .i64 a1) h5 fun h6=>∃ t29:Sl,cell h6 ((nb h).add 1)=some (.slice t29.a t29.n t29.c)∧LoopEv (evC Try.prog tab lv16 (sub [1,1,1,1,0,1,0,0] body16)) (contAt Try.prog tab lv16 [1,1,1,1,0,1,0] body16 [] (bodyK Try.prog Try.f16 [] R)) [(0,.pointer a0),(1,.int .i64 a1),(5,.pointer (some (nb h))),(29,.slice t29.a t29.n t29.c),(30,.int .i64 (((t29.n:Nat):Int))),(31,.int .i64 0)] 74 h6)
theorem f16F_eq (a0:Option Addr) (a1:Int) (h:Hp) (R:Value→Hp→Prop):evF Try.prog tab lv16 Try.f16 body16 [] [.pointer a0,.int .i64 a1] h R=f16F a0 a1 h R:=by kernel_rfl
theorem f16F_ok {a0:Option Addr} {a1:Int} {h:Hp} {R:Value→Hp→Prop} (hF:f16F a0 a1 h R):CallTo Try.prog 16 #[.pointer a0,.int .i64 a1] h R :=
 callTo_of_ev (lv:=lv16) (hints:=[]) (c:=body16) (args:=[.pointer a0,.int .i64 a1]) mixed tab_ok Try.func16 (by kernel_rfl) (by kernel_rfl) (by rw [f16F_eq]; exact hF)
/- (*larder/wait.Wait).Block -/
noncomputable def body18:Code:=(Try.f18.body).getD .skip
def lv18 (m:Nat):List Nat:=if m=7 then [0,1,2,3,45,46,47] else []
def f18I1 (J:Nat→Option Addr→Int→Int→Sl→Sl→Int→Int→Hp→Prop) (n:Nat) (env:List Value) (h:Hp):Prop:=lenIs env 70 (DecP env 0 fun s0=>DecI .i64 env 1 fun s1=>DecI .i64 env 2 fun s2=>DecL env 3 fun s3=>DecL env 45 fun s45=>DecI .i64 env 46 fun s46=>DecI .i64 env 47 fun s47=>J n s0 s1 s2 s3 s45 s46 s47 h)
def f18K1 (J1:Nat→Option Addr→Int→Int→Sl→Sl→Int→Int→Hp→Prop) (n1:Nat) (x0:Option Addr) (x1:Int) (x2:Int) (x3:Sl) (x45:Sl) (x46:Int) (x47:Int) (h:Hp) (R:Value→Hp→Prop):Prop :=
 ∃ m,m < n1∧J1 m x0 x1 x2 x3 x45 x46 (IntKind.wrap .i64 (x47 + (1:Int))) h
def f18L1 (J1:Nat→Option Addr→Int→Int→Sl→Sl→Int→Int→Hp→Prop) (n1:Nat) (s0:Option Addr) (s1:Int) (s2:Int) (s3:Sl) (s45:Sl) (s46:Int) (s47:Int) (g:Nat→Value) (h:Hp) (R:Value→Hp→Prop):Prop :=
 Cond (decide (s47 < s46)) ((0 ≤ s47∧s47 < ((s45.n:Nat):Int))∧PtrOk s45.a fun p50=>∃ t51_0:Int,cell h (p50.add (s47.toNat * 2))=some (.int .i64 t51_0)∧∃ t51_1:ByteArray,cell h ((p50.add (s47.toNat * 2)).add 1)=some (.string t51_1)∧Let (h.push (.cells #[.int .i64 0,.string ⟨#[]⟩] 40)) fun h5=>stOk h5 (nb h)∧Let (setc h5 (nb h) (.int .i64 t51_0)) fun h6=>stOk h6 ((nb h).add 1)∧Let (setc h6 ((nb h).add 1) (.string t51_1)) fun h7=>CallTo Try.prog 32 #[.slice s3.a s3.n s3.c,.int .i64 s47] h7 fun r h8=>∃ t54:Bool,r=.bool t54∧Cond t54 (∃ t55_0:Int,cell h8 (nb h)=some (.int .i64 t55_0)∧∃ t55_1:ByteArray,cell h8 ((nb h).add 1)=some (.string t55_1)∧Let (h8.push (.cells #[.int .i64 0,.string ⟨#[]⟩,.int .i64 0] 73)) fun h9=>stOk h9 (nb h8)∧Let (setc h9 (nb h8) (.int .i64 t55_0)) fun h10=>stOk h10 ((nb h8).add 1)∧Let (setc h10 ((nb h8).add 1) (.string t55_1)) fun h11=>stOk h11 ((nb h8).add 2)∧Let (setc h11 ((nb h8).add 2) (.int .i64 s2)) fun h12=>PtrOk s0 fun p59=>∃ t61:Option Nat,cell h12 p59=some (.map t61)∧∃ t62_0:Int,cell h12 (nb h8)=some (.int .i64 t62_0)∧∃ t62_1:ByteArray,cell h12 ((nb h8).add 1)=some (.string t62_1)∧∃ t62_2:Int,cell h12 ((nb h8).add 2)=some (.int .i64 t62_2)∧Let (h12.push (.cells #[.int .i64 s1] 3)) fun h13=>(∃ y0:Int,cell h13 (nb h8)=some (.int .i64 y0)∧∃ y1:ByteArray,cell h13 ((nb h8).add 1)=some (.string y1)∧∃ y2:Int,cell h13 ((nb h8).add 2)=some (.int .i64 y2)∧Next.value (.agg #[.int .i64 y0,.string y1,.int .i64 y2])=Next.value (.agg #[.int .i64 t62_0,.string t62_1,.int .i64 t62_2]))∧(∃ y0:Option Nat,cell h13 p59=some (.map y0)∧Next.value (.map y0)=Next.value (.map t61))∧MapGrab Try.prog 73 32 (.map t61) (.agg #[.int .i64 t62_0,.string t62_1,.int .i64 t62_2]) h13 fun kv66 kb66 h14=>∃ t66:Sl,kv66=.slice t66.a t66.n t66.c∧appSl 3 1 8 #[.int .i64 0] t66.a t66.n t66.c (some (nb h12)) 1 h14 fun ra15 rn15 rc15 h15=>MapLay (.map t61) kb66 (.slice ra15 rn15 rc15) h15 fun h16=>f18K1 J1 n1 s0 s1 s2 s3 s45 s46 s47 h16 R) (f18K1 J1 n1 s0 s1 s2 s3 s45 s46 s47 h8 R)) (R (.int .i64 0:Value) h)
theorem f18L1_eq (J1:Nat→Option Addr→Int→Int→Sl→Sl→Int→Int→Hp→Prop) (n1:Nat) (s0:Option Addr) (s1:Int) (s2:Int) (s3:Sl) (s45:Sl) (s46:Int) (s47:Int) (g:Nat→Value) (h:Hp) (R:Value→Hp→Prop):(evC Try.prog tab lv18 (sub [1,1,1,1,0,1,0,0] body18)) (loopK (f18I1 J1) n1 (contAt Try.prog tab lv18 [1,1,1,1,0,1,0] body18 [] (bodyK Try.prog Try.f18 [] R))) (mkEnv 70 [(0,.pointer s0),(1,.int .i64 s1),(2,.int .i64 s2),(3,.slice s3.a s3.n s3.c),(45,.slice s45.a s45.n s45.c),(46,.int .i64 s46),(47,.int .i64 s47)] g) h=f18L1 J1 n1 s0 s1 s2 s3 s45 s46 s47 g h R:=by kernel_rfl
theorem f18I1_at (J:Nat→Option Addr→Int→Int→Sl→Sl→Int→Int→Hp→Prop) (n:Nat) (s0:Option Addr) (s1:Int) (s2:Int) (s3:Sl) (s45:Sl) (s46:Int) (s47:Int) (g:Nat→Value) (h:Hp):f18I1 J n (mkEnv 70 [(0,.pointer s0),(1,.int .i64 s1),(2,.int .i64 s2),(3,.slice s3.a s3.n s3.c),(45,.slice s45.a s45.n s45.c),(46,.int .i64 s46),(47,.int .i64 s47)] g) h=J n s0 s1 s2 s3 s45 s46 s47 h:=by kernel_rfl
theorem f18L1_rule  {R:Value→Hp→Prop} {s0:Option Addr} {s1:Int} {s2:Int} {s3:Sl} {s45:Sl} {s46:Int} {s47:Int} {h0:Hp} (J:Nat→Option Addr→Int→Int→Sl→Sl→Int→Int→Hp→Prop) (n0:Nat) (hi:J n0 s0 s1 s2 s3 s45 s46 s47 h0)
  (hr:∀ n s0 s1 s2 s3 s45 s46 s47 g h,J n s0 s1 s2 s3 s45 s46 s47 h→f18L1  J n s0 s1 s2 s3 s45 s46 s47 g h R):LoopEv (evC Try.prog tab lv18 (sub [1,1,1,1,0,1,0,0] body18)) (contAt Try.prog tab lv18 [1,1,1,1,0,1,0] body18 [] (bodyK Try.prog Try.f18 [] R)) [(0,.pointer s0),(1,.int .i64 s1),(2,.int .i64 s2),(3,.slice s3.a s3.n s3.c),(45,.slice s45.a s45.n s45.c),(46,.int .i64 s46),(47,.int .i64 s47)] 70 h0:=by
 refine ⟨f18I1 J,n0,fun g=>by rw [f18I1_at]; exact hi,fun n env h hI=>?_⟩
 clear hi
 clear s0 s1 s2 s3 s45 s46 s47
 obtain ⟨hlen,hI⟩:=Cond_true' hI
 have hlen:env.length=70:=by simpa using hlen
 obtain ⟨s0,es0,hI⟩:=DecP.out hI
 obtain ⟨s1,es1,hI⟩:=DecI.out hI
 obtain ⟨s2,es2,hI⟩:=DecI.out hI
 obtain ⟨s3,es3,hI⟩:=DecL.out hI
 obtain ⟨s45,es45,hI⟩:=DecL.out hI
 obtain ⟨s46,es46,hI⟩:=DecI.out hI
 obtain ⟨s47,es47,hI⟩:=DecI.out hI
 rw [mkEnv_of (l:=[(0,.pointer s0),(1,.int .i64 s1),(2,.int .i64 s2),(3,.slice s3.a s3.n s3.c),(45,.slice s45.a s45.n s45.c),(46,.int .i64 s46),(47,.int .i64 s47)]) hlen (by simp only [List.mem_cons,List.not_mem_nil,or_false,forall_eq_or_imp,forall_eq]; exact ⟨es0,es1,es2,es3,es45,es46,es47⟩)]
 rw [f18L1_eq]
 exact hr n s0 s1 s2 s3 s45 s46 s47 _ h hI
def f18F (a0:Option Addr) (a1:Int) (a2:Int) (a3:Sl) (a4:Int) (h:Hp) (R:Value→Hp→Prop):Prop :=
 CallTo Try.prog 35 #[.pointer a0,.int .i64 a1,.int .i64 a2,.slice a3.a a3.n a3.c,.int .u64 a4] h fun r h1=>∃ t20:Int,r=.int .i64 t20∧Cond (t20 != (0:Int)) (R (.int .i64 t20:Value) h1) (PtrOk a0 fun p25=>∃ t27:Int,cell h1 (p25.add 2)=some (.int .i64 t27)∧PtrOk a0 fun p29=>stOk h1 (p29.add 2)∧Let (setc h1 (p29.add 2) (.int .i64 (IntKind.wrap .i64 (t27 + (1:Int))))) fun h2=>PtrOk a0 fun p32=>∃ t34:Option Nat,cell h2 (p32.add 1)=some (.map t34)∧PtrOk a0 fun p41=>∃ t43:Int,cell h2 (p41.add 2)=some (.int .i64 t43)∧CallTo Try.prog 36 #[.slice a3.a a3.n a3.c] h2 fun r h3=>∃ t38:Sl,r=.slice t38.a t38.n t38.c∧(∃ y0:Int,cell h3 (p41.add 2)=some (.int .i64 y0)∧Next.value (.int .i64 y0)=Next.value (.int .i64 t43))∧(∃ y0:Option Nat,cell h3 (p32.add 1)=some (.map y0)∧Next.value (.map y0)=Next.value (.map t34))∧MapPut Try.prog 3 (.map t34) (.int .i64 a1) (.agg #[.int .i64 a2,.slice t38.a t38.n t38.c,.int .u64 a4,.int .i64 t43]) h3 fun h4=>LoopEv (evC Try.prog tab lv18 (sub [1,1,1,1,0,1,0,0] body18)) (contAt Try.prog tab lv18 [1,1,1,1,0,1,0] body18 [] (bodyK Try.prog Try.f18 [] R)) [(0,.pointer a0),(1,.int .i64 a1),(2,.int .i64 a2),(3,.slice a3.a a3.n a3.c),(45,.slice a3.a a3.n a3.c),(46,.int .i64 (((a3.n:Nat):Int))),(47,.int .i64 0)] 70 h4)
theorem f18F_eq (a0:Option Addr) (a1:Int) (a2:Int) (a3:Sl) (a4:Int) (h:Hp) (R:Value→Hp→Prop):evF Try.prog tab lv18 Try.f18 body18 [] [.pointer a0,.int .i64 a1,.int .i64 a2,.slice a3.a a3.n a3.c,.int .u64 a4] h R=f18F a0 a1 a2 a3 a4 h R:=by kernel_rfl
theorem f18F_ok {a0:Option Addr} {a1:Int} {a2:Int} {a3:Sl} {a4:Int} {h:Hp} {R:Value→Hp→Prop} (hF:f18F a0 a1 a2 a3 a4 h R):CallTo Try.prog 18 #[.pointer a0,.int .i64 a1,.int .i64 a2,.slice a3.a a3.n a3.c,.int .u64 a4] h R :=
 callTo_of_ev (lv:=lv18) (hints:=[]) (c:=body18) (args:=[.pointer a0,.int .i64 a1,.int .i64 a2,.slice a3.a a3.n a3.c,.int .u64 a4]) mixed tab_ok Try.func18 (by kernel_rfl) (by kernel_rfl) (by rw [f18F_eq]; exact hF)
/- (*larder/wait.Wait).Next -/
noncomputable def body26:Code:=(Try.f26.body).getD .skip
def lv26 (m:Nat):List Nat:=[]
def f26F (a0:Option Addr) (a1_0:Int) (a1_1:ByteArray) (a2:Int) (h:Hp) (R:Value→Hp→Prop):Prop :=
 Let (h.push (.cells #[.int .i64 a1_0,.string a1_1] 40)) fun h1=>PtrOk a0 fun p10=>∃ t12:Option Nat,cell h1 p10=some (.map t12)∧∃ t13_0:Int,cell h1 (nb h)=some (.int .i64 t13_0)∧∃ t13_1:ByteArray,cell h1 ((nb h).add 1)=some (.string t13_1)∧∃ t16:Sl,∃ kt16:Bool,MapGet Try.prog 73 32 (.map t12) (.agg #[.int .i64 t13_0,.string t13_1,.int .i64 a2]) h1 (.slice t16.a t16.n t16.c) kt16∧Cond ((((t16.n:Nat):Int)) == (0:Int)) (R (.tuple #[.int .i64 0,.bool false]:Value) h1) ((0 ≤ (0:Int)∧(0:Int) < ((t16.n:Nat):Int))∧PtrOk t16.a fun p21=>∃ t22:Int,cell h1 (p21.add ((0:Int).toNat * 1))=some (.int .i64 t22)∧R (.tuple #[.int .i64 t22,.bool true]:Value) h1)
theorem f26F_eq (a0:Option Addr) (a1_0:Int) (a1_1:ByteArray) (a2:Int) (h:Hp) (R:Value→Hp→Prop):evF Try.prog tab lv26 Try.f26 body26 [] [.pointer a0,.agg #[.int .i64 a1_0,.string a1_1],.int .i64 a2] h R=f26F a0 a1_0 a1_1 a2 h R:=by kernel_rfl
theorem f26F_ok {a0:Option Addr} {a1_0:Int} {a1_1:ByteArray} {a2:Int} {h:Hp} {R:Value→Hp→Prop} (hF:f26F a0 a1_0 a1_1 a2 h R):CallTo Try.prog 26 #[.pointer a0,.agg #[.int .i64 a1_0,.string a1_1],.int .i64 a2] h R :=
 callTo_of_ev (lv:=lv26) (hints:=[]) (c:=body26) (args:=[.pointer a0,.agg #[.int .i64 a1_0,.string a1_1],.int .i64 a2]) mixed tab_ok Try.func26 (by kernel_rfl) (by kernel_rfl) (by rw [f26F_eq]; exact hF)
/- (*larder/wait.Wait).Waiting$1 -/
noncomputable def body28:Code:=(Try.f28.body).getD .skip
def lv28 (m:Nat):List Nat:=[]
def f28F (a0:Int) (a1:Int) (c0:Addr) (h:Hp) (R:Value→Hp→Prop):Prop :=
 ∃ t6:Option Addr,cell h c0=some (.pointer t6)∧PtrOk t6 fun p7=>∃ t9:Option Nat,cell h (p7.add 1)=some (.map t9)∧∃ t11_0:Int,∃ t11_1:Sl,∃ t11_2:Int,∃ t11_3:Int,∃ kt11:Bool,MapGet Try.prog 3 68 (.map t9) (.int .i64 a0) h (.agg #[.int .i64 t11_0,.slice t11_1.a t11_1.n t11_1.c,.int .u64 t11_2,.int .i64 t11_3]) kt11∧∃ t13:Option Addr,cell h c0=some (.pointer t13)∧PtrOk t13 fun p14=>∃ t16:Option Nat,cell h (p14.add 1)=some (.map t16)∧∃ t18_0:Int,∃ t18_1:Sl,∃ t18_2:Int,∃ t18_3:Int,∃ kt18:Bool,MapGet Try.prog 3 68 (.map t16) (.int .i64 a1) h (.agg #[.int .i64 t18_0,.slice t18_1.a t18_1.n t18_1.c,.int .u64 t18_2,.int .i64 t18_3]) kt18∧∃ t20:Int,CallTo Try.prog 29 #[.int .i64 t11_3,.int .i64 t18_3] h (fun v h'=>v=(.int .i64 t20)∧h'=h)∧R (.int .i64 t20:Value) h
theorem f28F_eq (a0:Int) (a1:Int) (c0:Addr) (h:Hp) (R:Value→Hp→Prop):evF Try.prog tab lv28 Try.f28 body28 [] [.int .i64 a0,.int .i64 a1,.pointer (some c0)] h R=f28F a0 a1 c0 h R:=by kernel_rfl
theorem f28F_ok {a0:Int} {a1:Int} {c0:Addr} {h:Hp} {R:Value→Hp→Prop} (hF:f28F a0 a1 c0 h R):CallTo Try.prog 28 #[.int .i64 a0,.int .i64 a1,.pointer (some c0)] h R :=
 callTo_of_ev (lv:=lv28) (hints:=[]) (c:=body28) (args:=[.int .i64 a0,.int .i64 a1,.pointer (some c0)]) mixed tab_ok Try.func28 (by kernel_rfl) (by kernel_rfl) (by rw [f28F_eq]; exact hF)
/- (*larder/wait.Wait).Due$1 -/
noncomputable def body30:Code:=(Try.f30.body).getD .skip
def lv30 (m:Nat):List Nat:=[]
def f30F (a0:Int) (a1:Int) (c0:Addr) (h:Hp) (R:Value→Hp→Prop):Prop :=
 ∃ t7:Option Addr,cell h c0=some (.pointer t7)∧PtrOk t7 fun p8=>∃ t10:Option Nat,cell h (p8.add 1)=some (.map t10)∧∃ t12_0:Int,∃ t12_1:Sl,∃ t12_2:Int,∃ t12_3:Int,∃ kt12:Bool,MapGet Try.prog 3 68 (.map t10) (.int .i64 a0) h (.agg #[.int .i64 t12_0,.slice t12_1.a t12_1.n t12_1.c,.int .u64 t12_2,.int .i64 t12_3]) kt12∧∃ t14:Option Addr,cell h c0=some (.pointer t14)∧PtrOk t14 fun p15=>∃ t17:Option Nat,cell h (p15.add 1)=some (.map t17)∧∃ t19_0:Int,∃ t19_1:Sl,∃ t19_2:Int,∃ t19_3:Int,∃ kt19:Bool,MapGet Try.prog 3 68 (.map t17) (.int .i64 a1) h (.agg #[.int .i64 t19_0,.slice t19_1.a t19_1.n t19_1.c,.int .u64 t19_2,.int .i64 t19_3]) kt19∧∃ t21:Int,CallTo Try.prog 31 #[.int .u64 t12_2,.int .u64 t19_2] h (fun v h'=>v=(.int .i64 t21)∧h'=h)∧Cond (t21 != (0:Int)) (R (.int .i64 t21:Value) h) (∃ t25:Option Addr,cell h c0=some (.pointer t25)∧PtrOk t25 fun p26=>∃ t28:Option Nat,cell h (p26.add 1)=some (.map t28)∧∃ t30_0:Int,∃ t30_1:Sl,∃ t30_2:Int,∃ t30_3:Int,∃ kt30:Bool,MapGet Try.prog 3 68 (.map t28) (.int .i64 a0) h (.agg #[.int .i64 t30_0,.slice t30_1.a t30_1.n t30_1.c,.int .u64 t30_2,.int .i64 t30_3]) kt30∧∃ t32:Option Addr,cell h c0=some (.pointer t32)∧PtrOk t32 fun p33=>∃ t35:Option Nat,cell h (p33.add 1)=some (.map t35)∧∃ t37_0:Int,∃ t37_1:Sl,∃ t37_2:Int,∃ t37_3:Int,∃ kt37:Bool,MapGet Try.prog 3 68 (.map t35) (.int .i64 a1) h (.agg #[.int .i64 t37_0,.slice t37_1.a t37_1.n t37_1.c,.int .u64 t37_2,.int .i64 t37_3]) kt37∧∃ t39:Int,CallTo Try.prog 29 #[.int .i64 t30_3,.int .i64 t37_3] h (fun v h'=>v=(.int .i64 t39)∧h'=h)∧R (.int .i64 t39:Value) h)
theorem f30F_eq (a0:Int) (a1:Int) (c0:Addr) (h:Hp) (R:Value→Hp→Prop):evF Try.prog tab lv30 Try.f30 body30 [] [.int .i64 a0,.int .i64 a1,.pointer (some c0)] h R=f30F a0 a1 c0 h R:=by kernel_rfl
theorem f30F_ok {a0:Int} {a1:Int} {c0:Addr} {h:Hp} {R:Value→Hp→Prop} (hF:f30F a0 a1 c0 h R):CallTo Try.prog 30 #[.int .i64 a0,.int .i64 a1,.pointer (some c0)] h R :=
 callTo_of_ev (lv:=lv30) (hints:=[]) (c:=body30) (args:=[.int .i64 a0,.int .i64 a1,.pointer (some c0)]) mixed tab_ok Try.func30 (by kernel_rfl) (by kernel_rfl) (by rw [f30F_eq]; exact hF)
/- larder/wait.first -/
noncomputable def body32:Code:=(Try.f32.body).getD .skip
def lv32 (m:Nat):List Nat:=if m=2 then [0,1,9,10,11] else []
def f32I1 (J:Nat→Sl→Int→Sl→Int→Int→Hp→Prop) (n:Nat) (env:List Value) (h:Hp):Prop:=lenIs env 22 (DecL env 0 fun s0=>DecI .i64 env 1 fun s1=>DecL env 9 fun s9=>DecI .i64 env 10 fun s10=>DecI .i64 env 11 fun s11=>J n s0 s1 s9 s10 s11 h)
def f32L1 (J1:Nat→Sl→Int→Sl→Int→Int→Hp→Prop) (n1:Nat) (s0:Sl) (s1:Int) (s9:Sl) (s10:Int) (s11:Int) (g:Nat→Value) (h:Hp) (R:Value→Hp→Prop):Prop :=
 Cond (decide (s11 < s10)) ((0 ≤ s11∧s11 < ((s9.n:Nat):Int))∧PtrOk s9.a fun p13=>∃ t14_0:Int,cell h (p13.add (s11.toNat * 2))=some (.int .i64 t14_0)∧∃ t14_1:ByteArray,cell h ((p13.add (s11.toNat * 2)).add 1)=some (.string t14_1)∧Let (h.push (.cells #[.int .i64 0,.string ⟨#[]⟩] 40)) fun h1=>stOk h1 (nb h)∧Let (setc h1 (nb h) (.int .i64 t14_0)) fun h2=>stOk h2 ((nb h).add 1)∧Let (setc h2 ((nb h).add 1) (.string t14_1)) fun h3=>∃ t15_0:Int,cell h3 (nb h)=some (.int .i64 t15_0)∧∃ t15_1:ByteArray,cell h3 ((nb h).add 1)=some (.string t15_1)∧(0 ≤ s1∧s1 < ((s0.n:Nat):Int))∧PtrOk s0.a fun p18=>∃ t19_0:Int,cell h3 (p18.add (s1.toNat * 2))=some (.int .i64 t19_0)∧∃ t19_1:ByteArray,cell h3 ((p18.add (s1.toNat * 2)).add 1)=some (.string t19_1)∧Cond ((t15_0 == t19_0) && ((t15_1 == t19_1) && (true))) (R (.bool false:Value) h3) (∃ m,m < n1∧J1 m s0 s1 s9 s10 (IntKind.wrap .i64 (s11 + (1:Int))) h3)) (R (.bool true:Value) h)
theorem f32L1_eq (J1:Nat→Sl→Int→Sl→Int→Int→Hp→Prop) (n1:Nat) (s0:Sl) (s1:Int) (s9:Sl) (s10:Int) (s11:Int) (g:Nat→Value) (h:Hp) (R:Value→Hp→Prop):(evC Try.prog tab lv32 (sub [1,0,1,0,0] body32)) (loopK (f32I1 J1) n1 (contAt Try.prog tab lv32 [1,0,1,0] body32 [] (bodyK Try.prog Try.f32 [] R))) (mkEnv 22 [(0,.slice s0.a s0.n s0.c),(1,.int .i64 s1),(9,.slice s9.a s9.n s9.c),(10,.int .i64 s10),(11,.int .i64 s11)] g) h=f32L1 J1 n1 s0 s1 s9 s10 s11 g h R:=by kernel_rfl
theorem f32I1_at (J:Nat→Sl→Int→Sl→Int→Int→Hp→Prop) (n:Nat) (s0:Sl) (s1:Int) (s9:Sl) (s10:Int) (s11:Int) (g:Nat→Value) (h:Hp):f32I1 J n (mkEnv 22 [(0,.slice s0.a s0.n s0.c),(1,.int .i64 s1),(9,.slice s9.a s9.n s9.c),(10,.int .i64 s10),(11,.int .i64 s11)] g) h=J n s0 s1 s9 s10 s11 h:=by kernel_rfl
theorem f32L1_rule  {R:Value→Hp→Prop} {s0:Sl} {s1:Int} {s9:Sl} {s10:Int} {s11:Int} {h0:Hp} (J:Nat→Sl→Int→Sl→Int→Int→Hp→Prop) (n0:Nat) (hi:J n0 s0 s1 s9 s10 s11 h0)
  (hr:∀ n s0 s1 s9 s10 s11 g h,J n s0 s1 s9 s10 s11 h→f32L1  J n s0 s1 s9 s10 s11 g h R):LoopEv (evC Try.prog tab lv32 (sub [1,0,1,0,0] body32)) (contAt Try.prog tab lv32 [1,0,1,0] body32 [] (bodyK Try.prog Try.f32 [] R)) [(0,.slice s0.a s0.n s0.c),(1,.int .i64 s1),(9,.slice s9.a s9.n s9.c),(10,.int .i64 s10),(11,.int .i64 s11)] 22 h0:=by
 refine ⟨f32I1 J,n0,fun g=>by rw [f32I1_at]; exact hi,fun n env h hI=>?_⟩
 clear hi
 clear s0 s1 s9 s10 s11
 obtain ⟨hlen,hI⟩:=Cond_true' hI
 have hlen:env.length=22:=by simpa using hlen
 obtain ⟨s0,es0,hI⟩:=DecL.out hI
 obtain ⟨s1,es1,hI⟩:=DecI.out hI
 obtain ⟨s9,es9,hI⟩:=DecL.out hI
 obtain ⟨s10,es10,hI⟩:=DecI.out hI
 obtain ⟨s11,es11,hI⟩:=DecI.out hI
 rw [mkEnv_of (l:=[(0,.slice s0.a s0.n s0.c),(1,.int .i64 s1),(9,.slice s9.a s9.n s9.c),(10,.int .i64 s10),(11,.int .i64 s11)]) hlen (by simp only [List.mem_cons,List.not_mem_nil,or_false,forall_eq_or_imp,forall_eq]; exact ⟨es0,es1,es9,es10,es11⟩)]
 rw [f32L1_eq]
 exact hr n s0 s1 s9 s10 s11 _ h hI
def f32F (a0:Sl) (a1:Int) (h:Hp) (R:Value→Hp→Prop):Prop :=
 (0 ≤ a1∧a1 ≤ ((a0.c:Nat):Int))∧(0 ≤ (0:Int)∧(0:Int) ≤ a1)∧LoopEv (evC Try.prog tab lv32 (sub [1,0,1,0,0] body32)) (contAt Try.prog tab lv32 [1,0,1,0] body32 [] (bodyK Try.prog Try.f32 [] R)) [(0,.slice a0.a a0.n a0.c),(1,.int .i64 a1),(9,.slice (if a0.c=(0:Int).toNat then a0.a else Option.map (fun x=>x.add ((0:Int).toNat * 2)) a0.a) (a1.toNat - (0:Int).toNat) (a0.c - (0:Int).toNat)),(10,.int .i64 (((a1.toNat - (0:Int).toNat:Nat):Int))),(11,.int .i64 0)] 22 h
theorem f32F_eq (a0:Sl) (a1:Int) (h:Hp) (R:Value→Hp→Prop):evF Try.prog tab lv32 Try.f32 body32 [] [.slice a0.a a0.n a0.c,.int .i64 a1] h R=f32F a0 a1 h R:=by kernel_rfl
theorem f32F_ok {a0:Sl} {a1:Int} {h:Hp} {R:Value→Hp→Prop} (hF:f32F a0 a1 h R):CallTo Try.prog 32 #[.slice a0.a a0.n a0.c,.int .i64 a1] h R :=
 callTo_of_ev (lv:=lv32) (hints:=[]) (c:=body32) (args:=[.slice a0.a a0.n a0.c,.int .i64 a1]) mixed tab_ok Try.func32 (by kernel_rfl) (by kernel_rfl) (by rw [f32F_eq]; exact hF)
/- (*larder/wait.Wait).check -/
noncomputable def body35:Code:=(Try.f35.body).getD .skip
def lv35 (m:Nat):List Nat:=if m=11 then [4,45,46,47] else []
def f35I1 (J:Nat→Int→Sl→Int→Int→Hp→Prop) (n:Nat) (env:List Value) (h:Hp):Prop:=lenIs env 57 (DecI .u64 env 4 fun s4=>DecL env 45 fun s45=>DecI .i64 env 46 fun s46=>DecI .i64 env 47 fun s47=>J n s4 s45 s46 s47 h)
def f35K1  (x0:Option Addr) (x1:Int) (x2:Int) (x3:Sl) (x4:Int) (x20:Bool) (h:Hp) (R:Value→Hp→Prop):Prop :=
 Cond x20 (R (.int .i64 180:Value) h) (PtrOk x0 fun p23=>∃ t25:Option Nat,cell h (p23.add 1)=some (.map t25)∧∃ t27_0:Int,∃ t27_1:Sl,∃ t27_2:Int,∃ t27_3:Int,∃ kt27:Bool,MapGet Try.prog 3 68 (.map t25) (.int .i64 x1) h (.agg #[.int .i64 t27_0,.slice t27_1.a t27_1.n t27_1.c,.int .u64 t27_2,.int .i64 t27_3]) kt27∧Let (h.push (.cells #[.int .i64 0,.slice none 0 0,.int .u64 0,.int .i64 0] 68)) fun h1=>stOk h1 (nb h)∧Let (setc h1 (nb h) (.int .i64 t27_0)) fun h2=>stOk h2 ((nb h).add 1)∧Let (setc h2 ((nb h).add 1) (.slice t27_1.a t27_1.n t27_1.c)) fun h3=>stOk h3 ((nb h).add 2)∧Let (setc h3 ((nb h).add 2) (.int .u64 t27_2)) fun h4=>stOk h4 ((nb h).add 3)∧Let (setc h4 ((nb h).add 3) (.int .i64 t27_3)) fun h5=>Cond kt27 (R (.int .i64 181:Value) h5) (Cond (x2 != (2:Int)) (Cond (x2 != (5:Int)) (R (.int .i64 184:Value) h5) (Cond ((((x3.n:Nat):Int)) == (0:Int)) (R (.int .i64 182:Value) h5) (Cond (decide ((((x3.n:Nat):Int)) > (64:Int))) (R (.int .i64 182:Value) h5) (LoopEv (evC Try.prog tab lv35 (sub [1,1,1,1,1,0,1,0,0] body35)) (contAt Try.prog tab lv35 [1,1,1,1,1,0,1,0] body35 [] (bodyK Try.prog Try.f35 [] R)) [(4,.int .u64 x4),(45,.slice x3.a x3.n x3.c),(46,.int .i64 (((x3.n:Nat):Int))),(47,.int .i64 0)] 57 h5)))) (Cond ((((x3.n:Nat):Int)) == (0:Int)) (R (.int .i64 182:Value) h5) (Cond (decide ((((x3.n:Nat):Int)) > (64:Int))) (R (.int .i64 182:Value) h5) (LoopEv (evC Try.prog tab lv35 (sub [1,1,1,1,1,0,1,0,0] body35)) (contAt Try.prog tab lv35 [1,1,1,1,1,0,1,0] body35 [] (bodyK Try.prog Try.f35 [] R)) [(4,.int .u64 x4),(45,.slice x3.a x3.n x3.c),(46,.int .i64 (((x3.n:Nat):Int))),(47,.int .i64 0)] 57 h5)))))
def f35L1 (J1:Nat→Int→Sl→Int→Int→Hp→Prop) (n1:Nat) (s4:Int) (s45:Sl) (s46:Int) (s47:Int) (g:Nat→Value) (h:Hp) (R:Value→Hp→Prop):Prop :=
 Cond (decide (s47 < s46)) ((0 ≤ s47∧s47 < ((s45.n:Nat):Int))∧PtrOk s45.a fun p49=>∃ t50_0:Int,cell h (p49.add (s47.toNat * 2))=some (.int .i64 t50_0)∧∃ t50_1:ByteArray,cell h ((p49.add (s47.toNat * 2)).add 1)=some (.string t50_1)∧Let (h.push (.cells #[.int .i64 0,.string ⟨#[]⟩] 40)) fun h6=>stOk h6 (nb h)∧Let (setc h6 (nb h) (.int .i64 t50_0)) fun h7=>stOk h7 ((nb h).add 1)∧Let (setc h7 ((nb h).add 1) (.string t50_1)) fun h8=>∃ t51_0:Int,cell h8 (nb h)=some (.int .i64 t51_0)∧∃ t51_1:ByteArray,cell h8 ((nb h).add 1)=some (.string t51_1)∧CallTo Try.prog 58 #[.agg #[.int .i64 t51_0,.string t51_1]] h8 fun r h9=>∃ t52:Bool,r=.bool t52∧Cond (!t52) (R (.int .i64 182:Value) h9) (∃ m,m < n1∧J1 m s4 s45 s46 (IntKind.wrap .i64 (s47 + (1:Int))) h9)) (Cond (decide (s4 > (4503599627370496:Int))) (R (.int .i64 183:Value) h) (R (.int .i64 0:Value) h))
theorem f35L1_eq (J1:Nat→Int→Sl→Int→Int→Hp→Prop) (n1:Nat) (s4:Int) (s45:Sl) (s46:Int) (s47:Int) (g:Nat→Value) (h:Hp) (R:Value→Hp→Prop):(evC Try.prog tab lv35 (sub [1,1,1,1,1,0,1,0,0] body35)) (loopK (f35I1 J1) n1 (contAt Try.prog tab lv35 [1,1,1,1,1,0,1,0] body35 [] (bodyK Try.prog Try.f35 [] R))) (mkEnv 57 [(4,.int .u64 s4),(45,.slice s45.a s45.n s45.c),(46,.int .i64 s46),(47,.int .i64 s47)] g) h=f35L1 J1 n1 s4 s45 s46 s47 g h R:=by kernel_rfl
theorem f35I1_at (J:Nat→Int→Sl→Int→Int→Hp→Prop) (n:Nat) (s4:Int) (s45:Sl) (s46:Int) (s47:Int) (g:Nat→Value) (h:Hp):f35I1 J n (mkEnv 57 [(4,.int .u64 s4),(45,.slice s45.a s45.n s45.c),(46,.int .i64 s46),(47,.int .i64 s47)] g) h=J n s4 s45 s46 s47 h:=by kernel_rfl
theorem f35L1_rule  {R:Value→Hp→Prop} {s4:Int} {s45:Sl} {s46:Int} {s47:Int} {h0:Hp} (J:Nat→Int→Sl→Int→Int→Hp→Prop) (n0:Nat) (hi:J n0 s4 s45 s46 s47 h0)
  (hr:∀ n s4 s45 s46 s47 g h,J n s4 s45 s46 s47 h→f35L1  J n s4 s45 s46 s47 g h R):LoopEv (evC Try.prog tab lv35 (sub [1,1,1,1,1,0,1,0,0] body35)) (contAt Try.prog tab lv35 [1,1,1,1,1,0,1,0] body35 [] (bodyK Try.prog Try.f35 [] R)) [(4,.int .u64 s4),(45,.slice s45.a s45.n s45.c),(46,.int .i64 s46),(47,.int .i64 s47)] 57 h0:=by
 refine ⟨f35I1 J,n0,fun g=>by rw [f35I1_at]; exact hi,fun n env h hI=>?_⟩
 clear hi
 clear s4 s45 s46 s47
 obtain ⟨hlen,hI⟩:=Cond_true' hI
 have hlen:env.length=57:=by simpa using hlen
 obtain ⟨s4,es4,hI⟩:=DecI.out hI
 obtain ⟨s45,es45,hI⟩:=DecL.out hI
 obtain ⟨s46,es46,hI⟩:=DecI.out hI
 obtain ⟨s47,es47,hI⟩:=DecI.out hI
 rw [mkEnv_of (l:=[(4,.int .u64 s4),(45,.slice s45.a s45.n s45.c),(46,.int .i64 s46),(47,.int .i64 s47)]) hlen (by simp only [List.mem_cons,List.not_mem_nil,or_false,forall_eq_or_imp,forall_eq]; exact ⟨es4,es45,es46,es47⟩)]
 rw [f35L1_eq]
 exact hr n s4 s45 s46 s47 _ h hI
def f35F (a0:Option Addr) (a1:Int) (a2:Int) (a3:Sl) (a4:Int) (h:Hp) (R:Value→Hp→Prop):Prop :=
 Cond (decide (a1 < (0:Int))) (f35K1  a0 a1 a2 a3 a4 true h R) (f35K1  a0 a1 a2 a3 a4 (decide (a1 ≥ (8:Int))) h R)
theorem f35F_eq (a0:Option Addr) (a1:Int) (a2:Int) (a3:Sl) (a4:Int) (h:Hp) (R:Value→Hp→Prop):evF Try.prog tab lv35 Try.f35 body35 [] [.pointer a0,.int .i64 a1,.int .i64 a2,.slice a3.a a3.n a3.c,.int .u64 a4] h R=f35F a0 a1 a2 a3 a4 h R:=by kernel_rfl
theorem f35F_ok {a0:Option Addr} {a1:Int} {a2:Int} {a3:Sl} {a4:Int} {h:Hp} {R:Value→Hp→Prop} (hF:f35F a0 a1 a2 a3 a4 h R):CallTo Try.prog 35 #[.pointer a0,.int .i64 a1,.int .i64 a2,.slice a3.a a3.n a3.c,.int .u64 a4] h R :=
 callTo_of_ev (lv:=lv35) (hints:=[]) (c:=body35) (args:=[.pointer a0,.int .i64 a1,.int .i64 a2,.slice a3.a a3.n a3.c,.int .u64 a4]) mixed tab_ok Try.func35 (by kernel_rfl) (by kernel_rfl) (by rw [f35F_eq]; exact hF)
/- (*larder/wait.Wait).Places -/
noncomputable def body40:Code:=(Try.f40.body).getD .skip
def lv40 (m:Nat):List Nat:=[]
def f40F (a0:Option Addr) (a1:Int) (h:Hp) (R:Value→Hp→Prop):Prop :=
 PtrOk a0 fun p6=>∃ t8:Option Nat,cell h (p6.add 1)=some (.map t8)∧∃ t10_0:Int,∃ t10_1:Sl,∃ t10_2:Int,∃ t10_3:Int,∃ kt10:Bool,MapGet Try.prog 3 68 (.map t8) (.int .i64 a1) h (.agg #[.int .i64 t10_0,.slice t10_1.a t10_1.n t10_1.c,.int .u64 t10_2,.int .i64 t10_3]) kt10∧CallTo Try.prog 36 #[.slice t10_1.a t10_1.n t10_1.c] h fun r h1=>∃ t12:Sl,r=.slice t12.a t12.n t12.c∧R (.slice t12.a t12.n t12.c:Value) h1
theorem f40F_eq (a0:Option Addr) (a1:Int) (h:Hp) (R:Value→Hp→Prop):evF Try.prog tab lv40 Try.f40 body40 [] [.pointer a0,.int .i64 a1] h R=f40F a0 a1 h R:=by kernel_rfl
theorem f40F_ok {a0:Option Addr} {a1:Int} {h:Hp} {R:Value→Hp→Prop} (hF:f40F a0 a1 h R):CallTo Try.prog 40 #[.pointer a0,.int .i64 a1] h R :=
 callTo_of_ev (lv:=lv40) (hints:=[]) (c:=body40) (args:=[.pointer a0,.int .i64 a1]) mixed tab_ok Try.func40 (by kernel_rfl) (by kernel_rfl) (by rw [f40F_eq]; exact hF)
/- larder/wait.fit -/
noncomputable def body58:Code:=(Try.f58.body).getD .skip
def lv58 (m:Nat):List Nat:=[]
def f58F (a0_0:Int) (a0_1:ByteArray) (h:Hp) (R:Value→Hp→Prop):Prop :=
 Let (h.push (.cells #[.int .i64 a0_0,.string a0_1] 40)) fun h1=>∃ t4:Int,cell h1 (nb h)=some (.int .i64 t4)∧Cond (decide (t4 ≥ (0:Int))) (∃ t8:Int,cell h1 (nb h)=some (.int .i64 t8)∧Cond (decide (t8 < (4:Int))) (∃ t13:ByteArray,cell h1 ((nb h).add 1)=some (.string t13)∧R ((.bool (decide ((((t13.size:Nat):Int)) ≤ (4096:Int))):Value)) h1) (R (.bool false:Value) h1)) (R (.bool false:Value) h1)
theorem f58F_eq (a0_0:Int) (a0_1:ByteArray) (h:Hp) (R:Value→Hp→Prop):evF Try.prog tab lv58 Try.f58 body58 [] [.agg #[.int .i64 a0_0,.string a0_1]] h R=f58F a0_0 a0_1 h R:=by kernel_rfl
theorem f58F_ok {a0_0:Int} {a0_1:ByteArray} {h:Hp} {R:Value→Hp→Prop} (hF:f58F a0_0 a0_1 h R):CallTo Try.prog 58 #[.agg #[.int .i64 a0_0,.string a0_1]] h R :=
 callTo_of_ev (lv:=lv58) (hints:=[]) (c:=body58) (args:=[.agg #[.int .i64 a0_0,.string a0_1]]) mixed tab_ok Try.func58 (by kernel_rfl) (by kernel_rfl) (by rw [f58F_eq]; exact hF)
end Go.Ev
