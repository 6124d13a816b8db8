/- Printed by a program (own work) out of the loaded functions: what each says of the heap, and that the evaluator says the same / What All's answer does; ranges over it / ChainGreat: the elements told one by one / ChainGreat: the law's own call. No condition but that these are ones. -/
import Derived.Test.YtngcoodbepbhbaaG4
import Derived.Test.YtngcoodbepbhbaaG20
set_option linter.all false
set_option maxRecDepth 100000
namespace Go.Ev
open Go.Proofs
/- larder/larderlaw5.greatRows -/
noncomputable def body28:Code:=(Try.f28.body).getD .skip
def lv28 (m:Nat):List Nat:=if m=3 then [0,1,4,5,6] else if m=12 then [0,1,4,9,11] else if m=21 then [4,12] else []
def f28I1 (J:Nat→Option Addr→Int→Addr→Addr→Int→Hp→Prop) (n:Nat) (env:List Value) (h:Hp):Prop:=lenIs env 97 (DecP env 0 fun s0=>DecI .i64 env 1 fun s1=>DecA env 4 fun s4=>DecA env 5 fun s5=>DecI .i64 env 6 fun s6=>J n s0 s1 s4 s5 s6 h)
def f28I2 (J:Nat→Option Addr→Int→Addr→Sl→Int→Hp→Prop) (n:Nat) (env:List Value) (h:Hp):Prop:=lenIs env 97 (DecP env 0 fun s0=>DecI .i64 env 1 fun s1=>DecA env 4 fun s4=>DecL env 9 fun s9=>DecI .i64 env 11 fun s11=>J n s0 s1 s4 s9 s11 h)
def f28L1 (J1:Nat→Option Addr→Int→Addr→Addr→Int→Hp→Prop) (n1:Nat) (s0:Option Addr) (s1:Int) (s4:Addr) (s5:Addr) (s6:Int) (g:Nat→Value) (h:Hp) (R:Value→Hp→Prop):Prop :=
 Cond (decide (s6 < (15:Int))) ((0 ≤ s6∧s6 < ((15:Nat):Int))∧∃ t27:Int,cell h (s5.add (s6.toNat * 1))=some (.int .i64 t27)∧CallTo Try.prog 23 #[.pointer s0,.int .i64 t27] h fun r h18=>∃ t28_0:Sl,∃ t28_1:Int,r=.tuple #[.slice t28_0.a t28_0.n t28_0.c,.int .i64 t28_1]∧CallTo Try.prog 11 #[.int .i64 t28_1] h18 fun r h19=>∃ t32:Int,r=.int .i64 t32∧Cond (t32 != (0:Int)) (stOk h19 s4∧Let (setc h19 s4 (.bool false)) fun h20=>∃ v0:Bool,cell h20 s4=some (.bool v0)∧R (.bool v0:Value) h20) ((0 ≤ s6∧s6 < ((15:Nat):Int))∧∃ t38:Int,cell h19 (s5.add (s6.toNat * 1))=some (.int .i64 t38)∧CallTo Try.prog 29 #[.int .i64 t38] h19 fun r h21=>∃ t39:Sl,r=.slice t39.a t39.n t39.c∧CallTo Try.prog 18 #[.slice t28_0.a t28_0.n t28_0.c,.slice t39.a t39.n t39.c] h21 fun r h22=>∃ t40:Bool,r=.bool t40∧Cond (!t40) (stOk h22 s4∧Let (setc h22 s4 (.bool false)) fun h23=>∃ v0:Bool,cell h23 s4=some (.bool v0)∧R (.bool v0:Value) h23) (∃ m,m < n1∧J1 m s0 s1 s4 s5 (IntKind.wrap .i64 (s6 + (1:Int))) h22))) (CallTo Try.prog 15 #[.pointer s0,.int .i64 65530,.int .i64 (IntKind.wrap .i64 (s1 - (65530:Int)))] h fun r h24=>∃ t47_0:Sl,∃ t47_1:Int,r=.tuple #[.slice t47_0.a t47_0.n t47_0.c,.int .i64 t47_1]∧CallTo Try.prog 11 #[.int .i64 t47_1] h24 fun r h25=>∃ t51:Int,r=.int .i64 t51∧Cond (t51 != (0:Int)) (stOk h25 s4∧Let (setc h25 s4 (.bool false)) fun h26=>∃ v0:Bool,cell h26 s4=some (.bool v0)∧R (.bool v0:Value) h26) (Cond ((((t47_0.n:Nat):Int)) != (IntKind.wrap .i64 (s1 - (65530:Int)))) (stOk h25 s4∧Let (setc h25 s4 (.bool false)) fun h27=>∃ v0:Bool,cell h27 s4=some (.bool v0)∧R (.bool v0:Value) h27) (LoopEv (evC Try.prog tab lv28 (sub [1,1,1,1,1,0,1,0,0] body28)) (withD (contAtM Try.prog tab lv28 [1,1,1,1,1,0,1,0] body28 (bodyKM Try.prog Try.f28 [.bool] R)) []) [(0,.pointer s0),(1,.int .i64 s1),(4,.pointer (some s4)),(9,.slice t47_0.a t47_0.n t47_0.c),(11,.int .i64 0)] 97 h25)))
theorem f28L1_eq (J1:Nat→Option Addr→Int→Addr→Addr→Int→Hp→Prop) (n1:Nat) (s0:Option Addr) (s1:Int) (s4:Addr) (s5:Addr) (s6:Int) (g:Nat→Value) (h:Hp) (R:Value→Hp→Prop):(evC Try.prog tab lv28 (sub [1,1,0,1,0,0] body28)) (loopK (f28I1 J1) n1 (withD (contAtM Try.prog tab lv28 [1,1,0,1,0] body28 (bodyKM Try.prog Try.f28 [.bool] R)) [])) (mkEnv 97 [(0,.pointer s0),(1,.int .i64 s1),(4,.pointer (some s4)),(5,.pointer (some s5)),(6,.int .i64 s6)] g) h=f28L1 J1 n1 s0 s1 s4 s5 s6 g h R:=by kernel_rfl
theorem f28I1_at (J:Nat→Option Addr→Int→Addr→Addr→Int→Hp→Prop) (n:Nat) (s0:Option Addr) (s1:Int) (s4:Addr) (s5:Addr) (s6:Int) (g:Nat→Value) (h:Hp):f28I1 J n (mkEnv 97 [(0,.pointer s0),(1,.int .i64 s1),(4,.pointer (some s4)),(5,.pointer (some s5)),(6,.int .i64 s6)] g) h=J n s0 s1 s4 s5 s6 h:=by kernel_rfl
theorem f28L1_rule  {R:Value→Hp→Prop} {s0:Option Addr} {s1:Int} {s4:Addr} {s5:Addr} {s6:Int} {h0:Hp} (J:Nat→Option Addr→Int→Addr→Addr→Int→Hp→Prop) (n0:Nat) (hi:J n0 s0 s1 s4 s5 s6 h0)
  (hr:∀ n s0 s1 s4 s5 s6 g h,J n s0 s1 s4 s5 s6 h→f28L1  J n s0 s1 s4 s5 s6 g h R):LoopEv (evC Try.prog tab lv28 (sub [1,1,0,1,0,0] body28)) (withD (contAtM Try.prog tab lv28 [1,1,0,1,0] body28 (bodyKM Try.prog Try.f28 [.bool] R)) []) [(0,.pointer s0),(1,.int .i64 s1),(4,.pointer (some s4)),(5,.pointer (some s5)),(6,.int .i64 s6)] 97 h0:=by
 refine ⟨f28I1 J,n0,fun g=>by rw [f28I1_at]; exact hi,fun n env h hI=>?_⟩
 clear hi
 clear s0 s1 s4 s5 s6
 obtain ⟨hlen,hI⟩:=Cond_true' hI
 have hlen:env.length=97:=by simpa using hlen
 obtain ⟨s0,es0,hI⟩:=DecP.out hI
 obtain ⟨s1,es1,hI⟩:=DecI.out hI
 obtain ⟨s4,es4,hI⟩:=DecA.out hI
 obtain ⟨s5,es5,hI⟩:=DecA.out hI
 obtain ⟨s6,es6,hI⟩:=DecI.out hI
 rw [mkEnv_of (l:=[(0,.pointer s0),(1,.int .i64 s1),(4,.pointer (some s4)),(5,.pointer (some s5)),(6,.int .i64 s6)]) hlen (by simp only [List.mem_cons,List.not_mem_nil,or_false,forall_eq_or_imp,forall_eq]; exact ⟨es0,es1,es4,es5,es6⟩)]
 rw [f28L1_eq]
 exact hr n s0 s1 s4 s5 s6 _ h hI
def f28L2 (J2:Nat→Option Addr→Int→Addr→Sl→Int→Hp→Prop) (n2:Nat) (s0:Option Addr) (s1:Int) (s4:Addr) (s9:Sl) (s11:Int) (g:Nat→Value) (h:Hp) (R:Value→Hp→Prop):Prop :=
 Cond (decide (s11 < (((s9.n:Nat):Int)))) ((0 ≤ s11∧s11 < ((s9.n:Nat):Int))∧PtrOk s9.a fun p68=>∃ t69:Sl,cell h (p68.add (s11.toNat * 1))=some (.slice t69.a t69.n t69.c)∧CallTo Try.prog 29 #[.int .i64 (IntKind.wrap .i64 ((65530:Int) + s11))] h fun r h28=>∃ t72:Sl,r=.slice t72.a t72.n t72.c∧(∃ y0:Sl,cell h28 (p68.add (s11.toNat * 1))=some (.slice y0.a y0.n y0.c)∧Next.value (.slice y0.a y0.n y0.c)=Next.value (.slice t69.a t69.n t69.c))∧∃ t73:Bool,CallTo Try.prog 18 #[.slice t69.a t69.n t69.c,.slice t72.a t72.n t72.c] h28 (fun v h'=>v=(.bool t73)∧h'=h28)∧Cond (!t73) (stOk h28 s4∧Let (setc h28 s4 (.bool false)) fun h30=>∃ v0:Bool,cell h30 s4=some (.bool v0)∧R (.bool v0:Value) h30) (∃ m,m < n2∧J2 m s0 s1 s4 s9 (IntKind.wrap .i64 (s11 + (1:Int))) h28)) (Let (h.push (.cells #[.int .i64 0] 3)) fun h31=>stOk h31 (nb h)∧Let (setc h31 (nb h) (.int .i64 0)) fun h32=>CallTo Try.prog 35 #[.pointer s0] h32 fun r h33=>∃ t76:Value,r=t76∧∃ t78:Bool,FnNil t76 t78∧Cond t78 (stOk h33 s4∧Let (setc h33 s4 (.bool false)) fun h34=>∃ v0:Bool,cell h34 s4=some (.bool v0)∧R (.bool v0:Value) h34) (RangeEv Try.prog tab t76 #[80,81] (rfA (sub [1,1,1,1,1,1,1,1,1,0,1,0] body28)) (rfB (sub [1,1,1,1,1,1,1,1,1,0,1,0] body28)) [(4,.pointer (some s4)),(12,.pointer (some (nb h)))] 97 h33 (AfterJ (fun h35=>∃ t94:Int,cell h35 (nb h)=some (.int .i64 t94)∧stOk h35 s4∧Let (setc h35 s4 (.bool (t94 == s1))) fun h36=>h36[h33.size]?=some (.deferred (some []))∧Let (h36.setIfInBounds h33.size (.deferred none)) fun h37=>∃ v0:Bool,cell h37 s4=some (.bool v0)∧R (.bool v0:Value) h37) (fun h35=>h35[h33.size]?=some (.deferred (some []))∧Let (h35.setIfInBounds h33.size (.deferred none)) fun h38=>∃ v0:Bool,cell h38 s4=some (.bool v0)∧R (.bool v0:Value) h38) fun id h35=>if id=4 then (∃ t94:Int,cell h35 (nb h)=some (.int .i64 t94)∧stOk h35 s4∧Let (setc h35 s4 (.bool (t94 == s1))) fun h39=>h39[h33.size]?=some (.deferred (some []))∧Let (h39.setIfInBounds h33.size (.deferred none)) fun h40=>∃ v0:Bool,cell h40 s4=some (.bool v0)∧R (.bool v0:Value) h40) else False)))
theorem f28L2_eq (J2:Nat→Option Addr→Int→Addr→Sl→Int→Hp→Prop) (n2:Nat) (s0:Option Addr) (s1:Int) (s4:Addr) (s9:Sl) (s11:Int) (g:Nat→Value) (h:Hp) (R:Value→Hp→Prop):(evC Try.prog tab lv28 (sub [1,1,1,1,1,0,1,0,0] body28)) (loopK (f28I2 J2) n2 (withD (contAtM Try.prog tab lv28 [1,1,1,1,1,0,1,0] body28 (bodyKM Try.prog Try.f28 [.bool] R)) [])) (mkEnv 97 [(0,.pointer s0),(1,.int .i64 s1),(4,.pointer (some s4)),(9,.slice s9.a s9.n s9.c),(11,.int .i64 s11)] g) h=f28L2 J2 n2 s0 s1 s4 s9 s11 g h R:=by kernel_rfl
theorem f28I2_at (J:Nat→Option Addr→Int→Addr→Sl→Int→Hp→Prop) (n:Nat) (s0:Option Addr) (s1:Int) (s4:Addr) (s9:Sl) (s11:Int) (g:Nat→Value) (h:Hp):f28I2 J n (mkEnv 97 [(0,.pointer s0),(1,.int .i64 s1),(4,.pointer (some s4)),(9,.slice s9.a s9.n s9.c),(11,.int .i64 s11)] g) h=J n s0 s1 s4 s9 s11 h:=by kernel_rfl
theorem f28L2_rule  {R:Value→Hp→Prop} {s0:Option Addr} {s1:Int} {s4:Addr} {s9:Sl} {s11:Int} {h0:Hp} (J:Nat→Option Addr→Int→Addr→Sl→Int→Hp→Prop) (n0:Nat) (hi:J n0 s0 s1 s4 s9 s11 h0)
  (hr:∀ n s0 s1 s4 s9 s11 g h,J n s0 s1 s4 s9 s11 h→f28L2  J n s0 s1 s4 s9 s11 g h R):LoopEv (evC Try.prog tab lv28 (sub [1,1,1,1,1,0,1,0,0] body28)) (withD (contAtM Try.prog tab lv28 [1,1,1,1,1,0,1,0] body28 (bodyKM Try.prog Try.f28 [.bool] R)) []) [(0,.pointer s0),(1,.int .i64 s1),(4,.pointer (some s4)),(9,.slice s9.a s9.n s9.c),(11,.int .i64 s11)] 97 h0:=by
 refine ⟨f28I2 J,n0,fun g=>by rw [f28I2_at]; exact hi,fun n env h hI=>?_⟩
 clear hi
 clear s0 s1 s4 s9 s11
 obtain ⟨hlen,hI⟩:=Cond_true' hI
 have hlen:env.length=97:=by simpa using hlen
 obtain ⟨s0,es0,hI⟩:=DecP.out hI
 obtain ⟨s1,es1,hI⟩:=DecI.out hI
 obtain ⟨s4,es4,hI⟩:=DecA.out hI
 obtain ⟨s9,es9,hI⟩:=DecL.out hI
 obtain ⟨s11,es11,hI⟩:=DecI.out hI
 rw [mkEnv_of (l:=[(0,.pointer s0),(1,.int .i64 s1),(4,.pointer (some s4)),(9,.slice s9.a s9.n s9.c),(11,.int .i64 s11)]) hlen (by simp only [List.mem_cons,List.not_mem_nil,or_false,forall_eq_or_imp,forall_eq]; exact ⟨es0,es1,es4,es9,es11⟩)]
 rw [f28L2_eq]
 exact hr n s0 s1 s4 s9 s11 _ h hI
def f28F (a0:Option Addr) (a1:Int) (h:Hp) (R:Value→Hp→Prop):Prop :=
 Let (h.push (.cells #[.bool false] 4)) fun h1=>Let (h1.push (.cells #[.int .i64 0,.int .i64 0,.int .i64 0,.int .i64 0,.int .i64 0,.int .i64 0,.int .i64 0,.int .i64 0,.int .i64 0,.int .i64 0,.int .i64 0,.int .i64 0,.int .i64 0,.int .i64 0,.int .i64 0] 122)) fun h2=>stOk h2 (nb h1)∧Let (setc h2 (nb h1) (.int .i64 0)) fun h3=>stOk h3 ((nb h1).add 1)∧Let (setc h3 ((nb h1).add 1) (.int .i64 1)) fun h4=>stOk h4 ((nb h1).add 2)∧Let (setc h4 ((nb h1).add 2) (.int .i64 199)) fun h5=>stOk h5 ((nb h1).add 3)∧Let (setc h5 ((nb h1).add 3) (.int .i64 200)) fun h6=>stOk h6 ((nb h1).add 4)∧Let (setc h6 ((nb h1).add 4) (.int .i64 255)) fun h7=>stOk h7 ((nb h1).add 5)∧Let (setc h7 ((nb h1).add 5) (.int .i64 256)) fun h8=>stOk h8 ((nb h1).add 6)∧Let (setc h8 ((nb h1).add 6) (.int .i64 1000)) fun h9=>stOk h9 ((nb h1).add 7)∧Let (setc h9 ((nb h1).add 7) (.int .i64 4095)) fun h10=>stOk h10 ((nb h1).add 8)∧Let (setc h10 ((nb h1).add 8) (.int .i64 4096)) fun h11=>stOk h11 ((nb h1).add 9)∧Let (setc h11 ((nb h1).add 9) (.int .i64 32767)) fun h12=>stOk h12 ((nb h1).add 10)∧Let (setc h12 ((nb h1).add 10) (.int .i64 32768)) fun h13=>stOk h13 ((nb h1).add 11)∧Let (setc h13 ((nb h1).add 11) (.int .i64 65535)) fun h14=>stOk h14 ((nb h1).add 12)∧Let (setc h14 ((nb h1).add 12) (.int .i64 65536)) fun h15=>stOk h15 ((nb h1).add 13)∧Let (setc h15 ((nb h1).add 13) (.int .i64 65537)) fun h16=>stOk h16 ((nb h1).add 14)∧Let (setc h16 ((nb h1).add 14) (.int .i64 (IntKind.wrap .i64 (a1 - (1:Int))))) fun h17=>LoopEv (evC Try.prog tab lv28 (sub [1,1,0,1,0,0] body28)) (withD (contAtM Try.prog tab lv28 [1,1,0,1,0] body28 (bodyKM Try.prog Try.f28 [.bool] R)) []) [(0,.pointer a0),(1,.int .i64 a1),(4,.pointer (some (nb h))),(5,.pointer (some (nb h1))),(6,.int .i64 0)] 97 h17
def f28B1 (s4:Addr) (s12:Addr) (a0:Int) (a1:Sl) (l:Nat) (h:Hp) (R:Value→Hp→Prop):Prop :=
 ∃ r:Loop,h[l]?=some (.loop r)∧r.state=.ready∧Let (h.setIfInBounds l (.loop { r with state:=.busy })) fun h1=>∃ t83:Int,cell h1 s12=some (.int .i64 t83)∧Cond (a0 != t83) (stOk h1 s4∧Let (setc h1 s4 (.bool false)) fun h2=>EndR l R (some .ret) h2) (∃ t87:Int,cell h1 s12=some (.int .i64 t87)∧CallTo Try.prog 29 #[.int .i64 t87] h1 fun r h3=>∃ t88:Sl,r=.slice t88.a t88.n t88.c∧CallTo Try.prog 18 #[.slice a1.a a1.n a1.c,.slice t88.a t88.n t88.c] h3 fun r h4=>∃ t89:Bool,r=.bool t89∧Cond (!t89) (stOk h4 s4∧Let (setc h4 s4 (.bool false)) fun h5=>EndR l R (some .ret) h5) (∃ t92:Int,cell h4 s12=some (.int .i64 t92)∧stOk h4 s12∧Let (setc h4 s12 (.int .i64 (IntKind.wrap .i64 (t92 + (1:Int))))) fun h6=>EndR l R none h6))
theorem f28B1_eq (s4:Addr) (s12:Addr) (a0:Int) (a1:Sl) (l:Nat) (g:Nat→Value) (h:Hp) (R:Value→Hp→Prop):RoundEv Try.prog tab lv28 l (rfA (sub [1,1,1,1,1,1,1,1,1,0,1,0] body28)) (rfB (sub [1,1,1,1,1,1,1,1,1,0,1,0] body28)) (mkEnv 97 [(4,.pointer (some s4)),(12,.pointer (some s12)),(80,.int .i64 a0),(81,.slice a1.a a1.n a1.c)] g) h R=f28B1 s4 s12 a0 a1 l h R:=by kernel_rfl
noncomputable def f28Rec1 (s4:Addr) (s12:Addr) (g:Nat→Value) (fn:FuncId) (b:Nat) (st:LoopState) (pend:Option Code):Loop:=recL fn (mkEnv 97 [(4,.pointer (some s4)),(12,.pointer (some s12))] g) #[80,81] (rfA (sub [1,1,1,1,1,1,1,1,1,0,1,0] body28)) (rfB (sub [1,1,1,1,1,1,1,1,1,0,1,0] body28)) b st pend
theorem f28B1_ok {s4:Addr} {s12:Addr} {a0:Int} {a1:Sl} {l:Nat} {g:Nat→Value} {fn:FuncId} {b:Nat} {pend:Option Code} {h:Hp} {R:Value→Hp→Prop} (hl:h[l]?=some (.loop (f28Rec1 s4 s12 g fn b .ready pend))) (hB:f28B1 s4 s12 a0 a1 l h R):YieldTo Try.prog l [.int .i64 a0,.slice a1.a a1.n a1.c] h R :=
 yieldTo_of (lv:=lv28) (r:=f28Rec1 s4 s12 g fn b .ready pend) (env:=mkEnv 97 [(4,.pointer (some s4)),(12,.pointer (some s12)),(80,.int .i64 a0),(81,.slice a1.a a1.n a1.c)] g) mixed tab_ok hl rfl (by kernel_rfl) (by kernel_rfl) (by kernel_rfl) (by kernel_rfl) (by kernel_rfl) (by
  show RoundEv Try.prog tab lv28 l (rfA (sub [1,1,1,1,1,1,1,1,1,0,1,0] body28)) (rfB (sub [1,1,1,1,1,1,1,1,1,0,1,0] body28)) _ h R
  rw [f28B1_eq]; exact hB)
theorem f28F_eq (a0:Option Addr) (a1:Int) (h:Hp) (R:Value→Hp→Prop):evFM Try.prog tab lv28 Try.f28 body28 [.bool] [.pointer a0,.int .i64 a1] h R=f28F a0 a1 h R:=by kernel_rfl
theorem f28F_ok {a0:Option Addr} {a1:Int} {h:Hp} {R:Value→Hp→Prop} (hF:f28F a0 a1 h R):CallTo Try.prog 28 #[.pointer a0,.int .i64 a1] h R :=
 callTo_of_evM (lv:=lv28) (hints:=[.bool]) (c:=body28) (args:=[.pointer a0,.int .i64 a1]) mixed tab_ok Try.func28 (by kernel_rfl) (by kernel_rfl) (by kernel_rfl) (by rw [f28F_eq]; exact hF)
/- (*larder/chain.List).All$1 -/
noncomputable def body62:Code:=(Try.f62.body).getD .skip
def lv62 (m:Nat):List Nat:=if m=2 then [0,14,15,16] else []
def f62I1 (J:Nat→Value→Sl→Int→Int→Hp→Prop) (n:Nat) (env:List Value) (h:Hp):Prop:=lenIs env 27 (DecV env 0 fun s0=>DecL env 14 fun s14=>DecI .i64 env 15 fun s15=>DecI .i64 env 16 fun s16=>J n s0 s14 s15 s16 h)
def f62L1 (J1:Nat→Value→Sl→Int→Int→Hp→Prop) (n1:Nat) (s0:Value) (s14:Sl) (s15:Int) (s16:Int) (g:Nat→Value) (h:Hp) (R:Value→Hp→Prop):Prop :=
 Cond (decide (s16 < s15)) ((0 ≤ s16∧s16 < ((s14.n:Nat):Int))∧PtrOk s14.a fun p19=>∃ t20:Sl,cell h (p19.add (s16.toNat * 1))=some (.slice t20.a t20.n t20.c)∧DynY Try.prog s0 [.int .i64 s16,.slice t20.a t20.n t20.c] h fun r h3=>∃ t24:Bool,r=.bool t24∧Cond (!t24) (R (.tuple #[]:Value) h3) (∃ m,m < n1∧J1 m s0 s14 s15 (IntKind.wrap .i64 (s16 + (1:Int))) h3)) (R (.tuple #[]:Value) h)
theorem f62L1_eq (J1:Nat→Value→Sl→Int→Int→Hp→Prop) (n1:Nat) (s0:Value) (s14:Sl) (s15:Int) (s16:Int) (g:Nat→Value) (h:Hp) (R:Value→Hp→Prop):(evCY Try.prog tab lv62 (sub [1,1,0,0] body62)) (loopK (f62I1 J1) n1 (contAtY Try.prog tab lv62 [1,1,0] body62 [] (bodyK Try.prog Try.f62 [] R))) (mkEnv 27 [(0,s0),(14,.slice s14.a s14.n s14.c),(15,.int .i64 s15),(16,.int .i64 s16)] g) h=f62L1 J1 n1 s0 s14 s15 s16 g h R:=by kernel_rfl
theorem f62I1_at (J:Nat→Value→Sl→Int→Int→Hp→Prop) (n:Nat) (s0:Value) (s14:Sl) (s15:Int) (s16:Int) (g:Nat→Value) (h:Hp):f62I1 J n (mkEnv 27 [(0,s0),(14,.slice s14.a s14.n s14.c),(15,.int .i64 s15),(16,.int .i64 s16)] g) h=J n s0 s14 s15 s16 h:=by kernel_rfl
theorem f62L1_rule  {R:Value→Hp→Prop} {s0:Value} {s14:Sl} {s15:Int} {s16:Int} {h0:Hp} (J:Nat→Value→Sl→Int→Int→Hp→Prop) (n0:Nat) (hi:J n0 s0 s14 s15 s16 h0)
  (hr:∀ n s0 s14 s15 s16 g h,J n s0 s14 s15 s16 h→f62L1  J n s0 s14 s15 s16 g h R):LoopEv (evCY Try.prog tab lv62 (sub [1,1,0,0] body62)) (contAtY Try.prog tab lv62 [1,1,0] body62 [] (bodyK Try.prog Try.f62 [] R)) [(0,s0),(14,.slice s14.a s14.n s14.c),(15,.int .i64 s15),(16,.int .i64 s16)] 27 h0:=by
 refine ⟨f62I1 J,n0,fun g=>by rw [f62I1_at]; exact hi,fun n env h hI=>?_⟩
 clear hi
 clear s0 s14 s15 s16
 obtain ⟨hlen,hI⟩:=Cond_true' hI
 have hlen:env.length=27:=by simpa using hlen
 obtain ⟨s0,es0,hI⟩:=DecV.out hI
 obtain ⟨s14,es14,hI⟩:=DecL.out hI
 obtain ⟨s15,es15,hI⟩:=DecI.out hI
 obtain ⟨s16,es16,hI⟩:=DecI.out hI
 rw [mkEnv_of (l:=[(0,s0),(14,.slice s14.a s14.n s14.c),(15,.int .i64 s15),(16,.int .i64 s16)]) hlen (by simp only [List.mem_cons,List.not_mem_nil,or_false,forall_eq_or_imp,forall_eq]; exact ⟨es0,es14,es15,es16⟩)]
 rw [f62L1_eq]
 exact hr n s0 s14 s15 s16 _ h hI
def f62F (a0:Value) (c0:Addr) (h:Hp) (R:Value→Hp→Prop):Prop :=
 ∃ t8:Option Addr,cell h c0=some (.pointer t8)∧∃ t9:Option Addr,cell h c0=some (.pointer t9)∧CallTo Try.prog 16 #[.pointer t9] h fun r h1=>∃ t10:Int,r=.int .i64 t10∧(∃ y0:Option Addr,cell h1 c0=some (.pointer y0)∧Next.value (.pointer y0)=Next.value (.pointer t8))∧CallTo Try.prog 15 #[.pointer t8,.int .i64 0,.int .i64 t10] h1 fun r h2=>∃ t11_0:Sl,∃ t11_1:Int,r=.tuple #[.slice t11_0.a t11_0.n t11_0.c,.int .i64 t11_1]∧LoopEv (evCY Try.prog tab lv62 (sub [1,1,0,0] body62)) (contAtY Try.prog tab lv62 [1,1,0] body62 [] (bodyK Try.prog Try.f62 [] R)) [(0,a0),(14,.slice t11_0.a t11_0.n t11_0.c),(15,.int .i64 (((t11_0.n:Nat):Int))),(16,.int .i64 0)] 27 h2
theorem f62F_eq (a0:Value) (c0:Addr) (h:Hp) (R:Value→Hp→Prop):evFY Try.prog tab lv62 Try.f62 body62 [] [a0,.pointer (some c0)] h R=f62F a0 c0 h R:=by kernel_rfl
theorem f62F_ok {a0:Value} {c0:Addr} {h:Hp} {R:Value→Hp→Prop} (hF:f62F a0 c0 h R):CallTo Try.prog 62 #[a0,.pointer (some c0)] h R :=
 callTo_of_evY (lv:=lv62) (hints:=[]) (c:=body62) (args:=[a0,.pointer (some c0)]) mixed tab_ok Try.func62 (by kernel_rfl) (by kernel_rfl) (by kernel_rfl) (by rw [f62F_eq]; exact hF)
end Go.Ev
set_option linter.all false
set_option maxRecDepth 1000000
namespace Go.Ev
open Go.Proofs
section
variable {h h' h2 h0 h1:Hp} {q q' q2:HQ} {s s' s2:RS} {nd nd' nd2:List NodeD} {n:NodeD} {id lb hn:Nat} {L L' L2:LD} {R:Value→Hp→Prop} {b:List Nat} {ids:List Nat} {lim:Nat} {a:Sl} {sls:List Sl} {rows w:List (List Nat)} {M:Mem} {cs:List Nat} {r:List Nat} {c:Nat}
/-- An object that is no block of cells turns. -/
theorem kept_obj {l:Nat} {o:Obj} (hl:l < h.size):Kept (fun b=>b=l) h (h.setIfInBounds l o) :=
 ⟨by simp,fun j hj hne=>by rw [Array.getElem?_setIfInBounds_ne (Ne.symm hne)]⟩
theorem obj_lt {l:Nat} {o:Obj} (hl:h[l]?=some o):l < h.size:=(Array.getElem?_eq_some_iff.1 hl).1
theorem obj_set {l:Nat} {o:Obj} (hl:l < h.size):(h.setIfInBounds l o)[l]?=some o:=by simp [hl]
theorem kept_obj_at {S:Nat→Prop} (k:Kept S h h') {l:Nat} {o:Obj} (hl:h[l]?=some o) (hn:¬ S l):h'[l]?=some o:=(k.2 l (obj_lt hl) hn).trans hl
theorem row_ne_loop {l b:Nat} {cs:List Value} {r:Loop} (hr:Row h b cs) (hl:h[l]?=some (.loop r)):b ≠ l:=by
 rintro rfl
 obtain ⟨t,ht⟩:=hr
 rw [ht] at hl
 cases hl
/-- A range over a list's All, from the iterator's side. -/
theorem all_ok (o:Opn h q s nd lb hn L) {c0:Addr} (hc:cell h c0=some (.pointer (some (ad lb)))) {l:Nat} (J:Nat→Sl→Mem→List Nat→Hp→Prop)
  (hst:∀ a M cs h1,RowsAt h h1 a M cs L.rows→Kept N h h1→J 0 a M cs h1)
  (hround:∀ k a M cs h2 c r,J k a M cs h2→L.rows[k]?=some r→cs[k]?=some c→RowsAt h h2 a M cs L.rows∧(Row h2 c (r.map bv)→YieldTo Try.prog l [.int .i64 (k:Nat),.slice (some (ad c)) r.length r.length] h2 fun v h3=>(v=.bool true∧J (k + 1) a M cs h3) ∨ (v=.bool false∧R (.tuple #[]) h3)))
  (hend:∀ a M cs h2,J L.rows.length a M cs h2→R (.tuple #[]) h2) :
  CallTo Try.prog 62 #[.func (.yield l) #[] #[],.pointer (some c0)] h R:=by
 have ol:=o.len
 refine f62F_ok ?_
 unfold f62F
 refine ⟨_,hc,_,hc,llen o ⟨_,rfl,⟨_,hc,rfl⟩,lslice o ⟨by omega,by omega⟩ (fun hb=>absurd ⟨by omega,by omega,by omega,by omega⟩ hb) fun a M cs h1 _ ra k1=>⟨_,_,rfl,?_⟩⟩⟩
 have e0:(L.rows.drop (0:Int).toNat).take ((L.rows.length:Nat):Int).toNat=L.rows:=by
  show (L.rows.drop 0).take _=_
  rw [List.drop_zero,Int.toNat_natCast,List.take_length]
 rw [e0] at ra
 have an:=ra.n_eq
 refine f62L1_rule (s14:=a) (fun p s0 s14 s15 s16 h2=>∃ k:Nat,k ≤ L.rows.length∧p=L.rows.length - k∧.func (.yield l) #[] #[]=s0∧a=s14∧s15=((L.rows.length:Nat):Int)∧s16=(k:Int)∧J k a M cs h2) L.rows.length
  ⟨0,Nat.zero_le _,rfl,rfl,rfl,by rw [an],rfl,hst a M cs h1 ra k1⟩ ?_
 rintro p s0 s14 s15 s16 g h2 ⟨k,hk,rfl,rfl,rfl,rfl,rfl,hJ⟩
 unfold f62L1
 refine Cond_dec (fun hlt=>?_) fun hge=>?_
 ·have hkl:k < L.rows.length:=by omega
  have hr:L.rows[k]?=some (L.rows[k]'hkl):=List.getElem?_eq_getElem hkl
  generalize L.rows[k]'hkl=r at hr
  have hcl:k < cs.length:=by rw [ra.len]; exact hkl
  obtain ⟨ra2,hy⟩:=hround k a M cs h2 _ r hJ hr (List.getElem?_eq_getElem hcl)
  obtain ⟨c,bk,hcs,ha,hc2,row,hka⟩:=ra2.get hr
  rw [List.getElem?_eq_getElem hcl] at hcs
  obtain rfl:=Option.some.inj hcs
  refine ⟨⟨by omega,by omega⟩,PtrOk_of ha ⟨⟨_,_,_⟩,by rw [Int.toNat_natCast]; exact hc2,.inr ⟨l,rfl,?_⟩⟩⟩
  refine fun w hw=>?_
  obtain ⟨fn,tmps,ac,bd,e1,e2⟩:=hy row w hw
  refine ⟨fn,tmps,ac,bd,e1,e2.mono fun e w' ⟨v,he,hs,hv⟩=>⟨v,he,hs,?_⟩⟩
  rcases hv with ⟨rfl,hJ'⟩ | ⟨rfl,hR⟩
  ·exact ⟨true,rfl,Cond_f rfl ⟨L.rows.length - (k + 1),by omega,k + 1,hkl,rfl,rfl,rfl,rfl,by rw [wrap_i64' (by omega) (by omega)]; rfl,hJ'⟩⟩
  ·exact ⟨false,rfl,Cond_t rfl hR⟩
 ·obtain rfl:k=L.rows.length:=by omega
  exact hend a M cs h2 hJ
/-- Three bytes that are a number's own. -/
def th (i:Int):List Nat:=[byt i,byt (hi8 i),byt (Int.fdiv i (2 ^ (min (16:Int).toNat (IntKind.bits .i64))))]
theorem th_len (i:Int):(th i).length=3:=rfl
theorem th_b8 (i:Int):Bytes8 (th i):=fun c hc=>by
 have:c=byt i ∨ c=byt (hi8 i) ∨ c=byt (Int.fdiv i (2 ^ (min (16:Int).toNat (IntKind.bits .i64)))):=by simpa [th] using hc
 rcases this with rfl | rfl | rfl <;> exact byt_lt _
theorem three_ok {i:Int} (hR:∀ h',Row h' h.size ((th i).map bv)→Kept N h h'→R (.slice (some (ad h.size)) 3 3) h'):CallTo Try.prog 29 #[.int .i64 i] h R:=by
 refine f29F_ok ?_
 unfold f29F
 refine ⟨by omega,by omega,Let_mk fun h1 e1=>?_⟩
 have k1:Kept N h h1:=e1 ▸ kept_push _ _ _
 have row1:Row h1 h.size [.int .u8 (IntKind.wrap .u8 i),.int .u8 (IntKind.wrap .u8 (hi8 i)),.int .u8 (IntKind.wrap .u8 (Int.fdiv i (2 ^ (min (16:Int).toNat (IntKind.bits .i64)))))]:=e1 ▸ row_new h #[.int .u8 (IntKind.wrap .u8 i),.int .u8 (IntKind.wrap .u8 (hi8 i)),.int .u8 (IntKind.wrap .u8 (Int.fdiv i (2 ^ (min (16:Int).toNat (IntKind.bits .i64)))))] _
 rw [bv_byt,bv_byt,bv_byt] at row1
 exact hR h1 row1 k1
theorem rows3 (hr:∀ r ∈ rows,r.length=3):rowS rows=3 * rows.length∧rowB rows=0:=by
 induction rows with
 | nil=>exact ⟨rfl,rfl⟩
 | cons x t ih =>
  obtain ⟨h1,h2⟩:=ih fun r h=>hr r (List.mem_cons_of_mem _ h)
  have hx:=hr x (List.mem_cons_self ..)
  unfold rowS rowB at *
  simp only [List.map_cons,List.sum_cons,List.length_cons,hx] at *
  have e:wordsN 3=1:=rfl
  rw [e]
  constructor
  ·show cntS 3 + _=_; rw [h1]; show 3 + _=_; omega
  ·show cntB 3 + _=_; rw [h2]; rfl
/-- The elements: each its own number's. -/
def ths (n:Nat):List (List Nat):=(List.range n).map fun i=>th (i:Nat)
theorem ths_len {n:Nat}:(ths n).length=n:=by unfold ths; simp
theorem ths_get {n i:Nat} (h:i < n):(ths n)[i]?=some (th (i:Nat)):=by unfold ths; rw [List.getElem?_map,List.getElem?_range h]; rfl
theorem ths_succ {n:Nat}:ths (n + 1)=ths n ++ [th (n:Nat)]:=by unfold ths; rw [List.range_succ,List.map_append]; rfl
theorem ths_3 {n:Nat}:∀ r ∈ ths n,r.length=3:=fun r hr=>by
 obtain ⟨i,_,rfl⟩:=List.mem_map.1 hr
 rfl
/-- A list of so many elements. -/
theorem great_ok {n:Nat} (hn:n ≤ 70000) (hR:∀ h' q s nd lb L,Solo h' q s nd lb L 1048576→L.rows=ths n→Kept N h h'→(∀ b,q.role b ≠ .out→h.size ≤ b)→R (.pointer (some (ad lb))) h'):CallTo Try.prog 27 #[.int .i64 (n:Nat)] h R:=by
 refine f27F_ok ?_
 unfold f27F
 refine hn_ok (fun hb=>absurd ⟨by omega,by omega⟩ hb) fun h1 q _ g k1 f1=>⟨_,_,rfl,lnum ⟨_,rfl,Cond_f rfl ?_⟩⟩
 unfold f27K1
 refine Cond_f rfl (snew g (by decide) (by decide) fun h2 q2 s2 nd2 lb L2 x er ex hlb=>⟨_,_,rfl,lnum ⟨_,rfl,Cond_f rfl ?_⟩⟩)
 unfold f27K2
 refine Cond_f rfl ?_
 have fr1:Frsh h q:=f1
 refine f27L1_rule (fun p s0 s5 s6 h3=>∃ (k:Nat) (q3:HQ) (s3:RS) (nd3:List NodeD) (L3:LD),k ≤ n∧p=n - k∧s0=((n:Nat):Int)∧some (ad lb)=s5∧s6=(k:Int)∧Solo h3 q3 s3 nd3 lb L3 1048576∧L3.rows=ths k∧Kept N h h3∧Frsh h q3) n
  ⟨0,q2,s2,nd2,L2,Nat.zero_le _,rfl,rfl,rfl,rfl,x,er,fr1.kept k1 ex,fr1.ex k1.1 ex⟩ ?_
 rintro p s0 s5 s6 g0 h3 ⟨k,q3,s3,nd3,L3,hk,rfl,rfl,rfl,rfl,x3,er3,k3,f3⟩
 unfold f27L1
 refine Cond_dec (fun hlt=>?_) fun hge=>?_
 ·have hkn:k < n:=by omega
  refine three_ok fun h4 row4 k4=>⟨⟨_,_,_⟩,rfl,?_⟩
  have x4:=x3.keepN k4
  have ls:L3.rows.length=k:=by rw [er3,ths_len]
  obtain ⟨r1,r2⟩:=rows3 (rows:=L3.rows) (by rw [er3]; exact ths_3)
  have hrl:=x4.rl
  have src:Src h4 q3 ⟨some (ad h3.size),3,3⟩ (th (k:Nat)):=row_src (r:=th (k:Nat)) row4 (th_b8 _) (x3.o.g.st.fr (Nat.le_refl _))
  refine lpush x4.o src (by rw [th_len]; omega) (by omega) (fun hl=>absurd hl (by rw [th_len]; omega)) (fun _ h5 q5 s5 nd5 _ hno=>?_) fun h5 q5 s5 nd5 L5 _ af er5 _=>⟨_,rfl,lnum ⟨_,rfl,Cond_f rfl ?_⟩⟩
  ·refine absurd (x4.room.2 ?_ _ x4.lv) (hno _ x4.lv)
   rw [th_len,r1,r2,ls]
   have e:2 + wordsN 3=3:=rfl
   rw [e]
   unfold room2 roomK cntS cntB
   simp only [show (3:Nat) ≤ 64 from by omega,show (4:Nat) ≤ 64 from by omega,if_true]
   omega
  ·refine ⟨n - (k + 1),by omega,k + 1,q5,s5,nd5,L5,hkn,rfl,rfl,rfl,by rw [wrap_i64' (by omega) (by omega)]; rfl,x4.aft af,?_,f3.kept (kept_tr k3 k4) af.ex,f3.ex (kept_tr k3 k4).1 af.ex⟩
   rw [er5,er3,if_neg (by simp),ths_succ]
 ·obtain rfl:k=n:=by omega
  exact hR h3 q3 s3 nd3 lb L3 x3 er3 k3 f3
end
end Go.Ev
set_option linter.all false
set_option maxRecDepth 1000000
namespace Go.Ev
open Go.Proofs
section
variable {h h' h2 h0 h1:Hp} {q q' q2:HQ} {s s' s2:RS} {nd nd' nd2:List NodeD} {n:Nat} {id lb hn:Nat} {L L' L2:LD} {R:Value→Hp→Prop} {b:List Nat} {rows w:List (List Nat)} {M:Mem} {cs:List Nat} {r:List Nat} {c:Nat}
theorem grows_ok (o:Opn h q s nd lb hn L) (er:L.rows=ths n) (n1:65538 ≤ n) (n2:n ≤ 70000) (hR:∀ h',Kept N h h'→R (.bool true) h') :
  CallTo Try.prog 28 #[.pointer (some (ad lb)),.int .i64 (n:Nat)] h R:=by
 have ln:L.rows.length=n:=by rw [er,ths_len]
 obtain ⟨m,hm⟩:∃ m,n=65530 + m:=⟨n - 65530,by omega⟩
 refine f28F_ok ?_
 unfold f28F
 refine Let_mk fun h1 e1=>Let_mk fun h2 e2=>?_
 have k1:Kept N h h1:=e1 ▸ kept_push _ _ _
 have k2:Kept N h1 h2:=e2 ▸ kept_push _ _ _
 have row1:Row h1 h.size [.bool false]:=e1 ▸ row_new h #[.bool false] _
 have row2:Row h2 h1.size [.int .i64 0,.int .i64 0,.int .i64 0,.int .i64 0,.int .i64 0,.int .i64 0,.int .i64 0,.int .i64 0,.int .i64 0,.int .i64 0,.int .i64 0,.int .i64 0,.int .i64 0,.int .i64 0,.int .i64 0]:=e2 ▸ row_new h1 #[.int .i64 0,.int .i64 0,.int .i64 0,.int .i64 0,.int .i64 0,.int .i64 0,.int .i64 0,.int .i64 0,.int .i64 0,.int .i64 0,.int .i64 0,.int .i64 0,.int .i64 0,.int .i64 0,.int .i64 0] _
 have z1:=row_lt row1
 have z2:=row_lt row2
 clear e1 e2
 rw [show nb h=ad h.size from rfl,show nb h1=ad h1.size from rfl]
 generalize hrb:h.size=rb at *
 generalize htb:h1.size=tb at *
 have st:∀ {ga gb:Hp},Kept N h1 ga→Kept (fun b=>b=tb) ga gb→Kept N h1 gb:=fun {ga gb} ka kb=>⟨Nat.le_trans ka.1 kb.1,fun b hb _=>(kb.2 b (Nat.lt_of_lt_of_le hb ka.1) (by show ¬ b=tb; omega)).trans (ka.2 b hb _root_.id)⟩
 refine row_st row2 (i:=0) rfl (by simp) fun h3 w3 j3=>?_
 have k3:=st k2 j3
 refine row_st w3 (i:=1) (add_ad _ _) (by simp) fun h4 w4 j4=>?_
 have k4:=st k3 j4
 refine row_st w4 (i:=2) (add_ad _ _) (by simp) fun h5 w5 j5=>?_
 have k5:=st k4 j5
 refine row_st w5 (i:=3) (add_ad _ _) (by simp) fun h6 w6 j6=>?_
 have k6:=st k5 j6
 refine row_st w6 (i:=4) (add_ad _ _) (by simp) fun h7 w7 j7=>?_
 have k7:=st k6 j7
 refine row_st w7 (i:=5) (add_ad _ _) (by simp) fun h8 w8 j8=>?_
 have k8:=st k7 j8
 refine row_st w8 (i:=6) (add_ad _ _) (by simp) fun h9 w9 j9=>?_
 have k9:=st k8 j9
 refine row_st w9 (i:=7) (add_ad _ _) (by simp) fun h10 w10 j10=>?_
 have k10:=st k9 j10
 refine row_st w10 (i:=8) (add_ad _ _) (by simp) fun h11 w11 j11=>?_
 have k11:=st k10 j11
 refine row_st w11 (i:=9) (add_ad _ _) (by simp) fun h12 w12 j12=>?_
 have k12:=st k11 j12
 refine row_st w12 (i:=10) (add_ad _ _) (by simp) fun h13 w13 j13=>?_
 have k13:=st k12 j13
 refine row_st w13 (i:=11) (add_ad _ _) (by simp) fun h14 w14 j14=>?_
 have k14:=st k13 j14
 refine row_st w14 (i:=12) (add_ad _ _) (by simp) fun h15 w15 j15=>?_
 have k15:=st k14 j15
 refine row_st w15 (i:=13) (add_ad _ _) (by simp) fun h16 w16 j16=>?_
 have k16:=st k15 j16
 refine row_st w16 (i:=14) (add_ad _ _) (by simp) fun h17 w17 j17=>?_
 have k17:=st k16 j17
 have wat:Row h17 tb (([0,1,199,200,255,256,1000,4095,4096,32767,32768,65535,65536,65537,n - 1]:List Nat).map fun v=>Value.int .i64 (v:Nat)):=by
  have e:IntKind.wrap .i64 ((n:Int) - 1)=((n - 1:Nat):Int):=by rw [wrap_i64' (by omega) (by omega)]; omega
  rw [e] at w17
  exact w17
 clear w3 w4 w5 w6 w7 w8 w9 w10 w11 w12 w13 w14 w15 w16 w17 j3 j4 j5 j6 j7 j8 j9 j10 j11 j12 j13 j14 j15 j16 j17 k3 k4 k5 k6 k7 k8 k9 k10 k11 k12 k13 k14 k15 k16 row2 st k2
 have kh:Kept N h h17:=kept_tr k1 k17
 have rb17:Row h17 rb [.bool false]:=kept_row k17 row1 _root_.id
 -- all of them
 have l3:∀ {g:Hp} {a:Sl} {M:Mem} {cs:List Nat} {hs:Hp} {T:List (List Nat)},Kept N h17 g→RowsAt hs g a M cs T→T.length=m→(∀ k,k < m→T[k]?=some (th ((65530 + k:Nat):Int))) →
   LoopEv (evC Try.prog tab lv28 (sub [1,1,1,1,1,0,1,0,0] body28)) (withD (contAtM Try.prog tab lv28 [1,1,1,1,1,0,1,0] body28 (bodyKM Try.prog Try.f28 [.bool] R)) []) [(0,.pointer (some (ad lb))),(1,.int .i64 (n:Nat)),(4,.pointer (some (ad rb))),(9,.slice a.a a.n a.c),(11,.int .i64 0)] 97 g:=fun {g a M cs hs T} kg ra tl tg=>by
  have an:=ra.n_eq
  rw [tl] at an
  refine f28L2_rule (s9:=a) (fun p s0 s1 s4 s9 s11 h3=>∃ k:Nat,k ≤ m∧p=m - k∧some (ad lb)=s0∧s1=((n:Nat):Int)∧ad rb=s4∧a=s9∧s11=(k:Int)∧Kept N g h3) m ⟨0,Nat.zero_le _,rfl,rfl,rfl,rfl,rfl,rfl,Kept.refl _ _⟩ ?_
  rintro p s0 s1 s4 s9 s11 g0 h3 ⟨k,hk,rfl,rfl,rfl,rfl,rfl,rfl,k3⟩
  unfold f28L2
  refine Cond_dec (fun hlt=>?_) fun hge=>?_
  ·rw [an] at hlt
   have hkl:k < m:=by omega
   have hr:=tg k hkl
   obtain ⟨c,bk,hcs,ha,hc2,row,_⟩:=(ra.keepN k3).get hr
   refine ⟨⟨by omega,by omega⟩,PtrOk_of ha ⟨⟨_,_,_⟩,by rw [Int.toNat_natCast]; exact hc2,?_⟩⟩
   have ei:IntKind.wrap .i64 ((65530:Int) + (k:Int))=((65530 + k:Nat):Int):=by rw [wrap_i64' (by omega) (by omega)]; omega
   rw [ei]
   refine three_ok fun h4 row4 k4=>⟨⟨_,_,_⟩,rfl,⟨⟨_,_,_⟩,cell_keptN k4 (by rw [Int.toNat_natCast]; exact hc2),rfl⟩,true,?_,Cond_f rfl ?_⟩
   ·exact leq (a:=⟨some (ad c),(th ((65530 + k:Nat):Int)).length,(th ((65530 + k:Nat):Int)).length⟩) (c:=⟨some (ad h3.size),3,3⟩) (row_reads (kept_row k4 row _root_.id)) (row_reads row4) rfl rfl (by rw [th_len]; omega) ⟨rfl,rfl⟩
   ·exact ⟨m - (k + 1),by omega,k + 1,hkl,rfl,rfl,rfl,rfl,rfl,by rw [wrap_i64' (by omega) (by omega)]; rfl,kept_tr k3 k4⟩
  ·have kg3:=kept_tr kg k3
   refine Let_mk fun h4 e4=>?_
   have k4:Kept N h3 h4:=e4 ▸ kept_push _ _ _
   have row4:Row h4 h3.size [.int .i64 0]:=e4 ▸ row_new h3 #[.int .i64 0] _
   clear e4
   rw [show nb h3=ad h3.size from rfl]
   refine row_st row4 (i:=0) rfl (by simp) fun h5 row5 k5=>?_
   have hkb:h17.size ≤ h3.size:=kg3.1
   generalize hkbe:h3.size=kb at *
   have k45:Kept N h3 h5:=⟨Nat.le_trans k4.1 k5.1,fun b hb _=>(k5.2 b (Nat.lt_of_lt_of_le hb k4.1) (by show ¬ b=kb; omega)).trans (k4.2 b hb _root_.id)⟩
   have kh5:Kept N h h5:=kept_tr kh (kept_tr kg3 k45)
   refine f35F_ok ?_
   unfold f35F
   refine Let_mk fun h6 e6=>?_
   have k6:Kept N h5 h6:=e6 ▸ kept_push _ _ _
   have row6:Row h6 h5.size [.pointer (some (ad lb))]:=e6 ▸ row_new h5 #[.pointer (some (ad lb))] _
   clear e6
   refine ⟨_,rfl,false,.inr ⟨_,_,_,rfl,rfl⟩,Cond_f rfl ?_⟩
   refine ⟨62,#[],#[.pointer (some (ad h5.size))],rfl,tab_ok.callee 62 (by kernel_rfl),fun fn gl=>?_⟩
   generalize hH:((h6.push (.deferred (some []))).push (.loop (recL fn (mkEnv 97 [(4,.pointer (some (ad rb))),(12,.pointer (some (ad kb)))] gl) #[80,81] (rfA (sub [1,1,1,1,1,1,1,1,1,0,1,0] body28)) (rfB (sub [1,1,1,1,1,1,1,1,1,0,1,0] body28)) h6.size .ready none)))=H
   have kH:Kept N h6 H:=by rw [← hH]; exact kept_tr (kept_push _ _ _) (kept_push _ _ _)
   have hsz:H.size=h6.size + 2:=by rw [← hH]; simp
   have hdb:H[h6.size]?=some (.deferred (some [])):=by
    rw [← hH]
    have e0:(h6.push (.deferred (some [])))[h6.size]?=some (.deferred (some [])):=by simp
    exact (push_old _ _ (by simp)).trans e0
   have hlp:H[h6.size + 1]?=some (.loop (f28Rec1 (ad rb) (ad kb) gl fn h6.size .ready none)):=by
    rw [← hH]
    have:(h6.push (.deferred (some []))).size=h6.size + 1:=by simp
    rw [← this]
    exact Array.getElem?_push_size
   clear hH
   generalize hl:h6.size + 1=l at *
   generalize hd:h6.size=db at *
   have rbH:Row H rb [.bool false]:=kept_row kH (kept_row k6 (kept_row k45 (kept_row kg3 rb17 _root_.id) _root_.id) _root_.id) _root_.id
   have row5':Row H kb [.int .i64 ((0:Nat):Int)]:=kept_row kH (kept_row k6 row5 _root_.id) _root_.id
   have oH:=o.keepN (kept_tr kh5 (kept_tr k6 kH))
   have c0:cell H (ad h5.size)=some (.pointer (some (ad lb))):=(cell_row (kept_row kH row6 _root_.id) 0).trans rfl
   have ltrb:=row_lt rb17
   have lt5:=row_lt row5
   have lt6:=row_lt row6
   have rbk:rb ≠ kb:=by omega
   have hkl:kb < db:=by have:=k6.1; omega
   have key:∀ {l2:Nat},(∃ x:Nat,x=l2):=fun {l2}=>⟨_,rfl⟩
   refine all_ok oH c0 (l:=l) (fun k a M cs h7=>RowsAt H h7 a M cs L.rows∧Row h7 kb [.int .i64 (k:Nat)]∧Row h7 rb [.bool false]∧h7[l]?=some (.loop (f28Rec1 (ad rb) (ad kb) gl fn db .ready none))∧h7[db]?=some (.deferred (some []))∧Kept (fun b=>b=kb ∨ b=l) H h7)
    (fun a M cs h7 ra k7=>⟨ra,kept_row k7 row5' _root_.id,kept_row k7 rbH _root_.id,kept_obj_at k7 hlp _root_.id,kept_obj_at k7 hdb _root_.id,⟨k7.1,fun j hj _=>k7.2 j hj _root_.id⟩⟩)
    (fun k a M cs h7 c r ⟨ra,rk,rr,hrec,hdef,kk⟩ hr hcs=>⟨ra,fun row=>?_⟩) fun a M cs h7 ⟨ra,rk,rr,hrec,hdef,kk⟩=>?_
   ·have hkn:k < n:=by rw [← ln]; exact (List.getElem?_eq_some_iff.1 hr).1
    have hrk:r=th (k:Nat):=by
     rw [er,ths_get hkn] at hr
     exact (Option.some.inj hr).symm
    subst hrk
    refine f28B1_ok (a0:=((k:Nat):Int)) (a1:=⟨some (ad c),3,3⟩) hrec ?_
    unfold f28B1
    refine ⟨_,hrec,rfl,Let_mk fun h8 e8=>?_⟩
    have lt7:l < h7.size:=obj_lt hrec
    have k8:Kept (fun b=>b=l) h7 h8:=e8 ▸ kept_obj lt7
    have hrec8:h8[l]?=some (.loop (f28Rec1 (ad rb) (ad kb) gl fn db .busy none)):=by rw [e8]; exact obj_set lt7
    clear e8
    have rk8:=kept_row k8 rk (row_ne_loop rk hrec)
    have rr8:=kept_row k8 rr (row_ne_loop rr hrec)
    have row8:=kept_row k8 row (row_ne_loop row hrec)
    refine ⟨_,(cell_row rk8 0).trans rfl,Cond_f (bne_self_eq_false _) ⟨_,(cell_row rk8 0).trans rfl,three_ok fun h9 row9 k9=>⟨⟨_,_,_⟩,rfl,?_⟩⟩⟩
    refine leq (a:=⟨some (ad c),3,3⟩) (c:=⟨some (ad h8.size),3,3⟩) (l:=th (k:Nat)) (row_reads (kept_row k9 row8 _root_.id)) (row_reads row9) rfl rfl (by rw [th_len]; omega) ⟨true,rfl,Cond_f rfl ?_⟩
    have rk9:=kept_row k9 rk8 _root_.id
    refine ⟨_,(cell_row rk9 0).trans rfl,row_st rk9 (i:=0) rfl (by simp) fun h10 rk10 k10=>?_⟩
    have ek:IntKind.wrap .i64 (((k:Nat):Int) + 1)=((k + 1:Nat):Int):=by rw [wrap_i64' (by omega) (by omega)]; omega
    rw [ek] at rk10
    have hkb':¬ l=kb:=fun e=>(row_ne_loop rk hrec) e.symm
    have hrec9:=kept_obj_at k9 hrec8 _root_.id
    have hrec10:=kept_obj_at k10 hrec9 hkb'
    have lt10:l < h10.size:=obj_lt hrec10
    refine ⟨_,hrec10,.inl ⟨rfl,?_⟩⟩
    have k11:Kept (fun b=>b=l) h10 (h10.setIfInBounds l (.loop (f28Rec1 (ad rb) (ad kb) gl fn db .ready none))):=kept_obj lt10
    have own:∀ b,M.own b→b ≠ kb∧b ≠ l:=fun b hb=>by have:=ra.new b hb; have:=kH.1; omega
    refine ⟨(((ra.keep k8 fun b hb=>(own b hb).2).keepN k9).keep k10 fun b hb=>(own b hb).1).keep k11 fun b hb=>(own b hb).2,kept_row k11 rk10 (row_ne_loop rk10 hrec10),kept_row k11 (kept_row k10 (kept_row k9 rr8 _root_.id) rbk) (by have:=row_ne_loop rr hrec; exact this),obj_set lt10,?_,?_⟩
    ·have hdl:db ≠ l:=by omega
     have hdk:¬ db=kb:=by omega
     exact kept_obj_at k11 (kept_obj_at k10 (kept_obj_at k9 (kept_obj_at k8 hdef hdl) _root_.id) hdk) hdl
    ·have t1:Kept (fun b=>b=kb ∨ b=l) H h8:=⟨Nat.le_trans kk.1 k8.1,fun b hb hne=>(k8.2 b (Nat.lt_of_lt_of_le hb kk.1) fun e=>hne (.inr e)).trans (kk.2 b hb hne)⟩
     have t2:Kept (fun b=>b=kb ∨ b=l) H h9:=⟨Nat.le_trans t1.1 k9.1,fun b hb hne=>(k9.2 b (Nat.lt_of_lt_of_le hb t1.1) _root_.id).trans (t1.2 b hb hne)⟩
     have t3:Kept (fun b=>b=kb ∨ b=l) H h10:=⟨Nat.le_trans t2.1 k10.1,fun b hb hne=>(k10.2 b (Nat.lt_of_lt_of_le hb t2.1) fun e=>hne (.inl e)).trans (t2.2 b hb hne)⟩
     exact ⟨Nat.le_trans t3.1 k11.1,fun b hb hne=>(k11.2 b (Nat.lt_of_lt_of_le hb t3.1) fun e=>hne (.inr e)).trans (t3.2 b hb hne)⟩
   ·refine ⟨.ready,none,hrec,nofun,?_⟩
    have lt7:l < h7.size:=obj_lt hrec
    generalize he8:h7.setIfInBounds l (.loop (recL fn (mkEnv 97 [(4,.pointer (some (ad rb))),(12,.pointer (some (ad kb)))] gl) #[80,81] (rfA (sub [1,1,1,1,1,1,1,1,1,0,1,0] body28)) (rfB (sub [1,1,1,1,1,1,1,1,1,0,1,0] body28)) db .exhausted none))=h8
    have k8:Kept (fun b=>b=l) h7 h8:=he8 ▸ kept_obj lt7
    clear he8
    have rk8:=kept_row k8 rk (row_ne_loop rk hrec)
    have rr8:=kept_row k8 rr (row_ne_loop rr hrec)
    have hdl:db ≠ l:=by omega
    have hdef8:=kept_obj_at k8 hdef hdl
    rw [ln] at rk8
    show ∃ t94:Int,_
    refine ⟨_,(cell_row rk8 0).trans rfl,row_st rr8 (i:=0) rfl (by simp) fun h9 rr9 k9=>?_⟩
    have hdr:¬ db=rb:=by omega
    have hdef9:=kept_obj_at k9 hdef8 hdr
    refine ⟨hdef9,Let_mk fun h10 e10=>?_⟩
    have k10:Kept (fun b=>b=db) h9 h10:=e10 ▸ kept_obj (obj_lt hdef9)
    have rr10:=kept_row k10 rr9 (fun e=>hdr e.symm)
    refine ⟨_,(cell_row rr10 0).trans rfl,?_⟩
    have eb:(((n:Nat):Int) == ((n:Nat):Int))=true:=beq_self_eq_true _
    rw [eb]
    refine hR h10 ?_
    have t0:Kept N h H:=kept_tr kh5 (kept_tr k6 kH)
    have t1:=kept_base t0 (S:=fun b=>b=kb ∨ b=l) (fun b hb=>by have:=kh5.1; omega) kk
    have t2:=kept_base t1 (S:=fun b=>b=l) (fun b hb=>by omega) k8
    have t3:=kept_base t2 (S:=fun b=>b=rb) (fun b hb=>by omega) k9
    exact kept_base t3 (S:=fun b=>b=db) (fun b hb=>by omega) k10
 refine f28L1_rule (fun p s0 s1 s4 s5 s6 h3=>∃ k:Nat,k ≤ 15∧p=15 - k∧some (ad lb)=s0∧s1=((n:Nat):Int)∧ad rb=s4∧ad tb=s5∧s6=(k:Int)∧Kept N h17 h3) 15 ⟨0,Nat.zero_le _,rfl,rfl,rfl,rfl,rfl,rfl,Kept.refl _ _⟩ ?_
 rintro p s0 s1 s4 s5 s6 g0 h3 ⟨k,hk,rfl,rfl,rfl,rfl,rfl,rfl,k3⟩
 unfold f28L1
 have o3:=o.keepN (kept_tr kh k3)
 refine Cond_dec (fun hlt=>?_) fun hge=>?_
 ·have hk15:k < 15:=by omega
  have bnd:(0:Int) ≤ (k:Int)∧(k:Int) < ((15:Nat):Int):=⟨by omega,by omega⟩
  have hat:∃ v:Nat,([0,1,199,200,255,256,1000,4095,4096,32767,32768,65535,65536,65537,n - 1]:List Nat)[k]?=some v∧v < n:=by
   have hall:∀ v ∈ ([0,1,199,200,255,256,1000,4095,4096,32767,32768,65535,65536,65537,n - 1]:List Nat),v < n:=by
    intro v hv
    simp only [List.mem_cons,List.not_mem_nil,or_false] at hv
    omega
   have hl:k < ([0,1,199,200,255,256,1000,4095,4096,32767,32768,65535,65536,65537,n - 1]:List Nat).length:=hk15
   exact ⟨_,List.getElem?_eq_getElem hl,hall _ (List.getElem_mem hl)⟩
  obtain ⟨v,hv,hvn⟩:=hat
  have cat:∀ {g:Hp},Kept N h17 g→cell g ((ad tb).add ((k:Int).toNat * 1))=some (.int .i64 ((v:Nat):Int)):=fun {g} kg=>by
   rw [add_ad,Int.toNat_natCast,Nat.mul_one,cell_row (kept_row kg wat _root_.id) k,List.getElem?_map,hv]
   rfl
  refine ⟨bnd,_,cat k3,lgetr o3 ⟨by omega,by omega⟩ (fun hb=>absurd ⟨by omega,by omega,by rw [ln]; omega,by rw [ln]; omega⟩ hb) fun r c h4 _ hr row hc k4=>⟨⟨_,_,_⟩,_,rfl,lnum ⟨_,rfl,Cond_f rfl ⟨bnd,_,cat (kept_tr k3 k4),?_⟩⟩⟩⟩
  rw [er,Int.toNat_natCast,ths_get hvn] at hr
  obtain rfl:=Option.some.inj hr
  refine three_ok fun h5 row5 k5=>⟨⟨_,_,_⟩,rfl,?_⟩
  refine leq (a:=⟨some (ad c),3,3⟩) (c:=⟨some (ad h4.size),3,3⟩) (l:=th (v:Nat)) (row_reads (kept_row k5 row _root_.id)) (row_reads row5) rfl rfl (by rw [th_len]; omega) ⟨true,rfl,Cond_f rfl ?_⟩
  exact ⟨15 - (k + 1),by omega,k + 1,hk15,rfl,rfl,rfl,rfl,rfl,by rw [wrap_i64' (by omega) (by omega)]; rfl,kept_tr k3 (kept_tr k4 k5)⟩
 ·have em:IntKind.wrap .i64 (((n:Nat):Int) - (65530:Int))=((m:Nat):Int):=by rw [wrap_i64' (by omega) (by omega)]; omega
  rw [em]
  refine lslice o3 ⟨by omega,by omega⟩ (fun hb=>absurd ⟨by omega,by omega,by rw [ln]; omega,by rw [ln]; omega⟩ hb) fun a M cs h4 _ ra k4=>⟨_,_,rfl,lnum ⟨_,rfl,Cond_f rfl ?_⟩⟩
  rw [Int.toNat_natCast,show (65530:Int).toNat=65530 from rfl] at ra
  have tl:((L.rows.drop 65530).take m).length=m:=by rw [List.length_take,List.length_drop,ln]; omega
  have an:=ra.n_eq
  rw [tl] at an
  refine Cond_f (by rw [an]; exact bne_self_eq_false _) (l3 (kept_tr k3 k4) ra tl fun j hj=>?_)
  rw [List.getElem?_take_of_lt hj,List.getElem?_drop,er,ths_get (by omega)]
end
end Go.Ev
set_option linter.all false
set_option maxRecDepth 1000000
namespace Go.Ev
open Go.Proofs
theorem u8d {w k:Nat}:IntKind.wrap .u8 (Int.fdiv ((w:Nat):Int) (2 ^ k))=((w / 2 ^ k % 256:Nat):Int):=by
 rw [wrap_u8',Int.fdiv_eq_ediv_of_nonneg _ (by exact Int.le_of_lt (Int.pow_pos (by omega)))]
 norm_cast
theorem th_inj {i j:Nat} (hi:i < 16777216) (hj:j < 16777216) (h:th (i:Nat)=th (j:Nat)):i=j:=by
 unfold th at h
 simp only [List.cons.injEq,and_true] at h
 obtain ⟨h1,h2,h3⟩:=h
 have e8:∀ w:Nat,byt (hi8 (w:Nat))=w / 256 % 256:=fun w=>by
  unfold byt hi8
  rw [show min (8:Int).toNat (IntKind.bits .i64)=8 from rfl,u8d]
  rfl
 have e16:∀ w:Nat,byt (Int.fdiv ((w:Nat):Int) (2 ^ (min (16:Int).toNat (IntKind.bits .i64))))=w / 65536 % 256:=fun w=>by
  unfold byt
  rw [show min (16:Int).toNat (IntKind.bits .i64)=16 from rfl,u8d]
  rfl
 have e0:∀ w:Nat,byt (w:Nat)=w % 256:=fun w=>by
  unfold byt
  rw [wrap_u8']
  omega
 rw [e0,e0] at h1
 rw [e8,e8] at h2
 rw [e16,e16] at h3
 omega
theorem strk_none (b:List Nat):∀ (l l2:List (List Nat)),b ∉ l→strk b (l ++ b :: l2) 1=(l ++ l2,1)
 | [],l2,_=>by
  show strk b (b :: l2) 1=_
  unfold strk
  rw [if_pos ⟨by omega,rfl⟩,show (1:Int) - 1=0 from rfl,strk_stop b l2 0 (by omega)]
  rfl
 | r :: l,l2,h=>by
  have hr:r ≠ b:=fun e=>h (by rw [e]; exact List.mem_cons_self ..)
  have ih:=strk_none b l l2 fun hb=>h (List.mem_cons_of_mem _ hb)
  show strk b (r :: (l ++ b :: l2)) 1=_
  unfold strk
  rw [if_neg fun z=>hr z.2,ih]
  rfl
theorem take_two {l:List (List Nat)} {a b:List Nat} (h0:l[0]?=some a) (h1:l[1]?=some b):l.take 2=[a,b]:=by
 match l with
 | []=>cases h0
 | [_]=>cases h1
 | x :: y :: t =>
  obtain rfl:=Option.some.inj h0
  obtain rfl:=Option.some.inj h1
  rfl
theorem drop_two {l:List (List Nat)} {a b:List Nat} {k:Nat} (hl:l.length=k + 2) (h0:l[k]?=some a) (h1:l[k + 1]?=some b):l.drop k=[a,b]:=by
 have hd:(l.drop k).length=2:=by rw [List.length_drop]; omega
 have e0:(l.drop k)[0]?=some a:=by rw [List.getElem?_drop]; exact h0
 have e1:(l.drop k)[1]?=some b:=by rw [List.getElem?_drop]; exact h1
 have:=take_two e0 e1
 rw [← this,List.take_of_length_le (by omega)]
theorem struck {N p:Nat} (hp:p + 4 ≤ N) (hN:N ≤ 70000) (h2:2 ≤ p):∃ X:List (List Nat),strk (th (p:Nat)) (ths N).reverse 1=(X.reverse,1)∧X.length=N - 1∧X.take 2=[th ((0:Nat):Int),th ((1:Nat):Int)]∧X.drop (N - 3)=[th ((N - 2:Nat):Int),th ((N - 1:Nat):Int)]:=by
 have hlen:(ths N).length=N:=ths_len
 have hpl:p < (ths N).length:=by omega
 have hpe:(ths N)[p]'hpl=th (p:Nat):=by
  have:=List.getElem?_eq_getElem hpl
  rw [ths_get (by omega)] at this
  exact (Option.some.inj this).symm
 have split:ths N=(ths N).take p ++ th (p:Nat) :: (ths N).drop (p + 1):=by
  conv=>lhs; rw [← List.take_append_drop p (ths N),List.drop_eq_getElem_cons hpl,hpe]
 have nin:th (p:Nat) ∉ ((ths N).drop (p + 1)).reverse:=by
  intro h
  rw [List.mem_reverse] at h
  obtain ⟨j,hj⟩:=List.mem_iff_getElem?.1 h
  have hjl:j < ((ths N).drop (p + 1)).length:=(List.getElem?_eq_some_iff.1 hj).1
  rw [List.length_drop,hlen] at hjl
  rw [List.getElem?_drop,ths_get (by omega)] at hj
  have:=th_inj (by omega) (by omega) (Option.some.inj hj)
  omega
 refine ⟨(ths N).take p ++ (ths N).drop (p + 1),?_,?_,?_,?_⟩
 ·have e:(ths N).reverse=((ths N).drop (p + 1)).reverse ++ th (p:Nat) :: ((ths N).take p).reverse:=by
   conv=>lhs; rw [split]
   simp
  rw [e,strk_none _ _ _ nin]
  simp
 ·rw [List.length_append,List.length_take,List.length_drop,hlen]; omega
 ·have hl:((ths N).take p).length=p:=by rw [List.length_take,hlen]; omega
  refine take_two ?_ ?_
  ·rw [List.getElem?_append_left (by omega),List.getElem?_take_of_lt (by omega),ths_get (by omega)]
  ·rw [List.getElem?_append_left (by omega),List.getElem?_take_of_lt (by omega),ths_get (by omega)]
 ·have hl:((ths N).take p).length=p:=by rw [List.length_take,hlen]; omega
  refine drop_two (by rw [List.length_append,List.length_drop,hl,hlen]; omega) ?_ ?_
  ·rw [List.getElem?_append_right (by omega),hl,List.getElem?_drop,ths_get (by omega)]
   congr 3; omega
  ·rw [List.getElem?_append_right (by omega),hl,List.getElem?_drop,ths_get (by omega)]
   congr 3; omega
section
variable {h h' h2 h0 h1:Hp} {q q' q2:HQ} {s s' s2:RS} {nd nd' nd2:List NodeD} {id lb hn:Nat} {L L' L2:LD} {R:Value→Hp→Prop} {b:List Nat} {rows w:List (List Nat)} {M:Mem} {cs:List Nat} {r:List Nat} {c:Nat} {N0 p:Nat}
theorem great_law (hR:∀ h',Kept N h h'→R (.bool true) h'):CallTo Try.prog 6 #[] h R:=by
 obtain ⟨n,hn⟩:∃ n:Nat,n=70000:=⟨_,rfl⟩
 obtain ⟨p,hp⟩:∃ p:Nat,p=65536:=⟨_,rfl⟩
 refine f6F_ok ?_
 unfold f6F
 rw [show (70000:Int)=((n:Nat):Int) by omega]
 refine great_ok (by omega) fun h1 q s nd lb L x er k1 f1=>⟨_,rfl,Cond_f rfl ?_⟩
 have ln:L.rows.length=n:=by rw [er,ths_len]
 refine llen x.o ⟨_,rfl,Cond_f (by rw [ln]; exact bne_self_eq_false _) (grows_ok x.o er (by omega) (by omega) fun h2 k2=>⟨true,rfl,?_⟩)⟩
 have x2:=x.keepN k2
 unfold f6K1
 rw [show (70000:Int)=((n:Nat):Int) by omega,show (65536:Int)=((p:Nat):Int) by omega,show (69999:Int)=((n - 1:Nat):Int) by omega,show (69998:Int)=((n - 2:Nat):Int) by omega,show (69995:Int)=((n - 5:Nat):Int) by omega]
 refine Cond_f rfl (lgetr x2.o ⟨by omega,by omega⟩ (fun _=>⟨⟨_,_,_⟩,_,rfl,three_ok fun h3 row3 k3=>⟨⟨_,_,_⟩,rfl,?_⟩⟩) fun r c h3 hin=>absurd hin.2.2.2 (by rw [ln]; omega))
 have x3:=x2.keepN k3
 have src:Src h3 q ⟨some (ad h2.size),3,3⟩ (th (p:Nat)):=row_src (r:=th (p:Nat)) row3 (th_b8 _) (x2.o.g.st.fr (Nat.le_refl _))
 obtain ⟨X,eX,lX,tX,dX⟩:=struck (N:=n) (p:=p) (by omega) (by omega) (by omega)
 refine lstrike x3.o (m0:=1) ⟨by omega,by omega⟩ src fun h4 q4 s4 nd4 L4 a4 _ er4=>⟨_,_,rfl,?_⟩
 rw [er,eX,if_neg (by simp)] at er4
 have er4:L4.rows=X:=by rw [er4,List.reverse_reverse]
 have x4:=x3.aft a4
 have l4:L4.rows.length=n - 1:=by rw [er4,lX]
 refine lcut x4.o (i:=2) (m:=((n - 5:Nat):Int)) ⟨by omega,by omega⟩ (fun hb=>absurd ⟨by omega,by omega,by rw [l4]; omega,by rw [l4]; omega⟩ hb) fun h5 q5 s5 nd5 L5 _ a5 _ er5=>⟨_,rfl,?_⟩
 have er5:L5.rows=[th ((0:Nat):Int),th ((1:Nat):Int),th ((n - 2:Nat):Int),th ((n - 1:Nat):Int)]:=by
  rw [er5,er4,Int.toNat_natCast,show (2:Int).toNat=2 from rfl,show 2 + (n - 5)=n - 3 by omega,tX,dX]
  rfl
 have x5:=x4.aft a5
 have l5:L5.rows.length=4:=by rw [er5]; rfl
 have ec:(if false=true then (strk (th (p:Nat)) L.rows 1).2 else (strk (th (p:Nat)) L.rows.reverse 1).2)=1:=by rw [if_neg (by simp),er,eX]
 refine lnum ⟨_,rfl,Cond_f rfl (Cond_f (by rw [ec]; rfl) (lnum ⟨_,rfl,Cond_f rfl (lnum ⟨_,rfl,Cond_f rfl (llen x5.o ⟨_,rfl,Cond_f (by rw [l5]; rfl) ?_⟩)⟩)⟩))⟩
 refine lslice x5.o (i:=0) (m:=4) ⟨by omega,by omega⟩ (fun hb=>absurd ⟨by omega,by omega,by rw [l5]; omega,by rw [l5]; omega⟩ hb) fun a M cs h6 _ ra k6=>⟨_,_,rfl,?_⟩
 have era:(L5.rows.drop (0:Int).toNat).take (4:Int).toNat=L5.rows:=by
  show (L5.rows.drop 0).take 4=_
  rw [List.drop_zero,List.take_of_length_le (by omega)]
 rw [era] at ra
 have x6:=x5.keepN k6
 refine lpop x6.o (fun e=>by rw [e] at l5; simp at l5) fun r c h7 q7 s7 nd7 L7 hr a7 _ er7 row7 hc ho7=>⟨⟨_,_,_⟩,_,rfl,?_⟩
 rw [if_neg (by simp),l5,er5] at hr
 have hr:th ((n - 1:Nat):Int)=r:=Option.some.inj hr
 subst hr
 have x7:=x6.aft a7
 have ho:∀ b,M.own b→q5.role b=.out:=fun b hb=>x5.o.g.st.fr (ra.new b hb)
 obtain ⟨ra7,ho7'⟩:=ra.ex ho a7.ex
 refine lnum ⟨_,rfl,Cond_t rfl (lnum ⟨_,rfl,Cond_t rfl (three_ok fun h8 row8 k8=>⟨⟨_,_,_⟩,rfl,?_⟩)⟩)⟩
 refine leq (a:=⟨some (ad c),3,3⟩) (c:=⟨some (ad h7.size),3,3⟩) (l:=th ((n - 1:Nat):Int)) (row_reads (kept_row k8 row7 _root_.id)) (row_reads row8) rfl rfl (by rw [th_len]; omega) ⟨true,rfl,Cond_t rfl ?_⟩
 refine three_ok (i:=((0:Nat):Int)) fun h9 row9 k9=>⟨⟨_,_,_⟩,rfl,three_ok (i:=((1:Nat):Int)) fun h10 row10 k10=>⟨⟨_,_,_⟩,rfl,three_ok fun h11 row11 k11=>⟨⟨_,_,_⟩,rfl,three_ok fun h12 row12 k12=>⟨⟨_,_,_⟩,rfl,Let_mk fun h13 e13=>?_⟩⟩⟩⟩
 have k13:Kept N h12 h13:=e13 ▸ kept_push _ _ _
 have row13:Row h13 h12.size [.slice (some (ad h8.size)) 3 3,.slice (some (ad h9.size)) 3 3,.slice (some (ad h10.size)) 3 3,.slice (some (ad h11.size)) 3 3]:=e13 ▸ row_new h12 #[.slice (some (ad h8.size)) 3 3,.slice (some (ad h9.size)) 3 3,.slice (some (ad h10.size)) 3 3,.slice (some (ad h11.size)) 3 3] _
 clear e13
 have kk:Kept N h7 h13:=kept_tr k8 (kept_tr k9 (kept_tr k10 (kept_tr k11 (kept_tr k12 k13))))
 have out:∀ {b:Nat},h7.size ≤ b→q7.role b=.out:=fun hb=>x7.o.g.st.fr hb
 have s8:=k8.1; have s9:=k9.1; have s10:=k10.1; have s11:=k11.1; have s12:=k12.1
 have sA:Src h13 q7 ⟨some (ad h8.size),3,3⟩ (th ((0:Nat):Int)):=row_src (kept_row k13 (kept_row k12 (kept_row k11 (kept_row k10 row9 _root_.id) _root_.id) _root_.id) _root_.id) (th_b8 _) (out (by omega))
 have sB:Src h13 q7 ⟨some (ad h9.size),3,3⟩ (th ((1:Nat):Int)):=row_src (kept_row k13 (kept_row k12 (kept_row k11 row10 _root_.id) _root_.id) _root_.id) (th_b8 _) (out (by omega))
 have sC:Src h13 q7 ⟨some (ad h10.size),3,3⟩ (th ((n - 2:Nat):Int)):=row_src (kept_row k13 (kept_row k12 row11 _root_.id) _root_.id) (th_b8 _) (out (by omega))
 have sD:Src h13 q7 ⟨some (ad h11.size),3,3⟩ (th ((n - 1:Nat):Int)):=row_src (kept_row k13 row12 _root_.id) (th_b8 _) (out (by omega))
 have rl:RL h13 q7 ⟨some (ad h12.size),4,4⟩ [⟨some (ad h8.size),3,3⟩,⟨some (ad h9.size),3,3⟩,⟨some (ad h10.size),3,3⟩,⟨some (ad h11.size),3,3⟩] L5.rows:=by
  rw [er5]
  refine ⟨row_reads row13,rfl,rfl,fun i c r hc' hr'=>?_,fun p hp' _=>by obtain rfl:=Option.some.inj hp'; exact ⟨out (by show h7.size ≤ h12.size; omega),row_lt row13⟩⟩
  match i with
  | 0=>obtain rfl:=Option.some.inj hc'; obtain rfl:=Option.some.inj hr'; exact ⟨sA,Nat.le_refl _,by rw [th_len]; omega⟩
  | 1=>obtain rfl:=Option.some.inj hc'; obtain rfl:=Option.some.inj hr'; exact ⟨sB,Nat.le_refl _,by rw [th_len]; omega⟩
  | 2=>obtain rfl:=Option.some.inj hc'; obtain rfl:=Option.some.inj hr'; exact ⟨sC,Nat.le_refl _,by rw [th_len]; omega⟩
  | 3=>obtain rfl:=Option.some.inj hc'; obtain rfl:=Option.some.inj hr'; exact ⟨sD,Nat.le_refl _,by rw [th_len]; omega⟩
  | i + 4=>cases hc'
 refine leqlists (c:=⟨some (ad h12.size),4,4⟩) (ra7.keepN kk) rl (by omega) ⟨true,rfl,Cond_t rfl ?_⟩
 have x13:=x7.keepN kk
 have l7:L7.rows.length=3:=by rw [er7,if_neg (by simp),er5]; rfl
 refine llen x13.o ⟨_,rfl,?_⟩
 rw [l7]
 refine hR h13 ?_
 have f2:Frsh h q:=f1
 have k12':Kept N h h3:=kept_tr k1 (kept_tr k2 k3)
 have t4:=f2.kept k12' a4.ex
 have f4:=f2.ex k12'.1 a4.ex
 have t5:=f4.kept t4 a5.ex
 have f5:=f4.ex t4.1 a5.ex
 have t6:=kept_tr t5 k6
 have t7:=f5.kept t6 a7.ex
 exact kept_tr t7 kk
end
end Go.Ev
