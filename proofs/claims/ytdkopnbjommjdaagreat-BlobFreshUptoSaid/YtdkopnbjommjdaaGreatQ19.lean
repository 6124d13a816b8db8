/- Printed by a program (own work) out of the loaded functions: what each says of the heap, and that the evaluator says the same. No condition but that these are ones. -/
import Derived.Test.YtdkopnbjommjdaaGreatQ4
set_option linter.all false
set_option maxRecDepth 100000
namespace Go.Ev
open Go.Proofs
/- (*larder/larderlaw1.Book).Look -/
noncomputable def body13:Code:=(Tryz.f13.body).getD .skip
def lv13 (m:Nat):List Nat:=[]
def f13F (a0:Option Addr) (h:Hp) (R:Value→Hp→Prop):Prop :=
 CallTo Tryz.prog 36 #[.pointer a0] h fun r h1=>∃ t4:Bool,r=.bool t4∧Cond (!t4) (R (.bool false:Value) h1) (PtrOk a0 fun p7=>∃ t9:Int,cell h1 (p7.add 31)=some (.int .i64 t9)∧PtrOk a0 fun p11=>∃ t13:Int,cell h1 (p11.add 30)=some (.int .i64 t13)∧Cond (t9 == t13) (R (.bool true:Value) h1) (CallTo Tryz.prog 37 #[.pointer a0] h1 fun r h2=>r=.tuple #[]∧CallTo Tryz.prog 36 #[.pointer a0] h2 fun r h3=>∃ t18:Bool,r=.bool t18∧R (.bool t18:Value) h3))
theorem f13F_eq (a0:Option Addr) (h:Hp) (R:Value→Hp→Prop):evF Tryz.prog tab lv13 Tryz.f13 body13 [] [.pointer a0] h R=f13F a0 h R:=by kernel_rfl
theorem f13F_ok {a0:Option Addr} {h:Hp} {R:Value→Hp→Prop} (hF:f13F a0 h R):CallTo Tryz.prog 13 #[.pointer a0] h R :=
 callTo_of_ev (lv:=lv13) (hints:=[]) (c:=body13) (args:=[.pointer a0]) mixed tab_ok Tryz.func13 (by kernel_rfl) (by kernel_rfl) (by rw [f13F_eq]; exact hF)
/- (*larder/larderlaw1.Late).Settle -/
noncomputable def body14:Code:=(Tryz.f14.body).getD .skip
def lv14 (m:Nat):List Nat:=if m=4 then [0,1,7] else if m=9 then [0,1,8] else []
def f14I1 (J:Nat→Option Addr→Option Addr→Int→Hp→Prop) (n:Nat) (env:List Value) (h:Hp):Prop:=lenIs env 68 (DecP env 0 fun s0=>DecP env 1 fun s1=>DecI .i64 env 7 fun s7=>J n s0 s1 s7 h)
def f14I2 (J:Nat→Option Addr→Option Addr→Int→Hp→Prop) (n:Nat) (env:List Value) (h:Hp):Prop:=lenIs env 68 (DecP env 0 fun s0=>DecP env 1 fun s1=>DecI .i64 env 8 fun s8=>J n s0 s1 s8 h)
def f14L1 (J1:Nat→Option Addr→Option Addr→Int→Hp→Prop) (n1:Nat) (s0:Option Addr) (s1:Option Addr) (s7:Int) (g:Nat→Value) (h:Hp) (R:Value→Hp→Prop):Prop :=
 PtrOk s0 fun p18=>∃ t20:Sl,cell h p18=some (.slice t20.a t20.n t20.c)∧Cond (decide (s7 < (((t20.n:Nat):Int)))) (PtrOk s0 fun p26=>∃ t28:Sl,cell h p26=some (.slice t28.a t28.n t28.c)∧(0 ≤ s7∧s7 < ((t28.n:Nat):Int))∧PtrOk t28.a fun p30=>∃ t31:Sl,cell h (p30.add (s7.toNat * 1))=some (.slice t31.a t31.n t31.c)∧∃ t32:ByteArray,Spells h t31.a t31.n t32∧PtrOk s0 fun p34=>∃ t36:Sl,cell h (p34.add 1)=some (.slice t36.a t36.n t36.c)∧(0 ≤ s7∧s7 < ((t36.n:Nat):Int))∧PtrOk t36.a fun p38=>∃ t39:Sl,cell h (p38.add (s7.toNat * 1))=some (.slice t39.a t39.n t39.c)∧∃ t40:ByteArray,Spells h t39.a t39.n t40∧Cond (!((ByteArray.toList t32) == (ByteArray.toList t40))) (R (.bool false:Value) h) (∃ m,m < n1∧J1 m s0 s1 (IntKind.wrap .i64 (s7 + (1:Int))) h)) (LoopEv (evC Tryz.prog tab lv14 (sub [1,1,1,0,1,0,0] body14)) (contAt Tryz.prog tab lv14 [1,1,1,0,1,0] body14 [] (bodyK Tryz.prog Tryz.f14 [] R)) [(0,.pointer s0),(1,.pointer s1),(8,.int .i64 0)] 68 h)
theorem f14L1_eq (J1:Nat→Option Addr→Option Addr→Int→Hp→Prop) (n1:Nat) (s0:Option Addr) (s1:Option Addr) (s7:Int) (g:Nat→Value) (h:Hp) (R:Value→Hp→Prop):(evC Tryz.prog tab lv14 (sub [1,1,0,1,0,0] body14)) (loopK (f14I1 J1) n1 (contAt Tryz.prog tab lv14 [1,1,0,1,0] body14 [] (bodyK Tryz.prog Tryz.f14 [] R))) (mkEnv 68 [(0,.pointer s0),(1,.pointer s1),(7,.int .i64 s7)] g) h=f14L1 J1 n1 s0 s1 s7 g h R:=by kernel_rfl
theorem f14I1_at (J:Nat→Option Addr→Option Addr→Int→Hp→Prop) (n:Nat) (s0:Option Addr) (s1:Option Addr) (s7:Int) (g:Nat→Value) (h:Hp):f14I1 J n (mkEnv 68 [(0,.pointer s0),(1,.pointer s1),(7,.int .i64 s7)] g) h=J n s0 s1 s7 h:=by kernel_rfl
theorem f14L1_rule  {R:Value→Hp→Prop} {s0:Option Addr} {s1:Option Addr} {s7:Int} {h0:Hp} (J:Nat→Option Addr→Option Addr→Int→Hp→Prop) (n0:Nat) (hi:J n0 s0 s1 s7 h0)
  (hr:∀ n s0 s1 s7 g h,J n s0 s1 s7 h→f14L1  J n s0 s1 s7 g h R):LoopEv (evC Tryz.prog tab lv14 (sub [1,1,0,1,0,0] body14)) (contAt Tryz.prog tab lv14 [1,1,0,1,0] body14 [] (bodyK Tryz.prog Tryz.f14 [] R)) [(0,.pointer s0),(1,.pointer s1),(7,.int .i64 s7)] 68 h0:=by
 refine ⟨f14I1 J,n0,fun g=>by rw [f14I1_at]; exact hi,fun n env h hI=>?_⟩
 clear hi
 clear s0 s1 s7
 obtain ⟨hlen,hI⟩:=Cond_true' hI
 have hlen:env.length=68:=by simpa using hlen
 obtain ⟨s0,es0,hI⟩:=DecP.out hI
 obtain ⟨s1,es1,hI⟩:=DecP.out hI
 obtain ⟨s7,es7,hI⟩:=DecI.out hI
 rw [mkEnv_of (l:=[(0,.pointer s0),(1,.pointer s1),(7,.int .i64 s7)]) hlen (by simp only [List.mem_cons,List.not_mem_nil,or_false,forall_eq_or_imp,forall_eq]; exact ⟨es0,es1,es7⟩)]
 rw [f14L1_eq]
 exact hr n s0 s1 s7 _ h hI
def f14L2 (J2:Nat→Option Addr→Option Addr→Int→Hp→Prop) (n2:Nat) (s0:Option Addr) (s1:Option Addr) (s8:Int) (g:Nat→Value) (h:Hp) (R:Value→Hp→Prop):Prop :=
 PtrOk s0 fun p44=>∃ t46:Sl,cell h p44=some (.slice t46.a t46.n t46.c)∧Cond (decide (s8 < (((t46.n:Nat):Int)))) (PtrOk s0 fun p53=>∃ t55:Sl,cell h p53=some (.slice t55.a t55.n t55.c)∧(0 ≤ s8∧s8 < ((t55.n:Nat):Int))∧PtrOk t55.a fun p57=>∃ t58:Sl,cell h (p57.add (s8.toNat * 1))=some (.slice t58.a t58.n t58.c)∧CallTo Tryz.prog 38 #[.pointer s1,.slice t58.a t58.n t58.c] h fun r h1=>r=.tuple #[]∧∃ m,m < n2∧J2 m s0 s1 (IntKind.wrap .i64 (s8 + (1:Int))) h1) (PtrOk s0 fun p61=>stOk h p61∧Let (setc h p61 (.slice none 0 0)) fun h2=>PtrOk s0 fun p64=>stOk h2 (p64.add 1)∧Let (setc h2 (p64.add 1) (.slice none 0 0)) fun h3=>CallTo Tryz.prog 13 #[.pointer s1] h3 fun r h4=>∃ t67:Bool,r=.bool t67∧R (.bool t67:Value) h4)
theorem f14L2_eq (J2:Nat→Option Addr→Option Addr→Int→Hp→Prop) (n2:Nat) (s0:Option Addr) (s1:Option Addr) (s8:Int) (g:Nat→Value) (h:Hp) (R:Value→Hp→Prop):(evC Tryz.prog tab lv14 (sub [1,1,1,0,1,0,0] body14)) (loopK (f14I2 J2) n2 (contAt Tryz.prog tab lv14 [1,1,1,0,1,0] body14 [] (bodyK Tryz.prog Tryz.f14 [] R))) (mkEnv 68 [(0,.pointer s0),(1,.pointer s1),(8,.int .i64 s8)] g) h=f14L2 J2 n2 s0 s1 s8 g h R:=by kernel_rfl
theorem f14I2_at (J:Nat→Option Addr→Option Addr→Int→Hp→Prop) (n:Nat) (s0:Option Addr) (s1:Option Addr) (s8:Int) (g:Nat→Value) (h:Hp):f14I2 J n (mkEnv 68 [(0,.pointer s0),(1,.pointer s1),(8,.int .i64 s8)] g) h=J n s0 s1 s8 h:=by kernel_rfl
theorem f14L2_rule  {R:Value→Hp→Prop} {s0:Option Addr} {s1:Option Addr} {s8:Int} {h0:Hp} (J:Nat→Option Addr→Option Addr→Int→Hp→Prop) (n0:Nat) (hi:J n0 s0 s1 s8 h0)
  (hr:∀ n s0 s1 s8 g h,J n s0 s1 s8 h→f14L2  J n s0 s1 s8 g h R):LoopEv (evC Tryz.prog tab lv14 (sub [1,1,1,0,1,0,0] body14)) (contAt Tryz.prog tab lv14 [1,1,1,0,1,0] body14 [] (bodyK Tryz.prog Tryz.f14 [] R)) [(0,.pointer s0),(1,.pointer s1),(8,.int .i64 s8)] 68 h0:=by
 refine ⟨f14I2 J,n0,fun g=>by rw [f14I2_at]; exact hi,fun n env h hI=>?_⟩
 clear hi
 clear s0 s1 s8
 obtain ⟨hlen,hI⟩:=Cond_true' hI
 have hlen:env.length=68:=by simpa using hlen
 obtain ⟨s0,es0,hI⟩:=DecP.out hI
 obtain ⟨s1,es1,hI⟩:=DecP.out hI
 obtain ⟨s8,es8,hI⟩:=DecI.out hI
 rw [mkEnv_of (l:=[(0,.pointer s0),(1,.pointer s1),(8,.int .i64 s8)]) hlen (by simp only [List.mem_cons,List.not_mem_nil,or_false,forall_eq_or_imp,forall_eq]; exact ⟨es0,es1,es8⟩)]
 rw [f14L2_eq]
 exact hr n s0 s1 s8 _ h hI
def f14F (a0:Option Addr) (a1:Option Addr) (a2:Int) (h:Hp) (R:Value→Hp→Prop):Prop :=
 PtrOk a0 fun p10=>∃ t12:Sl,cell h p10=some (.slice t12.a t12.n t12.c)∧Cond (decide ((((t12.n:Nat):Int)) < a2)) (R (.bool true:Value) h) (LoopEv (evC Tryz.prog tab lv14 (sub [1,1,0,1,0,0] body14)) (contAt Tryz.prog tab lv14 [1,1,0,1,0] body14 [] (bodyK Tryz.prog Tryz.f14 [] R)) [(0,.pointer a0),(1,.pointer a1),(7,.int .i64 0)] 68 h)
theorem f14F_eq (a0:Option Addr) (a1:Option Addr) (a2:Int) (h:Hp) (R:Value→Hp→Prop):evF Tryz.prog tab lv14 Tryz.f14 body14 [] [.pointer a0,.pointer a1,.int .i64 a2] h R=f14F a0 a1 a2 h R:=by kernel_rfl
theorem f14F_ok {a0:Option Addr} {a1:Option Addr} {a2:Int} {h:Hp} {R:Value→Hp→Prop} (hF:f14F a0 a1 a2 h R):CallTo Tryz.prog 14 #[.pointer a0,.pointer a1,.int .i64 a2] h R :=
 callTo_of_ev (lv:=lv14) (hints:=[]) (c:=body14) (args:=[.pointer a0,.pointer a1,.int .i64 a2]) mixed tab_ok Tryz.func14 (by kernel_rfl) (by kernel_rfl) (by rw [f14F_eq]; exact hF)
/- (*larder/larderlaw1.Book).holds -/
noncomputable def body36:Code:=(Tryz.f36.body).getD .skip
def lv36 (m:Nat):List Nat:=[]
def f36F (a0:Option Addr) (h:Hp) (R:Value→Hp→Prop):Prop :=
 CallTo Tryz.prog 74 #[.pointer a0] h fun r h1=>∃ t4:Bool,r=.bool t4∧Cond t4 (CallTo Tryz.prog 75 #[.pointer a0] h1 fun r h2=>∃ t7:Bool,r=.bool t7∧Cond t7 (CallTo Tryz.prog 76 #[.pointer a0] h2 fun r h3=>∃ t11:Bool,r=.bool t11∧R (.bool t11:Value) h3) (R (.bool false:Value) h2)) (R (.bool false:Value) h1)
theorem f36F_eq (a0:Option Addr) (h:Hp) (R:Value→Hp→Prop):evF Tryz.prog tab lv36 Tryz.f36 body36 [] [.pointer a0] h R=f36F a0 h R:=by kernel_rfl
theorem f36F_ok {a0:Option Addr} {h:Hp} {R:Value→Hp→Prop} (hF:f36F a0 h R):CallTo Tryz.prog 36 #[.pointer a0] h R :=
 callTo_of_ev (lv:=lv36) (hints:=[]) (c:=body36) (args:=[.pointer a0]) mixed tab_ok Tryz.func36 (by kernel_rfl) (by kernel_rfl) (by rw [f36F_eq]; exact hF)
/- (*larder/larderlaw1.Book).grow -/
noncomputable def body37:Code:=(Tryz.f37.body).getD .skip
def lv37 (m:Nat):List Nat:=[]
def f37F (a0:Option Addr) (h:Hp) (R:Value→Hp→Prop):Prop :=
 CallTo Tryz.prog 77 #[.pointer a0] h fun r h1=>r=.tuple #[]∧CallTo Tryz.prog 78 #[.pointer a0] h1 fun r h2=>r=.tuple #[]∧CallTo Tryz.prog 79 #[.pointer a0] h2 fun r h3=>r=.tuple #[]∧CallTo Tryz.prog 80 #[.pointer a0] h3 fun r h4=>r=.tuple #[]∧CallTo Tryz.prog 81 #[.pointer a0] h4 fun r h5=>r=.tuple #[]∧CallTo Tryz.prog 82 #[.pointer a0] h5 fun r h6=>r=.tuple #[]∧CallTo Tryz.prog 83 #[.pointer a0] h6 fun r h7=>r=.tuple #[]∧CallTo Tryz.prog 84 #[.pointer a0] h7 fun r h8=>r=.tuple #[]∧CallTo Tryz.prog 85 #[.pointer a0] h8 fun r h9=>r=.tuple #[]∧CallTo Tryz.prog 86 #[.pointer a0] h9 fun r h10=>r=.tuple #[]∧PtrOk a0 fun p24=>∃ t26:Int,cell h10 (p24.add 30)=some (.int .i64 t26)∧PtrOk a0 fun p27=>stOk h10 (p27.add 31)∧Let (setc h10 (p27.add 31) (.int .i64 t26)) fun h11=>R (.tuple #[]:Value) h11
theorem f37F_eq (a0:Option Addr) (h:Hp) (R:Value→Hp→Prop):evF Tryz.prog tab lv37 Tryz.f37 body37 [] [.pointer a0] h R=f37F a0 h R:=by kernel_rfl
theorem f37F_ok {a0:Option Addr} {h:Hp} {R:Value→Hp→Prop} (hF:f37F a0 h R):CallTo Tryz.prog 37 #[.pointer a0] h R :=
 callTo_of_ev (lv:=lv37) (hints:=[]) (c:=body37) (args:=[.pointer a0]) mixed tab_ok Tryz.func37 (by kernel_rfl) (by kernel_rfl) (by rw [f37F_eq]; exact hF)
/- (*larder/larderlaw1.Book).Bytes -/
noncomputable def body38:Code:=(Tryz.f38.body).getD .skip
def lv38 (m:Nat):List Nat:=if m=3 then [0,1,4,5] else []
def f38I1 (J:Nat→Option Addr→Sl→Int→Int→Hp→Prop) (n:Nat) (env:List Value) (h:Hp):Prop:=lenIs env 55 (DecP env 0 fun s0=>DecL env 1 fun s1=>DecI .i64 env 4 fun s4=>DecI .i64 env 5 fun s5=>J n s0 s1 s4 s5 h)
def f38L1 (J1:Nat→Option Addr→Sl→Int→Int→Hp→Prop) (n1:Nat) (s0:Option Addr) (s1:Sl) (s4:Int) (s5:Int) (g:Nat→Value) (h:Hp) (R:Value→Hp→Prop):Prop :=
 Cond (decide (s5 < (((s1.n:Nat):Int)))) (CallTo Tryz.prog 87 #[.int .i64 s4,.int .i64 s5] h fun r h2=>∃ t27:Int,r=.int .u8 t27∧(0 ≤ s5∧s5 < ((s1.n:Nat):Int))∧PtrOk s1.a fun p28=>stOk h2 (p28.add (s5.toNat * 1))∧Let (setc h2 (p28.add (s5.toNat * 1)) (.int .u8 t27)) fun h3=>∃ m,m < n1∧J1 m s0 s1 s4 (IntKind.wrap .i64 (s5 + (1:Int))) h3) (CallTo Tryz.prog 88 #[.pointer s0,.int .i64 (IntKind.wrap .i64 ((1200:Int) + (IntKind.wrap .i64 ((3:Int) * (((s1.n:Nat):Int))))))] h fun r h4=>∃ t34:Bool,r=.bool t34∧Cond t34 (R (.tuple #[]:Value) h4) (PtrOk s0 fun p37=>∃ t39:Sl,cell h4 p37=some (.slice t39.a t39.n t39.c)∧Let (h4.push (.cells #[.slice s1.a s1.n s1.c] 33)) fun h5=>appSl 33 1 24 #[.slice none 0 0] t39.a t39.n t39.c (some (nb h4)) 1 h5 fun ra6 rn6 rc6 h6=>PtrOk s0 fun p43=>stOk h6 p43∧Let (setc h6 p43 (.slice ra6 rn6 rc6)) fun h7=>PtrOk s0 fun p47=>∃ t49:Sl,cell h7 (p47.add 1)=some (.slice t49.a t49.n t49.c)∧Let (h7.push (.cells #[.int .i64 s4] 3)) fun h8=>appSl 3 1 8 #[.int .i64 0] t49.a t49.n t49.c (some (nb h7)) 1 h8 fun ra9 rn9 rc9 h9=>PtrOk s0 fun p53=>stOk h9 (p53.add 1)∧Let (setc h9 (p53.add 1) (.slice ra9 rn9 rc9)) fun h10=>R (.tuple #[]:Value) h10))
theorem f38L1_eq (J1:Nat→Option Addr→Sl→Int→Int→Hp→Prop) (n1:Nat) (s0:Option Addr) (s1:Sl) (s4:Int) (s5:Int) (g:Nat→Value) (h:Hp) (R:Value→Hp→Prop):(evC Tryz.prog tab lv38 (sub [1,1,0,1,0,0] body38)) (loopK (f38I1 J1) n1 (contAt Tryz.prog tab lv38 [1,1,0,1,0] body38 [] (bodyK Tryz.prog Tryz.f38 [] R))) (mkEnv 55 [(0,.pointer s0),(1,.slice s1.a s1.n s1.c),(4,.int .i64 s4),(5,.int .i64 s5)] g) h=f38L1 J1 n1 s0 s1 s4 s5 g h R:=by kernel_rfl
theorem f38I1_at (J:Nat→Option Addr→Sl→Int→Int→Hp→Prop) (n:Nat) (s0:Option Addr) (s1:Sl) (s4:Int) (s5:Int) (g:Nat→Value) (h:Hp):f38I1 J n (mkEnv 55 [(0,.pointer s0),(1,.slice s1.a s1.n s1.c),(4,.int .i64 s4),(5,.int .i64 s5)] g) h=J n s0 s1 s4 s5 h:=by kernel_rfl
theorem f38L1_rule  {R:Value→Hp→Prop} {s0:Option Addr} {s1:Sl} {s4:Int} {s5:Int} {h0:Hp} (J:Nat→Option Addr→Sl→Int→Int→Hp→Prop) (n0:Nat) (hi:J n0 s0 s1 s4 s5 h0)
  (hr:∀ n s0 s1 s4 s5 g h,J n s0 s1 s4 s5 h→f38L1  J n s0 s1 s4 s5 g h R):LoopEv (evC Tryz.prog tab lv38 (sub [1,1,0,1,0,0] body38)) (contAt Tryz.prog tab lv38 [1,1,0,1,0] body38 [] (bodyK Tryz.prog Tryz.f38 [] R)) [(0,.pointer s0),(1,.slice s1.a s1.n s1.c),(4,.int .i64 s4),(5,.int .i64 s5)] 55 h0:=by
 refine ⟨f38I1 J,n0,fun g=>by rw [f38I1_at]; exact hi,fun n env h hI=>?_⟩
 clear hi
 clear s0 s1 s4 s5
 obtain ⟨hlen,hI⟩:=Cond_true' hI
 have hlen:env.length=55:=by simpa using hlen
 obtain ⟨s0,es0,hI⟩:=DecP.out hI
 obtain ⟨s1,es1,hI⟩:=DecL.out hI
 obtain ⟨s4,es4,hI⟩:=DecI.out hI
 obtain ⟨s5,es5,hI⟩:=DecI.out hI
 rw [mkEnv_of (l:=[(0,.pointer s0),(1,.slice s1.a s1.n s1.c),(4,.int .i64 s4),(5,.int .i64 s5)]) hlen (by simp only [List.mem_cons,List.not_mem_nil,or_false,forall_eq_or_imp,forall_eq]; exact ⟨es0,es1,es4,es5⟩)]
 rw [f38L1_eq]
 exact hr n s0 s1 s4 s5 _ h hI
def f38F (a0:Option Addr) (a1:Sl) (h:Hp) (R:Value→Hp→Prop):Prop :=
 PtrOk a0 fun p7=>∃ t9:Int,cell h (p7.add 30)=some (.int .i64 t9)∧PtrOk a0 fun p11=>stOk h (p11.add 30)∧Let (setc h (p11.add 30) (.int .i64 (IntKind.wrap .i64 (t9 + (1:Int))))) fun h1=>PtrOk a0 fun p14=>∃ t16:Int,cell h1 (p14.add 30)=some (.int .i64 t16)∧LoopEv (evC Tryz.prog tab lv38 (sub [1,1,0,1,0,0] body38)) (contAt Tryz.prog tab lv38 [1,1,0,1,0] body38 [] (bodyK Tryz.prog Tryz.f38 [] R)) [(0,.pointer a0),(1,.slice a1.a a1.n a1.c),(4,.int .i64 t16),(5,.int .i64 0)] 55 h1
theorem f38F_eq (a0:Option Addr) (a1:Sl) (h:Hp) (R:Value→Hp→Prop):evF Tryz.prog tab lv38 Tryz.f38 body38 [] [.pointer a0,.slice a1.a a1.n a1.c] h R=f38F a0 a1 h R:=by kernel_rfl
theorem f38F_ok {a0:Option Addr} {a1:Sl} {h:Hp} {R:Value→Hp→Prop} (hF:f38F a0 a1 h R):CallTo Tryz.prog 38 #[.pointer a0,.slice a1.a a1.n a1.c] h R :=
 callTo_of_ev (lv:=lv38) (hints:=[]) (c:=body38) (args:=[.pointer a0,.slice a1.a a1.n a1.c]) mixed tab_ok Tryz.func38 (by kernel_rfl) (by kernel_rfl) (by rw [f38F_eq]; exact hF)
/- larder/larderlaw1.LendAll -/
noncomputable def body40:Code:=(Tryz.f40.body).getD .skip
def lv40 (m:Nat):List Nat:=if m=3 then [0,3,4] else []
def f40I1 (J:Nat→Sl→Addr→Int→Hp→Prop) (n:Nat) (env:List Value) (h:Hp):Prop:=lenIs env 76 (DecL env 0 fun s0=>DecA env 3 fun s3=>DecI .i64 env 4 fun s4=>J n s0 s3 s4 h)
def f40L1 (J1:Nat→Sl→Addr→Int→Hp→Prop) (n1:Nat) (s0:Sl) (s3:Addr) (s4:Int) (g:Nat→Value) (h:Hp) (R:Value→Hp→Prop):Prop :=
 Cond (decide (s4 < (((s0.n:Nat):Int)))) ((0 ≤ s4∧s4 < ((s0.n:Nat):Int))∧PtrOk s0.a fun p16=>∃ t17:Sl,cell h (p16.add (s4.toNat * 1))=some (.slice t17.a t17.n t17.c)∧CallTo Tryz.prog 46 #[.slice t17.a t17.n t17.c] h fun r h2=>∃ t18:Sl,r=.slice t18.a t18.n t18.c∧∃ t23:Sl,cell h2 (s3.add 1)=some (.slice t23.a t23.n t23.c)∧Let (h2.push (.cells #[.slice t18.a t18.n t18.c] 33)) fun h3=>appSl 33 1 24 #[.slice none 0 0] t23.a t23.n t23.c (some (nb h2)) 1 h3 fun ra4 rn4 rc4 h4=>stOk h4 (s3.add 1)∧Let (setc h4 (s3.add 1) (.slice ra4 rn4 rc4)) fun h5=>∃ t33:Sl,cell h5 (s3.add 2)=some (.slice t33.a t33.n t33.c)∧Let (h5.push (.cells #[.slice t18.a t18.n t18.c] 33)) fun h6=>appSl 33 1 24 #[.slice none 0 0] t33.a t33.n t33.c (some (nb h5)) 1 h6 fun ra7 rn7 rc7 h7=>stOk h7 (s3.add 2)∧Let (setc h7 (s3.add 2) (.slice ra7 rn7 rc7)) fun h8=>∃ t43:Sl,cell h8 (s3.add 3)=some (.slice t43.a t43.n t43.c)∧(0 ≤ s4∧s4 < ((s0.n:Nat):Int))∧PtrOk s0.a fun p46=>∃ t47:Sl,cell h8 (p46.add (s4.toNat * 1))=some (.slice t47.a t47.n t47.c)∧∃ t48:ByteArray,Spells h8 t47.a t47.n t48∧t48.size < 2 ^ 62∧∀ c49:Nat,t48.size ≤ c49→c49 < 2 ^ 63→Let (h8.push (.cells ((t48.data.map fun b=>Value.int .u8 b.toNat) ++ Array.replicate (c49 - t48.size) (.int .u8 0)) 5 (c49,c49 + 1))) fun h9=>(∃ y0:Sl,cell h9 (s3.add 3)=some (.slice y0.a y0.n y0.c)∧Next.value (.slice y0.a y0.n y0.c)=Next.value (.slice t43.a t43.n t43.c))∧Let (h9.push (.cells #[.slice (some (nb h8)) t48.size c49] 33)) fun h10=>(∃ y0:Sl,cell h10 (s3.add 3)=some (.slice y0.a y0.n y0.c)∧Next.value (.slice y0.a y0.n y0.c)=Next.value (.slice t43.a t43.n t43.c))∧appSl 33 1 24 #[.slice none 0 0] t43.a t43.n t43.c (some (nb h9)) 1 h10 fun ra11 rn11 rc11 h11=>stOk h11 (s3.add 3)∧Let (setc h11 (s3.add 3) (.slice ra11 rn11 rc11)) fun h12=>∃ m,m < n1∧J1 m s0 s3 (IntKind.wrap .i64 (s4 + (1:Int))) h12) (∃ t58:Sl,cell h (s3.add 1)=some (.slice t58.a t58.n t58.c)∧Let (h.push (.cells #[.int .u8 109,.int .u8 97,.int .u8 114,.int .u8 107] 5)) fun h13=>PtrOk (some (nb h)) fun p60=>Let (markH h13 p60.block) fun h14=>Let (h14.push (.cells #[.slice (some (nb h)) 4 4] 33)) fun h15=>appSl 33 1 24 #[.slice none 0 0] t58.a t58.n t58.c (some (nb h14)) 1 h15 fun ra16 rn16 rc16 h16=>stOk h16 (s3.add 1)∧Let (setc h16 (s3.add 1) (.slice ra16 rn16 rc16)) fun h17=>∃ t69:Sl,cell h17 (s3.add 1)=some (.slice t69.a t69.n t69.c)∧(0 ≤ (((s0.n:Nat):Int))∧(((s0.n:Nat):Int)) ≤ ((t69.c:Nat):Int))∧(0 ≤ (0:Int)∧(0:Int) ≤ (((s0.n:Nat):Int)))∧stOk h17 s3∧Let (setc h17 s3 (.slice (if t69.c=(0:Int).toNat then t69.a else Option.map (fun x=>x.add ((0:Int).toNat * 1)) t69.a) ((((s0.n:Nat):Int)).toNat - (0:Int).toNat) (t69.c - (0:Int).toNat))) fun h18=>R ((.pointer (some s3):Value)) h18)
theorem f40L1_eq (J1:Nat→Sl→Addr→Int→Hp→Prop) (n1:Nat) (s0:Sl) (s3:Addr) (s4:Int) (g:Nat→Value) (h:Hp) (R:Value→Hp→Prop):(evC Tryz.prog tab lv40 (sub [1,1,0,1,0,0] body40)) (loopK (f40I1 J1) n1 (contAt Tryz.prog tab lv40 [1,1,0,1,0] body40 [] (bodyK Tryz.prog Tryz.f40 [] R))) (mkEnv 76 [(0,.slice s0.a s0.n s0.c),(3,.pointer (some s3)),(4,.int .i64 s4)] g) h=f40L1 J1 n1 s0 s3 s4 g h R:=by kernel_rfl
theorem f40I1_at (J:Nat→Sl→Addr→Int→Hp→Prop) (n:Nat) (s0:Sl) (s3:Addr) (s4:Int) (g:Nat→Value) (h:Hp):f40I1 J n (mkEnv 76 [(0,.slice s0.a s0.n s0.c),(3,.pointer (some s3)),(4,.int .i64 s4)] g) h=J n s0 s3 s4 h:=by kernel_rfl
theorem f40L1_rule  {R:Value→Hp→Prop} {s0:Sl} {s3:Addr} {s4:Int} {h0:Hp} (J:Nat→Sl→Addr→Int→Hp→Prop) (n0:Nat) (hi:J n0 s0 s3 s4 h0)
  (hr:∀ n s0 s3 s4 g h,J n s0 s3 s4 h→f40L1  J n s0 s3 s4 g h R):LoopEv (evC Tryz.prog tab lv40 (sub [1,1,0,1,0,0] body40)) (contAt Tryz.prog tab lv40 [1,1,0,1,0] body40 [] (bodyK Tryz.prog Tryz.f40 [] R)) [(0,.slice s0.a s0.n s0.c),(3,.pointer (some s3)),(4,.int .i64 s4)] 76 h0:=by
 refine ⟨f40I1 J,n0,fun g=>by rw [f40I1_at]; exact hi,fun n env h hI=>?_⟩
 clear hi
 clear s0 s3 s4
 obtain ⟨hlen,hI⟩:=Cond_true' hI
 have hlen:env.length=76:=by simpa using hlen
 obtain ⟨s0,es0,hI⟩:=DecL.out hI
 obtain ⟨s3,es3,hI⟩:=DecA.out hI
 obtain ⟨s4,es4,hI⟩:=DecI.out hI
 rw [mkEnv_of (l:=[(0,.slice s0.a s0.n s0.c),(3,.pointer (some s3)),(4,.int .i64 s4)]) hlen (by simp only [List.mem_cons,List.not_mem_nil,or_false,forall_eq_or_imp,forall_eq]; exact ⟨es0,es3,es4⟩)]
 rw [f40L1_eq]
 exact hr n s0 s3 s4 _ h hI
def f40F (a0:Sl) (h:Hp) (R:Value→Hp→Prop):Prop :=
 Let (h.push (.cells #[.slice none 0 0,.slice none 0 0,.slice none 0 0,.slice none 0 0] 102)) fun h1=>LoopEv (evC Tryz.prog tab lv40 (sub [1,1,0,1,0,0] body40)) (contAt Tryz.prog tab lv40 [1,1,0,1,0] body40 [] (bodyK Tryz.prog Tryz.f40 [] R)) [(0,.slice a0.a a0.n a0.c),(3,.pointer (some (nb h))),(4,.int .i64 0)] 76 h1
theorem f40F_eq (a0:Sl) (h:Hp) (R:Value→Hp→Prop):evF Tryz.prog tab lv40 Tryz.f40 body40 [] [.slice a0.a a0.n a0.c] h R=f40F a0 h R:=by kernel_rfl
theorem f40F_ok {a0:Sl} {h:Hp} {R:Value→Hp→Prop} (hF:f40F a0 h R):CallTo Tryz.prog 40 #[.slice a0.a a0.n a0.c] h R :=
 callTo_of_ev (lv:=lv40) (hints:=[]) (c:=body40) (args:=[.slice a0.a a0.n a0.c]) mixed tab_ok Tryz.func40 (by kernel_rfl) (by kernel_rfl) (by rw [f40F_eq]; exact hF)
/- (*larder/larderlaw1.Lent).Intact -/
noncomputable def body43:Code:=(Tryz.f43.body).getD .skip
def lv43 (m:Nat):List Nat:=if m=2 then [0,3] else []
def f43I1 (J:Nat→Option Addr→Int→Hp→Prop) (n:Nat) (env:List Value) (h:Hp):Prop:=lenIs env 61 (DecP env 0 fun s0=>DecI .i64 env 3 fun s3=>J n s0 s3 h)
def f43K1 (J1:Nat→Option Addr→Int→Hp→Prop) (n1:Nat) (x0:Option Addr) (x3:Int) (x47:Bool) (h:Hp) (R:Value→Hp→Prop):Prop :=
 Cond x47 (R (.bool false:Value) h) (∃ m,m < n1∧J1 m x0 (IntKind.wrap .i64 (x3 + (1:Int))) h)
def f43L1 (J1:Nat→Option Addr→Int→Hp→Prop) (n1:Nat) (s0:Option Addr) (s3:Int) (g:Nat→Value) (h:Hp) (R:Value→Hp→Prop):Prop :=
 PtrOk s0 fun p6=>∃ t8:Sl,cell h (p6.add 3)=some (.slice t8.a t8.n t8.c)∧Cond (decide (s3 < (((t8.n:Nat):Int)))) (PtrOk s0 fun p14=>∃ t16:Sl,cell h p14=some (.slice t16.a t16.n t16.c)∧(0 ≤ s3∧s3 < ((t16.n:Nat):Int))∧PtrOk t16.a fun p18=>∃ t19:Sl,cell h (p18.add (s3.toNat * 1))=some (.slice t19.a t19.n t19.c)∧∃ t20:ByteArray,Spells h t19.a t19.n t20∧PtrOk s0 fun p22=>∃ t24:Sl,cell h (p22.add 3)=some (.slice t24.a t24.n t24.c)∧(0 ≤ s3∧s3 < ((t24.n:Nat):Int))∧PtrOk t24.a fun p26=>∃ t27:Sl,cell h (p26.add (s3.toNat * 1))=some (.slice t27.a t27.n t27.c)∧∃ t28:ByteArray,Spells h t27.a t27.n t28∧Cond (!((ByteArray.toList t20) == (ByteArray.toList t28))) (f43K1 J1 n1 s0 s3 true h R) (PtrOk s0 fun p32=>∃ t34:Sl,cell h (p32.add 2)=some (.slice t34.a t34.n t34.c)∧(0 ≤ s3∧s3 < ((t34.n:Nat):Int))∧PtrOk t34.a fun p36=>∃ t37:Sl,cell h (p36.add (s3.toNat * 1))=some (.slice t37.a t37.n t37.c)∧PtrOk s0 fun p39=>∃ t41:Sl,cell h (p39.add 3)=some (.slice t41.a t41.n t41.c)∧(0 ≤ s3∧s3 < ((t41.n:Nat):Int))∧PtrOk t41.a fun p43=>∃ t44:Sl,cell h (p43.add (s3.toNat * 1))=some (.slice t44.a t44.n t44.c)∧∃ t45:Bool,CallTo Tryz.prog 49 #[.slice t37.a t37.n t37.c,.slice t44.a t44.n t44.c] h (fun v h'=>v=(.bool t45)∧h'=h)∧f43K1 J1 n1 s0 s3 (!t45) h R)) (PtrOk s0 fun p49=>∃ t51:Sl,cell h (p49.add 1)=some (.slice t51.a t51.n t51.c)∧PtrOk s0 fun p53=>∃ t55:Sl,cell h (p53.add 3)=some (.slice t55.a t55.n t55.c)∧(0 ≤ (((t55.n:Nat):Int))∧(((t55.n:Nat):Int)) < ((t51.n:Nat):Int))∧PtrOk t51.a fun p57=>∃ t58:Sl,cell h (p57.add ((((t55.n:Nat):Int)).toNat * 1))=some (.slice t58.a t58.n t58.c)∧∃ t59:ByteArray,Spells h t58.a t58.n t59∧R ((.bool ((ByteArray.toList t59) == (ByteArray.toList ⟨#[109,97,114,107]⟩)):Value)) h)
theorem f43L1_eq (J1:Nat→Option Addr→Int→Hp→Prop) (n1:Nat) (s0:Option Addr) (s3:Int) (g:Nat→Value) (h:Hp) (R:Value→Hp→Prop):(evC Tryz.prog tab lv43 (sub [1,0,1,0,0] body43)) (loopK (f43I1 J1) n1 (contAt Tryz.prog tab lv43 [1,0,1,0] body43 [] (bodyK Tryz.prog Tryz.f43 [] R))) (mkEnv 61 [(0,.pointer s0),(3,.int .i64 s3)] g) h=f43L1 J1 n1 s0 s3 g h R:=by kernel_rfl
theorem f43I1_at (J:Nat→Option Addr→Int→Hp→Prop) (n:Nat) (s0:Option Addr) (s3:Int) (g:Nat→Value) (h:Hp):f43I1 J n (mkEnv 61 [(0,.pointer s0),(3,.int .i64 s3)] g) h=J n s0 s3 h:=by kernel_rfl
theorem f43L1_rule  {R:Value→Hp→Prop} {s0:Option Addr} {s3:Int} {h0:Hp} (J:Nat→Option Addr→Int→Hp→Prop) (n0:Nat) (hi:J n0 s0 s3 h0)
  (hr:∀ n s0 s3 g h,J n s0 s3 h→f43L1  J n s0 s3 g h R):LoopEv (evC Tryz.prog tab lv43 (sub [1,0,1,0,0] body43)) (contAt Tryz.prog tab lv43 [1,0,1,0] body43 [] (bodyK Tryz.prog Tryz.f43 [] R)) [(0,.pointer s0),(3,.int .i64 s3)] 61 h0:=by
 refine ⟨f43I1 J,n0,fun g=>by rw [f43I1_at]; exact hi,fun n env h hI=>?_⟩
 clear hi
 clear s0 s3
 obtain ⟨hlen,hI⟩:=Cond_true' hI
 have hlen:env.length=61:=by simpa using hlen
 obtain ⟨s0,es0,hI⟩:=DecP.out hI
 obtain ⟨s3,es3,hI⟩:=DecI.out hI
 rw [mkEnv_of (l:=[(0,.pointer s0),(3,.int .i64 s3)]) hlen (by simp only [List.mem_cons,List.not_mem_nil,or_false,forall_eq_or_imp,forall_eq]; exact ⟨es0,es3⟩)]
 rw [f43L1_eq]
 exact hr n s0 s3 _ h hI
def f43F (a0:Option Addr) (h:Hp) (R:Value→Hp→Prop):Prop :=
 LoopEv (evC Tryz.prog tab lv43 (sub [1,0,1,0,0] body43)) (contAt Tryz.prog tab lv43 [1,0,1,0] body43 [] (bodyK Tryz.prog Tryz.f43 [] R)) [(0,.pointer a0),(3,.int .i64 0)] 61 h
theorem f43F_eq (a0:Option Addr) (h:Hp) (R:Value→Hp→Prop):evF Tryz.prog tab lv43 Tryz.f43 body43 [] [.pointer a0] h R=f43F a0 h R:=by kernel_rfl
theorem f43F_ok {a0:Option Addr} {h:Hp} {R:Value→Hp→Prop} (hF:f43F a0 h R):CallTo Tryz.prog 43 #[.pointer a0] h R :=
 callTo_of_ev (lv:=lv43) (hints:=[]) (c:=body43) (args:=[.pointer a0]) mixed tab_ok Tryz.func43 (by kernel_rfl) (by kernel_rfl) (by rw [f43F_eq]; exact hF)
/- (*larder/larderlaw1.Lent).Over -/
noncomputable def body44:Code:=(Tryz.f44.body).getD .skip
def lv44 (m:Nat):List Nat:=if m=1 then [0,2] else []
def f44I1 (J:Nat→Option Addr→Int→Hp→Prop) (n:Nat) (env:List Value) (h:Hp):Prop:=lenIs env 28 (DecP env 0 fun s0=>DecI .i64 env 2 fun s2=>J n s0 s2 h)
def f44L1 (J1:Nat→Option Addr→Int→Hp→Prop) (n1:Nat) (s0:Option Addr) (s2:Int) (g:Nat→Value) (h:Hp) (R:Value→Hp→Prop):Prop :=
 PtrOk s0 fun p5=>∃ t7:Sl,cell h (p5.add 2)=some (.slice t7.a t7.n t7.c)∧Cond (decide (s2 < (((t7.n:Nat):Int)))) (PtrOk s0 fun p13=>∃ t15:Sl,cell h (p13.add 2)=some (.slice t15.a t15.n t15.c)∧(0 ≤ s2∧s2 < ((t15.n:Nat):Int))∧PtrOk t15.a fun p17=>∃ t18:Sl,cell h (p17.add (s2.toNat * 1))=some (.slice t18.a t18.n t18.c)∧CallTo Tryz.prog 50 #[.slice t18.a t18.n t18.c] h fun r h1=>r=.tuple #[]∧PtrOk s0 fun p21=>∃ t23:Sl,cell h1 (p21.add 1)=some (.slice t23.a t23.n t23.c)∧Let (h1.push (.cells #[.int .u8 111,.int .u8 118,.int .u8 101,.int .u8 114] 5)) fun h2=>PtrOk (some (nb h1)) fun p26=>Let (markH h2 p26.block) fun h3=>(0 ≤ s2∧s2 < ((t23.n:Nat):Int))∧PtrOk t23.a fun p27=>stOk h3 (p27.add (s2.toNat * 1))∧Let (setc h3 (p27.add (s2.toNat * 1)) (.slice (some (nb h1)) 4 4)) fun h4=>∃ m,m < n1∧J1 m s0 (IntKind.wrap .i64 (s2 + (1:Int))) h4) (R (.tuple #[]:Value) h)
theorem f44L1_eq (J1:Nat→Option Addr→Int→Hp→Prop) (n1:Nat) (s0:Option Addr) (s2:Int) (g:Nat→Value) (h:Hp) (R:Value→Hp→Prop):(evC Tryz.prog tab lv44 (sub [1,0,0] body44)) (loopK (f44I1 J1) n1 (contAt Tryz.prog tab lv44 [1,0] body44 [] (bodyK Tryz.prog Tryz.f44 [] R))) (mkEnv 28 [(0,.pointer s0),(2,.int .i64 s2)] g) h=f44L1 J1 n1 s0 s2 g h R:=by kernel_rfl
theorem f44I1_at (J:Nat→Option Addr→Int→Hp→Prop) (n:Nat) (s0:Option Addr) (s2:Int) (g:Nat→Value) (h:Hp):f44I1 J n (mkEnv 28 [(0,.pointer s0),(2,.int .i64 s2)] g) h=J n s0 s2 h:=by kernel_rfl
theorem f44L1_rule  {R:Value→Hp→Prop} {s0:Option Addr} {s2:Int} {h0:Hp} (J:Nat→Option Addr→Int→Hp→Prop) (n0:Nat) (hi:J n0 s0 s2 h0)
  (hr:∀ n s0 s2 g h,J n s0 s2 h→f44L1  J n s0 s2 g h R):LoopEv (evC Tryz.prog tab lv44 (sub [1,0,0] body44)) (contAt Tryz.prog tab lv44 [1,0] body44 [] (bodyK Tryz.prog Tryz.f44 [] R)) [(0,.pointer s0),(2,.int .i64 s2)] 28 h0:=by
 refine ⟨f44I1 J,n0,fun g=>by rw [f44I1_at]; exact hi,fun n env h hI=>?_⟩
 clear hi
 clear s0 s2
 obtain ⟨hlen,hI⟩:=Cond_true' hI
 have hlen:env.length=28:=by simpa using hlen
 obtain ⟨s0,es0,hI⟩:=DecP.out hI
 obtain ⟨s2,es2,hI⟩:=DecI.out hI
 rw [mkEnv_of (l:=[(0,.pointer s0),(2,.int .i64 s2)]) hlen (by simp only [List.mem_cons,List.not_mem_nil,or_false,forall_eq_or_imp,forall_eq]; exact ⟨es0,es2⟩)]
 rw [f44L1_eq]
 exact hr n s0 s2 _ h hI
def f44F (a0:Option Addr) (h:Hp) (R:Value→Hp→Prop):Prop :=
 LoopEv (evC Tryz.prog tab lv44 (sub [1,0,0] body44)) (contAt Tryz.prog tab lv44 [1,0] body44 [] (bodyK Tryz.prog Tryz.f44 [] R)) [(0,.pointer a0),(2,.int .i64 0)] 28 h
theorem f44F_eq (a0:Option Addr) (h:Hp) (R:Value→Hp→Prop):evF Tryz.prog tab lv44 Tryz.f44 body44 [] [.pointer a0] h R=f44F a0 h R:=by kernel_rfl
theorem f44F_ok {a0:Option Addr} {h:Hp} {R:Value→Hp→Prop} (hF:f44F a0 h R):CallTo Tryz.prog 44 #[.pointer a0] h R :=
 callTo_of_ev (lv:=lv44) (hints:=[]) (c:=body44) (args:=[.pointer a0]) mixed tab_ok Tryz.func44 (by kernel_rfl) (by kernel_rfl) (by rw [f44F_eq]; exact hF)
/- larder/larderlaw1.Lend -/
noncomputable def body46:Code:=(Tryz.f46.body).getD .skip
def lv46 (m:Nat):List Nat:=[]
def f46F (a0:Sl) (h:Hp) (R:Value→Hp→Prop):Prop :=
 appSl 5 1 1 #[.int .u8 0] none 0 0 a0.a a0.n h fun ra1 rn1 rc1 h1=>Let (h1.push (.cells #[.int .u8 165,.int .u8 90,.int .u8 165] 5)) fun h2=>appSl 5 1 1 #[.int .u8 0] ra1 rn1 rc1 (some (nb h1)) 3 h2 fun ra3 rn3 rc3 h3=>(0 ≤ (((a0.n:Nat):Int))∧(((a0.n:Nat):Int)) ≤ ((rc3:Nat):Int))∧(0 ≤ (0:Int)∧(0:Int) ≤ (((a0.n:Nat):Int)))∧R ((.slice (if rc3=(0:Int).toNat then ra3 else Option.map (fun x=>x.add ((0:Int).toNat * 1)) ra3) ((((a0.n:Nat):Int)).toNat - (0:Int).toNat) (rc3 - (0:Int).toNat):Value)) h3
theorem f46F_eq (a0:Sl) (h:Hp) (R:Value→Hp→Prop):evF Tryz.prog tab lv46 Tryz.f46 body46 [] [.slice a0.a a0.n a0.c] h R=f46F a0 h R:=by kernel_rfl
theorem f46F_ok {a0:Sl} {h:Hp} {R:Value→Hp→Prop} (hF:f46F a0 h R):CallTo Tryz.prog 46 #[.slice a0.a a0.n a0.c] h R :=
 callTo_of_ev (lv:=lv46) (hints:=[]) (c:=body46) (args:=[.slice a0.a a0.n a0.c]) mixed tab_ok Tryz.func46 (by kernel_rfl) (by kernel_rfl) (by rw [f46F_eq]; exact hF)
/- larder/larderlaw1.Intact -/
noncomputable def body49:Code:=(Tryz.f49.body).getD .skip
def lv49 (m:Nat):List Nat:=[]
def f49F (a0:Sl) (a1:Sl) (h:Hp) (R:Value→Hp→Prop):Prop :=
 ∃ t7:ByteArray,Spells h a0.a a0.n t7∧∃ t9:ByteArray,Spells h a1.a a1.n t9∧Cond (!((ByteArray.toList t7) == (ByteArray.toList t9))) (R (.bool false:Value) h) ((0 ≤ (IntKind.wrap .i64 ((((a0.n:Nat):Int)) + (3:Int)))∧(IntKind.wrap .i64 ((((a0.n:Nat):Int)) + (3:Int))) ≤ ((a0.c:Nat):Int))∧(0 ≤ (0:Int)∧(0:Int) ≤ (IntKind.wrap .i64 ((((a0.n:Nat):Int)) + (3:Int))))∧(0 ≤ (((a0.n:Nat):Int))∧(((a0.n:Nat):Int)) < (((IntKind.wrap .i64 ((((a0.n:Nat):Int)) + (3:Int))).toNat - (0:Int).toNat:Nat):Int))∧PtrOk (if a0.c=(0:Int).toNat then a0.a else Option.map (fun x=>x.add ((0:Int).toNat * 1)) a0.a) fun p19=>∃ t20:Int,cell h (p19.add ((((a0.n:Nat):Int)).toNat * 1))=some (.int .u8 t20)∧Cond (t20 == (165:Int)) ((0 ≤ (IntKind.wrap .i64 ((((a0.n:Nat):Int)) + (1:Int)))∧(IntKind.wrap .i64 ((((a0.n:Nat):Int)) + (1:Int))) < (((IntKind.wrap .i64 ((((a0.n:Nat):Int)) + (3:Int))).toNat - (0:Int).toNat:Nat):Int))∧PtrOk (if a0.c=(0:Int).toNat then a0.a else Option.map (fun x=>x.add ((0:Int).toNat * 1)) a0.a) fun p27=>∃ t28:Int,cell h (p27.add ((IntKind.wrap .i64 ((((a0.n:Nat):Int)) + (1:Int))).toNat * 1))=some (.int .u8 t28)∧Cond (t28 == (90:Int)) ((0 ≤ (IntKind.wrap .i64 ((((a0.n:Nat):Int)) + (2:Int)))∧(IntKind.wrap .i64 ((((a0.n:Nat):Int)) + (2:Int))) < (((IntKind.wrap .i64 ((((a0.n:Nat):Int)) + (3:Int))).toNat - (0:Int).toNat:Nat):Int))∧PtrOk (if a0.c=(0:Int).toNat then a0.a else Option.map (fun x=>x.add ((0:Int).toNat * 1)) a0.a) fun p36=>∃ t37:Int,cell h (p36.add ((IntKind.wrap .i64 ((((a0.n:Nat):Int)) + (2:Int))).toNat * 1))=some (.int .u8 t37)∧R ((.bool (t37 == (165:Int)):Value)) h) (R (.bool false:Value) h)) (R (.bool false:Value) h))
theorem f49F_eq (a0:Sl) (a1:Sl) (h:Hp) (R:Value→Hp→Prop):evF Tryz.prog tab lv49 Tryz.f49 body49 [] [.slice a0.a a0.n a0.c,.slice a1.a a1.n a1.c] h R=f49F a0 a1 h R:=by kernel_rfl
theorem f49F_ok {a0:Sl} {a1:Sl} {h:Hp} {R:Value→Hp→Prop} (hF:f49F a0 a1 h R):CallTo Tryz.prog 49 #[.slice a0.a a0.n a0.c,.slice a1.a a1.n a1.c] h R :=
 callTo_of_ev (lv:=lv49) (hints:=[]) (c:=body49) (args:=[.slice a0.a a0.n a0.c,.slice a1.a a1.n a1.c]) mixed tab_ok Tryz.func49 (by kernel_rfl) (by kernel_rfl) (by rw [f49F_eq]; exact hF)
/- larder/larderlaw1.Over -/
noncomputable def body50:Code:=(Tryz.f50.body).getD .skip
def lv50 (m:Nat):List Nat:=if m=1 then [0,2] else []
def f50I1 (J:Nat→Sl→Int→Hp→Prop) (n:Nat) (env:List Value) (h:Hp):Prop:=lenIs env 12 (DecL env 0 fun s0=>DecI .i64 env 2 fun s2=>J n s0 s2 h)
def f50L1 (J1:Nat→Sl→Int→Hp→Prop) (n1:Nat) (s0:Sl) (s2:Int) (g:Nat→Value) (h:Hp) (R:Value→Hp→Prop):Prop :=
 Cond (decide (s2 < (((s0.n:Nat):Int)))) ((0 ≤ s2∧s2 < ((s0.n:Nat):Int))∧PtrOk s0.a fun p11=>stOk h (p11.add (s2.toNat * 1))∧Let (setc h (p11.add (s2.toNat * 1)) (.int .u8 238)) fun h1=>∃ m,m < n1∧J1 m s0 (IntKind.wrap .i64 (s2 + (1:Int))) h1) (R (.tuple #[]:Value) h)
theorem f50L1_eq (J1:Nat→Sl→Int→Hp→Prop) (n1:Nat) (s0:Sl) (s2:Int) (g:Nat→Value) (h:Hp) (R:Value→Hp→Prop):(evC Tryz.prog tab lv50 (sub [1,0,0] body50)) (loopK (f50I1 J1) n1 (contAt Tryz.prog tab lv50 [1,0] body50 [] (bodyK Tryz.prog Tryz.f50 [] R))) (mkEnv 12 [(0,.slice s0.a s0.n s0.c),(2,.int .i64 s2)] g) h=f50L1 J1 n1 s0 s2 g h R:=by kernel_rfl
theorem f50I1_at (J:Nat→Sl→Int→Hp→Prop) (n:Nat) (s0:Sl) (s2:Int) (g:Nat→Value) (h:Hp):f50I1 J n (mkEnv 12 [(0,.slice s0.a s0.n s0.c),(2,.int .i64 s2)] g) h=J n s0 s2 h:=by kernel_rfl
theorem f50L1_rule  {R:Value→Hp→Prop} {s0:Sl} {s2:Int} {h0:Hp} (J:Nat→Sl→Int→Hp→Prop) (n0:Nat) (hi:J n0 s0 s2 h0)
  (hr:∀ n s0 s2 g h,J n s0 s2 h→f50L1  J n s0 s2 g h R):LoopEv (evC Tryz.prog tab lv50 (sub [1,0,0] body50)) (contAt Tryz.prog tab lv50 [1,0] body50 [] (bodyK Tryz.prog Tryz.f50 [] R)) [(0,.slice s0.a s0.n s0.c),(2,.int .i64 s2)] 12 h0:=by
 refine ⟨f50I1 J,n0,fun g=>by rw [f50I1_at]; exact hi,fun n env h hI=>?_⟩
 clear hi
 clear s0 s2
 obtain ⟨hlen,hI⟩:=Cond_true' hI
 have hlen:env.length=12:=by simpa using hlen
 obtain ⟨s0,es0,hI⟩:=DecL.out hI
 obtain ⟨s2,es2,hI⟩:=DecI.out hI
 rw [mkEnv_of (l:=[(0,.slice s0.a s0.n s0.c),(2,.int .i64 s2)]) hlen (by simp only [List.mem_cons,List.not_mem_nil,or_false,forall_eq_or_imp,forall_eq]; exact ⟨es0,es2⟩)]
 rw [f50L1_eq]
 exact hr n s0 s2 _ h hI
def f50F (a0:Sl) (h:Hp) (R:Value→Hp→Prop):Prop :=
 LoopEv (evC Tryz.prog tab lv50 (sub [1,0,0] body50)) (contAt Tryz.prog tab lv50 [1,0] body50 [] (bodyK Tryz.prog Tryz.f50 [] R)) [(0,.slice a0.a a0.n a0.c),(2,.int .i64 0)] 12 h
theorem f50F_eq (a0:Sl) (h:Hp) (R:Value→Hp→Prop):evF Tryz.prog tab lv50 Tryz.f50 body50 [] [.slice a0.a a0.n a0.c] h R=f50F a0 h R:=by kernel_rfl
theorem f50F_ok {a0:Sl} {h:Hp} {R:Value→Hp→Prop} (hF:f50F a0 h R):CallTo Tryz.prog 50 #[.slice a0.a a0.n a0.c] h R :=
 callTo_of_ev (lv:=lv50) (hints:=[]) (c:=body50) (args:=[.slice a0.a a0.n a0.c]) mixed tab_ok Tryz.func50 (by kernel_rfl) (by kernel_rfl) (by rw [f50F_eq]; exact hF)
/- larder/larderlaw1.Other -/
noncomputable def body59:Code:=(Tryz.f59.body).getD .skip
def lv59 (m:Nat):List Nat:=if m=3 then [0,3,4] else []
def f59I1 (J:Nat→Sl→Sl→Int→Hp→Prop) (n:Nat) (env:List Value) (h:Hp):Prop:=lenIs env 42 (DecL env 0 fun s0=>DecL env 3 fun s3=>DecI .i64 env 4 fun s4=>J n s0 s3 s4 h)
def f59K1  (x3:Sl) (x28:Bool) (h:Hp) (R:Value→Hp→Prop):Prop :=
 Cond x28 ((0 ≤ (IntKind.wrap .i64 ((((x3.n:Nat):Int)) - (1:Int)))∧(IntKind.wrap .i64 ((((x3.n:Nat):Int)) - (1:Int))) < ((x3.n:Nat):Int))∧PtrOk x3.a fun p37=>∃ t38:Int,cell h (p37.add ((IntKind.wrap .i64 ((((x3.n:Nat):Int)) - (1:Int))).toNat * 1))=some (.int .u8 t38)∧(0 ≤ (IntKind.wrap .i64 ((((x3.n:Nat):Int)) - (1:Int)))∧(IntKind.wrap .i64 ((((x3.n:Nat):Int)) - (1:Int))) < ((x3.n:Nat):Int))∧PtrOk x3.a fun p40=>stOk h (p40.add ((IntKind.wrap .i64 ((((x3.n:Nat):Int)) - (1:Int))).toNat * 1))∧Let (setc h (p40.add ((IntKind.wrap .i64 ((((x3.n:Nat):Int)) - (1:Int))).toNat * 1)) (.int .u8 (xorI .u8 t38 (1:Int)))) fun h3=>R (.slice x3.a x3.n x3.c:Value) h3) (R (.slice x3.a x3.n x3.c:Value) h)
def f59L1 (J1:Nat→Sl→Sl→Int→Hp→Prop) (n1:Nat) (s0:Sl) (s3:Sl) (s4:Int) (g:Nat→Value) (h:Hp) (R:Value→Hp→Prop):Prop :=
 Cond (decide (s4 ≥ (0:Int))) ((0 ≤ s4∧s4 < ((s0.n:Nat):Int))∧PtrOk s0.a fun p15=>∃ t16:Int,cell h (p15.add (s4.toNat * 1))=some (.int .u8 t16)∧Let (h.push (.cells #[.int .u8 t16] 5)) fun h1=>appSl 5 1 1 #[.int .u8 0] s3.a s3.n s3.c (some (nb h)) 1 h1 fun ra2 rn2 rc2 h2=>∃ m,m < n1∧J1 m s0 ⟨ra2,rn2,rc2⟩ (IntKind.wrap .i64 (s4 - (1:Int))) h2) (Cond (decide ((((s0.n:Nat):Int)) > (0:Int))) (∃ t24:ByteArray,Spells h s3.a s3.n t24∧∃ t26:ByteArray,Spells h s0.a s0.n t26∧f59K1  s3 ((ByteArray.toList t24) == (ByteArray.toList t26)) h R) (f59K1  s3 false h R))
theorem f59L1_eq (J1:Nat→Sl→Sl→Int→Hp→Prop) (n1:Nat) (s0:Sl) (s3:Sl) (s4:Int) (g:Nat→Value) (h:Hp) (R:Value→Hp→Prop):(evC Tryz.prog tab lv59 (sub [1,1,0,1,0,0] body59)) (loopK (f59I1 J1) n1 (contAt Tryz.prog tab lv59 [1,1,0,1,0] body59 [] (bodyK Tryz.prog Tryz.f59 [] R))) (mkEnv 42 [(0,.slice s0.a s0.n s0.c),(3,.slice s3.a s3.n s3.c),(4,.int .i64 s4)] g) h=f59L1 J1 n1 s0 s3 s4 g h R:=by kernel_rfl
theorem f59I1_at (J:Nat→Sl→Sl→Int→Hp→Prop) (n:Nat) (s0:Sl) (s3:Sl) (s4:Int) (g:Nat→Value) (h:Hp):f59I1 J n (mkEnv 42 [(0,.slice s0.a s0.n s0.c),(3,.slice s3.a s3.n s3.c),(4,.int .i64 s4)] g) h=J n s0 s3 s4 h:=by kernel_rfl
theorem f59L1_rule  {R:Value→Hp→Prop} {s0:Sl} {s3:Sl} {s4:Int} {h0:Hp} (J:Nat→Sl→Sl→Int→Hp→Prop) (n0:Nat) (hi:J n0 s0 s3 s4 h0)
  (hr:∀ n s0 s3 s4 g h,J n s0 s3 s4 h→f59L1  J n s0 s3 s4 g h R):LoopEv (evC Tryz.prog tab lv59 (sub [1,1,0,1,0,0] body59)) (contAt Tryz.prog tab lv59 [1,1,0,1,0] body59 [] (bodyK Tryz.prog Tryz.f59 [] R)) [(0,.slice s0.a s0.n s0.c),(3,.slice s3.a s3.n s3.c),(4,.int .i64 s4)] 42 h0:=by
 refine ⟨f59I1 J,n0,fun g=>by rw [f59I1_at]; exact hi,fun n env h hI=>?_⟩
 clear hi
 clear s0 s3 s4
 obtain ⟨hlen,hI⟩:=Cond_true' hI
 have hlen:env.length=42:=by simpa using hlen
 obtain ⟨s0,es0,hI⟩:=DecL.out hI
 obtain ⟨s3,es3,hI⟩:=DecL.out hI
 obtain ⟨s4,es4,hI⟩:=DecI.out hI
 rw [mkEnv_of (l:=[(0,.slice s0.a s0.n s0.c),(3,.slice s3.a s3.n s3.c),(4,.int .i64 s4)]) hlen (by simp only [List.mem_cons,List.not_mem_nil,or_false,forall_eq_or_imp,forall_eq]; exact ⟨es0,es3,es4⟩)]
 rw [f59L1_eq]
 exact hr n s0 s3 s4 _ h hI
def f59F (a0:Sl) (h:Hp) (R:Value→Hp→Prop):Prop :=
 LoopEv (evC Tryz.prog tab lv59 (sub [1,1,0,1,0,0] body59)) (contAt Tryz.prog tab lv59 [1,1,0,1,0] body59 [] (bodyK Tryz.prog Tryz.f59 [] R)) [(0,.slice a0.a a0.n a0.c),(3,.slice none 0 0),(4,.int .i64 (IntKind.wrap .i64 ((((a0.n:Nat):Int)) - (1:Int))))] 42 h
theorem f59F_eq (a0:Sl) (h:Hp) (R:Value→Hp→Prop):evF Tryz.prog tab lv59 Tryz.f59 body59 [] [.slice a0.a a0.n a0.c] h R=f59F a0 h R:=by kernel_rfl
theorem f59F_ok {a0:Sl} {h:Hp} {R:Value→Hp→Prop} (hF:f59F a0 h R):CallTo Tryz.prog 59 #[.slice a0.a a0.n a0.c] h R :=
 callTo_of_ev (lv:=lv59) (hints:=[]) (c:=body59) (args:=[.slice a0.a a0.n a0.c]) mixed tab_ok Tryz.func59 (by kernel_rfl) (by kernel_rfl) (by rw [f59F_eq]; exact hF)
/- larder/larderlaw1.Into -/
noncomputable def body60:Code:=(Tryz.f60.body).getD .skip
def lv60 (m:Nat):List Nat:=if m=1 then [0,1,4] else []
def f60I1 (J:Nat→Sl→Sl→Int→Hp→Prop) (n:Nat) (env:List Value) (h:Hp):Prop:=lenIs env 18 (DecL env 0 fun s0=>DecL env 1 fun s1=>DecI .i64 env 4 fun s4=>J n s0 s1 s4 h)
def f60L1 (J1:Nat→Sl→Sl→Int→Hp→Prop) (n1:Nat) (s0:Sl) (s1:Sl) (s4:Int) (g:Nat→Value) (h:Hp) (R:Value→Hp→Prop):Prop :=
 Cond (decide (s4 < (((s0.n:Nat):Int)))) ((0 ≤ s4∧s4 < ((s1.n:Nat):Int))∧PtrOk s1.a fun p15=>∃ t16:Int,cell h (p15.add (s4.toNat * 1))=some (.int .u8 t16)∧(0 ≤ s4∧s4 < ((s0.n:Nat):Int))∧PtrOk s0.a fun p17=>stOk h (p17.add (s4.toNat * 1))∧Let (setc h (p17.add (s4.toNat * 1)) (.int .u8 t16)) fun h1=>∃ m,m < n1∧J1 m s0 s1 (IntKind.wrap .i64 (s4 + (1:Int))) h1) (R (.tuple #[]:Value) h)
theorem f60L1_eq (J1:Nat→Sl→Sl→Int→Hp→Prop) (n1:Nat) (s0:Sl) (s1:Sl) (s4:Int) (g:Nat→Value) (h:Hp) (R:Value→Hp→Prop):(evC Tryz.prog tab lv60 (sub [1,0,0] body60)) (loopK (f60I1 J1) n1 (contAt Tryz.prog tab lv60 [1,0] body60 [] (bodyK Tryz.prog Tryz.f60 [] R))) (mkEnv 18 [(0,.slice s0.a s0.n s0.c),(1,.slice s1.a s1.n s1.c),(4,.int .i64 s4)] g) h=f60L1 J1 n1 s0 s1 s4 g h R:=by kernel_rfl
theorem f60I1_at (J:Nat→Sl→Sl→Int→Hp→Prop) (n:Nat) (s0:Sl) (s1:Sl) (s4:Int) (g:Nat→Value) (h:Hp):f60I1 J n (mkEnv 18 [(0,.slice s0.a s0.n s0.c),(1,.slice s1.a s1.n s1.c),(4,.int .i64 s4)] g) h=J n s0 s1 s4 h:=by kernel_rfl
theorem f60L1_rule  {R:Value→Hp→Prop} {s0:Sl} {s1:Sl} {s4:Int} {h0:Hp} (J:Nat→Sl→Sl→Int→Hp→Prop) (n0:Nat) (hi:J n0 s0 s1 s4 h0)
  (hr:∀ n s0 s1 s4 g h,J n s0 s1 s4 h→f60L1  J n s0 s1 s4 g h R):LoopEv (evC Tryz.prog tab lv60 (sub [1,0,0] body60)) (contAt Tryz.prog tab lv60 [1,0] body60 [] (bodyK Tryz.prog Tryz.f60 [] R)) [(0,.slice s0.a s0.n s0.c),(1,.slice s1.a s1.n s1.c),(4,.int .i64 s4)] 18 h0:=by
 refine ⟨f60I1 J,n0,fun g=>by rw [f60I1_at]; exact hi,fun n env h hI=>?_⟩
 clear hi
 clear s0 s1 s4
 obtain ⟨hlen,hI⟩:=Cond_true' hI
 have hlen:env.length=18:=by simpa using hlen
 obtain ⟨s0,es0,hI⟩:=DecL.out hI
 obtain ⟨s1,es1,hI⟩:=DecL.out hI
 obtain ⟨s4,es4,hI⟩:=DecI.out hI
 rw [mkEnv_of (l:=[(0,.slice s0.a s0.n s0.c),(1,.slice s1.a s1.n s1.c),(4,.int .i64 s4)]) hlen (by simp only [List.mem_cons,List.not_mem_nil,or_false,forall_eq_or_imp,forall_eq]; exact ⟨es0,es1,es4⟩)]
 rw [f60L1_eq]
 exact hr n s0 s1 s4 _ h hI
def f60F (a0:Sl) (a1:Sl) (h:Hp) (R:Value→Hp→Prop):Prop :=
 LoopEv (evC Tryz.prog tab lv60 (sub [1,0,0] body60)) (contAt Tryz.prog tab lv60 [1,0] body60 [] (bodyK Tryz.prog Tryz.f60 [] R)) [(0,.slice a0.a a0.n a0.c),(1,.slice a1.a a1.n a1.c),(4,.int .i64 0)] 18 h
theorem f60F_eq (a0:Sl) (a1:Sl) (h:Hp) (R:Value→Hp→Prop):evF Tryz.prog tab lv60 Tryz.f60 body60 [] [.slice a0.a a0.n a0.c,.slice a1.a a1.n a1.c] h R=f60F a0 a1 h R:=by kernel_rfl
theorem f60F_ok {a0:Sl} {a1:Sl} {h:Hp} {R:Value→Hp→Prop} (hF:f60F a0 a1 h R):CallTo Tryz.prog 60 #[.slice a0.a a0.n a0.c,.slice a1.a a1.n a1.c] h R :=
 callTo_of_ev (lv:=lv60) (hints:=[]) (c:=body60) (args:=[.slice a0.a a0.n a0.c,.slice a1.a a1.n a1.c]) mixed tab_ok Tryz.func60 (by kernel_rfl) (by kernel_rfl) (by rw [f60F_eq]; exact hF)
/- (*larder/larderlaw1.Book).plain -/
noncomputable def body74:Code:=(Tryz.f74.body).getD .skip
def lv74 (m:Nat):List Nat:=if m=2 then [0,3] else if m=5 then [0,3,4] else if m=10 then [0,5] else if m=13 then [0,5,6] else []
def f74I1 (J:Nat→Option Addr→Int→Hp→Prop) (n:Nat) (env:List Value) (h:Hp):Prop:=lenIs env 88 (DecP env 0 fun s0=>DecI .i64 env 3 fun s3=>J n s0 s3 h)
def f74I2 (J:Nat→Option Addr→Int→Int→Hp→Prop) (n:Nat) (env:List Value) (h:Hp):Prop:=lenIs env 88 (DecP env 0 fun s0=>DecI .i64 env 3 fun s3=>DecI .i64 env 4 fun s4=>J n s0 s3 s4 h)
def f74I3 (J:Nat→Option Addr→Int→Hp→Prop) (n:Nat) (env:List Value) (h:Hp):Prop:=lenIs env 88 (DecP env 0 fun s0=>DecI .i64 env 5 fun s5=>J n s0 s5 h)
def f74L1 (J1:Nat→Option Addr→Int→Hp→Prop) (n1:Nat) (s0:Option Addr) (s3:Int) (g:Nat→Value) (h:Hp) (R:Value→Hp→Prop):Prop :=
 PtrOk s0 fun p9=>∃ t11:Sl,cell h p9=some (.slice t11.a t11.n t11.c)∧Cond (decide (s3 < (((t11.n:Nat):Int)))) (LoopEv (evC Tryz.prog tab lv74 (sub [1,0,1,0,0,1,0,0,1,0,0] body74)) (contAt Tryz.prog tab lv74 [1,0,1,0,0,1,0,0,1,0] body74 [loopK (f74I1 J1) n1] (bodyK Tryz.prog Tryz.f74 [] R)) [(0,.pointer s0),(3,.int .i64 s3),(4,.int .i64 0)] 88 h) (LoopEv (evC Tryz.prog tab lv74 (sub [1,1,0,1,0,0] body74)) (contAt Tryz.prog tab lv74 [1,1,0,1,0] body74 [] (bodyK Tryz.prog Tryz.f74 [] R)) [(0,.pointer s0),(5,.int .i64 0)] 88 h)
theorem f74L1_eq (J1:Nat→Option Addr→Int→Hp→Prop) (n1:Nat) (s0:Option Addr) (s3:Int) (g:Nat→Value) (h:Hp) (R:Value→Hp→Prop):(evC Tryz.prog tab lv74 (sub [1,0,1,0,0] body74)) (loopK (f74I1 J1) n1 (contAt Tryz.prog tab lv74 [1,0,1,0] body74 [] (bodyK Tryz.prog Tryz.f74 [] R))) (mkEnv 88 [(0,.pointer s0),(3,.int .i64 s3)] g) h=f74L1 J1 n1 s0 s3 g h R:=by kernel_rfl
theorem f74I1_at (J:Nat→Option Addr→Int→Hp→Prop) (n:Nat) (s0:Option Addr) (s3:Int) (g:Nat→Value) (h:Hp):f74I1 J n (mkEnv 88 [(0,.pointer s0),(3,.int .i64 s3)] g) h=J n s0 s3 h:=by kernel_rfl
theorem f74L1_rule  {R:Value→Hp→Prop} {s0:Option Addr} {s3:Int} {h0:Hp} (J:Nat→Option Addr→Int→Hp→Prop) (n0:Nat) (hi:J n0 s0 s3 h0)
  (hr:∀ n s0 s3 g h,J n s0 s3 h→f74L1  J n s0 s3 g h R):LoopEv (evC Tryz.prog tab lv74 (sub [1,0,1,0,0] body74)) (contAt Tryz.prog tab lv74 [1,0,1,0] body74 [] (bodyK Tryz.prog Tryz.f74 [] R)) [(0,.pointer s0),(3,.int .i64 s3)] 88 h0:=by
 refine ⟨f74I1 J,n0,fun g=>by rw [f74I1_at]; exact hi,fun n env h hI=>?_⟩
 clear hi
 clear s0 s3
 obtain ⟨hlen,hI⟩:=Cond_true' hI
 have hlen:env.length=88:=by simpa using hlen
 obtain ⟨s0,es0,hI⟩:=DecP.out hI
 obtain ⟨s3,es3,hI⟩:=DecI.out hI
 rw [mkEnv_of (l:=[(0,.pointer s0),(3,.int .i64 s3)]) hlen (by simp only [List.mem_cons,List.not_mem_nil,or_false,forall_eq_or_imp,forall_eq]; exact ⟨es0,es3⟩)]
 rw [f74L1_eq]
 exact hr n s0 s3 _ h hI
def f74L2 (J1:Nat→Option Addr→Int→Hp→Prop) (n1:Nat) (J2:Nat→Option Addr→Int→Int→Hp→Prop) (n2:Nat) (s0:Option Addr) (s3:Int) (s4:Int) (g:Nat→Value) (h:Hp) (R:Value→Hp→Prop):Prop :=
 PtrOk s0 fun p18=>∃ t20:Sl,cell h p18=some (.slice t20.a t20.n t20.c)∧(0 ≤ s3∧s3 < ((t20.n:Nat):Int))∧PtrOk t20.a fun p22=>∃ t23:Sl,cell h (p22.add (s3.toNat * 1))=some (.slice t23.a t23.n t23.c)∧Cond (decide (s4 < (((t23.n:Nat):Int)))) (PtrOk s0 fun p29=>∃ t31:Sl,cell h p29=some (.slice t31.a t31.n t31.c)∧(0 ≤ s3∧s3 < ((t31.n:Nat):Int))∧PtrOk t31.a fun p33=>∃ t34:Sl,cell h (p33.add (s3.toNat * 1))=some (.slice t34.a t34.n t34.c)∧(0 ≤ s4∧s4 < ((t34.n:Nat):Int))∧PtrOk t34.a fun p36=>∃ t37:Int,cell h (p36.add (s4.toNat * 1))=some (.int .u8 t37)∧PtrOk s0 fun p39=>∃ t41:Sl,cell h (p39.add 1)=some (.slice t41.a t41.n t41.c)∧(0 ≤ s3∧s3 < ((t41.n:Nat):Int))∧PtrOk t41.a fun p43=>∃ t44:Int,cell h (p43.add (s3.toNat * 1))=some (.int .i64 t44)∧∃ t46:Int,CallTo Tryz.prog 87 #[.int .i64 t44,.int .i64 s4] h (fun v h'=>v=(.int .u8 t46)∧h'=h)∧Cond (t37 != t46) (R (.bool false:Value) h) (∃ m,m < n2∧J2 m s0 s3 (IntKind.wrap .i64 (s4 + (1:Int))) h)) (∃ m,m < n1∧J1 m s0 (IntKind.wrap .i64 (s3 + (1:Int))) h)
theorem f74L2_eq (J1:Nat→Option Addr→Int→Hp→Prop) (n1:Nat) (J2:Nat→Option Addr→Int→Int→Hp→Prop) (n2:Nat) (s0:Option Addr) (s3:Int) (s4:Int) (g:Nat→Value) (h:Hp) (R:Value→Hp→Prop):(evC Tryz.prog tab lv74 (sub [1,0,1,0,0,1,0,0,1,0,0] body74)) (loopK (f74I2 J2) n2 (contAt Tryz.prog tab lv74 [1,0,1,0,0,1,0,0,1,0] body74 [loopK (f74I1 J1) n1] (bodyK Tryz.prog Tryz.f74 [] R))) (mkEnv 88 [(0,.pointer s0),(3,.int .i64 s3),(4,.int .i64 s4)] g) h=f74L2 J1 n1 J2 n2 s0 s3 s4 g h R:=by kernel_rfl
theorem f74I2_at (J:Nat→Option Addr→Int→Int→Hp→Prop) (n:Nat) (s0:Option Addr) (s3:Int) (s4:Int) (g:Nat→Value) (h:Hp):f74I2 J n (mkEnv 88 [(0,.pointer s0),(3,.int .i64 s3),(4,.int .i64 s4)] g) h=J n s0 s3 s4 h:=by kernel_rfl
theorem f74L2_rule {J1:Nat→Option Addr→Int→Hp→Prop} {n1:Nat} {R:Value→Hp→Prop} {s0:Option Addr} {s3:Int} {s4:Int} {h0:Hp} (J:Nat→Option Addr→Int→Int→Hp→Prop) (n0:Nat) (hi:J n0 s0 s3 s4 h0)
  (hr:∀ n s0 s3 s4 g h,J n s0 s3 s4 h→f74L2 J1 n1 J n s0 s3 s4 g h R):LoopEv (evC Tryz.prog tab lv74 (sub [1,0,1,0,0,1,0,0,1,0,0] body74)) (contAt Tryz.prog tab lv74 [1,0,1,0,0,1,0,0,1,0] body74 [loopK (f74I1 J1) n1] (bodyK Tryz.prog Tryz.f74 [] R)) [(0,.pointer s0),(3,.int .i64 s3),(4,.int .i64 s4)] 88 h0:=by
 refine ⟨f74I2 J,n0,fun g=>by rw [f74I2_at]; exact hi,fun n env h hI=>?_⟩
 clear hi
 clear s0 s3 s4
 obtain ⟨hlen,hI⟩:=Cond_true' hI
 have hlen:env.length=88:=by simpa using hlen
 obtain ⟨s0,es0,hI⟩:=DecP.out hI
 obtain ⟨s3,es3,hI⟩:=DecI.out hI
 obtain ⟨s4,es4,hI⟩:=DecI.out hI
 rw [mkEnv_of (l:=[(0,.pointer s0),(3,.int .i64 s3),(4,.int .i64 s4)]) hlen (by simp only [List.mem_cons,List.not_mem_nil,or_false,forall_eq_or_imp,forall_eq]; exact ⟨es0,es3,es4⟩)]
 rw [f74L2_eq]
 exact hr n s0 s3 s4 _ h hI
def f74L3 (J3:Nat→Option Addr→Int→Hp→Prop) (n3:Nat) (s0:Option Addr) (s5:Int) (g:Nat→Value) (h:Hp) (R:Value→Hp→Prop):Prop :=
 PtrOk s0 fun p50=>∃ t52:Sl,cell h (p50.add 3)=some (.slice t52.a t52.n t52.c)∧Cond (decide (s5 < (((t52.n:Nat):Int)))) (LoopEv (evC Tryz.prog tab lv74 (sub [1,1,0,1,0,0,1,0,0,1,0,0] body74)) (contAt Tryz.prog tab lv74 [1,1,0,1,0,0,1,0,0,1,0] body74 [loopK (f74I3 J3) n3] (bodyK Tryz.prog Tryz.f74 [] R)) [(0,.pointer s0),(5,.int .i64 s5),(6,.int .i64 0)] 88 h) (R (.bool true:Value) h)
theorem f74L3_eq (J3:Nat→Option Addr→Int→Hp→Prop) (n3:Nat) (s0:Option Addr) (s5:Int) (g:Nat→Value) (h:Hp) (R:Value→Hp→Prop):(evC Tryz.prog tab lv74 (sub [1,1,0,1,0,0] body74)) (loopK (f74I3 J3) n3 (contAt Tryz.prog tab lv74 [1,1,0,1,0] body74 [] (bodyK Tryz.prog Tryz.f74 [] R))) (mkEnv 88 [(0,.pointer s0),(5,.int .i64 s5)] g) h=f74L3 J3 n3 s0 s5 g h R:=by kernel_rfl
theorem f74I3_at (J:Nat→Option Addr→Int→Hp→Prop) (n:Nat) (s0:Option Addr) (s5:Int) (g:Nat→Value) (h:Hp):f74I3 J n (mkEnv 88 [(0,.pointer s0),(5,.int .i64 s5)] g) h=J n s0 s5 h:=by kernel_rfl
theorem f74L3_rule  {R:Value→Hp→Prop} {s0:Option Addr} {s5:Int} {h0:Hp} (J:Nat→Option Addr→Int→Hp→Prop) (n0:Nat) (hi:J n0 s0 s5 h0)
  (hr:∀ n s0 s5 g h,J n s0 s5 h→f74L3  J n s0 s5 g h R):LoopEv (evC Tryz.prog tab lv74 (sub [1,1,0,1,0,0] body74)) (contAt Tryz.prog tab lv74 [1,1,0,1,0] body74 [] (bodyK Tryz.prog Tryz.f74 [] R)) [(0,.pointer s0),(5,.int .i64 s5)] 88 h0:=by
 refine ⟨f74I3 J,n0,fun g=>by rw [f74I3_at]; exact hi,fun n env h hI=>?_⟩
 clear hi
 clear s0 s5
 obtain ⟨hlen,hI⟩:=Cond_true' hI
 have hlen:env.length=88:=by simpa using hlen
 obtain ⟨s0,es0,hI⟩:=DecP.out hI
 obtain ⟨s5,es5,hI⟩:=DecI.out hI
 rw [mkEnv_of (l:=[(0,.pointer s0),(5,.int .i64 s5)]) hlen (by simp only [List.mem_cons,List.not_mem_nil,or_false,forall_eq_or_imp,forall_eq]; exact ⟨es0,es5⟩)]
 rw [f74L3_eq]
 exact hr n s0 s5 _ h hI
def f74F (a0:Option Addr) (h:Hp) (R:Value→Hp→Prop):Prop :=
 LoopEv (evC Tryz.prog tab lv74 (sub [1,0,1,0,0] body74)) (contAt Tryz.prog tab lv74 [1,0,1,0] body74 [] (bodyK Tryz.prog Tryz.f74 [] R)) [(0,.pointer a0),(3,.int .i64 0)] 88 h
theorem f74F_eq (a0:Option Addr) (h:Hp) (R:Value→Hp→Prop):evF Tryz.prog tab lv74 Tryz.f74 body74 [] [.pointer a0] h R=f74F a0 h R:=by kernel_rfl
theorem f74F_ok {a0:Option Addr} {h:Hp} {R:Value→Hp→Prop} (hF:f74F a0 h R):CallTo Tryz.prog 74 #[.pointer a0] h R :=
 callTo_of_ev (lv:=lv74) (hints:=[]) (c:=body74) (args:=[.pointer a0]) mixed tab_ok Tryz.func74 (by kernel_rfl) (by kernel_rfl) (by rw [f74F_eq]; exact hF)
/- (*larder/larderlaw1.Book).kept -/
noncomputable def body75:Code:=(Tryz.f75.body).getD .skip
def lv75 (m:Nat):List Nat:=if m=2 then [0,3] else if m=5 then [0,3,4] else if m=10 then [0,5] else if m=14 then [0,5,6,7] else if m=20 then [0,9] else if m=24 then [0,9,10,11] else if m=30 then [0,13] else if m=34 then [0,13,14,15] else []
def f75I1 (J:Nat→Option Addr→Int→Hp→Prop) (n:Nat) (env:List Value) (h:Hp):Prop:=lenIs env 217 (DecP env 0 fun s0=>DecI .i64 env 3 fun s3=>J n s0 s3 h)
def f75I3 (J:Nat→Option Addr→Int→Hp→Prop) (n:Nat) (env:List Value) (h:Hp):Prop:=lenIs env 217 (DecP env 0 fun s0=>DecI .i64 env 5 fun s5=>J n s0 s5 h)
def f75I5 (J:Nat→Option Addr→Int→Hp→Prop) (n:Nat) (env:List Value) (h:Hp):Prop:=lenIs env 217 (DecP env 0 fun s0=>DecI .i64 env 9 fun s9=>J n s0 s9 h)
def f75I7 (J:Nat→Option Addr→Int→Hp→Prop) (n:Nat) (env:List Value) (h:Hp):Prop:=lenIs env 217 (DecP env 0 fun s0=>DecI .i64 env 13 fun s13=>J n s0 s13 h)
def f75L1 (J1:Nat→Option Addr→Int→Hp→Prop) (n1:Nat) (s0:Option Addr) (s3:Int) (g:Nat→Value) (h:Hp) (R:Value→Hp→Prop):Prop :=
 PtrOk s0 fun p19=>∃ t21:Sl,cell h (p19.add 6)=some (.slice t21.a t21.n t21.c)∧Cond (decide (s3 < (((t21.n:Nat):Int)))) (LoopEv (evC Tryz.prog tab lv75 (sub [1,0,1,0,0,1,0,0,1,0,0] body75)) (contAt Tryz.prog tab lv75 [1,0,1,0,0,1,0,0,1,0] body75 [loopK (f75I1 J1) n1] (bodyK Tryz.prog Tryz.f75 [] R)) [(0,.pointer s0),(3,.int .i64 s3),(4,.int .i64 0)] 217 h) (LoopEv (evC Tryz.prog tab lv75 (sub [1,1,0,1,0,0] body75)) (contAt Tryz.prog tab lv75 [1,1,0,1,0] body75 [] (bodyK Tryz.prog Tryz.f75 [] R)) [(0,.pointer s0),(5,.int .i64 0)] 217 h)
theorem f75L1_eq (J1:Nat→Option Addr→Int→Hp→Prop) (n1:Nat) (s0:Option Addr) (s3:Int) (g:Nat→Value) (h:Hp) (R:Value→Hp→Prop):(evC Tryz.prog tab lv75 (sub [1,0,1,0,0] body75)) (loopK (f75I1 J1) n1 (contAt Tryz.prog tab lv75 [1,0,1,0] body75 [] (bodyK Tryz.prog Tryz.f75 [] R))) (mkEnv 217 [(0,.pointer s0),(3,.int .i64 s3)] g) h=f75L1 J1 n1 s0 s3 g h R:=by kernel_rfl
theorem f75I1_at (J:Nat→Option Addr→Int→Hp→Prop) (n:Nat) (s0:Option Addr) (s3:Int) (g:Nat→Value) (h:Hp):f75I1 J n (mkEnv 217 [(0,.pointer s0),(3,.int .i64 s3)] g) h=J n s0 s3 h:=by kernel_rfl
theorem f75L1_rule  {R:Value→Hp→Prop} {s0:Option Addr} {s3:Int} {h0:Hp} (J:Nat→Option Addr→Int→Hp→Prop) (n0:Nat) (hi:J n0 s0 s3 h0)
  (hr:∀ n s0 s3 g h,J n s0 s3 h→f75L1  J n s0 s3 g h R):LoopEv (evC Tryz.prog tab lv75 (sub [1,0,1,0,0] body75)) (contAt Tryz.prog tab lv75 [1,0,1,0] body75 [] (bodyK Tryz.prog Tryz.f75 [] R)) [(0,.pointer s0),(3,.int .i64 s3)] 217 h0:=by
 refine ⟨f75I1 J,n0,fun g=>by rw [f75I1_at]; exact hi,fun n env h hI=>?_⟩
 clear hi
 clear s0 s3
 obtain ⟨hlen,hI⟩:=Cond_true' hI
 have hlen:env.length=217:=by simpa using hlen
 obtain ⟨s0,es0,hI⟩:=DecP.out hI
 obtain ⟨s3,es3,hI⟩:=DecI.out hI
 rw [mkEnv_of (l:=[(0,.pointer s0),(3,.int .i64 s3)]) hlen (by simp only [List.mem_cons,List.not_mem_nil,or_false,forall_eq_or_imp,forall_eq]; exact ⟨es0,es3⟩)]
 rw [f75L1_eq]
 exact hr n s0 s3 _ h hI
def f75L3 (J3:Nat→Option Addr→Int→Hp→Prop) (n3:Nat) (s0:Option Addr) (s5:Int) (g:Nat→Value) (h:Hp) (R:Value→Hp→Prop):Prop :=
 PtrOk s0 fun p59=>∃ t61:Sl,cell h (p59.add 9)=some (.slice t61.a t61.n t61.c)∧Cond (decide (s5 < (((t61.n:Nat):Int)))) (PtrOk s0 fun p67=>∃ t69:Sl,cell h (p67.add 10)=some (.slice t69.a t69.n t69.c)∧(0 ≤ s5∧s5 < ((t69.n:Nat):Int))∧PtrOk t69.a fun p71=>∃ t72:Int,cell h (p71.add (s5.toNat * 1))=some (.int .i64 t72)∧LoopEv (evC Tryz.prog tab lv75 (sub [1,1,0,1,0,0,1,0,0,1,1,0,0] body75)) (contAt Tryz.prog tab lv75 [1,1,0,1,0,0,1,0,0,1,1,0] body75 [loopK (f75I3 J3) n3] (bodyK Tryz.prog Tryz.f75 [] R)) [(0,.pointer s0),(5,.int .i64 s5),(6,.int .i64 t72),(7,.int .i64 0)] 217 h) (LoopEv (evC Tryz.prog tab lv75 (sub [1,1,1,0,1,0,0] body75)) (contAt Tryz.prog tab lv75 [1,1,1,0,1,0] body75 [] (bodyK Tryz.prog Tryz.f75 [] R)) [(0,.pointer s0),(9,.int .i64 0)] 217 h)
theorem f75L3_eq (J3:Nat→Option Addr→Int→Hp→Prop) (n3:Nat) (s0:Option Addr) (s5:Int) (g:Nat→Value) (h:Hp) (R:Value→Hp→Prop):(evC Tryz.prog tab lv75 (sub [1,1,0,1,0,0] body75)) (loopK (f75I3 J3) n3 (contAt Tryz.prog tab lv75 [1,1,0,1,0] body75 [] (bodyK Tryz.prog Tryz.f75 [] R))) (mkEnv 217 [(0,.pointer s0),(5,.int .i64 s5)] g) h=f75L3 J3 n3 s0 s5 g h R:=by kernel_rfl
theorem f75I3_at (J:Nat→Option Addr→Int→Hp→Prop) (n:Nat) (s0:Option Addr) (s5:Int) (g:Nat→Value) (h:Hp):f75I3 J n (mkEnv 217 [(0,.pointer s0),(5,.int .i64 s5)] g) h=J n s0 s5 h:=by kernel_rfl
theorem f75L3_rule  {R:Value→Hp→Prop} {s0:Option Addr} {s5:Int} {h0:Hp} (J:Nat→Option Addr→Int→Hp→Prop) (n0:Nat) (hi:J n0 s0 s5 h0)
  (hr:∀ n s0 s5 g h,J n s0 s5 h→f75L3  J n s0 s5 g h R):LoopEv (evC Tryz.prog tab lv75 (sub [1,1,0,1,0,0] body75)) (contAt Tryz.prog tab lv75 [1,1,0,1,0] body75 [] (bodyK Tryz.prog Tryz.f75 [] R)) [(0,.pointer s0),(5,.int .i64 s5)] 217 h0:=by
 refine ⟨f75I3 J,n0,fun g=>by rw [f75I3_at]; exact hi,fun n env h hI=>?_⟩
 clear hi
 clear s0 s5
 obtain ⟨hlen,hI⟩:=Cond_true' hI
 have hlen:env.length=217:=by simpa using hlen
 obtain ⟨s0,es0,hI⟩:=DecP.out hI
 obtain ⟨s5,es5,hI⟩:=DecI.out hI
 rw [mkEnv_of (l:=[(0,.pointer s0),(5,.int .i64 s5)]) hlen (by simp only [List.mem_cons,List.not_mem_nil,or_false,forall_eq_or_imp,forall_eq]; exact ⟨es0,es5⟩)]
 rw [f75L3_eq]
 exact hr n s0 s5 _ h hI
def f75L5 (J5:Nat→Option Addr→Int→Hp→Prop) (n5:Nat) (s0:Option Addr) (s9:Int) (g:Nat→Value) (h:Hp) (R:Value→Hp→Prop):Prop :=
 PtrOk s0 fun p109=>∃ t111:Sl,cell h (p109.add 12)=some (.slice t111.a t111.n t111.c)∧Cond (decide (s9 < (((t111.n:Nat):Int)))) (PtrOk s0 fun p117=>∃ t119:Sl,cell h (p117.add 13)=some (.slice t119.a t119.n t119.c)∧(0 ≤ s9∧s9 < ((t119.n:Nat):Int))∧PtrOk t119.a fun p121=>∃ t122:Int,cell h (p121.add (s9.toNat * 1))=some (.int .i64 t122)∧LoopEv (evC Tryz.prog tab lv75 (sub [1,1,1,0,1,0,0,1,0,0,1,1,0,0] body75)) (contAt Tryz.prog tab lv75 [1,1,1,0,1,0,0,1,0,0,1,1,0] body75 [loopK (f75I5 J5) n5] (bodyK Tryz.prog Tryz.f75 [] R)) [(0,.pointer s0),(9,.int .i64 s9),(10,.int .i64 t122),(11,.int .i64 0)] 217 h) (LoopEv (evC Tryz.prog tab lv75 (sub [1,1,1,1,0,1,0,0] body75)) (contAt Tryz.prog tab lv75 [1,1,1,1,0,1,0] body75 [] (bodyK Tryz.prog Tryz.f75 [] R)) [(0,.pointer s0),(13,.int .i64 0)] 217 h)
theorem f75L5_eq (J5:Nat→Option Addr→Int→Hp→Prop) (n5:Nat) (s0:Option Addr) (s9:Int) (g:Nat→Value) (h:Hp) (R:Value→Hp→Prop):(evC Tryz.prog tab lv75 (sub [1,1,1,0,1,0,0] body75)) (loopK (f75I5 J5) n5 (contAt Tryz.prog tab lv75 [1,1,1,0,1,0] body75 [] (bodyK Tryz.prog Tryz.f75 [] R))) (mkEnv 217 [(0,.pointer s0),(9,.int .i64 s9)] g) h=f75L5 J5 n5 s0 s9 g h R:=by kernel_rfl
theorem f75I5_at (J:Nat→Option Addr→Int→Hp→Prop) (n:Nat) (s0:Option Addr) (s9:Int) (g:Nat→Value) (h:Hp):f75I5 J n (mkEnv 217 [(0,.pointer s0),(9,.int .i64 s9)] g) h=J n s0 s9 h:=by kernel_rfl
theorem f75L5_rule  {R:Value→Hp→Prop} {s0:Option Addr} {s9:Int} {h0:Hp} (J:Nat→Option Addr→Int→Hp→Prop) (n0:Nat) (hi:J n0 s0 s9 h0)
  (hr:∀ n s0 s9 g h,J n s0 s9 h→f75L5  J n s0 s9 g h R):LoopEv (evC Tryz.prog tab lv75 (sub [1,1,1,0,1,0,0] body75)) (contAt Tryz.prog tab lv75 [1,1,1,0,1,0] body75 [] (bodyK Tryz.prog Tryz.f75 [] R)) [(0,.pointer s0),(9,.int .i64 s9)] 217 h0:=by
 refine ⟨f75I5 J,n0,fun g=>by rw [f75I5_at]; exact hi,fun n env h hI=>?_⟩
 clear hi
 clear s0 s9
 obtain ⟨hlen,hI⟩:=Cond_true' hI
 have hlen:env.length=217:=by simpa using hlen
 obtain ⟨s0,es0,hI⟩:=DecP.out hI
 obtain ⟨s9,es9,hI⟩:=DecI.out hI
 rw [mkEnv_of (l:=[(0,.pointer s0),(9,.int .i64 s9)]) hlen (by simp only [List.mem_cons,List.not_mem_nil,or_false,forall_eq_or_imp,forall_eq]; exact ⟨es0,es9⟩)]
 rw [f75L5_eq]
 exact hr n s0 s9 _ h hI
def f75L7 (J7:Nat→Option Addr→Int→Hp→Prop) (n7:Nat) (s0:Option Addr) (s13:Int) (g:Nat→Value) (h:Hp) (R:Value→Hp→Prop):Prop :=
 PtrOk s0 fun p158=>∃ t160:Sl,cell h (p158.add 15)=some (.slice t160.a t160.n t160.c)∧Cond (decide (s13 < (((t160.n:Nat):Int)))) (PtrOk s0 fun p166=>∃ t168:Sl,cell h (p166.add 16)=some (.slice t168.a t168.n t168.c)∧(0 ≤ s13∧s13 < ((t168.n:Nat):Int))∧PtrOk t168.a fun p170=>∃ t171:Int,cell h (p170.add (s13.toNat * 1))=some (.int .i64 t171)∧LoopEv (evC Tryz.prog tab lv75 (sub [1,1,1,1,0,1,0,0,1,0,0,1,1,0,0] body75)) (contAt Tryz.prog tab lv75 [1,1,1,1,0,1,0,0,1,0,0,1,1,0] body75 [loopK (f75I7 J7) n7] (bodyK Tryz.prog Tryz.f75 [] R)) [(0,.pointer s0),(13,.int .i64 s13),(14,.int .i64 t171),(15,.int .i64 0)] 217 h) (R (.bool true:Value) h)
theorem f75L7_eq (J7:Nat→Option Addr→Int→Hp→Prop) (n7:Nat) (s0:Option Addr) (s13:Int) (g:Nat→Value) (h:Hp) (R:Value→Hp→Prop):(evC Tryz.prog tab lv75 (sub [1,1,1,1,0,1,0,0] body75)) (loopK (f75I7 J7) n7 (contAt Tryz.prog tab lv75 [1,1,1,1,0,1,0] body75 [] (bodyK Tryz.prog Tryz.f75 [] R))) (mkEnv 217 [(0,.pointer s0),(13,.int .i64 s13)] g) h=f75L7 J7 n7 s0 s13 g h R:=by kernel_rfl
theorem f75I7_at (J:Nat→Option Addr→Int→Hp→Prop) (n:Nat) (s0:Option Addr) (s13:Int) (g:Nat→Value) (h:Hp):f75I7 J n (mkEnv 217 [(0,.pointer s0),(13,.int .i64 s13)] g) h=J n s0 s13 h:=by kernel_rfl
theorem f75L7_rule  {R:Value→Hp→Prop} {s0:Option Addr} {s13:Int} {h0:Hp} (J:Nat→Option Addr→Int→Hp→Prop) (n0:Nat) (hi:J n0 s0 s13 h0)
  (hr:∀ n s0 s13 g h,J n s0 s13 h→f75L7  J n s0 s13 g h R):LoopEv (evC Tryz.prog tab lv75 (sub [1,1,1,1,0,1,0,0] body75)) (contAt Tryz.prog tab lv75 [1,1,1,1,0,1,0] body75 [] (bodyK Tryz.prog Tryz.f75 [] R)) [(0,.pointer s0),(13,.int .i64 s13)] 217 h0:=by
 refine ⟨f75I7 J,n0,fun g=>by rw [f75I7_at]; exact hi,fun n env h hI=>?_⟩
 clear hi
 clear s0 s13
 obtain ⟨hlen,hI⟩:=Cond_true' hI
 have hlen:env.length=217:=by simpa using hlen
 obtain ⟨s0,es0,hI⟩:=DecP.out hI
 obtain ⟨s13,es13,hI⟩:=DecI.out hI
 rw [mkEnv_of (l:=[(0,.pointer s0),(13,.int .i64 s13)]) hlen (by simp only [List.mem_cons,List.not_mem_nil,or_false,forall_eq_or_imp,forall_eq]; exact ⟨es0,es13⟩)]
 rw [f75L7_eq]
 exact hr n s0 s13 _ h hI
def f75F (a0:Option Addr) (h:Hp) (R:Value→Hp→Prop):Prop :=
 LoopEv (evC Tryz.prog tab lv75 (sub [1,0,1,0,0] body75)) (contAt Tryz.prog tab lv75 [1,0,1,0] body75 [] (bodyK Tryz.prog Tryz.f75 [] R)) [(0,.pointer a0),(3,.int .i64 0)] 217 h
theorem f75F_eq (a0:Option Addr) (h:Hp) (R:Value→Hp→Prop):evF Tryz.prog tab lv75 Tryz.f75 body75 [] [.pointer a0] h R=f75F a0 h R:=by kernel_rfl
theorem f75F_ok {a0:Option Addr} {h:Hp} {R:Value→Hp→Prop} (hF:f75F a0 h R):CallTo Tryz.prog 75 #[.pointer a0] h R :=
 callTo_of_ev (lv:=lv75) (hints:=[]) (c:=body75) (args:=[.pointer a0]) mixed tab_ok Tryz.func75 (by kernel_rfl) (by kernel_rfl) (by rw [f75F_eq]; exact hF)
/- (*larder/larderlaw1.Book).told -/
noncomputable def body76:Code:=(Tryz.f76.body).getD .skip
def lv76 (m:Nat):List Nat:=if m=2 then [0,3] else if m=6 then [0,3,4,5] else if m=12 then [0,7] else if m=16 then [0,7,8,9] else if m=22 then [0,11] else if m=26 then [0,11,12,13] else if m=32 then [0,15] else if m=36 then [0,15,16,17] else []
def f76I1 (J:Nat→Option Addr→Int→Hp→Prop) (n:Nat) (env:List Value) (h:Hp):Prop:=lenIs env 207 (DecP env 0 fun s0=>DecI .i64 env 3 fun s3=>J n s0 s3 h)
def f76I3 (J:Nat→Option Addr→Int→Hp→Prop) (n:Nat) (env:List Value) (h:Hp):Prop:=lenIs env 207 (DecP env 0 fun s0=>DecI .i64 env 7 fun s7=>J n s0 s7 h)
def f76I5 (J:Nat→Option Addr→Int→Hp→Prop) (n:Nat) (env:List Value) (h:Hp):Prop:=lenIs env 207 (DecP env 0 fun s0=>DecI .i64 env 11 fun s11=>J n s0 s11 h)
def f76I7 (J:Nat→Option Addr→Int→Hp→Prop) (n:Nat) (env:List Value) (h:Hp):Prop:=lenIs env 207 (DecP env 0 fun s0=>DecI .i64 env 15 fun s15=>J n s0 s15 h)
def f76L1 (J1:Nat→Option Addr→Int→Hp→Prop) (n1:Nat) (s0:Option Addr) (s3:Int) (g:Nat→Value) (h:Hp) (R:Value→Hp→Prop):Prop :=
 PtrOk s0 fun p21=>∃ t23:Sl,cell h (p21.add 18)=some (.slice t23.a t23.n t23.c)∧Cond (decide (s3 < (((t23.n:Nat):Int)))) (PtrOk s0 fun p29=>∃ t31:Sl,cell h (p29.add 19)=some (.slice t31.a t31.n t31.c)∧(0 ≤ s3∧s3 < ((t31.n:Nat):Int))∧PtrOk t31.a fun p33=>∃ t34:Int,cell h (p33.add (s3.toNat * 1))=some (.int .i64 t34)∧LoopEv (evC Tryz.prog tab lv76 (sub [1,0,1,0,0,1,0,0,1,1,0,0] body76)) (contAt Tryz.prog tab lv76 [1,0,1,0,0,1,0,0,1,1,0] body76 [loopK (f76I1 J1) n1] (bodyK Tryz.prog Tryz.f76 [] R)) [(0,.pointer s0),(3,.int .i64 s3),(4,.int .i64 t34),(5,.int .i64 0)] 207 h) (LoopEv (evC Tryz.prog tab lv76 (sub [1,1,0,1,0,0] body76)) (contAt Tryz.prog tab lv76 [1,1,0,1,0] body76 [] (bodyK Tryz.prog Tryz.f76 [] R)) [(0,.pointer s0),(7,.int .i64 0)] 207 h)
theorem f76L1_eq (J1:Nat→Option Addr→Int→Hp→Prop) (n1:Nat) (s0:Option Addr) (s3:Int) (g:Nat→Value) (h:Hp) (R:Value→Hp→Prop):(evC Tryz.prog tab lv76 (sub [1,0,1,0,0] body76)) (loopK (f76I1 J1) n1 (contAt Tryz.prog tab lv76 [1,0,1,0] body76 [] (bodyK Tryz.prog Tryz.f76 [] R))) (mkEnv 207 [(0,.pointer s0),(3,.int .i64 s3)] g) h=f76L1 J1 n1 s0 s3 g h R:=by kernel_rfl
theorem f76I1_at (J:Nat→Option Addr→Int→Hp→Prop) (n:Nat) (s0:Option Addr) (s3:Int) (g:Nat→Value) (h:Hp):f76I1 J n (mkEnv 207 [(0,.pointer s0),(3,.int .i64 s3)] g) h=J n s0 s3 h:=by kernel_rfl
theorem f76L1_rule  {R:Value→Hp→Prop} {s0:Option Addr} {s3:Int} {h0:Hp} (J:Nat→Option Addr→Int→Hp→Prop) (n0:Nat) (hi:J n0 s0 s3 h0)
  (hr:∀ n s0 s3 g h,J n s0 s3 h→f76L1  J n s0 s3 g h R):LoopEv (evC Tryz.prog tab lv76 (sub [1,0,1,0,0] body76)) (contAt Tryz.prog tab lv76 [1,0,1,0] body76 [] (bodyK Tryz.prog Tryz.f76 [] R)) [(0,.pointer s0),(3,.int .i64 s3)] 207 h0:=by
 refine ⟨f76I1 J,n0,fun g=>by rw [f76I1_at]; exact hi,fun n env h hI=>?_⟩
 clear hi
 clear s0 s3
 obtain ⟨hlen,hI⟩:=Cond_true' hI
 have hlen:env.length=207:=by simpa using hlen
 obtain ⟨s0,es0,hI⟩:=DecP.out hI
 obtain ⟨s3,es3,hI⟩:=DecI.out hI
 rw [mkEnv_of (l:=[(0,.pointer s0),(3,.int .i64 s3)]) hlen (by simp only [List.mem_cons,List.not_mem_nil,or_false,forall_eq_or_imp,forall_eq]; exact ⟨es0,es3⟩)]
 rw [f76L1_eq]
 exact hr n s0 s3 _ h hI
def f76L3 (J3:Nat→Option Addr→Int→Hp→Prop) (n3:Nat) (s0:Option Addr) (s7:Int) (g:Nat→Value) (h:Hp) (R:Value→Hp→Prop):Prop :=
 PtrOk s0 fun p65=>∃ t67:Sl,cell h (p65.add 21)=some (.slice t67.a t67.n t67.c)∧Cond (decide (s7 < (((t67.n:Nat):Int)))) (PtrOk s0 fun p73=>∃ t75:Sl,cell h (p73.add 22)=some (.slice t75.a t75.n t75.c)∧(0 ≤ s7∧s7 < ((t75.n:Nat):Int))∧PtrOk t75.a fun p77=>∃ t78:Int,cell h (p77.add (s7.toNat * 1))=some (.int .i64 t78)∧LoopEv (evC Tryz.prog tab lv76 (sub [1,1,0,1,0,0,1,0,0,1,1,0,0] body76)) (contAt Tryz.prog tab lv76 [1,1,0,1,0,0,1,0,0,1,1,0] body76 [loopK (f76I3 J3) n3] (bodyK Tryz.prog Tryz.f76 [] R)) [(0,.pointer s0),(7,.int .i64 s7),(8,.int .i64 t78),(9,.int .i64 0)] 207 h) (LoopEv (evC Tryz.prog tab lv76 (sub [1,1,1,0,1,0,0] body76)) (contAt Tryz.prog tab lv76 [1,1,1,0,1,0] body76 [] (bodyK Tryz.prog Tryz.f76 [] R)) [(0,.pointer s0),(11,.int .i64 0)] 207 h)
theorem f76L3_eq (J3:Nat→Option Addr→Int→Hp→Prop) (n3:Nat) (s0:Option Addr) (s7:Int) (g:Nat→Value) (h:Hp) (R:Value→Hp→Prop):(evC Tryz.prog tab lv76 (sub [1,1,0,1,0,0] body76)) (loopK (f76I3 J3) n3 (contAt Tryz.prog tab lv76 [1,1,0,1,0] body76 [] (bodyK Tryz.prog Tryz.f76 [] R))) (mkEnv 207 [(0,.pointer s0),(7,.int .i64 s7)] g) h=f76L3 J3 n3 s0 s7 g h R:=by kernel_rfl
theorem f76I3_at (J:Nat→Option Addr→Int→Hp→Prop) (n:Nat) (s0:Option Addr) (s7:Int) (g:Nat→Value) (h:Hp):f76I3 J n (mkEnv 207 [(0,.pointer s0),(7,.int .i64 s7)] g) h=J n s0 s7 h:=by kernel_rfl
theorem f76L3_rule  {R:Value→Hp→Prop} {s0:Option Addr} {s7:Int} {h0:Hp} (J:Nat→Option Addr→Int→Hp→Prop) (n0:Nat) (hi:J n0 s0 s7 h0)
  (hr:∀ n s0 s7 g h,J n s0 s7 h→f76L3  J n s0 s7 g h R):LoopEv (evC Tryz.prog tab lv76 (sub [1,1,0,1,0,0] body76)) (contAt Tryz.prog tab lv76 [1,1,0,1,0] body76 [] (bodyK Tryz.prog Tryz.f76 [] R)) [(0,.pointer s0),(7,.int .i64 s7)] 207 h0:=by
 refine ⟨f76I3 J,n0,fun g=>by rw [f76I3_at]; exact hi,fun n env h hI=>?_⟩
 clear hi
 clear s0 s7
 obtain ⟨hlen,hI⟩:=Cond_true' hI
 have hlen:env.length=207:=by simpa using hlen
 obtain ⟨s0,es0,hI⟩:=DecP.out hI
 obtain ⟨s7,es7,hI⟩:=DecI.out hI
 rw [mkEnv_of (l:=[(0,.pointer s0),(7,.int .i64 s7)]) hlen (by simp only [List.mem_cons,List.not_mem_nil,or_false,forall_eq_or_imp,forall_eq]; exact ⟨es0,es7⟩)]
 rw [f76L3_eq]
 exact hr n s0 s7 _ h hI
def f76L5 (J5:Nat→Option Addr→Int→Hp→Prop) (n5:Nat) (s0:Option Addr) (s11:Int) (g:Nat→Value) (h:Hp) (R:Value→Hp→Prop):Prop :=
 PtrOk s0 fun p115=>∃ t117:Sl,cell h (p115.add 24)=some (.slice t117.a t117.n t117.c)∧Cond (decide (s11 < (((t117.n:Nat):Int)))) (PtrOk s0 fun p123=>∃ t125:Sl,cell h (p123.add 25)=some (.slice t125.a t125.n t125.c)∧(0 ≤ s11∧s11 < ((t125.n:Nat):Int))∧PtrOk t125.a fun p127=>∃ t128:Int,cell h (p127.add (s11.toNat * 1))=some (.int .i64 t128)∧LoopEv (evC Tryz.prog tab lv76 (sub [1,1,1,0,1,0,0,1,0,0,1,1,0,0] body76)) (contAt Tryz.prog tab lv76 [1,1,1,0,1,0,0,1,0,0,1,1,0] body76 [loopK (f76I5 J5) n5] (bodyK Tryz.prog Tryz.f76 [] R)) [(0,.pointer s0),(11,.int .i64 s11),(12,.int .i64 t128),(13,.int .i64 0)] 207 h) (LoopEv (evC Tryz.prog tab lv76 (sub [1,1,1,1,0,1,0,0] body76)) (contAt Tryz.prog tab lv76 [1,1,1,1,0,1,0] body76 [] (bodyK Tryz.prog Tryz.f76 [] R)) [(0,.pointer s0),(15,.int .i64 0)] 207 h)
theorem f76L5_eq (J5:Nat→Option Addr→Int→Hp→Prop) (n5:Nat) (s0:Option Addr) (s11:Int) (g:Nat→Value) (h:Hp) (R:Value→Hp→Prop):(evC Tryz.prog tab lv76 (sub [1,1,1,0,1,0,0] body76)) (loopK (f76I5 J5) n5 (contAt Tryz.prog tab lv76 [1,1,1,0,1,0] body76 [] (bodyK Tryz.prog Tryz.f76 [] R))) (mkEnv 207 [(0,.pointer s0),(11,.int .i64 s11)] g) h=f76L5 J5 n5 s0 s11 g h R:=by kernel_rfl
theorem f76I5_at (J:Nat→Option Addr→Int→Hp→Prop) (n:Nat) (s0:Option Addr) (s11:Int) (g:Nat→Value) (h:Hp):f76I5 J n (mkEnv 207 [(0,.pointer s0),(11,.int .i64 s11)] g) h=J n s0 s11 h:=by kernel_rfl
theorem f76L5_rule  {R:Value→Hp→Prop} {s0:Option Addr} {s11:Int} {h0:Hp} (J:Nat→Option Addr→Int→Hp→Prop) (n0:Nat) (hi:J n0 s0 s11 h0)
  (hr:∀ n s0 s11 g h,J n s0 s11 h→f76L5  J n s0 s11 g h R):LoopEv (evC Tryz.prog tab lv76 (sub [1,1,1,0,1,0,0] body76)) (contAt Tryz.prog tab lv76 [1,1,1,0,1,0] body76 [] (bodyK Tryz.prog Tryz.f76 [] R)) [(0,.pointer s0),(11,.int .i64 s11)] 207 h0:=by
 refine ⟨f76I5 J,n0,fun g=>by rw [f76I5_at]; exact hi,fun n env h hI=>?_⟩
 clear hi
 clear s0 s11
 obtain ⟨hlen,hI⟩:=Cond_true' hI
 have hlen:env.length=207:=by simpa using hlen
 obtain ⟨s0,es0,hI⟩:=DecP.out hI
 obtain ⟨s11,es11,hI⟩:=DecI.out hI
 rw [mkEnv_of (l:=[(0,.pointer s0),(11,.int .i64 s11)]) hlen (by simp only [List.mem_cons,List.not_mem_nil,or_false,forall_eq_or_imp,forall_eq]; exact ⟨es0,es11⟩)]
 rw [f76L5_eq]
 exact hr n s0 s11 _ h hI
def f76L7 (J7:Nat→Option Addr→Int→Hp→Prop) (n7:Nat) (s0:Option Addr) (s15:Int) (g:Nat→Value) (h:Hp) (R:Value→Hp→Prop):Prop :=
 PtrOk s0 fun p165=>∃ t167:Sl,cell h (p165.add 27)=some (.slice t167.a t167.n t167.c)∧Cond (decide (s15 < (((t167.n:Nat):Int)))) (PtrOk s0 fun p173=>∃ t175:Sl,cell h (p173.add 28)=some (.slice t175.a t175.n t175.c)∧(0 ≤ s15∧s15 < ((t175.n:Nat):Int))∧PtrOk t175.a fun p177=>∃ t178:Int,cell h (p177.add (s15.toNat * 1))=some (.int .i64 t178)∧LoopEv (evC Tryz.prog tab lv76 (sub [1,1,1,1,0,1,0,0,1,0,0,1,1,0,0] body76)) (contAt Tryz.prog tab lv76 [1,1,1,1,0,1,0,0,1,0,0,1,1,0] body76 [loopK (f76I7 J7) n7] (bodyK Tryz.prog Tryz.f76 [] R)) [(0,.pointer s0),(15,.int .i64 s15),(16,.int .i64 t178),(17,.int .i64 0)] 207 h) (R (.bool true:Value) h)
theorem f76L7_eq (J7:Nat→Option Addr→Int→Hp→Prop) (n7:Nat) (s0:Option Addr) (s15:Int) (g:Nat→Value) (h:Hp) (R:Value→Hp→Prop):(evC Tryz.prog tab lv76 (sub [1,1,1,1,0,1,0,0] body76)) (loopK (f76I7 J7) n7 (contAt Tryz.prog tab lv76 [1,1,1,1,0,1,0] body76 [] (bodyK Tryz.prog Tryz.f76 [] R))) (mkEnv 207 [(0,.pointer s0),(15,.int .i64 s15)] g) h=f76L7 J7 n7 s0 s15 g h R:=by kernel_rfl
theorem f76I7_at (J:Nat→Option Addr→Int→Hp→Prop) (n:Nat) (s0:Option Addr) (s15:Int) (g:Nat→Value) (h:Hp):f76I7 J n (mkEnv 207 [(0,.pointer s0),(15,.int .i64 s15)] g) h=J n s0 s15 h:=by kernel_rfl
theorem f76L7_rule  {R:Value→Hp→Prop} {s0:Option Addr} {s15:Int} {h0:Hp} (J:Nat→Option Addr→Int→Hp→Prop) (n0:Nat) (hi:J n0 s0 s15 h0)
  (hr:∀ n s0 s15 g h,J n s0 s15 h→f76L7  J n s0 s15 g h R):LoopEv (evC Tryz.prog tab lv76 (sub [1,1,1,1,0,1,0,0] body76)) (contAt Tryz.prog tab lv76 [1,1,1,1,0,1,0] body76 [] (bodyK Tryz.prog Tryz.f76 [] R)) [(0,.pointer s0),(15,.int .i64 s15)] 207 h0:=by
 refine ⟨f76I7 J,n0,fun g=>by rw [f76I7_at]; exact hi,fun n env h hI=>?_⟩
 clear hi
 clear s0 s15
 obtain ⟨hlen,hI⟩:=Cond_true' hI
 have hlen:env.length=207:=by simpa using hlen
 obtain ⟨s0,es0,hI⟩:=DecP.out hI
 obtain ⟨s15,es15,hI⟩:=DecI.out hI
 rw [mkEnv_of (l:=[(0,.pointer s0),(15,.int .i64 s15)]) hlen (by simp only [List.mem_cons,List.not_mem_nil,or_false,forall_eq_or_imp,forall_eq]; exact ⟨es0,es15⟩)]
 rw [f76L7_eq]
 exact hr n s0 s15 _ h hI
def f76F (a0:Option Addr) (h:Hp) (R:Value→Hp→Prop):Prop :=
 LoopEv (evC Tryz.prog tab lv76 (sub [1,0,1,0,0] body76)) (contAt Tryz.prog tab lv76 [1,0,1,0] body76 [] (bodyK Tryz.prog Tryz.f76 [] R)) [(0,.pointer a0),(3,.int .i64 0)] 207 h
theorem f76F_eq (a0:Option Addr) (h:Hp) (R:Value→Hp→Prop):evF Tryz.prog tab lv76 Tryz.f76 body76 [] [.pointer a0] h R=f76F a0 h R:=by kernel_rfl
theorem f76F_ok {a0:Option Addr} {h:Hp} {R:Value→Hp→Prop} (hF:f76F a0 h R):CallTo Tryz.prog 76 #[.pointer a0] h R :=
 callTo_of_ev (lv:=lv76) (hints:=[]) (c:=body76) (args:=[.pointer a0]) mixed tab_ok Tryz.func76 (by kernel_rfl) (by kernel_rfl) (by rw [f76F_eq]; exact hF)
/- (*larder/larderlaw1.Book).growBytes -/
noncomputable def body77:Code:=(Tryz.f77.body).getD .skip
def lv77 (m:Nat):List Nat:=if m=2 then [0,2,3] else if m=7 then [0,2,3,4,5,6] else []
def f77I1 (J:Nat→Option Addr→Int→Int→Hp→Prop) (n:Nat) (env:List Value) (h:Hp):Prop:=lenIs env 81 (DecP env 0 fun s0=>DecI .i64 env 2 fun s2=>DecI .i64 env 3 fun s3=>J n s0 s2 s3 h)
def f77I2 (J:Nat→Option Addr→Int→Int→Sl→Int→Int→Hp→Prop) (n:Nat) (env:List Value) (h:Hp):Prop:=lenIs env 81 (DecP env 0 fun s0=>DecI .i64 env 2 fun s2=>DecI .i64 env 3 fun s3=>DecL env 4 fun s4=>DecI .i64 env 5 fun s5=>DecI .i64 env 6 fun s6=>J n s0 s2 s3 s4 s5 s6 h)
def f77K1 (J1:Nat→Option Addr→Int→Int→Hp→Prop) (n1:Nat) (J2:Nat→Option Addr→Int→Int→Sl→Int→Int→Hp→Prop) (n2:Nat) (x0:Option Addr) (x2:Int) (x3:Int) (x4:Sl) (x5:Int) (x6:Int) (x52:Bool) (h:Hp) (R:Value→Hp→Prop):Prop :=
 Cond x52 (PtrOk x0 fun p55=>∃ t57:Sl,cell h p55=some (.slice t57.a t57.n t57.c)∧Let (h.push (.cells #[.slice x4.a x4.n x4.c] 33)) fun h4=>appSl 33 1 24 #[.slice none 0 0] t57.a t57.n t57.c (some (nb h)) 1 h4 fun ra5 rn5 rc5 h5=>PtrOk x0 fun p61=>stOk h5 p61∧Let (setc h5 p61 (.slice ra5 rn5 rc5)) fun h6=>PtrOk x0 fun p65=>∃ t67:Sl,cell h6 (p65.add 1)=some (.slice t67.a t67.n t67.c)∧Let (h6.push (.cells #[.int .i64 x5] 3)) fun h7=>appSl 3 1 8 #[.int .i64 0] t67.a t67.n t67.c (some (nb h6)) 1 h7 fun ra8 rn8 rc8 h8=>PtrOk x0 fun p71=>stOk h8 (p71.add 1)∧Let (setc h8 (p71.add 1) (.slice ra8 rn8 rc8)) fun h9=>∃ m,m < n2∧J2 m x0 x2 x3 x4 x5 (IntKind.wrap .i64 (x6 + (1:Int))) h9) (∃ m,m < n2∧J2 m x0 x2 x3 x4 x5 (IntKind.wrap .i64 (x6 + (1:Int))) h)
def f77L1 (J1:Nat→Option Addr→Int→Int→Hp→Prop) (n1:Nat) (s0:Option Addr) (s2:Int) (s3:Int) (g:Nat→Value) (h:Hp) (R:Value→Hp→Prop):Prop :=
 Cond (decide (s3 < s2)) (PtrOk s0 fun p22=>∃ t24:Sl,cell h p22=some (.slice t24.a t24.n t24.c)∧(0 ≤ s3∧s3 < ((t24.n:Nat):Int))∧PtrOk t24.a fun p26=>∃ t27:Sl,cell h (p26.add (s3.toNat * 1))=some (.slice t27.a t27.n t27.c)∧PtrOk s0 fun p29=>∃ t31:Sl,cell h (p29.add 1)=some (.slice t31.a t31.n t31.c)∧(0 ≤ s3∧s3 < ((t31.n:Nat):Int))∧PtrOk t31.a fun p33=>∃ t34:Int,cell h (p33.add (s3.toNat * 1))=some (.int .i64 t34)∧LoopEv (evC Tryz.prog tab lv77 (sub [1,0,1,0,0,1,0,0,1,1,1,0,0] body77)) (contAt Tryz.prog tab lv77 [1,0,1,0,0,1,0,0,1,1,1,0] body77 [loopK (f77I1 J1) n1] (bodyK Tryz.prog Tryz.f77 [] R)) [(0,.pointer s0),(2,.int .i64 s2),(3,.int .i64 s3),(4,.slice t27.a t27.n t27.c),(5,.int .i64 t34),(6,.int .i64 1)] 81 h) (PtrOk s0 fun p75=>∃ t77:Sl,cell h p75=some (.slice t77.a t77.n t77.c)∧PtrOk s0 fun p79=>stOk h (p79.add 2)∧Let (setc h (p79.add 2) (.int .i64 (((t77.n:Nat):Int)))) fun h10=>R (.tuple #[]:Value) h10)
theorem f77L1_eq (J1:Nat→Option Addr→Int→Int→Hp→Prop) (n1:Nat) (s0:Option Addr) (s2:Int) (s3:Int) (g:Nat→Value) (h:Hp) (R:Value→Hp→Prop):(evC Tryz.prog tab lv77 (sub [1,0,1,0,0] body77)) (loopK (f77I1 J1) n1 (contAt Tryz.prog tab lv77 [1,0,1,0] body77 [] (bodyK Tryz.prog Tryz.f77 [] R))) (mkEnv 81 [(0,.pointer s0),(2,.int .i64 s2),(3,.int .i64 s3)] g) h=f77L1 J1 n1 s0 s2 s3 g h R:=by kernel_rfl
theorem f77I1_at (J:Nat→Option Addr→Int→Int→Hp→Prop) (n:Nat) (s0:Option Addr) (s2:Int) (s3:Int) (g:Nat→Value) (h:Hp):f77I1 J n (mkEnv 81 [(0,.pointer s0),(2,.int .i64 s2),(3,.int .i64 s3)] g) h=J n s0 s2 s3 h:=by kernel_rfl
theorem f77L1_rule  {R:Value→Hp→Prop} {s0:Option Addr} {s2:Int} {s3:Int} {h0:Hp} (J:Nat→Option Addr→Int→Int→Hp→Prop) (n0:Nat) (hi:J n0 s0 s2 s3 h0)
  (hr:∀ n s0 s2 s3 g h,J n s0 s2 s3 h→f77L1  J n s0 s2 s3 g h R):LoopEv (evC Tryz.prog tab lv77 (sub [1,0,1,0,0] body77)) (contAt Tryz.prog tab lv77 [1,0,1,0] body77 [] (bodyK Tryz.prog Tryz.f77 [] R)) [(0,.pointer s0),(2,.int .i64 s2),(3,.int .i64 s3)] 81 h0:=by
 refine ⟨f77I1 J,n0,fun g=>by rw [f77I1_at]; exact hi,fun n env h hI=>?_⟩
 clear hi
 clear s0 s2 s3
 obtain ⟨hlen,hI⟩:=Cond_true' hI
 have hlen:env.length=81:=by simpa using hlen
 obtain ⟨s0,es0,hI⟩:=DecP.out hI
 obtain ⟨s2,es2,hI⟩:=DecI.out hI
 obtain ⟨s3,es3,hI⟩:=DecI.out hI
 rw [mkEnv_of (l:=[(0,.pointer s0),(2,.int .i64 s2),(3,.int .i64 s3)]) hlen (by simp only [List.mem_cons,List.not_mem_nil,or_false,forall_eq_or_imp,forall_eq]; exact ⟨es0,es2,es3⟩)]
 rw [f77L1_eq]
 exact hr n s0 s2 s3 _ h hI
def f77L2 (J1:Nat→Option Addr→Int→Int→Hp→Prop) (n1:Nat) (J2:Nat→Option Addr→Int→Int→Sl→Int→Int→Hp→Prop) (n2:Nat) (s0:Option Addr) (s2:Int) (s3:Int) (s4:Sl) (s5:Int) (s6:Int) (g:Nat→Value) (h:Hp) (R:Value→Hp→Prop):Prop :=
 Cond (decide (s6 ≤ (96:Int))) (CallTo Tryz.prog 87 #[.int .i64 s5,.int .i64 (((s4.n:Nat):Int))] h fun r h1=>∃ t43:Int,r=.int .u8 t43∧Let (h1.push (.cells #[.int .u8 t43] 5)) fun h2=>appSl 5 1 1 #[.int .u8 0] s4.a s4.n s4.c (some (nb h1)) 1 h2 fun ra3 rn3 rc3 h3=>Cond (decide (s6 < (4:Int))) (f77K1 J1 n1 J2 n2 s0 s2 s3 ⟨ra3,rn3,rc3⟩ s5 s6 true h3 R) ((16:Int) ≠ 0∧f77K1 J1 n1 J2 n2 s0 s2 s3 ⟨ra3,rn3,rc3⟩ s5 s6 ((Int.tmod s6 (16:Int)) == (0:Int)) h3 R)) (∃ m,m < n1∧J1 m s0 s2 (IntKind.wrap .i64 (s3 + (1:Int))) h)
theorem f77L2_eq (J1:Nat→Option Addr→Int→Int→Hp→Prop) (n1:Nat) (J2:Nat→Option Addr→Int→Int→Sl→Int→Int→Hp→Prop) (n2:Nat) (s0:Option Addr) (s2:Int) (s3:Int) (s4:Sl) (s5:Int) (s6:Int) (g:Nat→Value) (h:Hp) (R:Value→Hp→Prop):(evC Tryz.prog tab lv77 (sub [1,0,1,0,0,1,0,0,1,1,1,0,0] body77)) (loopK (f77I2 J2) n2 (contAt Tryz.prog tab lv77 [1,0,1,0,0,1,0,0,1,1,1,0] body77 [loopK (f77I1 J1) n1] (bodyK Tryz.prog Tryz.f77 [] R))) (mkEnv 81 [(0,.pointer s0),(2,.int .i64 s2),(3,.int .i64 s3),(4,.slice s4.a s4.n s4.c),(5,.int .i64 s5),(6,.int .i64 s6)] g) h=f77L2 J1 n1 J2 n2 s0 s2 s3 s4 s5 s6 g h R:=by kernel_rfl
theorem f77I2_at (J:Nat→Option Addr→Int→Int→Sl→Int→Int→Hp→Prop) (n:Nat) (s0:Option Addr) (s2:Int) (s3:Int) (s4:Sl) (s5:Int) (s6:Int) (g:Nat→Value) (h:Hp):f77I2 J n (mkEnv 81 [(0,.pointer s0),(2,.int .i64 s2),(3,.int .i64 s3),(4,.slice s4.a s4.n s4.c),(5,.int .i64 s5),(6,.int .i64 s6)] g) h=J n s0 s2 s3 s4 s5 s6 h:=by kernel_rfl
theorem f77L2_rule {J1:Nat→Option Addr→Int→Int→Hp→Prop} {n1:Nat} {R:Value→Hp→Prop} {s0:Option Addr} {s2:Int} {s3:Int} {s4:Sl} {s5:Int} {s6:Int} {h0:Hp} (J:Nat→Option Addr→Int→Int→Sl→Int→Int→Hp→Prop) (n0:Nat) (hi:J n0 s0 s2 s3 s4 s5 s6 h0)
  (hr:∀ n s0 s2 s3 s4 s5 s6 g h,J n s0 s2 s3 s4 s5 s6 h→f77L2 J1 n1 J n s0 s2 s3 s4 s5 s6 g h R):LoopEv (evC Tryz.prog tab lv77 (sub [1,0,1,0,0,1,0,0,1,1,1,0,0] body77)) (contAt Tryz.prog tab lv77 [1,0,1,0,0,1,0,0,1,1,1,0] body77 [loopK (f77I1 J1) n1] (bodyK Tryz.prog Tryz.f77 [] R)) [(0,.pointer s0),(2,.int .i64 s2),(3,.int .i64 s3),(4,.slice s4.a s4.n s4.c),(5,.int .i64 s5),(6,.int .i64 s6)] 81 h0:=by
 refine ⟨f77I2 J,n0,fun g=>by rw [f77I2_at]; exact hi,fun n env h hI=>?_⟩
 clear hi
 clear s0 s2 s3 s4 s5 s6
 obtain ⟨hlen,hI⟩:=Cond_true' hI
 have hlen:env.length=81:=by simpa using hlen
 obtain ⟨s0,es0,hI⟩:=DecP.out hI
 obtain ⟨s2,es2,hI⟩:=DecI.out hI
 obtain ⟨s3,es3,hI⟩:=DecI.out hI
 obtain ⟨s4,es4,hI⟩:=DecL.out hI
 obtain ⟨s5,es5,hI⟩:=DecI.out hI
 obtain ⟨s6,es6,hI⟩:=DecI.out hI
 rw [mkEnv_of (l:=[(0,.pointer s0),(2,.int .i64 s2),(3,.int .i64 s3),(4,.slice s4.a s4.n s4.c),(5,.int .i64 s5),(6,.int .i64 s6)]) hlen (by simp only [List.mem_cons,List.not_mem_nil,or_false,forall_eq_or_imp,forall_eq]; exact ⟨es0,es2,es3,es4,es5,es6⟩)]
 rw [f77L2_eq]
 exact hr n s0 s2 s3 s4 s5 s6 _ h hI
def f77F (a0:Option Addr) (h:Hp) (R:Value→Hp→Prop):Prop :=
 PtrOk a0 fun p8=>∃ t10:Sl,cell h p8=some (.slice t10.a t10.n t10.c)∧PtrOk a0 fun p13=>∃ t15:Int,cell h (p13.add 2)=some (.int .i64 t15)∧LoopEv (evC Tryz.prog tab lv77 (sub [1,0,1,0,0] body77)) (contAt Tryz.prog tab lv77 [1,0,1,0] body77 [] (bodyK Tryz.prog Tryz.f77 [] R)) [(0,.pointer a0),(2,.int .i64 (((t10.n:Nat):Int))),(3,.int .i64 t15)] 81 h
theorem f77F_eq (a0:Option Addr) (h:Hp) (R:Value→Hp→Prop):evF Tryz.prog tab lv77 Tryz.f77 body77 [] [.pointer a0] h R=f77F a0 h R:=by kernel_rfl
theorem f77F_ok {a0:Option Addr} {h:Hp} {R:Value→Hp→Prop} (hF:f77F a0 h R):CallTo Tryz.prog 77 #[.pointer a0] h R :=
 callTo_of_ev (lv:=lv77) (hints:=[]) (c:=body77) (args:=[.pointer a0]) mixed tab_ok Tryz.func77 (by kernel_rfl) (by kernel_rfl) (by rw [f77F_eq]; exact hF)
/- (*larder/larderlaw1.Book).growRows -/
noncomputable def body78:Code:=(Tryz.f78.body).getD .skip
def lv78 (m:Nat):List Nat:=if m=2 then [0,2,3] else if m=7 then [0,2,3,4,5,6] else []
def f78I1 (J:Nat→Option Addr→Int→Int→Hp→Prop) (n:Nat) (env:List Value) (h:Hp):Prop:=lenIs env 82 (DecP env 0 fun s0=>DecI .i64 env 2 fun s2=>DecI .i64 env 3 fun s3=>J n s0 s2 s3 h)
def f78L1 (J1:Nat→Option Addr→Int→Int→Hp→Prop) (n1:Nat) (s0:Option Addr) (s2:Int) (s3:Int) (g:Nat→Value) (h:Hp) (R:Value→Hp→Prop):Prop :=
 Cond (decide (s3 < s2)) (PtrOk s0 fun p22=>∃ t24:Sl,cell h (p22.add 3)=some (.slice t24.a t24.n t24.c)∧(0 ≤ s3∧s3 < ((t24.n:Nat):Int))∧PtrOk t24.a fun p26=>∃ t27:Sl,cell h (p26.add (s3.toNat * 1))=some (.slice t27.a t27.n t27.c)∧PtrOk s0 fun p29=>∃ t31:Sl,cell h (p29.add 4)=some (.slice t31.a t31.n t31.c)∧(0 ≤ s3∧s3 < ((t31.n:Nat):Int))∧PtrOk t31.a fun p33=>∃ t34:Int,cell h (p33.add (s3.toNat * 1))=some (.int .i64 t34)∧LoopEv (evC Tryz.prog tab lv78 (sub [1,0,1,0,0,1,0,0,1,1,1,0,0] body78)) (contAt Tryz.prog tab lv78 [1,0,1,0,0,1,0,0,1,1,1,0] body78 [loopK (f78I1 J1) n1] (bodyK Tryz.prog Tryz.f78 [] R)) [(0,.pointer s0),(2,.int .i64 s2),(3,.int .i64 s3),(4,.slice t27.a t27.n t27.c),(5,.int .i64 t34),(6,.int .i64 1)] 82 h) (PtrOk s0 fun p76=>∃ t78:Sl,cell h (p76.add 3)=some (.slice t78.a t78.n t78.c)∧PtrOk s0 fun p80=>stOk h (p80.add 5)∧Let (setc h (p80.add 5) (.int .i64 (((t78.n:Nat):Int)))) fun h12=>R (.tuple #[]:Value) h12)
theorem f78L1_eq (J1:Nat→Option Addr→Int→Int→Hp→Prop) (n1:Nat) (s0:Option Addr) (s2:Int) (s3:Int) (g:Nat→Value) (h:Hp) (R:Value→Hp→Prop):(evC Tryz.prog tab lv78 (sub [1,0,1,0,0] body78)) (loopK (f78I1 J1) n1 (contAt Tryz.prog tab lv78 [1,0,1,0] body78 [] (bodyK Tryz.prog Tryz.f78 [] R))) (mkEnv 82 [(0,.pointer s0),(2,.int .i64 s2),(3,.int .i64 s3)] g) h=f78L1 J1 n1 s0 s2 s3 g h R:=by kernel_rfl
theorem f78I1_at (J:Nat→Option Addr→Int→Int→Hp→Prop) (n:Nat) (s0:Option Addr) (s2:Int) (s3:Int) (g:Nat→Value) (h:Hp):f78I1 J n (mkEnv 82 [(0,.pointer s0),(2,.int .i64 s2),(3,.int .i64 s3)] g) h=J n s0 s2 s3 h:=by kernel_rfl
theorem f78L1_rule  {R:Value→Hp→Prop} {s0:Option Addr} {s2:Int} {s3:Int} {h0:Hp} (J:Nat→Option Addr→Int→Int→Hp→Prop) (n0:Nat) (hi:J n0 s0 s2 s3 h0)
  (hr:∀ n s0 s2 s3 g h,J n s0 s2 s3 h→f78L1  J n s0 s2 s3 g h R):LoopEv (evC Tryz.prog tab lv78 (sub [1,0,1,0,0] body78)) (contAt Tryz.prog tab lv78 [1,0,1,0] body78 [] (bodyK Tryz.prog Tryz.f78 [] R)) [(0,.pointer s0),(2,.int .i64 s2),(3,.int .i64 s3)] 82 h0:=by
 refine ⟨f78I1 J,n0,fun g=>by rw [f78I1_at]; exact hi,fun n env h hI=>?_⟩
 clear hi
 clear s0 s2 s3
 obtain ⟨hlen,hI⟩:=Cond_true' hI
 have hlen:env.length=82:=by simpa using hlen
 obtain ⟨s0,es0,hI⟩:=DecP.out hI
 obtain ⟨s2,es2,hI⟩:=DecI.out hI
 obtain ⟨s3,es3,hI⟩:=DecI.out hI
 rw [mkEnv_of (l:=[(0,.pointer s0),(2,.int .i64 s2),(3,.int .i64 s3)]) hlen (by simp only [List.mem_cons,List.not_mem_nil,or_false,forall_eq_or_imp,forall_eq]; exact ⟨es0,es2,es3⟩)]
 rw [f78L1_eq]
 exact hr n s0 s2 s3 _ h hI
def f78F (a0:Option Addr) (h:Hp) (R:Value→Hp→Prop):Prop :=
 PtrOk a0 fun p8=>∃ t10:Sl,cell h (p8.add 3)=some (.slice t10.a t10.n t10.c)∧PtrOk a0 fun p13=>∃ t15:Int,cell h (p13.add 5)=some (.int .i64 t15)∧LoopEv (evC Tryz.prog tab lv78 (sub [1,0,1,0,0] body78)) (contAt Tryz.prog tab lv78 [1,0,1,0] body78 [] (bodyK Tryz.prog Tryz.f78 [] R)) [(0,.pointer a0),(2,.int .i64 (((t10.n:Nat):Int))),(3,.int .i64 t15)] 82 h
theorem f78F_eq (a0:Option Addr) (h:Hp) (R:Value→Hp→Prop):evF Tryz.prog tab lv78 Tryz.f78 body78 [] [.pointer a0] h R=f78F a0 h R:=by kernel_rfl
theorem f78F_ok {a0:Option Addr} {h:Hp} {R:Value→Hp→Prop} (hF:f78F a0 h R):CallTo Tryz.prog 78 #[.pointer a0] h R :=
 callTo_of_ev (lv:=lv78) (hints:=[]) (c:=body78) (args:=[.pointer a0]) mixed tab_ok Tryz.func78 (by kernel_rfl) (by kernel_rfl) (by rw [f78F_eq]; exact hF)
/- (*larder/larderlaw1.Book).growWords -/
noncomputable def body79:Code:=(Tryz.f79.body).getD .skip
def lv79 (m:Nat):List Nat:=if m=2 then [0,2,3] else if m=7 then [0,2,3,4,5,6] else []
def f79I1 (J:Nat→Option Addr→Int→Int→Hp→Prop) (n:Nat) (env:List Value) (h:Hp):Prop:=lenIs env 79 (DecP env 0 fun s0=>DecI .i64 env 2 fun s2=>DecI .i64 env 3 fun s3=>J n s0 s2 s3 h)
def f79L1 (J1:Nat→Option Addr→Int→Int→Hp→Prop) (n1:Nat) (s0:Option Addr) (s2:Int) (s3:Int) (g:Nat→Value) (h:Hp) (R:Value→Hp→Prop):Prop :=
 Cond (decide (s3 < s2)) (PtrOk s0 fun p22=>∃ t24:Sl,cell h (p22.add 6)=some (.slice t24.a t24.n t24.c)∧(0 ≤ s3∧s3 < ((t24.n:Nat):Int))∧PtrOk t24.a fun p26=>∃ t27:Sl,cell h (p26.add (s3.toNat * 1))=some (.slice t27.a t27.n t27.c)∧PtrOk s0 fun p29=>∃ t31:Sl,cell h (p29.add 7)=some (.slice t31.a t31.n t31.c)∧(0 ≤ s3∧s3 < ((t31.n:Nat):Int))∧PtrOk t31.a fun p33=>∃ t34:Int,cell h (p33.add (s3.toNat * 1))=some (.int .i64 t34)∧LoopEv (evC Tryz.prog tab lv79 (sub [1,0,1,0,0,1,0,0,1,1,1,0,0] body79)) (contAt Tryz.prog tab lv79 [1,0,1,0,0,1,0,0,1,1,1,0] body79 [loopK (f79I1 J1) n1] (bodyK Tryz.prog Tryz.f79 [] R)) [(0,.pointer s0),(2,.int .i64 s2),(3,.int .i64 s3),(4,.slice t27.a t27.n t27.c),(5,.int .i64 t34),(6,.int .i64 1)] 79 h) (PtrOk s0 fun p73=>∃ t75:Sl,cell h (p73.add 6)=some (.slice t75.a t75.n t75.c)∧PtrOk s0 fun p77=>stOk h (p77.add 8)∧Let (setc h (p77.add 8) (.int .i64 (((t75.n:Nat):Int)))) fun h10=>R (.tuple #[]:Value) h10)
theorem f79L1_eq (J1:Nat→Option Addr→Int→Int→Hp→Prop) (n1:Nat) (s0:Option Addr) (s2:Int) (s3:Int) (g:Nat→Value) (h:Hp) (R:Value→Hp→Prop):(evC Tryz.prog tab lv79 (sub [1,0,1,0,0] body79)) (loopK (f79I1 J1) n1 (contAt Tryz.prog tab lv79 [1,0,1,0] body79 [] (bodyK Tryz.prog Tryz.f79 [] R))) (mkEnv 79 [(0,.pointer s0),(2,.int .i64 s2),(3,.int .i64 s3)] g) h=f79L1 J1 n1 s0 s2 s3 g h R:=by kernel_rfl
theorem f79I1_at (J:Nat→Option Addr→Int→Int→Hp→Prop) (n:Nat) (s0:Option Addr) (s2:Int) (s3:Int) (g:Nat→Value) (h:Hp):f79I1 J n (mkEnv 79 [(0,.pointer s0),(2,.int .i64 s2),(3,.int .i64 s3)] g) h=J n s0 s2 s3 h:=by kernel_rfl
theorem f79L1_rule  {R:Value→Hp→Prop} {s0:Option Addr} {s2:Int} {s3:Int} {h0:Hp} (J:Nat→Option Addr→Int→Int→Hp→Prop) (n0:Nat) (hi:J n0 s0 s2 s3 h0)
  (hr:∀ n s0 s2 s3 g h,J n s0 s2 s3 h→f79L1  J n s0 s2 s3 g h R):LoopEv (evC Tryz.prog tab lv79 (sub [1,0,1,0,0] body79)) (contAt Tryz.prog tab lv79 [1,0,1,0] body79 [] (bodyK Tryz.prog Tryz.f79 [] R)) [(0,.pointer s0),(2,.int .i64 s2),(3,.int .i64 s3)] 79 h0:=by
 refine ⟨f79I1 J,n0,fun g=>by rw [f79I1_at]; exact hi,fun n env h hI=>?_⟩
 clear hi
 clear s0 s2 s3
 obtain ⟨hlen,hI⟩:=Cond_true' hI
 have hlen:env.length=79:=by simpa using hlen
 obtain ⟨s0,es0,hI⟩:=DecP.out hI
 obtain ⟨s2,es2,hI⟩:=DecI.out hI
 obtain ⟨s3,es3,hI⟩:=DecI.out hI
 rw [mkEnv_of (l:=[(0,.pointer s0),(2,.int .i64 s2),(3,.int .i64 s3)]) hlen (by simp only [List.mem_cons,List.not_mem_nil,or_false,forall_eq_or_imp,forall_eq]; exact ⟨es0,es2,es3⟩)]
 rw [f79L1_eq]
 exact hr n s0 s2 s3 _ h hI
def f79F (a0:Option Addr) (h:Hp) (R:Value→Hp→Prop):Prop :=
 PtrOk a0 fun p8=>∃ t10:Sl,cell h (p8.add 6)=some (.slice t10.a t10.n t10.c)∧PtrOk a0 fun p13=>∃ t15:Int,cell h (p13.add 8)=some (.int .i64 t15)∧LoopEv (evC Tryz.prog tab lv79 (sub [1,0,1,0,0] body79)) (contAt Tryz.prog tab lv79 [1,0,1,0] body79 [] (bodyK Tryz.prog Tryz.f79 [] R)) [(0,.pointer a0),(2,.int .i64 (((t10.n:Nat):Int))),(3,.int .i64 t15)] 79 h
theorem f79F_eq (a0:Option Addr) (h:Hp) (R:Value→Hp→Prop):evF Tryz.prog tab lv79 Tryz.f79 body79 [] [.pointer a0] h R=f79F a0 h R:=by kernel_rfl
theorem f79F_ok {a0:Option Addr} {h:Hp} {R:Value→Hp→Prop} (hF:f79F a0 h R):CallTo Tryz.prog 79 #[.pointer a0] h R :=
 callTo_of_ev (lv:=lv79) (hints:=[]) (c:=body79) (args:=[.pointer a0]) mixed tab_ok Tryz.func79 (by kernel_rfl) (by kernel_rfl) (by rw [f79F_eq]; exact hF)
/- (*larder/larderlaw1.Book).growScored -/
noncomputable def body80:Code:=(Tryz.f80.body).getD .skip
def lv80 (m:Nat):List Nat:=if m=2 then [0,2,3] else if m=7 then [0,2,3,4,5,6] else []
def f80I1 (J:Nat→Option Addr→Int→Int→Hp→Prop) (n:Nat) (env:List Value) (h:Hp):Prop:=lenIs env 79 (DecP env 0 fun s0=>DecI .i64 env 2 fun s2=>DecI .i64 env 3 fun s3=>J n s0 s2 s3 h)
def f80L1 (J1:Nat→Option Addr→Int→Int→Hp→Prop) (n1:Nat) (s0:Option Addr) (s2:Int) (s3:Int) (g:Nat→Value) (h:Hp) (R:Value→Hp→Prop):Prop :=
 Cond (decide (s3 < s2)) (PtrOk s0 fun p22=>∃ t24:Sl,cell h (p22.add 9)=some (.slice t24.a t24.n t24.c)∧(0 ≤ s3∧s3 < ((t24.n:Nat):Int))∧PtrOk t24.a fun p26=>∃ t27:Sl,cell h (p26.add (s3.toNat * 1))=some (.slice t27.a t27.n t27.c)∧PtrOk s0 fun p29=>∃ t31:Sl,cell h (p29.add 10)=some (.slice t31.a t31.n t31.c)∧(0 ≤ s3∧s3 < ((t31.n:Nat):Int))∧PtrOk t31.a fun p33=>∃ t34:Int,cell h (p33.add (s3.toNat * 1))=some (.int .i64 t34)∧LoopEv (evC Tryz.prog tab lv80 (sub [1,0,1,0,0,1,0,0,1,1,1,0,0] body80)) (contAt Tryz.prog tab lv80 [1,0,1,0,0,1,0,0,1,1,1,0] body80 [loopK (f80I1 J1) n1] (bodyK Tryz.prog Tryz.f80 [] R)) [(0,.pointer s0),(2,.int .i64 s2),(3,.int .i64 s3),(4,.slice t27.a t27.n t27.c),(5,.int .i64 t34),(6,.int .i64 1)] 79 h) (PtrOk s0 fun p73=>∃ t75:Sl,cell h (p73.add 9)=some (.slice t75.a t75.n t75.c)∧PtrOk s0 fun p77=>stOk h (p77.add 11)∧Let (setc h (p77.add 11) (.int .i64 (((t75.n:Nat):Int)))) fun h10=>R (.tuple #[]:Value) h10)
theorem f80L1_eq (J1:Nat→Option Addr→Int→Int→Hp→Prop) (n1:Nat) (s0:Option Addr) (s2:Int) (s3:Int) (g:Nat→Value) (h:Hp) (R:Value→Hp→Prop):(evC Tryz.prog tab lv80 (sub [1,0,1,0,0] body80)) (loopK (f80I1 J1) n1 (contAt Tryz.prog tab lv80 [1,0,1,0] body80 [] (bodyK Tryz.prog Tryz.f80 [] R))) (mkEnv 79 [(0,.pointer s0),(2,.int .i64 s2),(3,.int .i64 s3)] g) h=f80L1 J1 n1 s0 s2 s3 g h R:=by kernel_rfl
theorem f80I1_at (J:Nat→Option Addr→Int→Int→Hp→Prop) (n:Nat) (s0:Option Addr) (s2:Int) (s3:Int) (g:Nat→Value) (h:Hp):f80I1 J n (mkEnv 79 [(0,.pointer s0),(2,.int .i64 s2),(3,.int .i64 s3)] g) h=J n s0 s2 s3 h:=by kernel_rfl
theorem f80L1_rule  {R:Value→Hp→Prop} {s0:Option Addr} {s2:Int} {s3:Int} {h0:Hp} (J:Nat→Option Addr→Int→Int→Hp→Prop) (n0:Nat) (hi:J n0 s0 s2 s3 h0)
  (hr:∀ n s0 s2 s3 g h,J n s0 s2 s3 h→f80L1  J n s0 s2 s3 g h R):LoopEv (evC Tryz.prog tab lv80 (sub [1,0,1,0,0] body80)) (contAt Tryz.prog tab lv80 [1,0,1,0] body80 [] (bodyK Tryz.prog Tryz.f80 [] R)) [(0,.pointer s0),(2,.int .i64 s2),(3,.int .i64 s3)] 79 h0:=by
 refine ⟨f80I1 J,n0,fun g=>by rw [f80I1_at]; exact hi,fun n env h hI=>?_⟩
 clear hi
 clear s0 s2 s3
 obtain ⟨hlen,hI⟩:=Cond_true' hI
 have hlen:env.length=79:=by simpa using hlen
 obtain ⟨s0,es0,hI⟩:=DecP.out hI
 obtain ⟨s2,es2,hI⟩:=DecI.out hI
 obtain ⟨s3,es3,hI⟩:=DecI.out hI
 rw [mkEnv_of (l:=[(0,.pointer s0),(2,.int .i64 s2),(3,.int .i64 s3)]) hlen (by simp only [List.mem_cons,List.not_mem_nil,or_false,forall_eq_or_imp,forall_eq]; exact ⟨es0,es2,es3⟩)]
 rw [f80L1_eq]
 exact hr n s0 s2 s3 _ h hI
def f80F (a0:Option Addr) (h:Hp) (R:Value→Hp→Prop):Prop :=
 PtrOk a0 fun p8=>∃ t10:Sl,cell h (p8.add 9)=some (.slice t10.a t10.n t10.c)∧PtrOk a0 fun p13=>∃ t15:Int,cell h (p13.add 11)=some (.int .i64 t15)∧LoopEv (evC Tryz.prog tab lv80 (sub [1,0,1,0,0] body80)) (contAt Tryz.prog tab lv80 [1,0,1,0] body80 [] (bodyK Tryz.prog Tryz.f80 [] R)) [(0,.pointer a0),(2,.int .i64 (((t10.n:Nat):Int))),(3,.int .i64 t15)] 79 h
theorem f80F_eq (a0:Option Addr) (h:Hp) (R:Value→Hp→Prop):evF Tryz.prog tab lv80 Tryz.f80 body80 [] [.pointer a0] h R=f80F a0 h R:=by kernel_rfl
theorem f80F_ok {a0:Option Addr} {h:Hp} {R:Value→Hp→Prop} (hF:f80F a0 h R):CallTo Tryz.prog 80 #[.pointer a0] h R :=
 callTo_of_ev (lv:=lv80) (hints:=[]) (c:=body80) (args:=[.pointer a0]) mixed tab_ok Tryz.func80 (by kernel_rfl) (by kernel_rfl) (by rw [f80F_eq]; exact hF)
/- (*larder/larderlaw1.Book).growPairs -/
noncomputable def body81:Code:=(Tryz.f81.body).getD .skip
def lv81 (m:Nat):List Nat:=if m=2 then [0,2,3] else if m=7 then [0,2,3,4,5,6] else []
def f81I1 (J:Nat→Option Addr→Int→Int→Hp→Prop) (n:Nat) (env:List Value) (h:Hp):Prop:=lenIs env 79 (DecP env 0 fun s0=>DecI .i64 env 2 fun s2=>DecI .i64 env 3 fun s3=>J n s0 s2 s3 h)
def f81L1 (J1:Nat→Option Addr→Int→Int→Hp→Prop) (n1:Nat) (s0:Option Addr) (s2:Int) (s3:Int) (g:Nat→Value) (h:Hp) (R:Value→Hp→Prop):Prop :=
 Cond (decide (s3 < s2)) (PtrOk s0 fun p22=>∃ t24:Sl,cell h (p22.add 12)=some (.slice t24.a t24.n t24.c)∧(0 ≤ s3∧s3 < ((t24.n:Nat):Int))∧PtrOk t24.a fun p26=>∃ t27:Sl,cell h (p26.add (s3.toNat * 1))=some (.slice t27.a t27.n t27.c)∧PtrOk s0 fun p29=>∃ t31:Sl,cell h (p29.add 13)=some (.slice t31.a t31.n t31.c)∧(0 ≤ s3∧s3 < ((t31.n:Nat):Int))∧PtrOk t31.a fun p33=>∃ t34:Int,cell h (p33.add (s3.toNat * 1))=some (.int .i64 t34)∧LoopEv (evC Tryz.prog tab lv81 (sub [1,0,1,0,0,1,0,0,1,1,1,0,0] body81)) (contAt Tryz.prog tab lv81 [1,0,1,0,0,1,0,0,1,1,1,0] body81 [loopK (f81I1 J1) n1] (bodyK Tryz.prog Tryz.f81 [] R)) [(0,.pointer s0),(2,.int .i64 s2),(3,.int .i64 s3),(4,.slice t27.a t27.n t27.c),(5,.int .i64 t34),(6,.int .i64 1)] 79 h) (PtrOk s0 fun p73=>∃ t75:Sl,cell h (p73.add 12)=some (.slice t75.a t75.n t75.c)∧PtrOk s0 fun p77=>stOk h (p77.add 14)∧Let (setc h (p77.add 14) (.int .i64 (((t75.n:Nat):Int)))) fun h10=>R (.tuple #[]:Value) h10)
theorem f81L1_eq (J1:Nat→Option Addr→Int→Int→Hp→Prop) (n1:Nat) (s0:Option Addr) (s2:Int) (s3:Int) (g:Nat→Value) (h:Hp) (R:Value→Hp→Prop):(evC Tryz.prog tab lv81 (sub [1,0,1,0,0] body81)) (loopK (f81I1 J1) n1 (contAt Tryz.prog tab lv81 [1,0,1,0] body81 [] (bodyK Tryz.prog Tryz.f81 [] R))) (mkEnv 79 [(0,.pointer s0),(2,.int .i64 s2),(3,.int .i64 s3)] g) h=f81L1 J1 n1 s0 s2 s3 g h R:=by kernel_rfl
theorem f81I1_at (J:Nat→Option Addr→Int→Int→Hp→Prop) (n:Nat) (s0:Option Addr) (s2:Int) (s3:Int) (g:Nat→Value) (h:Hp):f81I1 J n (mkEnv 79 [(0,.pointer s0),(2,.int .i64 s2),(3,.int .i64 s3)] g) h=J n s0 s2 s3 h:=by kernel_rfl
theorem f81L1_rule  {R:Value→Hp→Prop} {s0:Option Addr} {s2:Int} {s3:Int} {h0:Hp} (J:Nat→Option Addr→Int→Int→Hp→Prop) (n0:Nat) (hi:J n0 s0 s2 s3 h0)
  (hr:∀ n s0 s2 s3 g h,J n s0 s2 s3 h→f81L1  J n s0 s2 s3 g h R):LoopEv (evC Tryz.prog tab lv81 (sub [1,0,1,0,0] body81)) (contAt Tryz.prog tab lv81 [1,0,1,0] body81 [] (bodyK Tryz.prog Tryz.f81 [] R)) [(0,.pointer s0),(2,.int .i64 s2),(3,.int .i64 s3)] 79 h0:=by
 refine ⟨f81I1 J,n0,fun g=>by rw [f81I1_at]; exact hi,fun n env h hI=>?_⟩
 clear hi
 clear s0 s2 s3
 obtain ⟨hlen,hI⟩:=Cond_true' hI
 have hlen:env.length=79:=by simpa using hlen
 obtain ⟨s0,es0,hI⟩:=DecP.out hI
 obtain ⟨s2,es2,hI⟩:=DecI.out hI
 obtain ⟨s3,es3,hI⟩:=DecI.out hI
 rw [mkEnv_of (l:=[(0,.pointer s0),(2,.int .i64 s2),(3,.int .i64 s3)]) hlen (by simp only [List.mem_cons,List.not_mem_nil,or_false,forall_eq_or_imp,forall_eq]; exact ⟨es0,es2,es3⟩)]
 rw [f81L1_eq]
 exact hr n s0 s2 s3 _ h hI
def f81F (a0:Option Addr) (h:Hp) (R:Value→Hp→Prop):Prop :=
 PtrOk a0 fun p8=>∃ t10:Sl,cell h (p8.add 12)=some (.slice t10.a t10.n t10.c)∧PtrOk a0 fun p13=>∃ t15:Int,cell h (p13.add 14)=some (.int .i64 t15)∧LoopEv (evC Tryz.prog tab lv81 (sub [1,0,1,0,0] body81)) (contAt Tryz.prog tab lv81 [1,0,1,0] body81 [] (bodyK Tryz.prog Tryz.f81 [] R)) [(0,.pointer a0),(2,.int .i64 (((t10.n:Nat):Int))),(3,.int .i64 t15)] 79 h
theorem f81F_eq (a0:Option Addr) (h:Hp) (R:Value→Hp→Prop):evF Tryz.prog tab lv81 Tryz.f81 body81 [] [.pointer a0] h R=f81F a0 h R:=by kernel_rfl
theorem f81F_ok {a0:Option Addr} {h:Hp} {R:Value→Hp→Prop} (hF:f81F a0 h R):CallTo Tryz.prog 81 #[.pointer a0] h R :=
 callTo_of_ev (lv:=lv81) (hints:=[]) (c:=body81) (args:=[.pointer a0]) mixed tab_ok Tryz.func81 (by kernel_rfl) (by kernel_rfl) (by rw [f81F_eq]; exact hF)
/- (*larder/larderlaw1.Book).growRepl -/
noncomputable def body82:Code:=(Tryz.f82.body).getD .skip
def lv82 (m:Nat):List Nat:=if m=2 then [0,2,3] else if m=7 then [0,2,3,4,5,6] else []
def f82I1 (J:Nat→Option Addr→Int→Int→Hp→Prop) (n:Nat) (env:List Value) (h:Hp):Prop:=lenIs env 79 (DecP env 0 fun s0=>DecI .i64 env 2 fun s2=>DecI .i64 env 3 fun s3=>J n s0 s2 s3 h)
def f82L1 (J1:Nat→Option Addr→Int→Int→Hp→Prop) (n1:Nat) (s0:Option Addr) (s2:Int) (s3:Int) (g:Nat→Value) (h:Hp) (R:Value→Hp→Prop):Prop :=
 Cond (decide (s3 < s2)) (PtrOk s0 fun p22=>∃ t24:Sl,cell h (p22.add 15)=some (.slice t24.a t24.n t24.c)∧(0 ≤ s3∧s3 < ((t24.n:Nat):Int))∧PtrOk t24.a fun p26=>∃ t27:Sl,cell h (p26.add (s3.toNat * 1))=some (.slice t27.a t27.n t27.c)∧PtrOk s0 fun p29=>∃ t31:Sl,cell h (p29.add 16)=some (.slice t31.a t31.n t31.c)∧(0 ≤ s3∧s3 < ((t31.n:Nat):Int))∧PtrOk t31.a fun p33=>∃ t34:Int,cell h (p33.add (s3.toNat * 1))=some (.int .i64 t34)∧LoopEv (evC Tryz.prog tab lv82 (sub [1,0,1,0,0,1,0,0,1,1,1,0,0] body82)) (contAt Tryz.prog tab lv82 [1,0,1,0,0,1,0,0,1,1,1,0] body82 [loopK (f82I1 J1) n1] (bodyK Tryz.prog Tryz.f82 [] R)) [(0,.pointer s0),(2,.int .i64 s2),(3,.int .i64 s3),(4,.slice t27.a t27.n t27.c),(5,.int .i64 t34),(6,.int .i64 1)] 79 h) (PtrOk s0 fun p73=>∃ t75:Sl,cell h (p73.add 15)=some (.slice t75.a t75.n t75.c)∧PtrOk s0 fun p77=>stOk h (p77.add 17)∧Let (setc h (p77.add 17) (.int .i64 (((t75.n:Nat):Int)))) fun h10=>R (.tuple #[]:Value) h10)
theorem f82L1_eq (J1:Nat→Option Addr→Int→Int→Hp→Prop) (n1:Nat) (s0:Option Addr) (s2:Int) (s3:Int) (g:Nat→Value) (h:Hp) (R:Value→Hp→Prop):(evC Tryz.prog tab lv82 (sub [1,0,1,0,0] body82)) (loopK (f82I1 J1) n1 (contAt Tryz.prog tab lv82 [1,0,1,0] body82 [] (bodyK Tryz.prog Tryz.f82 [] R))) (mkEnv 79 [(0,.pointer s0),(2,.int .i64 s2),(3,.int .i64 s3)] g) h=f82L1 J1 n1 s0 s2 s3 g h R:=by kernel_rfl
theorem f82I1_at (J:Nat→Option Addr→Int→Int→Hp→Prop) (n:Nat) (s0:Option Addr) (s2:Int) (s3:Int) (g:Nat→Value) (h:Hp):f82I1 J n (mkEnv 79 [(0,.pointer s0),(2,.int .i64 s2),(3,.int .i64 s3)] g) h=J n s0 s2 s3 h:=by kernel_rfl
theorem f82L1_rule  {R:Value→Hp→Prop} {s0:Option Addr} {s2:Int} {s3:Int} {h0:Hp} (J:Nat→Option Addr→Int→Int→Hp→Prop) (n0:Nat) (hi:J n0 s0 s2 s3 h0)
  (hr:∀ n s0 s2 s3 g h,J n s0 s2 s3 h→f82L1  J n s0 s2 s3 g h R):LoopEv (evC Tryz.prog tab lv82 (sub [1,0,1,0,0] body82)) (contAt Tryz.prog tab lv82 [1,0,1,0] body82 [] (bodyK Tryz.prog Tryz.f82 [] R)) [(0,.pointer s0),(2,.int .i64 s2),(3,.int .i64 s3)] 79 h0:=by
 refine ⟨f82I1 J,n0,fun g=>by rw [f82I1_at]; exact hi,fun n env h hI=>?_⟩
 clear hi
 clear s0 s2 s3
 obtain ⟨hlen,hI⟩:=Cond_true' hI
 have hlen:env.length=79:=by simpa using hlen
 obtain ⟨s0,es0,hI⟩:=DecP.out hI
 obtain ⟨s2,es2,hI⟩:=DecI.out hI
 obtain ⟨s3,es3,hI⟩:=DecI.out hI
 rw [mkEnv_of (l:=[(0,.pointer s0),(2,.int .i64 s2),(3,.int .i64 s3)]) hlen (by simp only [List.mem_cons,List.not_mem_nil,or_false,forall_eq_or_imp,forall_eq]; exact ⟨es0,es2,es3⟩)]
 rw [f82L1_eq]
 exact hr n s0 s2 s3 _ h hI
def f82F (a0:Option Addr) (h:Hp) (R:Value→Hp→Prop):Prop :=
 PtrOk a0 fun p8=>∃ t10:Sl,cell h (p8.add 15)=some (.slice t10.a t10.n t10.c)∧PtrOk a0 fun p13=>∃ t15:Int,cell h (p13.add 17)=some (.int .i64 t15)∧LoopEv (evC Tryz.prog tab lv82 (sub [1,0,1,0,0] body82)) (contAt Tryz.prog tab lv82 [1,0,1,0] body82 [] (bodyK Tryz.prog Tryz.f82 [] R)) [(0,.pointer a0),(2,.int .i64 (((t10.n:Nat):Int))),(3,.int .i64 t15)] 79 h
theorem f82F_eq (a0:Option Addr) (h:Hp) (R:Value→Hp→Prop):evF Tryz.prog tab lv82 Tryz.f82 body82 [] [.pointer a0] h R=f82F a0 h R:=by kernel_rfl
theorem f82F_ok {a0:Option Addr} {h:Hp} {R:Value→Hp→Prop} (hF:f82F a0 h R):CallTo Tryz.prog 82 #[.pointer a0] h R :=
 callTo_of_ev (lv:=lv82) (hints:=[]) (c:=body82) (args:=[.pointer a0]) mixed tab_ok Tryz.func82 (by kernel_rfl) (by kernel_rfl) (by rw [f82F_eq]; exact hF)
/- (*larder/larderlaw1.Book).growPlaces -/
noncomputable def body83:Code:=(Tryz.f83.body).getD .skip
def lv83 (m:Nat):List Nat:=if m=2 then [0,2,3] else if m=7 then [0,2,3,4,5,6] else []
def f83I1 (J:Nat→Option Addr→Int→Int→Hp→Prop) (n:Nat) (env:List Value) (h:Hp):Prop:=lenIs env 79 (DecP env 0 fun s0=>DecI .i64 env 2 fun s2=>DecI .i64 env 3 fun s3=>J n s0 s2 s3 h)
def f83L1 (J1:Nat→Option Addr→Int→Int→Hp→Prop) (n1:Nat) (s0:Option Addr) (s2:Int) (s3:Int) (g:Nat→Value) (h:Hp) (R:Value→Hp→Prop):Prop :=
 Cond (decide (s3 < s2)) (PtrOk s0 fun p22=>∃ t24:Sl,cell h (p22.add 18)=some (.slice t24.a t24.n t24.c)∧(0 ≤ s3∧s3 < ((t24.n:Nat):Int))∧PtrOk t24.a fun p26=>∃ t27:Sl,cell h (p26.add (s3.toNat * 1))=some (.slice t27.a t27.n t27.c)∧PtrOk s0 fun p29=>∃ t31:Sl,cell h (p29.add 19)=some (.slice t31.a t31.n t31.c)∧(0 ≤ s3∧s3 < ((t31.n:Nat):Int))∧PtrOk t31.a fun p33=>∃ t34:Int,cell h (p33.add (s3.toNat * 1))=some (.int .i64 t34)∧LoopEv (evC Tryz.prog tab lv83 (sub [1,0,1,0,0,1,0,0,1,1,1,0,0] body83)) (contAt Tryz.prog tab lv83 [1,0,1,0,0,1,0,0,1,1,1,0] body83 [loopK (f83I1 J1) n1] (bodyK Tryz.prog Tryz.f83 [] R)) [(0,.pointer s0),(2,.int .i64 s2),(3,.int .i64 s3),(4,.slice t27.a t27.n t27.c),(5,.int .i64 t34),(6,.int .i64 1)] 79 h) (PtrOk s0 fun p73=>∃ t75:Sl,cell h (p73.add 18)=some (.slice t75.a t75.n t75.c)∧PtrOk s0 fun p77=>stOk h (p77.add 20)∧Let (setc h (p77.add 20) (.int .i64 (((t75.n:Nat):Int)))) fun h10=>R (.tuple #[]:Value) h10)
theorem f83L1_eq (J1:Nat→Option Addr→Int→Int→Hp→Prop) (n1:Nat) (s0:Option Addr) (s2:Int) (s3:Int) (g:Nat→Value) (h:Hp) (R:Value→Hp→Prop):(evC Tryz.prog tab lv83 (sub [1,0,1,0,0] body83)) (loopK (f83I1 J1) n1 (contAt Tryz.prog tab lv83 [1,0,1,0] body83 [] (bodyK Tryz.prog Tryz.f83 [] R))) (mkEnv 79 [(0,.pointer s0),(2,.int .i64 s2),(3,.int .i64 s3)] g) h=f83L1 J1 n1 s0 s2 s3 g h R:=by kernel_rfl
theorem f83I1_at (J:Nat→Option Addr→Int→Int→Hp→Prop) (n:Nat) (s0:Option Addr) (s2:Int) (s3:Int) (g:Nat→Value) (h:Hp):f83I1 J n (mkEnv 79 [(0,.pointer s0),(2,.int .i64 s2),(3,.int .i64 s3)] g) h=J n s0 s2 s3 h:=by kernel_rfl
theorem f83L1_rule  {R:Value→Hp→Prop} {s0:Option Addr} {s2:Int} {s3:Int} {h0:Hp} (J:Nat→Option Addr→Int→Int→Hp→Prop) (n0:Nat) (hi:J n0 s0 s2 s3 h0)
  (hr:∀ n s0 s2 s3 g h,J n s0 s2 s3 h→f83L1  J n s0 s2 s3 g h R):LoopEv (evC Tryz.prog tab lv83 (sub [1,0,1,0,0] body83)) (contAt Tryz.prog tab lv83 [1,0,1,0] body83 [] (bodyK Tryz.prog Tryz.f83 [] R)) [(0,.pointer s0),(2,.int .i64 s2),(3,.int .i64 s3)] 79 h0:=by
 refine ⟨f83I1 J,n0,fun g=>by rw [f83I1_at]; exact hi,fun n env h hI=>?_⟩
 clear hi
 clear s0 s2 s3
 obtain ⟨hlen,hI⟩:=Cond_true' hI
 have hlen:env.length=79:=by simpa using hlen
 obtain ⟨s0,es0,hI⟩:=DecP.out hI
 obtain ⟨s2,es2,hI⟩:=DecI.out hI
 obtain ⟨s3,es3,hI⟩:=DecI.out hI
 rw [mkEnv_of (l:=[(0,.pointer s0),(2,.int .i64 s2),(3,.int .i64 s3)]) hlen (by simp only [List.mem_cons,List.not_mem_nil,or_false,forall_eq_or_imp,forall_eq]; exact ⟨es0,es2,es3⟩)]
 rw [f83L1_eq]
 exact hr n s0 s2 s3 _ h hI
def f83F (a0:Option Addr) (h:Hp) (R:Value→Hp→Prop):Prop :=
 PtrOk a0 fun p8=>∃ t10:Sl,cell h (p8.add 18)=some (.slice t10.a t10.n t10.c)∧PtrOk a0 fun p13=>∃ t15:Int,cell h (p13.add 20)=some (.int .i64 t15)∧LoopEv (evC Tryz.prog tab lv83 (sub [1,0,1,0,0] body83)) (contAt Tryz.prog tab lv83 [1,0,1,0] body83 [] (bodyK Tryz.prog Tryz.f83 [] R)) [(0,.pointer a0),(2,.int .i64 (((t10.n:Nat):Int))),(3,.int .i64 t15)] 79 h
theorem f83F_eq (a0:Option Addr) (h:Hp) (R:Value→Hp→Prop):evF Tryz.prog tab lv83 Tryz.f83 body83 [] [.pointer a0] h R=f83F a0 h R:=by kernel_rfl
theorem f83F_ok {a0:Option Addr} {h:Hp} {R:Value→Hp→Prop} (hF:f83F a0 h R):CallTo Tryz.prog 83 #[.pointer a0] h R :=
 callTo_of_ev (lv:=lv83) (hints:=[]) (c:=body83) (args:=[.pointer a0]) mixed tab_ok Tryz.func83 (by kernel_rfl) (by kernel_rfl) (by rw [f83F_eq]; exact hF)
/- (*larder/larderlaw1.Book).growActs -/
noncomputable def body84:Code:=(Tryz.f84.body).getD .skip
def lv84 (m:Nat):List Nat:=if m=2 then [0,2,3] else if m=7 then [0,2,3,4,5,6] else []
def f84I1 (J:Nat→Option Addr→Int→Int→Hp→Prop) (n:Nat) (env:List Value) (h:Hp):Prop:=lenIs env 79 (DecP env 0 fun s0=>DecI .i64 env 2 fun s2=>DecI .i64 env 3 fun s3=>J n s0 s2 s3 h)
def f84L1 (J1:Nat→Option Addr→Int→Int→Hp→Prop) (n1:Nat) (s0:Option Addr) (s2:Int) (s3:Int) (g:Nat→Value) (h:Hp) (R:Value→Hp→Prop):Prop :=
 Cond (decide (s3 < s2)) (PtrOk s0 fun p22=>∃ t24:Sl,cell h (p22.add 21)=some (.slice t24.a t24.n t24.c)∧(0 ≤ s3∧s3 < ((t24.n:Nat):Int))∧PtrOk t24.a fun p26=>∃ t27:Sl,cell h (p26.add (s3.toNat * 1))=some (.slice t27.a t27.n t27.c)∧PtrOk s0 fun p29=>∃ t31:Sl,cell h (p29.add 22)=some (.slice t31.a t31.n t31.c)∧(0 ≤ s3∧s3 < ((t31.n:Nat):Int))∧PtrOk t31.a fun p33=>∃ t34:Int,cell h (p33.add (s3.toNat * 1))=some (.int .i64 t34)∧LoopEv (evC Tryz.prog tab lv84 (sub [1,0,1,0,0,1,0,0,1,1,1,0,0] body84)) (contAt Tryz.prog tab lv84 [1,0,1,0,0,1,0,0,1,1,1,0] body84 [loopK (f84I1 J1) n1] (bodyK Tryz.prog Tryz.f84 [] R)) [(0,.pointer s0),(2,.int .i64 s2),(3,.int .i64 s3),(4,.slice t27.a t27.n t27.c),(5,.int .i64 t34),(6,.int .i64 1)] 79 h) (PtrOk s0 fun p73=>∃ t75:Sl,cell h (p73.add 21)=some (.slice t75.a t75.n t75.c)∧PtrOk s0 fun p77=>stOk h (p77.add 23)∧Let (setc h (p77.add 23) (.int .i64 (((t75.n:Nat):Int)))) fun h10=>R (.tuple #[]:Value) h10)
theorem f84L1_eq (J1:Nat→Option Addr→Int→Int→Hp→Prop) (n1:Nat) (s0:Option Addr) (s2:Int) (s3:Int) (g:Nat→Value) (h:Hp) (R:Value→Hp→Prop):(evC Tryz.prog tab lv84 (sub [1,0,1,0,0] body84)) (loopK (f84I1 J1) n1 (contAt Tryz.prog tab lv84 [1,0,1,0] body84 [] (bodyK Tryz.prog Tryz.f84 [] R))) (mkEnv 79 [(0,.pointer s0),(2,.int .i64 s2),(3,.int .i64 s3)] g) h=f84L1 J1 n1 s0 s2 s3 g h R:=by kernel_rfl
theorem f84I1_at (J:Nat→Option Addr→Int→Int→Hp→Prop) (n:Nat) (s0:Option Addr) (s2:Int) (s3:Int) (g:Nat→Value) (h:Hp):f84I1 J n (mkEnv 79 [(0,.pointer s0),(2,.int .i64 s2),(3,.int .i64 s3)] g) h=J n s0 s2 s3 h:=by kernel_rfl
theorem f84L1_rule  {R:Value→Hp→Prop} {s0:Option Addr} {s2:Int} {s3:Int} {h0:Hp} (J:Nat→Option Addr→Int→Int→Hp→Prop) (n0:Nat) (hi:J n0 s0 s2 s3 h0)
  (hr:∀ n s0 s2 s3 g h,J n s0 s2 s3 h→f84L1  J n s0 s2 s3 g h R):LoopEv (evC Tryz.prog tab lv84 (sub [1,0,1,0,0] body84)) (contAt Tryz.prog tab lv84 [1,0,1,0] body84 [] (bodyK Tryz.prog Tryz.f84 [] R)) [(0,.pointer s0),(2,.int .i64 s2),(3,.int .i64 s3)] 79 h0:=by
 refine ⟨f84I1 J,n0,fun g=>by rw [f84I1_at]; exact hi,fun n env h hI=>?_⟩
 clear hi
 clear s0 s2 s3
 obtain ⟨hlen,hI⟩:=Cond_true' hI
 have hlen:env.length=79:=by simpa using hlen
 obtain ⟨s0,es0,hI⟩:=DecP.out hI
 obtain ⟨s2,es2,hI⟩:=DecI.out hI
 obtain ⟨s3,es3,hI⟩:=DecI.out hI
 rw [mkEnv_of (l:=[(0,.pointer s0),(2,.int .i64 s2),(3,.int .i64 s3)]) hlen (by simp only [List.mem_cons,List.not_mem_nil,or_false,forall_eq_or_imp,forall_eq]; exact ⟨es0,es2,es3⟩)]
 rw [f84L1_eq]
 exact hr n s0 s2 s3 _ h hI
def f84F (a0:Option Addr) (h:Hp) (R:Value→Hp→Prop):Prop :=
 PtrOk a0 fun p8=>∃ t10:Sl,cell h (p8.add 21)=some (.slice t10.a t10.n t10.c)∧PtrOk a0 fun p13=>∃ t15:Int,cell h (p13.add 23)=some (.int .i64 t15)∧LoopEv (evC Tryz.prog tab lv84 (sub [1,0,1,0,0] body84)) (contAt Tryz.prog tab lv84 [1,0,1,0] body84 [] (bodyK Tryz.prog Tryz.f84 [] R)) [(0,.pointer a0),(2,.int .i64 (((t10.n:Nat):Int))),(3,.int .i64 t15)] 79 h
theorem f84F_eq (a0:Option Addr) (h:Hp) (R:Value→Hp→Prop):evF Tryz.prog tab lv84 Tryz.f84 body84 [] [.pointer a0] h R=f84F a0 h R:=by kernel_rfl
theorem f84F_ok {a0:Option Addr} {h:Hp} {R:Value→Hp→Prop} (hF:f84F a0 h R):CallTo Tryz.prog 84 #[.pointer a0] h R :=
 callTo_of_ev (lv:=lv84) (hints:=[]) (c:=body84) (args:=[.pointer a0]) mixed tab_ok Tryz.func84 (by kernel_rfl) (by kernel_rfl) (by rw [f84F_eq]; exact hF)
/- (*larder/larderlaw1.Book).growEnts -/
noncomputable def body85:Code:=(Tryz.f85.body).getD .skip
def lv85 (m:Nat):List Nat:=if m=2 then [0,2,3] else if m=7 then [0,2,3,4,5,6] else []
def f85I1 (J:Nat→Option Addr→Int→Int→Hp→Prop) (n:Nat) (env:List Value) (h:Hp):Prop:=lenIs env 79 (DecP env 0 fun s0=>DecI .i64 env 2 fun s2=>DecI .i64 env 3 fun s3=>J n s0 s2 s3 h)
def f85L1 (J1:Nat→Option Addr→Int→Int→Hp→Prop) (n1:Nat) (s0:Option Addr) (s2:Int) (s3:Int) (g:Nat→Value) (h:Hp) (R:Value→Hp→Prop):Prop :=
 Cond (decide (s3 < s2)) (PtrOk s0 fun p22=>∃ t24:Sl,cell h (p22.add 24)=some (.slice t24.a t24.n t24.c)∧(0 ≤ s3∧s3 < ((t24.n:Nat):Int))∧PtrOk t24.a fun p26=>∃ t27:Sl,cell h (p26.add (s3.toNat * 1))=some (.slice t27.a t27.n t27.c)∧PtrOk s0 fun p29=>∃ t31:Sl,cell h (p29.add 25)=some (.slice t31.a t31.n t31.c)∧(0 ≤ s3∧s3 < ((t31.n:Nat):Int))∧PtrOk t31.a fun p33=>∃ t34:Int,cell h (p33.add (s3.toNat * 1))=some (.int .i64 t34)∧LoopEv (evC Tryz.prog tab lv85 (sub [1,0,1,0,0,1,0,0,1,1,1,0,0] body85)) (contAt Tryz.prog tab lv85 [1,0,1,0,0,1,0,0,1,1,1,0] body85 [loopK (f85I1 J1) n1] (bodyK Tryz.prog Tryz.f85 [] R)) [(0,.pointer s0),(2,.int .i64 s2),(3,.int .i64 s3),(4,.slice t27.a t27.n t27.c),(5,.int .i64 t34),(6,.int .i64 1)] 79 h) (PtrOk s0 fun p73=>∃ t75:Sl,cell h (p73.add 24)=some (.slice t75.a t75.n t75.c)∧PtrOk s0 fun p77=>stOk h (p77.add 26)∧Let (setc h (p77.add 26) (.int .i64 (((t75.n:Nat):Int)))) fun h10=>R (.tuple #[]:Value) h10)
theorem f85L1_eq (J1:Nat→Option Addr→Int→Int→Hp→Prop) (n1:Nat) (s0:Option Addr) (s2:Int) (s3:Int) (g:Nat→Value) (h:Hp) (R:Value→Hp→Prop):(evC Tryz.prog tab lv85 (sub [1,0,1,0,0] body85)) (loopK (f85I1 J1) n1 (contAt Tryz.prog tab lv85 [1,0,1,0] body85 [] (bodyK Tryz.prog Tryz.f85 [] R))) (mkEnv 79 [(0,.pointer s0),(2,.int .i64 s2),(3,.int .i64 s3)] g) h=f85L1 J1 n1 s0 s2 s3 g h R:=by kernel_rfl
theorem f85I1_at (J:Nat→Option Addr→Int→Int→Hp→Prop) (n:Nat) (s0:Option Addr) (s2:Int) (s3:Int) (g:Nat→Value) (h:Hp):f85I1 J n (mkEnv 79 [(0,.pointer s0),(2,.int .i64 s2),(3,.int .i64 s3)] g) h=J n s0 s2 s3 h:=by kernel_rfl
theorem f85L1_rule  {R:Value→Hp→Prop} {s0:Option Addr} {s2:Int} {s3:Int} {h0:Hp} (J:Nat→Option Addr→Int→Int→Hp→Prop) (n0:Nat) (hi:J n0 s0 s2 s3 h0)
  (hr:∀ n s0 s2 s3 g h,J n s0 s2 s3 h→f85L1  J n s0 s2 s3 g h R):LoopEv (evC Tryz.prog tab lv85 (sub [1,0,1,0,0] body85)) (contAt Tryz.prog tab lv85 [1,0,1,0] body85 [] (bodyK Tryz.prog Tryz.f85 [] R)) [(0,.pointer s0),(2,.int .i64 s2),(3,.int .i64 s3)] 79 h0:=by
 refine ⟨f85I1 J,n0,fun g=>by rw [f85I1_at]; exact hi,fun n env h hI=>?_⟩
 clear hi
 clear s0 s2 s3
 obtain ⟨hlen,hI⟩:=Cond_true' hI
 have hlen:env.length=79:=by simpa using hlen
 obtain ⟨s0,es0,hI⟩:=DecP.out hI
 obtain ⟨s2,es2,hI⟩:=DecI.out hI
 obtain ⟨s3,es3,hI⟩:=DecI.out hI
 rw [mkEnv_of (l:=[(0,.pointer s0),(2,.int .i64 s2),(3,.int .i64 s3)]) hlen (by simp only [List.mem_cons,List.not_mem_nil,or_false,forall_eq_or_imp,forall_eq]; exact ⟨es0,es2,es3⟩)]
 rw [f85L1_eq]
 exact hr n s0 s2 s3 _ h hI
def f85F (a0:Option Addr) (h:Hp) (R:Value→Hp→Prop):Prop :=
 PtrOk a0 fun p8=>∃ t10:Sl,cell h (p8.add 24)=some (.slice t10.a t10.n t10.c)∧PtrOk a0 fun p13=>∃ t15:Int,cell h (p13.add 26)=some (.int .i64 t15)∧LoopEv (evC Tryz.prog tab lv85 (sub [1,0,1,0,0] body85)) (contAt Tryz.prog tab lv85 [1,0,1,0] body85 [] (bodyK Tryz.prog Tryz.f85 [] R)) [(0,.pointer a0),(2,.int .i64 (((t10.n:Nat):Int))),(3,.int .i64 t15)] 79 h
theorem f85F_eq (a0:Option Addr) (h:Hp) (R:Value→Hp→Prop):evF Tryz.prog tab lv85 Tryz.f85 body85 [] [.pointer a0] h R=f85F a0 h R:=by kernel_rfl
theorem f85F_ok {a0:Option Addr} {h:Hp} {R:Value→Hp→Prop} (hF:f85F a0 h R):CallTo Tryz.prog 85 #[.pointer a0] h R :=
 callTo_of_ev (lv:=lv85) (hints:=[]) (c:=body85) (args:=[.pointer a0]) mixed tab_ok Tryz.func85 (by kernel_rfl) (by kernel_rfl) (by rw [f85F_eq]; exact hF)
/- (*larder/larderlaw1.Book).growCmds -/
noncomputable def body86:Code:=(Tryz.f86.body).getD .skip
def lv86 (m:Nat):List Nat:=if m=2 then [0,2,3] else if m=7 then [0,2,3,4,5,6] else []
def f86I1 (J:Nat→Option Addr→Int→Int→Hp→Prop) (n:Nat) (env:List Value) (h:Hp):Prop:=lenIs env 79 (DecP env 0 fun s0=>DecI .i64 env 2 fun s2=>DecI .i64 env 3 fun s3=>J n s0 s2 s3 h)
def f86L1 (J1:Nat→Option Addr→Int→Int→Hp→Prop) (n1:Nat) (s0:Option Addr) (s2:Int) (s3:Int) (g:Nat→Value) (h:Hp) (R:Value→Hp→Prop):Prop :=
 Cond (decide (s3 < s2)) (PtrOk s0 fun p22=>∃ t24:Sl,cell h (p22.add 27)=some (.slice t24.a t24.n t24.c)∧(0 ≤ s3∧s3 < ((t24.n:Nat):Int))∧PtrOk t24.a fun p26=>∃ t27:Sl,cell h (p26.add (s3.toNat * 1))=some (.slice t27.a t27.n t27.c)∧PtrOk s0 fun p29=>∃ t31:Sl,cell h (p29.add 28)=some (.slice t31.a t31.n t31.c)∧(0 ≤ s3∧s3 < ((t31.n:Nat):Int))∧PtrOk t31.a fun p33=>∃ t34:Int,cell h (p33.add (s3.toNat * 1))=some (.int .i64 t34)∧LoopEv (evC Tryz.prog tab lv86 (sub [1,0,1,0,0,1,0,0,1,1,1,0,0] body86)) (contAt Tryz.prog tab lv86 [1,0,1,0,0,1,0,0,1,1,1,0] body86 [loopK (f86I1 J1) n1] (bodyK Tryz.prog Tryz.f86 [] R)) [(0,.pointer s0),(2,.int .i64 s2),(3,.int .i64 s3),(4,.slice t27.a t27.n t27.c),(5,.int .i64 t34),(6,.int .i64 1)] 79 h) (PtrOk s0 fun p73=>∃ t75:Sl,cell h (p73.add 27)=some (.slice t75.a t75.n t75.c)∧PtrOk s0 fun p77=>stOk h (p77.add 29)∧Let (setc h (p77.add 29) (.int .i64 (((t75.n:Nat):Int)))) fun h10=>R (.tuple #[]:Value) h10)
theorem f86L1_eq (J1:Nat→Option Addr→Int→Int→Hp→Prop) (n1:Nat) (s0:Option Addr) (s2:Int) (s3:Int) (g:Nat→Value) (h:Hp) (R:Value→Hp→Prop):(evC Tryz.prog tab lv86 (sub [1,0,1,0,0] body86)) (loopK (f86I1 J1) n1 (contAt Tryz.prog tab lv86 [1,0,1,0] body86 [] (bodyK Tryz.prog Tryz.f86 [] R))) (mkEnv 79 [(0,.pointer s0),(2,.int .i64 s2),(3,.int .i64 s3)] g) h=f86L1 J1 n1 s0 s2 s3 g h R:=by kernel_rfl
theorem f86I1_at (J:Nat→Option Addr→Int→Int→Hp→Prop) (n:Nat) (s0:Option Addr) (s2:Int) (s3:Int) (g:Nat→Value) (h:Hp):f86I1 J n (mkEnv 79 [(0,.pointer s0),(2,.int .i64 s2),(3,.int .i64 s3)] g) h=J n s0 s2 s3 h:=by kernel_rfl
theorem f86L1_rule  {R:Value→Hp→Prop} {s0:Option Addr} {s2:Int} {s3:Int} {h0:Hp} (J:Nat→Option Addr→Int→Int→Hp→Prop) (n0:Nat) (hi:J n0 s0 s2 s3 h0)
  (hr:∀ n s0 s2 s3 g h,J n s0 s2 s3 h→f86L1  J n s0 s2 s3 g h R):LoopEv (evC Tryz.prog tab lv86 (sub [1,0,1,0,0] body86)) (contAt Tryz.prog tab lv86 [1,0,1,0] body86 [] (bodyK Tryz.prog Tryz.f86 [] R)) [(0,.pointer s0),(2,.int .i64 s2),(3,.int .i64 s3)] 79 h0:=by
 refine ⟨f86I1 J,n0,fun g=>by rw [f86I1_at]; exact hi,fun n env h hI=>?_⟩
 clear hi
 clear s0 s2 s3
 obtain ⟨hlen,hI⟩:=Cond_true' hI
 have hlen:env.length=79:=by simpa using hlen
 obtain ⟨s0,es0,hI⟩:=DecP.out hI
 obtain ⟨s2,es2,hI⟩:=DecI.out hI
 obtain ⟨s3,es3,hI⟩:=DecI.out hI
 rw [mkEnv_of (l:=[(0,.pointer s0),(2,.int .i64 s2),(3,.int .i64 s3)]) hlen (by simp only [List.mem_cons,List.not_mem_nil,or_false,forall_eq_or_imp,forall_eq]; exact ⟨es0,es2,es3⟩)]
 rw [f86L1_eq]
 exact hr n s0 s2 s3 _ h hI
def f86F (a0:Option Addr) (h:Hp) (R:Value→Hp→Prop):Prop :=
 PtrOk a0 fun p8=>∃ t10:Sl,cell h (p8.add 27)=some (.slice t10.a t10.n t10.c)∧PtrOk a0 fun p13=>∃ t15:Int,cell h (p13.add 29)=some (.int .i64 t15)∧LoopEv (evC Tryz.prog tab lv86 (sub [1,0,1,0,0] body86)) (contAt Tryz.prog tab lv86 [1,0,1,0] body86 [] (bodyK Tryz.prog Tryz.f86 [] R)) [(0,.pointer a0),(2,.int .i64 (((t10.n:Nat):Int))),(3,.int .i64 t15)] 79 h
theorem f86F_eq (a0:Option Addr) (h:Hp) (R:Value→Hp→Prop):evF Tryz.prog tab lv86 Tryz.f86 body86 [] [.pointer a0] h R=f86F a0 h R:=by kernel_rfl
theorem f86F_ok {a0:Option Addr} {h:Hp} {R:Value→Hp→Prop} (hF:f86F a0 h R):CallTo Tryz.prog 86 #[.pointer a0] h R :=
 callTo_of_ev (lv:=lv86) (hints:=[]) (c:=body86) (args:=[.pointer a0]) mixed tab_ok Tryz.func86 (by kernel_rfl) (by kernel_rfl) (by rw [f86F_eq]; exact hF)
/- larder/larderlaw1.at -/
noncomputable def body87:Code:=(Tryz.f87.body).getD .skip
def lv87 (m:Nat):List Nat:=[]
def f87F (a0:Int) (a1:Int) (h:Hp) (R:Value→Hp→Prop):Prop :=
 (2:Int) ≠ 0∧Cond ((Int.tmod a1 (2:Int)) == (0:Int)) ((251:Int) ≠ 0∧R ((.int .u8 (IntKind.wrap .u8 (IntKind.wrap .i64 ((1:Int) + (Int.tmod a0 (251:Int))))):Value)) h) ((251:Int) ≠ 0∧(251:Int) ≠ 0∧R ((.int .u8 (IntKind.wrap .u8 (IntKind.wrap .i64 ((1:Int) + (Int.tmod (IntKind.wrap .i64 ((IntKind.wrap .i64 ((7:Int) * a0)) + (IntKind.wrap .i64 (Int.tdiv a0 (251:Int))))) (251:Int))))):Value)) h)
theorem f87F_eq (a0:Int) (a1:Int) (h:Hp) (R:Value→Hp→Prop):evF Tryz.prog tab lv87 Tryz.f87 body87 [] [.int .i64 a0,.int .i64 a1] h R=f87F a0 a1 h R:=by kernel_rfl
theorem f87F_ok {a0:Int} {a1:Int} {h:Hp} {R:Value→Hp→Prop} (hF:f87F a0 a1 h R):CallTo Tryz.prog 87 #[.int .i64 a0,.int .i64 a1] h R :=
 callTo_of_ev (lv:=lv87) (hints:=[]) (c:=body87) (args:=[.int .i64 a0,.int .i64 a1]) mixed tab_ok Tryz.func87 (by kernel_rfl) (by kernel_rfl) (by rw [f87F_eq]; exact hF)
/- (*larder/larderlaw1.Book).tight -/
noncomputable def body88:Code:=(Tryz.f88.body).getD .skip
def lv88 (m:Nat):List Nat:=[]
def f88F (a0:Option Addr) (a1:Int) (h:Hp) (R:Value→Hp→Prop):Prop :=
 PtrOk a0 fun p6=>∃ t8:Int,cell h (p6.add 32)=some (.int .i64 t8)∧Cond (decide ((IntKind.wrap .i64 (t8 + a1)) > (16777216:Int))) (R (.bool true:Value) h) (PtrOk a0 fun p14=>∃ t16:Int,cell h (p14.add 32)=some (.int .i64 t16)∧PtrOk a0 fun p19=>stOk h (p19.add 32)∧Let (setc h (p19.add 32) (.int .i64 (IntKind.wrap .i64 (t16 + a1)))) fun h1=>R (.bool false:Value) h1)
theorem f88F_eq (a0:Option Addr) (a1:Int) (h:Hp) (R:Value→Hp→Prop):evF Tryz.prog tab lv88 Tryz.f88 body88 [] [.pointer a0,.int .i64 a1] h R=f88F a0 a1 h R:=by kernel_rfl
theorem f88F_ok {a0:Option Addr} {a1:Int} {h:Hp} {R:Value→Hp→Prop} (hF:f88F a0 a1 h R):CallTo Tryz.prog 88 #[.pointer a0,.int .i64 a1] h R :=
 callTo_of_ev (lv:=lv88) (hints:=[]) (c:=body88) (args:=[.pointer a0,.int .i64 a1]) mixed tab_ok Tryz.func88 (by kernel_rfl) (by kernel_rfl) (by rw [f88F_eq]; exact hF)
/- (*larder/larderlaw1.Late).Add -/
noncomputable def body97:Code:=(Tryz.f97.body).getD .skip
def lv97 (m:Nat):List Nat:=[]
def f97F (a0:Option Addr) (a1:Sl) (a2:Sl) (h:Hp) (R:Value→Hp→Prop):Prop :=
 PtrOk a0 fun p8=>∃ t10:Sl,cell h p8=some (.slice t10.a t10.n t10.c)∧Let (h.push (.cells #[.slice a1.a a1.n a1.c] 33)) fun h1=>appSl 33 1 24 #[.slice none 0 0] t10.a t10.n t10.c (some (nb h)) 1 h1 fun ra2 rn2 rc2 h2=>PtrOk a0 fun p14=>stOk h2 p14∧Let (setc h2 p14 (.slice ra2 rn2 rc2)) fun h3=>PtrOk a0 fun p18=>∃ t20:Sl,cell h3 (p18.add 1)=some (.slice t20.a t20.n t20.c)∧∃ t22:ByteArray,Spells h3 a2.a a2.n t22∧t22.size < 2 ^ 62∧∀ c23:Nat,t22.size ≤ c23→c23 < 2 ^ 63→Let (h3.push (.cells ((t22.data.map fun b=>Value.int .u8 b.toNat) ++ Array.replicate (c23 - t22.size) (.int .u8 0)) 5 (c23,c23 + 1))) fun h4=>(∃ y0:Sl,cell h4 (p18.add 1)=some (.slice y0.a y0.n y0.c)∧Next.value (.slice y0.a y0.n y0.c)=Next.value (.slice t20.a t20.n t20.c))∧Let (h4.push (.cells #[.slice (some (nb h3)) t22.size c23] 33)) fun h5=>(∃ y0:Sl,cell h5 (p18.add 1)=some (.slice y0.a y0.n y0.c)∧Next.value (.slice y0.a y0.n y0.c)=Next.value (.slice t20.a t20.n t20.c))∧appSl 33 1 24 #[.slice none 0 0] t20.a t20.n t20.c (some (nb h4)) 1 h5 fun ra6 rn6 rc6 h6=>PtrOk a0 fun p26=>stOk h6 (p26.add 1)∧Let (setc h6 (p26.add 1) (.slice ra6 rn6 rc6)) fun h7=>R (.tuple #[]:Value) h7
theorem f97F_eq (a0:Option Addr) (a1:Sl) (a2:Sl) (h:Hp) (R:Value→Hp→Prop):evF Tryz.prog tab lv97 Tryz.f97 body97 [] [.pointer a0,.slice a1.a a1.n a1.c,.slice a2.a a2.n a2.c] h R=f97F a0 a1 a2 h R:=by kernel_rfl
theorem f97F_ok {a0:Option Addr} {a1:Sl} {a2:Sl} {h:Hp} {R:Value→Hp→Prop} (hF:f97F a0 a1 a2 h R):CallTo Tryz.prog 97 #[.pointer a0,.slice a1.a a1.n a1.c,.slice a2.a a2.n a2.c] h R :=
 callTo_of_ev (lv:=lv97) (hints:=[]) (c:=body97) (args:=[.pointer a0,.slice a1.a a1.n a1.c,.slice a2.a a2.n a2.c]) mixed tab_ok Tryz.func97 (by kernel_rfl) (by kernel_rfl) (by rw [f97F_eq]; exact hF)
end Go.Ev
