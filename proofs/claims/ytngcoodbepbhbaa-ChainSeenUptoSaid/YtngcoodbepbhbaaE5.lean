/- Printed by a program (own work) out of the loaded functions: what each says of the heap, and that the evaluator says the same. No condition but that these are ones. -/
import Derived.Test.YtngcoodbepbhbaaE4
set_option linter.all false
set_option maxRecDepth 100000
namespace Go.Ev
open Go.Proofs
/- larder/arena.New -/
noncomputable def body39:Code:=(Try.f39.body).getD .skip
def lv39 (m:Nat):List Nat:=[]
def f39K1  (x0:Int) (x9:Bool) (h:Hp) (R:Value→Hp→Prop):Prop :=
 Cond x9 (R (.tuple #[.pointer none,.int .i64 20]:Value) h) (((0 ≤ (1:Int)∧(1:Int) ≤ (1:Int))∧(1:Int) < 2 ^ 62∧(8:Nat) * (1:Int) ≤ 2 ^ 48∧Let (h.push (.cells (zrow #[.int .u64 0] ((1:Int).toNat * 1)) 106)) fun h1=>(0 ≤ (1:Int)∧(1:Int) ≤ (1:Int))∧(1:Int) < 2 ^ 62∧(8:Nat) * (1:Int) ≤ 2 ^ 48∧Let (h1.push (.cells (zrow #[.int .u64 0] ((1:Int).toNat * 1)) 106)) fun h2=>Let (h2.push (.cells #[.int .i64 x0,.slice (some (nb h)) ((1:Int).toNat) ((1:Int).toNat),.slice (some (nb h1)) ((1:Int).toNat) ((1:Int).toNat)] 131)) fun h3=>R ((.tuple #[.pointer (some (nb h2)),.int .i64 0]:Value)) h3)∧((0 ≤ (1:Int)∧(1:Int) ≤ (1:Int))∧(1:Int) < 2 ^ 62∧(8:Nat) * (1:Int) ≤ 2 ^ 48∧Let (h.push (.cells (zrow #[.int .u64 0] ((1:Int).toNat * 1)) 106)) fun h4=>(0 ≤ (1:Int)∧(1:Int) ≤ (1:Int))∧(1:Int) < 2 ^ 62∧(8:Nat) * (1:Int) ≤ 2 ^ 48∧Let (h4.push (.cells (zrow #[.int .u64 0] ((1:Int).toNat * 1)) 106)) fun h5=>Let (h5.push (.cells #[.int .i64 x0,.slice (some (nb h4)) ((1:Int).toNat) ((1:Int).toNat),.slice (some (nb h)) ((1:Int).toNat) ((1:Int).toNat)] 131)) fun h6=>R ((.tuple #[.pointer (some (nb h5)),.int .i64 0]:Value)) h6))
def f39F (a0:Int) (h:Hp) (R:Value→Hp→Prop):Prop :=
 Cond (decide (a0 < (1:Int))) (f39K1  a0 true h R) (f39K1  a0 (decide (a0 > (1048576:Int))) h R)
theorem f39F_eq (a0:Int) (h:Hp) (R:Value→Hp→Prop):evF Try.prog tab lv39 Try.f39 body39 [] [.int .i64 a0] h R=f39F a0 h R:=by kernel_rfl
theorem f39F_ok {a0:Int} {h:Hp} {R:Value→Hp→Prop} (hF:f39F a0 h R):CallTo Try.prog 39 #[.int .i64 a0] h R :=
 callTo_of_ev (lv:=lv39) (hints:=[]) (c:=body39) (args:=[.int .i64 a0]) mixed tab_ok Try.func39 (by kernel_rfl) (by kernel_rfl) (by rw [f39F_eq]; exact hF)
/- (*larder/arena.Arena).Size -/
noncomputable def body49:Code:=(Try.f49.body).getD .skip
def lv49 (m:Nat):List Nat:=[]
def f49F (a0:Option Addr) (h:Hp) (R:Value→Hp→Prop):Prop :=
 PtrOk a0 fun p4=>∃ t6:Int,cell h p4=some (.int .i64 t6)∧R (.int .i64 t6:Value) h
theorem f49F_eq (a0:Option Addr) (h:Hp) (R:Value→Hp→Prop):evF Try.prog tab lv49 Try.f49 body49 [] [.pointer a0] h R=f49F a0 h R:=by kernel_rfl
theorem f49F_ok {a0:Option Addr} {h:Hp} {R:Value→Hp→Prop} (hF:f49F a0 h R):CallTo Try.prog 49 #[.pointer a0] h R :=
 callTo_of_ev (lv:=lv49) (hints:=[]) (c:=body49) (args:=[.pointer a0]) mixed tab_ok Try.func49 (by kernel_rfl) (by kernel_rfl) (by rw [f49F_eq]; exact hF)
/- (*larder/arena.Arena).Used -/
noncomputable def body50:Code:=(Try.f50.body).getD .skip
def lv50 (m:Nat):List Nat:=[]
def f50F (a0:Option Addr) (h:Hp) (R:Value→Hp→Prop):Prop :=
 PtrOk a0 fun p4=>∃ t6:Sl,cell h (p4.add 1)=some (.slice t6.a t6.n t6.c)∧R ((.int .i64 (((t6.n:Nat):Int)):Value)) h
theorem f50F_eq (a0:Option Addr) (h:Hp) (R:Value→Hp→Prop):evF Try.prog tab lv50 Try.f50 body50 [] [.pointer a0] h R=f50F a0 h R:=by kernel_rfl
theorem f50F_ok {a0:Option Addr} {h:Hp} {R:Value→Hp→Prop} (hF:f50F a0 h R):CallTo Try.prog 50 #[.pointer a0] h R :=
 callTo_of_ev (lv:=lv50) (hints:=[]) (c:=body50) (args:=[.pointer a0]) mixed tab_ok Try.func50 (by kernel_rfl) (by kernel_rfl) (by rw [f50F_eq]; exact hF)
/- (*larder/arena.Arena).Alloc -/
noncomputable def body65:Code:=(Try.f65.body).getD .skip
def lv65 (m:Nat):List Nat:=[]
def f65F (a0:Option Addr) (a1:Int) (a2:Int) (a3:Int) (h:Hp) (R:Value→Hp→Prop):Prop :=
 CallTo Try.prog 79 #[.int .i64 a1,.int .i64 a2,.int .i64 a3] h fun r h1=>∃ t17_0:Int,∃ t17_1:Int,r=.tuple #[.int .u64 t17_0,.int .i64 t17_1]∧Cond (t17_1 != (0:Int)) (R (.tuple #[.int .i64 0,.int .i64 21]:Value) h1) (PtrOk a0 fun p28=>∃ t30:Int,cell h1 p28=some (.int .i64 t30)∧PtrOk a0 fun p32=>∃ t34:Sl,cell h1 (p32.add 1)=some (.slice t34.a t34.n t34.c)∧Cond (decide ((IntKind.wrap .i64 ((IntKind.wrap .i64 ((1:Int) + a2)) + a3)) > (IntKind.wrap .i64 (t30 - (((t34.n:Nat):Int)))))) (R (.tuple #[.int .i64 0,.int .i64 22]:Value) h1) (CallTo Try.prog 80 #[.pointer a0,.int .u64 t17_0,.int .i64 (IntKind.wrap .i64 ((IntKind.wrap .i64 ((1:Int) + a2)) + a3))] h1 fun r h2=>∃ t41:Int,r=.int .i64 t41∧R (.tuple #[.int .i64 t41,.int .i64 0]:Value) h2))
theorem f65F_eq (a0:Option Addr) (a1:Int) (a2:Int) (a3:Int) (h:Hp) (R:Value→Hp→Prop):evF Try.prog tab lv65 Try.f65 body65 [] [.pointer a0,.int .i64 a1,.int .i64 a2,.int .i64 a3] h R=f65F a0 a1 a2 a3 h R:=by kernel_rfl
theorem f65F_ok {a0:Option Addr} {a1:Int} {a2:Int} {a3:Int} {h:Hp} {R:Value→Hp→Prop} (hF:f65F a0 a1 a2 a3 h R):CallTo Try.prog 65 #[.pointer a0,.int .i64 a1,.int .i64 a2,.int .i64 a3] h R :=
 callTo_of_ev (lv:=lv65) (hints:=[]) (c:=body65) (args:=[.pointer a0,.int .i64 a1,.int .i64 a2,.int .i64 a3]) mixed tab_ok Try.func65 (by kernel_rfl) (by kernel_rfl) (by rw [f65F_eq]; exact hF)
/- (*larder/arena.Arena).Clear -/
noncomputable def body72:Code:=(Try.f72.body).getD .skip
def lv72 (m:Nat):List Nat:=[]
def f72F (a0:Option Addr) (h:Hp) (R:Value→Hp→Prop):Prop :=
 (0 ≤ (1:Int)∧(1:Int) ≤ (1:Int))∧(1:Int) < 2 ^ 62∧(8:Nat) * (1:Int) ≤ 2 ^ 48∧Let (h.push (.cells (zrow #[.int .u64 0] ((1:Int).toNat * 1)) 106)) fun h1=>PtrOk a0 fun p4=>stOk h1 (p4.add 1)∧Let (setc h1 (p4.add 1) (.slice (some (nb h)) ((1:Int).toNat) ((1:Int).toNat))) fun h2=>(0 ≤ (1:Int)∧(1:Int) ≤ (1:Int))∧(1:Int) < 2 ^ 62∧(8:Nat) * (1:Int) ≤ 2 ^ 48∧Let (h2.push (.cells (zrow #[.int .u64 0] ((1:Int).toNat * 1)) 106)) fun h3=>PtrOk a0 fun p8=>stOk h3 (p8.add 2)∧Let (setc h3 (p8.add 2) (.slice (some (nb h2)) ((1:Int).toNat) ((1:Int).toNat))) fun h4=>R (.tuple #[]:Value) h4
theorem f72F_eq (a0:Option Addr) (h:Hp) (R:Value→Hp→Prop):evF Try.prog tab lv72 Try.f72 body72 [] [.pointer a0] h R=f72F a0 h R:=by kernel_rfl
theorem f72F_ok {a0:Option Addr} {h:Hp} {R:Value→Hp→Prop} (hF:f72F a0 h R):CallTo Try.prog 72 #[.pointer a0] h R :=
 callTo_of_ev (lv:=lv72) (hints:=[]) (c:=body72) (args:=[.pointer a0]) mixed tab_ok Try.func72 (by kernel_rfl) (by kernel_rfl) (by rw [f72F_eq]; exact hF)
/- (*larder/arena.Arena).Object -/
noncomputable def body76:Code:=(Try.f76.body).getD .skip
def lv76 (m:Nat):List Nat:=[]
def f76F (a0:Option Addr) (a1:Int) (h:Hp) (R:Value→Hp→Prop):Prop :=
 CallTo Try.prog 87 #[.pointer a0,.int .i64 a1] h fun r h1=>∃ t10:Bool,r=.bool t10∧Cond (!t10) (R (.tuple #[.int .i64 0,.int .i64 0,.int .i64 0,.int .i64 23]:Value) h1) (PtrOk a0 fun p13=>∃ t15:Sl,cell h1 (p13.add 1)=some (.slice t15.a t15.n t15.c)∧(0 ≤ a1∧a1 < ((t15.n:Nat):Int))∧PtrOk t15.a fun p17=>∃ t18:Int,cell h1 (p17.add (a1.toNat * 1))=some (.int .u64 t18)∧Cond ((andI .u64 t18 (9223372036854775808:Int)) != (0:Int)) (R (.tuple #[.int .i64 0,.int .i64 0,.int .i64 0,.int .i64 26]:Value) h1) (PtrOk a0 fun p22=>∃ t24:Sl,cell h1 (p22.add 1)=some (.slice t24.a t24.n t24.c)∧(0 ≤ a1∧a1 < ((t24.n:Nat):Int))∧PtrOk t24.a fun p26=>∃ t27:Int,cell h1 (p26.add (a1.toNat * 1))=some (.int .u64 t27)∧CallTo Try.prog 88 #[.int .u64 t27] h1 fun r h2=>∃ t28_0:Int,∃ t28_1:Int,∃ t28_2:Int,∃ t28_3:Int,r=.tuple #[.int .i64 t28_0,.int .i64 t28_1,.int .i64 t28_2,.int .i64 t28_3]∧R (.tuple #[.int .i64 t28_0,.int .i64 t28_1,.int .i64 t28_2,.int .i64 t28_3]:Value) h2))
theorem f76F_eq (a0:Option Addr) (a1:Int) (h:Hp) (R:Value→Hp→Prop):evF Try.prog tab lv76 Try.f76 body76 [] [.pointer a0,.int .i64 a1] h R=f76F a0 a1 h R:=by kernel_rfl
theorem f76F_ok {a0:Option Addr} {a1:Int} {h:Hp} {R:Value→Hp→Prop} (hF:f76F a0 a1 h R):CallTo Try.prog 76 #[.pointer a0,.int .i64 a1] h R :=
 callTo_of_ev (lv:=lv76) (hints:=[]) (c:=body76) (args:=[.pointer a0,.int .i64 a1]) mixed tab_ok Try.func76 (by kernel_rfl) (by kernel_rfl) (by rw [f76F_eq]; exact hF)
/- (*larder/arena.Arena).Take -/
noncomputable def body77:Code:=(Try.f77.body).getD .skip
def lv77 (m:Nat):List Nat:=[]
def f77K1  (x0:Option Addr) (x1:Option Addr) (x2:Int) (x8:Int) (x10:Int) (x25:Bool) (h:Hp) (R:Value→Hp→Prop):Prop :=
 Cond x25 (R (.tuple #[.int .i64 x8,.int .i64 x10]:Value) h) (CallTo Try.prog 90 #[.pointer x1,.int .i64 x2] h fun r h2=>∃ t31_0:Sl,∃ t31_1:Int,∃ t31_2:Int,r=.tuple #[.slice t31_0.a t31_0.n t31_0.c,.int .i64 t31_1,.int .i64 t31_2]∧Cond (t31_2 != (0:Int)) (R (.tuple #[.int .i64 0,.int .i64 t31_2]:Value) h2) (PtrOk x0 fun p43=>∃ t45:Int,cell h2 p43=some (.int .i64 t45)∧PtrOk x0 fun p47=>∃ t49:Sl,cell h2 (p47.add 1)=some (.slice t49.a t49.n t49.c)∧Cond (decide ((IntKind.wrap .i64 ((1:Int) + (((t31_0.n:Nat):Int)))) > (IntKind.wrap .i64 (t45 - (((t49.n:Nat):Int)))))) (R (.tuple #[.int .i64 0,.int .i64 22]:Value) h2) (PtrOk x1 fun p55=>∃ t57:Sl,cell h2 (p55.add 1)=some (.slice t57.a t57.n t57.c)∧(0 ≤ x2∧x2 < ((t57.n:Nat):Int))∧PtrOk t57.a fun p59=>∃ t60:Int,cell h2 (p59.add (x2.toNat * 1))=some (.int .u64 t60)∧CallTo Try.prog 80 #[.pointer x0,.int .u64 t60,.int .i64 (IntKind.wrap .i64 ((1:Int) + (((t31_0.n:Nat):Int))))] h2 fun r h3=>∃ t62:Int,r=.int .i64 t62∧PtrOk x0 fun p64=>∃ t66:Sl,cell h3 (p64.add 1)=some (.slice t66.a t66.n t66.c)∧(0 ≤ (IntKind.wrap .i64 (t62 + (1:Int)))∧(IntKind.wrap .i64 (t62 + (1:Int))) ≤ ((t66.n:Nat):Int))∧PtrOk x1 fun p71=>∃ t73:Sl,cell h3 (p71.add 1)=some (.slice t73.a t73.n t73.c)∧(0 ≤ (IntKind.wrap .i64 (x2 + (IntKind.wrap .i64 ((1:Int) + (((t31_0.n:Nat):Int))))))∧(IntKind.wrap .i64 (x2 + (IntKind.wrap .i64 ((1:Int) + (((t31_0.n:Nat):Int)))))) ≤ ((t73.c:Nat):Int))∧(0 ≤ (IntKind.wrap .i64 (x2 + (1:Int)))∧(IntKind.wrap .i64 (x2 + (1:Int))) ≤ (IntKind.wrap .i64 (x2 + (IntKind.wrap .i64 ((1:Int) + (((t31_0.n:Nat):Int)))))))∧cpySl 1 (if t66.c=(IntKind.wrap .i64 (t62 + (1:Int))).toNat then t66.a else Option.map (fun x=>x.add ((IntKind.wrap .i64 (t62 + (1:Int))).toNat * 1)) t66.a) (t66.n - (IntKind.wrap .i64 (t62 + (1:Int))).toNat) (if t73.c=(IntKind.wrap .i64 (x2 + (1:Int))).toNat then t73.a else Option.map (fun x=>x.add ((IntKind.wrap .i64 (x2 + (1:Int))).toNat * 1)) t73.a) ((IntKind.wrap .i64 (x2 + (IntKind.wrap .i64 ((1:Int) + (((t31_0.n:Nat):Int)))))).toNat - (IntKind.wrap .i64 (x2 + (1:Int))).toNat) h3 fun rk h4=>PtrOk x1 fun p82=>∃ t84:Sl,cell h4 (p82.add 1)=some (.slice t84.a t84.n t84.c)∧(0 ≤ x2∧x2 < ((t84.n:Nat):Int))∧PtrOk t84.a fun p89=>stOk h4 (p89.add (x2.toNat * 1))∧Let (setc h4 (p89.add (x2.toNat * 1)) (.int .u64 (orI .u64 (9223372036854775808:Int) (IntKind.wrap .u64 t62)))) fun h5=>R (.tuple #[.int .i64 t62,.int .i64 0]:Value) h5)))
def f77F (a0:Option Addr) (a1:Option Addr) (a2:Int) (h:Hp) (R:Value→Hp→Prop):Prop :=
 CallTo Try.prog 89 #[.pointer a1,.int .i64 a2] h fun r h1=>∃ t17_0:Int,∃ t17_1:Bool,∃ t17_2:Int,r=.tuple #[.int .i64 t17_0,.bool t17_1,.int .i64 t17_2]∧Cond (t17_2 != (0:Int)) (f77K1  a0 a1 a2 t17_0 t17_2 true h1 R) (f77K1  a0 a1 a2 t17_0 t17_2 t17_1 h1 R)
theorem f77F_eq (a0:Option Addr) (a1:Option Addr) (a2:Int) (h:Hp) (R:Value→Hp→Prop):evF Try.prog tab lv77 Try.f77 body77 [] [.pointer a0,.pointer a1,.int .i64 a2] h R=f77F a0 a1 a2 h R:=by kernel_rfl
theorem f77F_ok {a0:Option Addr} {a1:Option Addr} {a2:Int} {h:Hp} {R:Value→Hp→Prop} (hF:f77F a0 a1 a2 h R):CallTo Try.prog 77 #[.pointer a0,.pointer a1,.int .i64 a2] h R :=
 callTo_of_ev (lv:=lv77) (hints:=[]) (c:=body77) (args:=[.pointer a0,.pointer a1,.int .i64 a2]) mixed tab_ok Try.func77 (by kernel_rfl) (by kernel_rfl) (by rw [f77F_eq]; exact hF)
/- larder/word.Head -/
noncomputable def body79:Code:=(Try.f79.body).getD .skip
def lv79 (m:Nat):List Nat:=[]
def f79K1  (x0:Int) (x1:Int) (x2:Int) (x29:Bool) (h:Hp) (R:Value→Hp→Prop):Prop :=
 Cond x29 (R (.tuple #[.int .u64 0,.int .i64 10]:Value) h) (0 ≤ (0:Int)∧0 ≤ (8:Int)∧0 ≤ (32:Int)∧R ((.tuple #[.int .u64 (orI .u64 (orI .u64 (IntKind.wrap .u64 ((IntKind.wrap .u64 x0) * 2 ^ (min (0:Int).toNat (IntKind.bits .u64)))) (IntKind.wrap .u64 ((IntKind.wrap .u64 x1) * 2 ^ (min (8:Int).toNat (IntKind.bits .u64))))) (IntKind.wrap .u64 ((IntKind.wrap .u64 x2) * 2 ^ (min (32:Int).toNat (IntKind.bits .u64))))),.int .i64 0]:Value)) h)
def f79F (a0:Int) (a1:Int) (a2:Int) (h:Hp) (R:Value→Hp→Prop):Prop :=
 Cond (decide (a0 < (1:Int))) (f79K1  a0 a1 a2 true h R) (Cond (decide (a0 > (255:Int))) (f79K1  a0 a1 a2 true h R) (Cond (decide (a1 < (0:Int))) (f79K1  a0 a1 a2 true h R) (Cond (decide (a1 > (1048576:Int))) (f79K1  a0 a1 a2 true h R) (Cond (decide (a2 < (0:Int))) (f79K1  a0 a1 a2 true h R) (f79K1  a0 a1 a2 (decide (a2 > (1048576:Int))) h R)))))
theorem f79F_eq (a0:Int) (a1:Int) (a2:Int) (h:Hp) (R:Value→Hp→Prop):evF Try.prog tab lv79 Try.f79 body79 [] [.int .i64 a0,.int .i64 a1,.int .i64 a2] h R=f79F a0 a1 a2 h R:=by kernel_rfl
theorem f79F_ok {a0:Int} {a1:Int} {a2:Int} {h:Hp} {R:Value→Hp→Prop} (hF:f79F a0 a1 a2 h R):CallTo Try.prog 79 #[.int .i64 a0,.int .i64 a1,.int .i64 a2] h R :=
 callTo_of_ev (lv:=lv79) (hints:=[]) (c:=body79) (args:=[.int .i64 a0,.int .i64 a1,.int .i64 a2]) mixed tab_ok Try.func79 (by kernel_rfl) (by kernel_rfl) (by rw [f79F_eq]; exact hF)
/- (*larder/arena.Arena).extend -/
noncomputable def body80:Code:=(Try.f80.body).getD .skip
def lv80 (m:Nat):List Nat:=if m=4 then [0,7] else []
def f80I1 (J:Nat→Option Addr→Int→Hp→Prop) (n:Nat) (env:List Value) (h:Hp):Prop:=lenIs env 64 (DecP env 0 fun s0=>DecI .i64 env 7 fun s7=>J n s0 s7 h)
def f80L1 (J1:Nat→Option Addr→Int→Hp→Prop) (n1:Nat) (s0:Option Addr) (s7:Int) (g:Nat→Value) (h:Hp) (R:Value→Hp→Prop):Prop :=
 PtrOk s0 fun p30=>∃ t32:Sl,cell h (p30.add 2)=some (.slice t32.a t32.n t32.c)∧PtrOk s0 fun p36=>∃ t38:Sl,cell h (p36.add 1)=some (.slice t38.a t38.n t38.c)∧Cond (decide ((IntKind.wrap .i64 ((((t32.n:Nat):Int)) * (64:Int))) < (((t38.n:Nat):Int)))) (PtrOk s0 fun p43=>∃ t45:Sl,cell h (p43.add 2)=some (.slice t45.a t45.n t45.c)∧Let (h.push (.cells #[.int .u64 0] 106)) fun h4=>appSl 106 1 8 #[.int .u64 0] t45.a t45.n t45.c (some (nb h)) 1 h4 fun ra5 rn5 rc5 h5=>PtrOk s0 fun p48=>stOk h5 (p48.add 2)∧Let (setc h5 (p48.add 2) (.slice ra5 rn5 rc5)) fun h6=>∃ m,m < n1∧J1 m s0 s7 h6) (PtrOk s0 fun p51=>∃ t53:Sl,cell h (p51.add 2)=some (.slice t53.a t53.n t53.c)∧(64:Int) ≠ 0∧(0 ≤ (IntKind.wrap .i64 (Int.tdiv s7 (64:Int)))∧(IntKind.wrap .i64 (Int.tdiv s7 (64:Int))) < ((t53.n:Nat):Int))∧PtrOk t53.a fun p56=>∃ t57:Int,cell h (p56.add ((IntKind.wrap .i64 (Int.tdiv s7 (64:Int))).toNat * 1))=some (.int .u64 t57)∧(64:Int) ≠ 0∧0 ≤ (Int.tmod s7 (64:Int))∧(0 ≤ (IntKind.wrap .i64 (Int.tdiv s7 (64:Int)))∧(IntKind.wrap .i64 (Int.tdiv s7 (64:Int))) < ((t53.n:Nat):Int))∧PtrOk t53.a fun p62=>stOk h (p62.add ((IntKind.wrap .i64 (Int.tdiv s7 (64:Int))).toNat * 1))∧Let (setc h (p62.add ((IntKind.wrap .i64 (Int.tdiv s7 (64:Int))).toNat * 1)) (.int .u64 (orI .u64 t57 (IntKind.wrap .u64 ((1:Int) * 2 ^ (min (Int.tmod s7 (64:Int)).toNat (IntKind.bits .u64))))))) fun h7=>R (.int .i64 s7:Value) h7)
theorem f80L1_eq (J1:Nat→Option Addr→Int→Hp→Prop) (n1:Nat) (s0:Option Addr) (s7:Int) (g:Nat→Value) (h:Hp) (R:Value→Hp→Prop):(evC Try.prog tab lv80 (sub [1,1,1,1,0,0,0] body80)) (loopK (f80I1 J1) n1 (contAt Try.prog tab lv80 [1,1,1,1,0,0] body80 [] (bodyK Try.prog Try.f80 [] R))) (mkEnv 64 [(0,.pointer s0),(7,.int .i64 s7)] g) h=f80L1 J1 n1 s0 s7 g h R:=by kernel_rfl
theorem f80I1_at (J:Nat→Option Addr→Int→Hp→Prop) (n:Nat) (s0:Option Addr) (s7:Int) (g:Nat→Value) (h:Hp):f80I1 J n (mkEnv 64 [(0,.pointer s0),(7,.int .i64 s7)] g) h=J n s0 s7 h:=by kernel_rfl
theorem f80L1_rule  {R:Value→Hp→Prop} {s0:Option Addr} {s7:Int} {h0:Hp} (J:Nat→Option Addr→Int→Hp→Prop) (n0:Nat) (hi:J n0 s0 s7 h0)
  (hr:∀ n s0 s7 g h,J n s0 s7 h→f80L1  J n s0 s7 g h R):LoopEv (evC Try.prog tab lv80 (sub [1,1,1,1,0,0,0] body80)) (contAt Try.prog tab lv80 [1,1,1,1,0,0] body80 [] (bodyK Try.prog Try.f80 [] R)) [(0,.pointer s0),(7,.int .i64 s7)] 64 h0:=by
 refine ⟨f80I1 J,n0,fun g=>by rw [f80I1_at]; exact hi,fun n env h hI=>?_⟩
 clear hi
 clear s0 s7
 obtain ⟨hlen,hI⟩:=Cond_true' hI
 have hlen:env.length=64:=by simpa using hlen
 obtain ⟨s0,es0,hI⟩:=DecP.out hI
 obtain ⟨s7,es7,hI⟩:=DecI.out hI
 rw [mkEnv_of (l:=[(0,.pointer s0),(7,.int .i64 s7)]) hlen (by simp only [List.mem_cons,List.not_mem_nil,or_false,forall_eq_or_imp,forall_eq]; exact ⟨es0,es7⟩)]
 rw [f80L1_eq]
 exact hr n s0 s7 _ h hI
def f80F (a0:Option Addr) (a1:Int) (a2:Int) (h:Hp) (R:Value→Hp→Prop):Prop :=
 PtrOk a0 fun p9=>∃ t11:Sl,cell h (p9.add 1)=some (.slice t11.a t11.n t11.c)∧PtrOk a0 fun p15=>∃ t17:Sl,cell h (p15.add 1)=some (.slice t17.a t17.n t17.c)∧appZ 106 1 8 #[.int .u64 0] t17.a t17.n t17.c a2 h fun ra1 rn1 rc1 h1=>PtrOk a0 fun p20=>stOk h1 (p20.add 1)∧Let (setc h1 (p20.add 1) (.slice ra1 rn1 rc1)) fun h2=>PtrOk a0 fun p23=>∃ t25:Sl,cell h2 (p23.add 1)=some (.slice t25.a t25.n t25.c)∧(0 ≤ (((t11.n:Nat):Int))∧(((t11.n:Nat):Int)) < ((t25.n:Nat):Int))∧PtrOk t25.a fun p28=>stOk h2 (p28.add ((((t11.n:Nat):Int)).toNat * 1))∧Let (setc h2 (p28.add ((((t11.n:Nat):Int)).toNat * 1)) (.int .u64 a1)) fun h3=>LoopEv (evC Try.prog tab lv80 (sub [1,1,1,1,0,0,0] body80)) (contAt Try.prog tab lv80 [1,1,1,1,0,0] body80 [] (bodyK Try.prog Try.f80 [] R)) [(0,.pointer a0),(7,.int .i64 (((t11.n:Nat):Int)))] 64 h3
theorem f80F_eq (a0:Option Addr) (a1:Int) (a2:Int) (h:Hp) (R:Value→Hp→Prop):evF Try.prog tab lv80 Try.f80 body80 [] [.pointer a0,.int .u64 a1,.int .i64 a2] h R=f80F a0 a1 a2 h R:=by kernel_rfl
theorem f80F_ok {a0:Option Addr} {a1:Int} {a2:Int} {h:Hp} {R:Value→Hp→Prop} (hF:f80F a0 a1 a2 h R):CallTo Try.prog 80 #[.pointer a0,.int .u64 a1,.int .i64 a2] h R :=
 callTo_of_ev (lv:=lv80) (hints:=[]) (c:=body80) (args:=[.pointer a0,.int .u64 a1,.int .i64 a2]) mixed tab_ok Try.func80 (by kernel_rfl) (by kernel_rfl) (by rw [f80F_eq]; exact hF)
/- larder/word.Words -/
noncomputable def body85:Code:=(Try.f85.body).getD .skip
def lv85 (m:Nat):List Nat:=[]
def f85F (a0:Int) (h:Hp) (R:Value→Hp→Prop):Prop :=
 Cond (decide (a0 < (1:Int))) (R (.int .i64 0:Value) h) ((8:Int) ≠ 0∧R ((.int .i64 (IntKind.wrap .i64 ((IntKind.wrap .i64 (Int.tdiv (IntKind.wrap .i64 (a0 - (1:Int))) (8:Int))) + (1:Int))):Value)) h)
theorem f85F_eq (a0:Int) (h:Hp) (R:Value→Hp→Prop):evF Try.prog tab lv85 Try.f85 body85 [] [.int .i64 a0] h R=f85F a0 h R:=by kernel_rfl
theorem f85F_ok {a0:Int} {h:Hp} {R:Value→Hp→Prop} (hF:f85F a0 h R):CallTo Try.prog 85 #[.int .i64 a0] h R :=
 callTo_of_ev (lv:=lv85) (hints:=[]) (c:=body85) (args:=[.int .i64 a0]) mixed tab_ok Try.func85 (by kernel_rfl) (by kernel_rfl) (by rw [f85F_eq]; exact hF)
/- (*larder/arena.Arena).begins -/
noncomputable def body87:Code:=(Try.f87.body).getD .skip
def lv87 (m:Nat):List Nat:=[]
def f87F (a0:Option Addr) (a1:Int) (h:Hp) (R:Value→Hp→Prop):Prop :=
 Cond (decide (a1 > (0:Int))) (PtrOk a0 fun p10=>∃ t12:Sl,cell h (p10.add 1)=some (.slice t12.a t12.n t12.c)∧Cond (decide (a1 < (((t12.n:Nat):Int)))) (PtrOk a0 fun p18=>∃ t20:Sl,cell h (p18.add 2)=some (.slice t20.a t20.n t20.c)∧(64:Int) ≠ 0∧(0 ≤ (IntKind.wrap .i64 (Int.tdiv a1 (64:Int)))∧(IntKind.wrap .i64 (Int.tdiv a1 (64:Int))) < ((t20.n:Nat):Int))∧PtrOk t20.a fun p23=>∃ t24:Int,cell h (p23.add ((IntKind.wrap .i64 (Int.tdiv a1 (64:Int))).toNat * 1))=some (.int .u64 t24)∧(64:Int) ≠ 0∧0 ≤ (Int.tmod a1 (64:Int))∧R ((.bool ((andI .u64 (Int.fdiv t24 (2 ^ (min (Int.tmod a1 (64:Int)).toNat (IntKind.bits .u64)))) (1:Int)) == (1:Int)):Value)) h) (R (.bool false:Value) h)) (R (.bool false:Value) h)
theorem f87F_eq (a0:Option Addr) (a1:Int) (h:Hp) (R:Value→Hp→Prop):evF Try.prog tab lv87 Try.f87 body87 [] [.pointer a0,.int .i64 a1] h R=f87F a0 a1 h R:=by kernel_rfl
theorem f87F_ok {a0:Option Addr} {a1:Int} {h:Hp} {R:Value→Hp→Prop} (hF:f87F a0 a1 h R):CallTo Try.prog 87 #[.pointer a0,.int .i64 a1] h R :=
 callTo_of_ev (lv:=lv87) (hints:=[]) (c:=body87) (args:=[.pointer a0,.int .i64 a1]) mixed tab_ok Try.func87 (by kernel_rfl) (by kernel_rfl) (by rw [f87F_eq]; exact hF)
/- larder/word.Split -/
noncomputable def body88:Code:=(Try.f88.body).getD .skip
def lv88 (m:Nat):List Nat:=[]
def f88K1  (x2:Int) (x3:Int) (x4:Int) (x31:Bool) (h:Hp) (R:Value→Hp→Prop):Prop :=
 Cond x31 (R (.tuple #[.int .i64 0,.int .i64 0,.int .i64 0,.int .i64 10]:Value) h) (R (.tuple #[.int .i64 x2,.int .i64 x3,.int .i64 x4,.int .i64 0]:Value) h)
def f88F (a0:Int) (h:Hp) (R:Value→Hp→Prop):Prop :=
 0 ≤ (8:Int)∧0 ≤ (32:Int)∧0 ≤ (56:Int)∧Cond ((Int.fdiv a0 (2 ^ (min (56:Int).toNat (IntKind.bits .u64)))) != (0:Int)) (f88K1  (IntKind.wrap .i64 (andI .u64 a0 (255:Int))) (IntKind.wrap .i64 (andI .u64 (Int.fdiv a0 (2 ^ (min (8:Int).toNat (IntKind.bits .u64)))) (16777215:Int))) (IntKind.wrap .i64 (andI .u64 (Int.fdiv a0 (2 ^ (min (32:Int).toNat (IntKind.bits .u64)))) (16777215:Int))) true h R) (Cond ((IntKind.wrap .i64 (andI .u64 a0 (255:Int))) == (0:Int)) (f88K1  (IntKind.wrap .i64 (andI .u64 a0 (255:Int))) (IntKind.wrap .i64 (andI .u64 (Int.fdiv a0 (2 ^ (min (8:Int).toNat (IntKind.bits .u64)))) (16777215:Int))) (IntKind.wrap .i64 (andI .u64 (Int.fdiv a0 (2 ^ (min (32:Int).toNat (IntKind.bits .u64)))) (16777215:Int))) true h R) (Cond (decide ((IntKind.wrap .i64 (andI .u64 (Int.fdiv a0 (2 ^ (min (8:Int).toNat (IntKind.bits .u64)))) (16777215:Int))) > (1048576:Int))) (f88K1  (IntKind.wrap .i64 (andI .u64 a0 (255:Int))) (IntKind.wrap .i64 (andI .u64 (Int.fdiv a0 (2 ^ (min (8:Int).toNat (IntKind.bits .u64)))) (16777215:Int))) (IntKind.wrap .i64 (andI .u64 (Int.fdiv a0 (2 ^ (min (32:Int).toNat (IntKind.bits .u64)))) (16777215:Int))) true h R) (f88K1  (IntKind.wrap .i64 (andI .u64 a0 (255:Int))) (IntKind.wrap .i64 (andI .u64 (Int.fdiv a0 (2 ^ (min (8:Int).toNat (IntKind.bits .u64)))) (16777215:Int))) (IntKind.wrap .i64 (andI .u64 (Int.fdiv a0 (2 ^ (min (32:Int).toNat (IntKind.bits .u64)))) (16777215:Int))) (decide ((IntKind.wrap .i64 (andI .u64 (Int.fdiv a0 (2 ^ (min (32:Int).toNat (IntKind.bits .u64)))) (16777215:Int))) > (1048576:Int))) h R)))
theorem f88F_eq (a0:Int) (h:Hp) (R:Value→Hp→Prop):evF Try.prog tab lv88 Try.f88 body88 [] [.int .u64 a0] h R=f88F a0 h R:=by kernel_rfl
theorem f88F_ok {a0:Int} {h:Hp} {R:Value→Hp→Prop} (hF:f88F a0 h R):CallTo Try.prog 88 #[.int .u64 a0] h R :=
 callTo_of_ev (lv:=lv88) (hints:=[]) (c:=body88) (args:=[.int .u64 a0]) mixed tab_ok Try.func88 (by kernel_rfl) (by kernel_rfl) (by rw [f88F_eq]; exact hF)
/- (*larder/arena.Arena).Moved -/
noncomputable def body89:Code:=(Try.f89.body).getD .skip
def lv89 (m:Nat):List Nat:=[]
def f89F (a0:Option Addr) (a1:Int) (h:Hp) (R:Value→Hp→Prop):Prop :=
 CallTo Try.prog 87 #[.pointer a0,.int .i64 a1] h fun r h1=>∃ t9:Bool,r=.bool t9∧Cond (!t9) (R (.tuple #[.int .i64 0,.bool false,.int .i64 23]:Value) h1) (PtrOk a0 fun p12=>∃ t14:Sl,cell h1 (p12.add 1)=some (.slice t14.a t14.n t14.c)∧(0 ≤ a1∧a1 < ((t14.n:Nat):Int))∧PtrOk t14.a fun p16=>∃ t17:Int,cell h1 (p16.add (a1.toNat * 1))=some (.int .u64 t17)∧Cond ((andI .u64 t17 (9223372036854775808:Int)) == (0:Int)) (R (.tuple #[.int .i64 0,.bool false,.int .i64 0]:Value) h1) (PtrOk a0 fun p21=>∃ t23:Sl,cell h1 (p21.add 1)=some (.slice t23.a t23.n t23.c)∧(0 ≤ a1∧a1 < ((t23.n:Nat):Int))∧PtrOk t23.a fun p25=>∃ t26:Int,cell h1 (p25.add (a1.toNat * 1))=some (.int .u64 t26)∧R ((.tuple #[.int .i64 (IntKind.wrap .i64 (andNotI .u64 t26 (9223372036854775808:Int))),.bool true,.int .i64 0]:Value)) h1))
theorem f89F_eq (a0:Option Addr) (a1:Int) (h:Hp) (R:Value→Hp→Prop):evF Try.prog tab lv89 Try.f89 body89 [] [.pointer a0,.int .i64 a1] h R=f89F a0 a1 h R:=by kernel_rfl
theorem f89F_ok {a0:Option Addr} {a1:Int} {h:Hp} {R:Value→Hp→Prop} (hF:f89F a0 a1 h R):CallTo Try.prog 89 #[.pointer a0,.int .i64 a1] h R :=
 callTo_of_ev (lv:=lv89) (hints:=[]) (c:=body89) (args:=[.pointer a0,.int .i64 a1]) mixed tab_ok Try.func89 (by kernel_rfl) (by kernel_rfl) (by rw [f89F_eq]; exact hF)
/- (*larder/arena.Arena).fields -/
noncomputable def body90:Code:=(Try.f90.body).getD .skip
def lv90 (m:Nat):List Nat:=[]
def f90F (a0:Option Addr) (a1:Int) (h:Hp) (R:Value→Hp→Prop):Prop :=
 CallTo Try.prog 76 #[.pointer a0,.int .i64 a1] h fun r h1=>∃ t16_0:Int,∃ t16_1:Int,∃ t16_2:Int,∃ t16_3:Int,r=.tuple #[.int .i64 t16_0,.int .i64 t16_1,.int .i64 t16_2,.int .i64 t16_3]∧Cond (t16_3 != (0:Int)) (R (.tuple #[.slice none 0 0,.int .i64 0,.int .i64 t16_3]:Value) h1) (PtrOk a0 fun p33=>∃ t35:Sl,cell h1 (p33.add 1)=some (.slice t35.a t35.n t35.c)∧(0 ≤ (IntKind.wrap .i64 ((IntKind.wrap .i64 ((IntKind.wrap .i64 (a1 + (1:Int))) + t16_1)) + t16_2))∧(IntKind.wrap .i64 ((IntKind.wrap .i64 ((IntKind.wrap .i64 (a1 + (1:Int))) + t16_1)) + t16_2)) ≤ ((t35.c:Nat):Int))∧(0 ≤ (IntKind.wrap .i64 ((IntKind.wrap .i64 ((IntKind.wrap .i64 (a1 + (1:Int))) + t16_1)) + t16_2))∧(IntKind.wrap .i64 ((IntKind.wrap .i64 ((IntKind.wrap .i64 (a1 + (1:Int))) + t16_1)) + t16_2)) ≤ (IntKind.wrap .i64 ((IntKind.wrap .i64 ((IntKind.wrap .i64 (a1 + (1:Int))) + t16_1)) + t16_2)))∧(0 ≤ (IntKind.wrap .i64 (a1 + (1:Int)))∧(IntKind.wrap .i64 (a1 + (1:Int))) ≤ (IntKind.wrap .i64 ((IntKind.wrap .i64 ((IntKind.wrap .i64 (a1 + (1:Int))) + t16_1)) + t16_2)))∧R ((.tuple #[.slice (if (IntKind.wrap .i64 ((IntKind.wrap .i64 ((IntKind.wrap .i64 (a1 + (1:Int))) + t16_1)) + t16_2)).toNat=(IntKind.wrap .i64 (a1 + (1:Int))).toNat then t35.a else Option.map (fun x=>x.add ((IntKind.wrap .i64 (a1 + (1:Int))).toNat * 1)) t35.a) ((IntKind.wrap .i64 ((IntKind.wrap .i64 ((IntKind.wrap .i64 (a1 + (1:Int))) + t16_1)) + t16_2)).toNat - (IntKind.wrap .i64 (a1 + (1:Int))).toNat) ((IntKind.wrap .i64 ((IntKind.wrap .i64 ((IntKind.wrap .i64 (a1 + (1:Int))) + t16_1)) + t16_2)).toNat - (IntKind.wrap .i64 (a1 + (1:Int))).toNat),.int .i64 t16_1,.int .i64 0]:Value)) h1)
theorem f90F_eq (a0:Option Addr) (a1:Int) (h:Hp) (R:Value→Hp→Prop):evF Try.prog tab lv90 Try.f90 body90 [] [.pointer a0,.int .i64 a1] h R=f90F a0 a1 h R:=by kernel_rfl
theorem f90F_ok {a0:Option Addr} {a1:Int} {h:Hp} {R:Value→Hp→Prop} (hF:f90F a0 a1 h R):CallTo Try.prog 90 #[.pointer a0,.int .i64 a1] h R :=
 callTo_of_ev (lv:=lv90) (hints:=[]) (c:=body90) (args:=[.pointer a0,.int .i64 a1]) mixed tab_ok Try.func90 (by kernel_rfl) (by kernel_rfl) (by rw [f90F_eq]; exact hF)
/- (*larder/arena.Arena).Bytes -/
noncomputable def body121:Code:=(Try.f121.body).getD .skip
def lv121 (m:Nat):List Nat:=if m=6 then [2,10,12,29,30] else []
def f121I1 (J:Nat→Int→Sl→Sl→Int→Int→Hp→Prop) (n:Nat) (env:List Value) (h:Hp):Prop:=lenIs env 51 (DecI .i64 env 2 fun s2=>DecL env 10 fun s10=>DecL env 12 fun s12=>DecI .i64 env 29 fun s29=>DecI .i64 env 30 fun s30=>J n s2 s10 s12 s29 s30 h)
def f121L1 (J1:Nat→Int→Sl→Sl→Int→Int→Hp→Prop) (n1:Nat) (s2:Int) (s10:Sl) (s12:Sl) (s29:Int) (s30:Int) (g:Nat→Value) (h:Hp) (R:Value→Hp→Prop):Prop :=
 Cond (decide (s30 < s29)) ((8:Int) ≠ 0∧(0 ≤ (IntKind.wrap .i64 (Int.tdiv (IntKind.wrap .i64 (s2 + s30)) (8:Int)))∧(IntKind.wrap .i64 (Int.tdiv (IntKind.wrap .i64 (s2 + s30)) (8:Int))) < ((s10.n:Nat):Int))∧PtrOk s10.a fun p41=>∃ t42:Int,cell h (p41.add ((IntKind.wrap .i64 (Int.tdiv (IntKind.wrap .i64 (s2 + s30)) (8:Int))).toNat * 1))=some (.int .u64 t42)∧(8:Int) ≠ 0∧0 ≤ (IntKind.wrap .i64 ((Int.tmod (IntKind.wrap .i64 (s2 + s30)) (8:Int)) * (8:Int)))∧(0 ≤ s30∧s30 < ((s12.n:Nat):Int))∧PtrOk s12.a fun p48=>stOk h (p48.add (s30.toNat * 1))∧Let (setc h (p48.add (s30.toNat * 1)) (.int .u8 (IntKind.wrap .u8 (Int.fdiv t42 (2 ^ (min (IntKind.wrap .i64 ((Int.tmod (IntKind.wrap .i64 (s2 + s30)) (8:Int)) * (8:Int))).toNat (IntKind.bits .u64))))))) fun h3=>∃ m,m < n1∧J1 m s2 s10 s12 s29 (IntKind.wrap .i64 (s30 + (1:Int))) h3) (R (.tuple #[.slice s12.a s12.n s12.c,.int .i64 0]:Value) h)
theorem f121L1_eq (J1:Nat→Int→Sl→Sl→Int→Int→Hp→Prop) (n1:Nat) (s2:Int) (s10:Sl) (s12:Sl) (s29:Int) (s30:Int) (g:Nat→Value) (h:Hp) (R:Value→Hp→Prop):(evC Try.prog tab lv121 (sub [1,1,1,1,0,1,0,0] body121)) (loopK (f121I1 J1) n1 (contAt Try.prog tab lv121 [1,1,1,1,0,1,0] body121 [] (bodyK Try.prog Try.f121 [] R))) (mkEnv 51 [(2,.int .i64 s2),(10,.slice s10.a s10.n s10.c),(12,.slice s12.a s12.n s12.c),(29,.int .i64 s29),(30,.int .i64 s30)] g) h=f121L1 J1 n1 s2 s10 s12 s29 s30 g h R:=by kernel_rfl
theorem f121I1_at (J:Nat→Int→Sl→Sl→Int→Int→Hp→Prop) (n:Nat) (s2:Int) (s10:Sl) (s12:Sl) (s29:Int) (s30:Int) (g:Nat→Value) (h:Hp):f121I1 J n (mkEnv 51 [(2,.int .i64 s2),(10,.slice s10.a s10.n s10.c),(12,.slice s12.a s12.n s12.c),(29,.int .i64 s29),(30,.int .i64 s30)] g) h=J n s2 s10 s12 s29 s30 h:=by kernel_rfl
theorem f121L1_rule  {R:Value→Hp→Prop} {s2:Int} {s10:Sl} {s12:Sl} {s29:Int} {s30:Int} {h0:Hp} (J:Nat→Int→Sl→Sl→Int→Int→Hp→Prop) (n0:Nat) (hi:J n0 s2 s10 s12 s29 s30 h0)
  (hr:∀ n s2 s10 s12 s29 s30 g h,J n s2 s10 s12 s29 s30 h→f121L1  J n s2 s10 s12 s29 s30 g h R):LoopEv (evC Try.prog tab lv121 (sub [1,1,1,1,0,1,0,0] body121)) (contAt Try.prog tab lv121 [1,1,1,1,0,1,0] body121 [] (bodyK Try.prog Try.f121 [] R)) [(2,.int .i64 s2),(10,.slice s10.a s10.n s10.c),(12,.slice s12.a s12.n s12.c),(29,.int .i64 s29),(30,.int .i64 s30)] 51 h0:=by
 refine ⟨f121I1 J,n0,fun g=>by rw [f121I1_at]; exact hi,fun n env h hI=>?_⟩
 clear hi
 clear s2 s10 s12 s29 s30
 obtain ⟨hlen,hI⟩:=Cond_true' hI
 have hlen:env.length=51:=by simpa using hlen
 obtain ⟨s2,es2,hI⟩:=DecI.out hI
 obtain ⟨s10,es10,hI⟩:=DecL.out hI
 obtain ⟨s12,es12,hI⟩:=DecL.out hI
 obtain ⟨s29,es29,hI⟩:=DecI.out hI
 obtain ⟨s30,es30,hI⟩:=DecI.out hI
 rw [mkEnv_of (l:=[(2,.int .i64 s2),(10,.slice s10.a s10.n s10.c),(12,.slice s12.a s12.n s12.c),(29,.int .i64 s29),(30,.int .i64 s30)]) hlen (by simp only [List.mem_cons,List.not_mem_nil,or_false,forall_eq_or_imp,forall_eq]; exact ⟨es2,es10,es12,es29,es30⟩)]
 rw [f121L1_eq]
 exact hr n s2 s10 s12 s29 s30 _ h hI
def f121F (a0:Option Addr) (a1:Int) (a2:Int) (a3:Int) (h:Hp) (R:Value→Hp→Prop):Prop :=
 CallTo Try.prog 125 #[.pointer a0,.int .i64 a1,.int .i64 a2,.int .i64 a3] h fun r h1=>∃ t20_0:Sl,∃ t20_1:Int,r=.tuple #[.slice t20_0.a t20_0.n t20_0.c,.int .i64 t20_1]∧Cond (t20_1 != (0:Int)) (R (.tuple #[.slice none 0 0,.int .i64 t20_1]:Value) h1) ((0 ≤ a3∧a3 ≤ a3)∧a3 < 2 ^ 62∧(1:Nat) * a3 ≤ 2 ^ 48∧Let (h1.push (.cells (zrow #[.int .u8 0] (a3.toNat * 1)) 5)) fun h2=>LoopEv (evC Try.prog tab lv121 (sub [1,1,1,1,0,1,0,0] body121)) (contAt Try.prog tab lv121 [1,1,1,1,0,1,0] body121 [] (bodyK Try.prog Try.f121 [] R)) [(2,.int .i64 a2),(10,.slice t20_0.a t20_0.n t20_0.c),(12,.slice (some (nb h1)) a3.toNat a3.toNat),(29,.int .i64 (((a3.toNat:Nat):Int))),(30,.int .i64 0)] 51 h2)
theorem f121F_eq (a0:Option Addr) (a1:Int) (a2:Int) (a3:Int) (h:Hp) (R:Value→Hp→Prop):evF Try.prog tab lv121 Try.f121 body121 [] [.pointer a0,.int .i64 a1,.int .i64 a2,.int .i64 a3] h R=f121F a0 a1 a2 a3 h R:=by kernel_rfl
theorem f121F_ok {a0:Option Addr} {a1:Int} {a2:Int} {a3:Int} {h:Hp} {R:Value→Hp→Prop} (hF:f121F a0 a1 a2 a3 h R):CallTo Try.prog 121 #[.pointer a0,.int .i64 a1,.int .i64 a2,.int .i64 a3] h R :=
 callTo_of_ev (lv:=lv121) (hints:=[]) (c:=body121) (args:=[.pointer a0,.int .i64 a1,.int .i64 a2,.int .i64 a3]) mixed tab_ok Try.func121 (by kernel_rfl) (by kernel_rfl) (by rw [f121F_eq]; exact hF)
/- (*larder/arena.Arena).Get -/
noncomputable def body122:Code:=(Try.f122.body).getD .skip
def lv122 (m:Nat):List Nat:=[]
def f122K1  (x2:Int) (x8:Sl) (x28:Bool) (h:Hp) (R:Value→Hp→Prop):Prop :=
 Cond x28 (R (.tuple #[.int .u64 0,.int .i64 24]:Value) h) ((0 ≤ x2∧x2 < ((x8.n:Nat):Int))∧PtrOk x8.a fun p31=>∃ t32:Int,cell h (p31.add (x2.toNat * 1))=some (.int .u64 t32)∧R (.tuple #[.int .u64 t32,.int .i64 0]:Value) h)
def f122F (a0:Option Addr) (a1:Int) (a2:Int) (h:Hp) (R:Value→Hp→Prop):Prop :=
 CallTo Try.prog 90 #[.pointer a0,.int .i64 a1] h fun r h1=>∃ t14_0:Sl,∃ t14_1:Int,∃ t14_2:Int,r=.tuple #[.slice t14_0.a t14_0.n t14_0.c,.int .i64 t14_1,.int .i64 t14_2]∧Cond (t14_2 != (0:Int)) (R (.tuple #[.int .u64 0,.int .i64 t14_2]:Value) h1) (Cond (decide (a2 < (0:Int))) (f122K1  a2 t14_0 true h1 R) (f122K1  a2 t14_0 (decide (a2 ≥ (((t14_0.n:Nat):Int)))) h1 R))
theorem f122F_eq (a0:Option Addr) (a1:Int) (a2:Int) (h:Hp) (R:Value→Hp→Prop):evF Try.prog tab lv122 Try.f122 body122 [] [.pointer a0,.int .i64 a1,.int .i64 a2] h R=f122F a0 a1 a2 h R:=by kernel_rfl
theorem f122F_ok {a0:Option Addr} {a1:Int} {a2:Int} {h:Hp} {R:Value→Hp→Prop} (hF:f122F a0 a1 a2 h R):CallTo Try.prog 122 #[.pointer a0,.int .i64 a1,.int .i64 a2] h R :=
 callTo_of_ev (lv:=lv122) (hints:=[]) (c:=body122) (args:=[.pointer a0,.int .i64 a1,.int .i64 a2]) mixed tab_ok Try.func122 (by kernel_rfl) (by kernel_rfl) (by rw [f122F_eq]; exact hF)
/- (*larder/arena.Arena).Set -/
noncomputable def body123:Code:=(Try.f123.body).getD .skip
def lv123 (m:Nat):List Nat:=[]
def f123K1  (x2:Int) (x3:Int) (x9:Sl) (x29:Bool) (h:Hp) (R:Value→Hp→Prop):Prop :=
 Cond x29 (R (.int .i64 24:Value) h) ((0 ≤ x2∧x2 < ((x9.n:Nat):Int))∧PtrOk x9.a fun p33=>stOk h (p33.add (x2.toNat * 1))∧Let (setc h (p33.add (x2.toNat * 1)) (.int .u64 x3)) fun h2=>R (.int .i64 0:Value) h2)
def f123F (a0:Option Addr) (a1:Int) (a2:Int) (a3:Int) (h:Hp) (R:Value→Hp→Prop):Prop :=
 CallTo Try.prog 90 #[.pointer a0,.int .i64 a1] h fun r h1=>∃ t15_0:Sl,∃ t15_1:Int,∃ t15_2:Int,r=.tuple #[.slice t15_0.a t15_0.n t15_0.c,.int .i64 t15_1,.int .i64 t15_2]∧Cond (t15_2 != (0:Int)) (R (.int .i64 t15_2:Value) h1) (Cond (decide (a2 < (0:Int))) (f123K1  a2 a3 t15_0 true h1 R) (f123K1  a2 a3 t15_0 (decide (a2 ≥ (((t15_0.n:Nat):Int)))) h1 R))
theorem f123F_eq (a0:Option Addr) (a1:Int) (a2:Int) (a3:Int) (h:Hp) (R:Value→Hp→Prop):evF Try.prog tab lv123 Try.f123 body123 [] [.pointer a0,.int .i64 a1,.int .i64 a2,.int .u64 a3] h R=f123F a0 a1 a2 a3 h R:=by kernel_rfl
theorem f123F_ok {a0:Option Addr} {a1:Int} {a2:Int} {a3:Int} {h:Hp} {R:Value→Hp→Prop} (hF:f123F a0 a1 a2 a3 h R):CallTo Try.prog 123 #[.pointer a0,.int .i64 a1,.int .i64 a2,.int .u64 a3] h R :=
 callTo_of_ev (lv:=lv123) (hints:=[]) (c:=body123) (args:=[.pointer a0,.int .i64 a1,.int .i64 a2,.int .u64 a3]) mixed tab_ok Try.func123 (by kernel_rfl) (by kernel_rfl) (by rw [f123F_eq]; exact hF)
/- (*larder/arena.Arena).SetBytes -/
noncomputable def body124:Code:=(Try.f124.body).getD .skip
def lv124 (m:Nat):List Nat:=if m=5 then [2,9,27,28,29] else []
def f124I1 (J:Nat→Int→Sl→Sl→Int→Int→Hp→Prop) (n:Nat) (env:List Value) (h:Hp):Prop:=lenIs env 58 (DecI .i64 env 2 fun s2=>DecL env 9 fun s9=>DecL env 27 fun s27=>DecI .i64 env 28 fun s28=>DecI .i64 env 29 fun s29=>J n s2 s9 s27 s28 s29 h)
def f124L1 (J1:Nat→Int→Sl→Sl→Int→Int→Hp→Prop) (n1:Nat) (s2:Int) (s9:Sl) (s27:Sl) (s28:Int) (s29:Int) (g:Nat→Value) (h:Hp) (R:Value→Hp→Prop):Prop :=
 Cond (decide (s29 < s28)) ((0 ≤ s29∧s29 < ((s27.n:Nat):Int))∧PtrOk s27.a fun p32=>∃ t33:Int,cell h (p32.add (s29.toNat * 1))=some (.int .u8 t33)∧(8:Int) ≠ 0∧(8:Int) ≠ 0∧(8:Int) ≠ 0∧(0 ≤ (IntKind.wrap .i64 (Int.tdiv (IntKind.wrap .i64 (s2 + s29)) (8:Int)))∧(IntKind.wrap .i64 (Int.tdiv (IntKind.wrap .i64 (s2 + s29)) (8:Int))) < ((s9.n:Nat):Int))∧PtrOk s9.a fun p46=>∃ t47:Int,cell h (p46.add ((IntKind.wrap .i64 (Int.tdiv (IntKind.wrap .i64 (s2 + s29)) (8:Int))).toNat * 1))=some (.int .u64 t47)∧0 ≤ (IntKind.wrap .i64 ((Int.tmod (IntKind.wrap .i64 (s2 + s29)) (8:Int)) * (8:Int)))∧0 ≤ (IntKind.wrap .i64 ((Int.tmod (IntKind.wrap .i64 (s2 + s29)) (8:Int)) * (8:Int)))∧(0 ≤ (IntKind.wrap .i64 (Int.tdiv (IntKind.wrap .i64 (s2 + s29)) (8:Int)))∧(IntKind.wrap .i64 (Int.tdiv (IntKind.wrap .i64 (s2 + s29)) (8:Int))) < ((s9.n:Nat):Int))∧PtrOk s9.a fun p56=>stOk h (p56.add ((IntKind.wrap .i64 (Int.tdiv (IntKind.wrap .i64 (s2 + s29)) (8:Int))).toNat * 1))∧Let (setc h (p56.add ((IntKind.wrap .i64 (Int.tdiv (IntKind.wrap .i64 (s2 + s29)) (8:Int))).toNat * 1)) (.int .u64 (orI .u64 (andNotI .u64 t47 (IntKind.wrap .u64 ((255:Int) * 2 ^ (min (IntKind.wrap .i64 ((Int.tmod (IntKind.wrap .i64 (s2 + s29)) (8:Int)) * (8:Int))).toNat (IntKind.bits .u64))))) (IntKind.wrap .u64 ((IntKind.wrap .u64 t33) * 2 ^ (min (IntKind.wrap .i64 ((Int.tmod (IntKind.wrap .i64 (s2 + s29)) (8:Int)) * (8:Int))).toNat (IntKind.bits .u64))))))) fun h2=>∃ m,m < n1∧J1 m s2 s9 s27 s28 (IntKind.wrap .i64 (s29 + (1:Int))) h2) (R (.int .i64 0:Value) h)
theorem f124L1_eq (J1:Nat→Int→Sl→Sl→Int→Int→Hp→Prop) (n1:Nat) (s2:Int) (s9:Sl) (s27:Sl) (s28:Int) (s29:Int) (g:Nat→Value) (h:Hp) (R:Value→Hp→Prop):(evC Try.prog tab lv124 (sub [1,1,1,0,1,0,0] body124)) (loopK (f124I1 J1) n1 (contAt Try.prog tab lv124 [1,1,1,0,1,0] body124 [] (bodyK Try.prog Try.f124 [] R))) (mkEnv 58 [(2,.int .i64 s2),(9,.slice s9.a s9.n s9.c),(27,.slice s27.a s27.n s27.c),(28,.int .i64 s28),(29,.int .i64 s29)] g) h=f124L1 J1 n1 s2 s9 s27 s28 s29 g h R:=by kernel_rfl
theorem f124I1_at (J:Nat→Int→Sl→Sl→Int→Int→Hp→Prop) (n:Nat) (s2:Int) (s9:Sl) (s27:Sl) (s28:Int) (s29:Int) (g:Nat→Value) (h:Hp):f124I1 J n (mkEnv 58 [(2,.int .i64 s2),(9,.slice s9.a s9.n s9.c),(27,.slice s27.a s27.n s27.c),(28,.int .i64 s28),(29,.int .i64 s29)] g) h=J n s2 s9 s27 s28 s29 h:=by kernel_rfl
theorem f124L1_rule  {R:Value→Hp→Prop} {s2:Int} {s9:Sl} {s27:Sl} {s28:Int} {s29:Int} {h0:Hp} (J:Nat→Int→Sl→Sl→Int→Int→Hp→Prop) (n0:Nat) (hi:J n0 s2 s9 s27 s28 s29 h0)
  (hr:∀ n s2 s9 s27 s28 s29 g h,J n s2 s9 s27 s28 s29 h→f124L1  J n s2 s9 s27 s28 s29 g h R):LoopEv (evC Try.prog tab lv124 (sub [1,1,1,0,1,0,0] body124)) (contAt Try.prog tab lv124 [1,1,1,0,1,0] body124 [] (bodyK Try.prog Try.f124 [] R)) [(2,.int .i64 s2),(9,.slice s9.a s9.n s9.c),(27,.slice s27.a s27.n s27.c),(28,.int .i64 s28),(29,.int .i64 s29)] 58 h0:=by
 refine ⟨f124I1 J,n0,fun g=>by rw [f124I1_at]; exact hi,fun n env h hI=>?_⟩
 clear hi
 clear s2 s9 s27 s28 s29
 obtain ⟨hlen,hI⟩:=Cond_true' hI
 have hlen:env.length=58:=by simpa using hlen
 obtain ⟨s2,es2,hI⟩:=DecI.out hI
 obtain ⟨s9,es9,hI⟩:=DecL.out hI
 obtain ⟨s27,es27,hI⟩:=DecL.out hI
 obtain ⟨s28,es28,hI⟩:=DecI.out hI
 obtain ⟨s29,es29,hI⟩:=DecI.out hI
 rw [mkEnv_of (l:=[(2,.int .i64 s2),(9,.slice s9.a s9.n s9.c),(27,.slice s27.a s27.n s27.c),(28,.int .i64 s28),(29,.int .i64 s29)]) hlen (by simp only [List.mem_cons,List.not_mem_nil,or_false,forall_eq_or_imp,forall_eq]; exact ⟨es2,es9,es27,es28,es29⟩)]
 rw [f124L1_eq]
 exact hr n s2 s9 s27 s28 s29 _ h hI
def f124F (a0:Option Addr) (a1:Int) (a2:Int) (a3:Sl) (h:Hp) (R:Value→Hp→Prop):Prop :=
 CallTo Try.prog 125 #[.pointer a0,.int .i64 a1,.int .i64 a2,.int .i64 (((a3.n:Nat):Int))] h fun r h1=>∃ t21_0:Sl,∃ t21_1:Int,r=.tuple #[.slice t21_0.a t21_0.n t21_0.c,.int .i64 t21_1]∧Cond (t21_1 != (0:Int)) (R (.int .i64 t21_1:Value) h1) (LoopEv (evC Try.prog tab lv124 (sub [1,1,1,0,1,0,0] body124)) (contAt Try.prog tab lv124 [1,1,1,0,1,0] body124 [] (bodyK Try.prog Try.f124 [] R)) [(2,.int .i64 a2),(9,.slice t21_0.a t21_0.n t21_0.c),(27,.slice a3.a a3.n a3.c),(28,.int .i64 (((a3.n:Nat):Int))),(29,.int .i64 0)] 58 h1)
theorem f124F_eq (a0:Option Addr) (a1:Int) (a2:Int) (a3:Sl) (h:Hp) (R:Value→Hp→Prop):evF Try.prog tab lv124 Try.f124 body124 [] [.pointer a0,.int .i64 a1,.int .i64 a2,.slice a3.a a3.n a3.c] h R=f124F a0 a1 a2 a3 h R:=by kernel_rfl
theorem f124F_ok {a0:Option Addr} {a1:Int} {a2:Int} {a3:Sl} {h:Hp} {R:Value→Hp→Prop} (hF:f124F a0 a1 a2 a3 h R):CallTo Try.prog 124 #[.pointer a0,.int .i64 a1,.int .i64 a2,.slice a3.a a3.n a3.c] h R :=
 callTo_of_ev (lv:=lv124) (hints:=[]) (c:=body124) (args:=[.pointer a0,.int .i64 a1,.int .i64 a2,.slice a3.a a3.n a3.c]) mixed tab_ok Try.func124 (by kernel_rfl) (by kernel_rfl) (by rw [f124F_eq]; exact hF)
/- (*larder/arena.Arena).span -/
noncomputable def body125:Code:=(Try.f125.body).getD .skip
def lv125 (m:Nat):List Nat:=[]
def f125K1  (x13:Sl) (x48:Bool) (h:Hp) (R:Value→Hp→Prop):Prop :=
 Cond x48 (R (.tuple #[.slice none 0 0,.int .i64 25]:Value) h) (R (.tuple #[.slice x13.a x13.n x13.c,.int .i64 0]:Value) h)
def f125F (a0:Option Addr) (a1:Int) (a2:Int) (a3:Int) (h:Hp) (R:Value→Hp→Prop):Prop :=
 CallTo Try.prog 90 #[.pointer a0,.int .i64 a1] h fun r h1=>∃ t17_0:Sl,∃ t17_1:Int,∃ t17_2:Int,r=.tuple #[.slice t17_0.a t17_0.n t17_0.c,.int .i64 t17_1,.int .i64 t17_2]∧Cond (t17_2 != (0:Int)) (R (.tuple #[.slice none 0 0,.int .i64 t17_2]:Value) h1) ((0 ≤ t17_1∧t17_1 ≤ ((t17_0.n:Nat):Int))∧Cond (decide (a2 < (0:Int))) (f125K1  ⟨if t17_0.c=t17_1.toNat then t17_0.a else Option.map (fun x=>x.add (t17_1.toNat * 1)) t17_0.a,t17_0.n - t17_1.toNat,t17_0.c - t17_1.toNat⟩ true h1 R) (Cond (decide (a3 < (0:Int))) (f125K1  ⟨if t17_0.c=t17_1.toNat then t17_0.a else Option.map (fun x=>x.add (t17_1.toNat * 1)) t17_0.a,t17_0.n - t17_1.toNat,t17_0.c - t17_1.toNat⟩ true h1 R) (Cond (decide (a2 > (IntKind.wrap .i64 ((8:Int) * (((t17_0.n - t17_1.toNat:Nat):Int)))))) (f125K1  ⟨if t17_0.c=t17_1.toNat then t17_0.a else Option.map (fun x=>x.add (t17_1.toNat * 1)) t17_0.a,t17_0.n - t17_1.toNat,t17_0.c - t17_1.toNat⟩ true h1 R) (f125K1  ⟨if t17_0.c=t17_1.toNat then t17_0.a else Option.map (fun x=>x.add (t17_1.toNat * 1)) t17_0.a,t17_0.n - t17_1.toNat,t17_0.c - t17_1.toNat⟩ (decide (a3 > (IntKind.wrap .i64 ((IntKind.wrap .i64 ((8:Int) * (((t17_0.n - t17_1.toNat:Nat):Int)))) - a2)))) h1 R))))
theorem f125F_eq (a0:Option Addr) (a1:Int) (a2:Int) (a3:Int) (h:Hp) (R:Value→Hp→Prop):evF Try.prog tab lv125 Try.f125 body125 [] [.pointer a0,.int .i64 a1,.int .i64 a2,.int .i64 a3] h R=f125F a0 a1 a2 a3 h R:=by kernel_rfl
theorem f125F_ok {a0:Option Addr} {a1:Int} {a2:Int} {a3:Int} {h:Hp} {R:Value→Hp→Prop} (hF:f125F a0 a1 a2 a3 h R):CallTo Try.prog 125 #[.pointer a0,.int .i64 a1,.int .i64 a2,.int .i64 a3] h R :=
 callTo_of_ev (lv:=lv125) (hints:=[]) (c:=body125) (args:=[.pointer a0,.int .i64 a1,.int .i64 a2,.int .i64 a3]) mixed tab_ok Try.func125 (by kernel_rfl) (by kernel_rfl) (by rw [f125F_eq]; exact hF)
end Go.Ev
set_option linter.all false
namespace Go.Ev
open Go.Proofs
def uv (n:Nat):Value:=.int .u64 (n:Int)
/-! ### word -/
theorem hdw_or {k r w:Nat} (hk:k ≤ 255) (hr:r ≤ 1048576) (hw:w ≤ 1048576):(k * 2 ^ 0 ||| r * 2 ^ 8) ||| w * 2 ^ 32=hdw k r w:=by
 have h1:k * 2 ^ 0 ||| r * 2 ^ 8=r * 2 ^ 8 + k:=by
  rw [Nat.or_comm,Nat.mul_comm r,Nat.two_pow_add_eq_or_of_lt (by omega),Nat.pow_zero,Nat.mul_one]
 rw [h1,Nat.or_comm,Nat.mul_comm w,← Nat.two_pow_add_eq_or_of_lt (by omega)]
 unfold hdw; omega
theorem head_ok {k r w:Int} {h:Hp} {R:Value→Hp→Prop}
  (hR:if (1 ≤ k∧k ≤ 255)∧(0 ≤ r∧r ≤ 1048576)∧(0 ≤ w∧w ≤ 1048576) then R (.tuple #[uv (hdw k.toNat r.toNat w.toNat),.int .i64 0]) h else R (.tuple #[.int .u64 0,.int .i64 10]) h) :
  CallTo Try.prog 79 #[.int .i64 k,.int .i64 r,.int .i64 w] h R:=by
 refine f79F_ok ?_
 have bad:¬ ((1 ≤ k∧k ≤ 255)∧(0 ≤ r∧r ≤ 1048576)∧(0 ≤ w∧w ≤ 1048576))→f79K1 k r w true h R:=fun hn=>by
  rw [if_neg hn] at hR; exact hR
 unfold f79F
 refine Cond_dec (fun c=>bad (by omega)) fun c1=>Cond_dec (fun c=>bad (by omega)) fun c2=>Cond_dec (fun c=>bad (by omega)) fun c3=>Cond_dec (fun c=>bad (by omega)) fun c4=>Cond_dec (fun c=>bad (by omega)) fun c5=>?_
 unfold f79K1
 refine Cond_dec (fun c=>by rw [if_neg (by omega)] at hR; exact hR) fun c6=>?_
 rw [if_pos (by omega)] at hR
 refine ⟨by omega,by omega,by omega,?_⟩
 obtain ⟨k,rfl⟩:=Int.eq_ofNat_of_zero_le (show 0 ≤ k by omega)
 obtain ⟨r,rfl⟩:=Int.eq_ofNat_of_zero_le (show 0 ≤ r by omega)
 obtain ⟨w,rfl⟩:=Int.eq_ofNat_of_zero_le (show 0 ≤ w by omega)
 have e:orI .u64 (orI .u64 (IntKind.wrap .u64 ((IntKind.wrap .u64 (k:Int)) * 2 ^ (min (0:Int).toNat (IntKind.bits .u64)))) (IntKind.wrap .u64 ((IntKind.wrap .u64 (r:Int)) * 2 ^ (min (8:Int).toNat (IntKind.bits .u64))))) (IntKind.wrap .u64 ((IntKind.wrap .u64 (w:Int)) * 2 ^ (min (32:Int).toNat (IntKind.bits .u64))))=((hdw k r w:Nat):Int):=by
  have b0:(2:Int) ^ (min (0:Int).toNat (IntKind.bits .u64))=((2 ^ 0:Nat):Int):=rfl
  have b8:(2:Int) ^ (min (8:Int).toNat (IntKind.bits .u64))=((2 ^ 8:Nat):Int):=rfl
  have b32:(2:Int) ^ (min (32:Int).toNat (IntKind.bits .u64))=((2 ^ 32:Nat):Int):=rfl
  rw [b0,b8,b32,wrap_u64' (x:=(k:Int)) (by omega) (by omega),wrap_u64' (x:=(r:Int)) (by omega) (by omega),wrap_u64' (x:=(w:Int)) (by omega) (by omega)]
  rw [← Int.natCast_mul,← Int.natCast_mul,← Int.natCast_mul]
  rw [wrap_u64' (by omega) (by omega),wrap_u64' (by omega) (by omega),wrap_u64' (by omega) (by omega)]
  rw [orI_nat (by omega) (by omega)]
  have hk':k ≤ 255:=by omega
  have hr':r ≤ 1048576:=by omega
  have hw':w ≤ 1048576:=by omega
  have hlt:(k * 2 ^ 0 ||| r * 2 ^ 8) < 2 ^ 64:=Nat.or_lt_two_pow (by omega) (by omega)
  rw [orI_nat (by omega) (by omega),hdw_or hk' hr' hw']
 rw [e]
 exact hR
theorem split_ok {k r w:Nat} {h:Hp} {R:Value→Hp→Prop} (hk1:1 ≤ k) (hk:k ≤ 255) (hr:r ≤ 1048576) (hw:w ≤ 1048576)
  (hR:R (.tuple #[.int .i64 (k:Int),.int .i64 (r:Int),.int .i64 (w:Int),.int .i64 0]) h):CallTo Try.prog 88 #[uv (hdw k r w)] h R:=by
 refine f88F_ok ?_
 have e56:Int.fdiv ((hdw k r w:Nat):Int) (2 ^ (min (56:Int).toNat (IntKind.bits .u64)))=0:=by
  have:(min (56:Int).toNat (IntKind.bits .u64))=56:=rfl
  rw [this,fdiv_pow]
  have:hdw k r w / 2 ^ 56=0:=Nat.div_eq_of_lt (by unfold hdw; omega)
  rw [this]; rfl
 have ek:IntKind.wrap .i64 (andI .u64 ((hdw k r w:Nat):Int) (255:Int))=(k:Int):=by
  have:=andI_nat (a:=hdw k r w) (b:=255) (by unfold hdw; omega) (by omega)
  rw [show ((255:Nat):Int)=(255:Int) from rfl] at this
  rw [this,show (255:Nat)=2 ^ 8 - 1 from rfl,Nat.and_two_pow_sub_one_eq_mod,wrap_i64' (by omega) (by omega)]
  have:hdw k r w % 2 ^ 8=k:=by unfold hdw; omega
  rw [this]
 have er:IntKind.wrap .i64 (andI .u64 (Int.fdiv ((hdw k r w:Nat):Int) (2 ^ (min (8:Int).toNat (IntKind.bits .u64)))) (16777215:Int))=(r:Int):=by
  have h8:(min (8:Int).toNat (IntKind.bits .u64))=8:=rfl
  have hd:hdw k r w / 2 ^ 8=r + w * 2 ^ 24:=by unfold hdw; omega
  rw [h8,fdiv_pow,hd]
  have:=andI_nat (a:=r + w * 2 ^ 24) (b:=16777215) (by omega) (by omega)
  rw [show ((16777215:Nat):Int)=(16777215:Int) from rfl] at this
  rw [this,show (16777215:Nat)=2 ^ 24 - 1 from rfl,Nat.and_two_pow_sub_one_eq_mod,wrap_i64' (by omega) (by omega)]
  have:(r + w * 2 ^ 24) % 2 ^ 24=r:=by omega
  rw [this]
 have ew:IntKind.wrap .i64 (andI .u64 (Int.fdiv ((hdw k r w:Nat):Int) (2 ^ (min (32:Int).toNat (IntKind.bits .u64)))) (16777215:Int))=(w:Int):=by
  have h32:(min (32:Int).toNat (IntKind.bits .u64))=32:=rfl
  have hd:hdw k r w / 2 ^ 32=w:=by unfold hdw; omega
  rw [h32,fdiv_pow,hd]
  have:=andI_nat (a:=w) (b:=16777215) (by omega) (by omega)
  rw [show ((16777215:Nat):Int)=(16777215:Int) from rfl] at this
  rw [this,show (16777215:Nat)=2 ^ 24 - 1 from rfl,Nat.and_two_pow_sub_one_eq_mod,wrap_i64' (by omega) (by omega)]
  have:w % 2 ^ 24=w:=by omega
  rw [this]
 unfold f88F
 simp only [e56,ek,er,ew]
 refine ⟨by omega,by omega,by omega,?_⟩
 refine Cond_f (by simp) (Cond_f (by simp; omega) (Cond_dec (fun c=>by omega) fun _=>?_))
 unfold f88K1
 refine Cond_dec (fun c=>by omega) fun _=>hR
end Go.Ev
