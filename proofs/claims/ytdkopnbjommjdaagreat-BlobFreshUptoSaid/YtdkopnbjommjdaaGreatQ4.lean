/- Printed by a program (own work) out of the loaded functions: what each says of the heap, and that the evaluator says the same. No condition but that these are ones. -/
import Derived.Test.YtdkopnbjommjdaaGreatQ3
import Derived.Test.YtdkopnbjommjdaaGreatProg
namespace Go.Ev
open Go.Proofs
def tkL:List (List VK):=[[],[.any],[.int .i64],[.int .i64],[.bool],[.int .u8],[.int .u8],[.int .i64,.int .i64,.bool,.int .u8],[.int .i64,.int .i64,.bool,.int .u8],[.str],[.str],[.str],[.int .u64],[.str,.int .u64],[.str,.int .u64],[.ptr],[.ptr],[.ptr],[.ptr],[.ptr],[.any],[.int .i32],[.int .i64,.int .i64],[.sl],[.int .i64,.int .i64,.sl],[.int .i64,.int .i64,.sl],[.any],[.any],[.ptr],[],[.any],[.any],[.sl],[.sl],[.int .i64,.int .i64,.int .i64,.int .i64,.int .i64,.int .i64,.sl,.sl],[.int .i64,.int .i64,.int .i64,.int .i64,.int .i64,.int .i64,.sl,.sl],[.ptr],[.ptr,.ptr],[.ptr],[.ptr,.ptr],[.int .i64,.int .i64,.int .i64,.int .i64,.int .i64,.int .i64,.int .i64,.int .i64],[.int .i64,.int .i64,.int .i64,.int .i64,.int .i64,.int .i64,.int .i64,.int .i64,.int .i64,.int .i64,.int .i64,.int .i64,.int .i64,.int .i64,.int .i64,.int .i64],[.ptr],[.ptr],[.ptr,.ptr,.ptr,.ptr,.int .i64,.int .i64,.int .i64,.int .i64,.int .i64,.int .i64,.int .i64,.int .i64,.int .i64,.int .i64,.int .i64,.int .i64,.int .i64,.int .i64,.int .i64,.int .i64,.ptr,.ptr,.bool],[.ptr,.ptr,.ptr,.ptr,.int .i64,.int .i64,.int .i64,.int .i64,.int .i64,.int .i64,.int .i64,.int .i64,.int .i64,.int .i64,.int .i64,.int .i64,.int .i64,.int .i64,.int .i64,.int .i64,.ptr,.ptr,.bool],[],[.any],[.int .i64,.int .i64,.int .i64,.int .i64,.int .i64,.int .i64,.int .i64,.int .i64,.int .i64],[.int .i64,.int .i64,.int .i64,.int .i64,.int .i64,.int .i64,.int .i64,.int .i64,.int .i64],[.any],[.any],[.any],[.any],[.sl],[.sl],[.sl],[.sl],[.sl],[.sl],[.sl],[.sl],[.sl],[.sl],[.sl,.sl,.int .i64,.sl,.sl,.int .i64,.sl,.sl,.int .i64,.sl,.sl,.int .i64,.sl,.sl,.int .i64,.sl,.sl,.int .i64,.sl,.sl,.int .i64,.sl,.sl,.int .i64,.sl,.sl,.int .i64,.sl,.sl,.int .i64,.int .i64,.int .i64,.int .i64],[.sl,.sl,.int .i64,.sl,.sl,.int .i64,.sl,.sl,.int .i64,.sl,.sl,.int .i64,.sl,.sl,.int .i64,.sl,.sl,.int .i64,.sl,.sl,.int .i64,.sl,.sl,.int .i64,.sl,.sl,.int .i64,.sl,.sl,.int .i64,.int .i64,.int .i64,.int .i64],[.sl,.sl],[.sl,.sl],[.any],[.int .i64],[],[.any],[.any],[.int .i64,.sl,.int .i64,.int .i64,.int .i64,.int .i64,.int .i64,.int .i64,.int .i64,.int .i64],[.int .i64,.sl,.int .i64,.int .i64,.int .i64,.int .i64,.int .i64,.int .i64,.int .i64,.int .i64],[.any],[.any],[.int .u64],[],[.any],[.any],[.any],[.any],[.ptr],[.sl],[.sl],[.sl],[.int .i64,.ptr,.ptr,.sl,.sl,.sl,.int .i64,.int .i64,.int .i64,.sl,.int .i64,.int .i64,.int .i64,.int .i64,.int .i64,.int .i64,.int .i64,.int .i64,.int .i64],[.int .i64,.ptr,.ptr,.sl,.sl,.sl,.int .i64,.int .i64,.int .i64,.sl,.int .i64,.int .i64,.int .i64,.int .i64,.int .i64,.int .i64,.int .i64,.int .i64,.int .i64],[.any],[.any],[.any],[.any],[],[.any],[.any],[],[.any],[.ptr],[.any],[.any],[.sl,.sl,.sl,.sl],[.sl,.sl,.sl,.sl],[.any],[.any],[.any],[.any],[],[.any],[.any],[.any],[],[.any],[.any],[],[.any],[.any],[.any],[.any],[.any],[.any],[.bool,.int .u64],[.bool,.int .u64],[.any],[.any],[.any],[.any],[.sl],[.int .i64,.sl,.sl],[.int .i64,.sl,.sl],[.any],[.any],[.any],[],[.any],[.any],[.any],[.any],[.any],[.any],[.any],[.any],[.any],[.any],[],[.any],[.any],[.any],[.any],[.any],[.any],[.any],[.any],[.sl],[.sl,.int .i64],[.sl,.int .i64],[.int .u64],[.sl],[.sl,.sl],[.sl,.sl],[.sl],[.int .i64,.int .i64,.sl,.sl],[.int .i64,.int .i64,.sl,.sl],[.sl],[.int .i64,.str],[.int .i64,.str],[.sl],[.int .i64,.sl],[.int .i64,.sl],[.sl],[.int .i64,.int .u64,.sl],[.int .i64,.int .u64,.sl],[.sl],[.str,.int .i64,.bool,.int .i64,.int .i64,.int .i64,.int .i64],[.str,.int .i64,.bool,.int .i64,.int .i64,.int .i64,.int .i64],[.any],[.any],[.any],[.any],[.any],[.any],[.any],[.any],[.any],[],[.any],[],[.any],[.any],[.ptr,.ptr,.ptr,.str],[.ptr,.ptr,.ptr,.str],[],[],[],[.int .u32],[.int .u8],[.int .u8],[.any],[.ptr],[.int .i32],[.int .i32],[.int .u64,.int .u64,.int .u32,.int .u8,.int .u8,.int .u8,.int .u8,.any,.ptr,.int .i32,.int .i32],[.int .u64,.int .u64,.int .u32,.int .u8,.int .u8,.int .u8,.int .u8,.any,.ptr,.int .i32,.int .i32],[],[.any],[.any]]
def rkL:List (List RK):=[[],[],[],[.leaf .bool],[.leaf .bool],[.leaf .bool],[.leaf .bool],[.leaf .ptr,.leaf .bool],[.leaf .bool],[],[.leaf (.int .i64),.leaf (.int .i64)],[.agg [.int .i64,.int .i64,.int .i64,.int .i64,.int .i64,.int .i64,.int .i64,.int .i64,.int .i64]],[.leaf .bool],[.leaf .bool],[.leaf .bool],[.leaf (.int .i64)],[.leaf .ptr,.leaf (.int .i64)],[.leaf (.int .i64)],[.leaf .bool],[.leaf .bool],[.leaf (.int .i64)],[.leaf (.int .i64)],[.leaf (.int .u64),.leaf (.int .i64)],[.leaf .bool],[],[],[.leaf .bool],[.leaf (.int .i64)],[.leaf (.int .i64)],[.leaf (.int .i64)],[.leaf .bool],[.leaf .sl],[.leaf (.int .u64)],[.leaf (.int .u64),.leaf (.int .i64)],[.leaf .sl,.leaf (.int .i64)],[.leaf (.int .i64)],[.leaf .bool],[],[],[.leaf .ptr,.leaf (.int .i64)],[.leaf .ptr],[.leaf (.int .u64),.leaf (.int .i64)],[.leaf (.int .i64)],[.leaf .bool],[],[.leaf .bool],[.leaf .sl],[.leaf (.int .u64),.leaf (.int .i64)],[.leaf .bool,.leaf (.int .i64)],[.leaf .bool],[],[.leaf .sl,.leaf (.int .i64)],[.leaf .bool],[.leaf .bool],[.leaf (.int .i64),.leaf (.int .i64)],[.leaf .sl,.leaf (.int .i64)],[.leaf .sl,.leaf (.int .i64)],[.leaf (.int .i64),.leaf (.int .i64)],[.leaf (.int .i64)],[.leaf .sl],[],[.leaf (.int .i64),.leaf (.int .i64)],[.leaf (.int .i64),.leaf (.int .i64)],[.leaf .bool],[],[.leaf (.int .u64),.leaf (.int .i64)],[.leaf (.int .i64),.leaf (.int .i64)],[],[.leaf (.int .u64)],[.leaf (.int .i64)],[.leaf (.int .i64)],[.leaf .sl],[.leaf (.int .u64),.leaf (.int .i64)],[.leaf .any,.leaf (.int .i64),.leaf .bool],[.leaf .bool],[.leaf .bool],[.leaf .bool],[],[],[],[],[],[],[],[],[],[],[.leaf (.int .u8)],[.leaf .bool],[.leaf (.int .u64),.leaf (.int .i64)],[.leaf .bool],[],[.leaf (.int .i64)],[.leaf (.int .i64),.leaf (.int .i64)],[.leaf (.int .i64)],[.leaf (.int .i64)],[.leaf (.int .i64)],[],[.leaf (.int .i64),.leaf (.int .i64),.leaf (.int .i64),.leaf (.int .i64)],[.leaf (.int .i64)],[.leaf (.int .i64)],[.leaf (.int .i64),.leaf (.int .i64),.leaf (.int .i64),.leaf (.int .i64)],[.leaf (.int .i64),.leaf (.int .i64)],[.leaf (.int .u64),.leaf (.int .i64)],[.leaf (.int .i64)],[.leaf .bool],[.leaf (.int .u64)],[.agg [.sl,.int .i64]],[.agg [.sl,.sl]],[.agg [.int .i64,.int .i64,.sl,.sl]],[.agg [.int .i64,.str]],[.agg [.int .i64,.sl]],[.agg [.int .i64,.int .u64,.sl]],[.agg [.str,.int .i64,.bool,.int .i64,.int .i64,.int .i64,.int .i64]],[.leaf .bool],[.leaf (.int .i64)],[.leaf .bool],[.leaf (.int .i64),.leaf (.int .i64),.leaf (.int .i64),.leaf (.int .i64)],[.leaf (.int .i64),.leaf .bool,.leaf (.int .i64)],[.leaf .sl,.leaf (.int .i64),.leaf (.int .i64)],[.leaf .str],[],[.leaf .str],[],[.leaf .str],[],[.leaf .str],[],[.leaf .str],[],[.leaf .str],[],[.leaf (.int .i64)],[.leaf .str],[],[.leaf .str],[.leaf .sl,.leaf (.int .i64)],[.leaf (.int .u64),.leaf (.int .i64)],[.leaf (.int .i64)],[.leaf (.int .i64)],[.leaf .sl,.leaf (.int .i64)],[.leaf .str]]
def quietL:List Bool:=[false,false,true,false,false,false,false,false,false,false,true,false,false,false,false,true,false,true,false,false,false,false,false,false,false,false,true,true,true,true,true,false,true,false,false,true,false,false,false,false,false,false,false,true,false,false,false,false,false,true,false,false,true,false,false,false,false,false,true,false,false,false,false,true,false,false,false,false,false,false,true,false,true,true,true,false,false,false,false,false,false,false,false,false,false,false,false,true,false,false,true,false,false,false,true,false,false,false,false,true,true,true,false,true,false,true,true,false,false,false,false,false,false,false,true,false,true,true,true,true,false,false,false,false,false,false,false,false,false,false,false,false,false,false,false,false,false,true,false,false,true,false]
def calleeL:List Bool:=[false,false,true,true,true,true,true,true,true,true,true,true,true,true,true,true,true,true,true,true,true,true,true,true,true,true,true,true,true,true,true,true,true,true,true,true,true,true,true,true,true,true,true,true,true,true,true,true,true,true,true,true,true,true,true,true,true,true,true,true,true,true,true,true,true,true,true,true,true,true,true,true,true,true,true,true,true,true,true,true,true,true,true,true,true,true,true,true,true,true,true,true,true,true,true,true,true,true,true,true,true,true,true,true,true,true,true,true,true,true,true,true,true,true,true,false,true,true,true,true,false,false,false,false,false,false,false,false,false,false,false,false,false,false,false,false,true,true,true,true,true,false]
def extL:List Bool:=[true,true,false,false,false,false,false,false,false,false,false,false,false,false,false,false,false,false,false,false,false,false,false,false,false,false,false,false,false,false,false,false,false,false,false,false,false,false,false,false,false,false,false,false,false,false,false,false,false,false,false,false,false,false,false,false,false,false,false,false,false,false,false,false,false,false,false,false,false,false,false,false,false,false,false,false,false,false,false,false,false,false,false,false,false,false,false,false,false,false,false,false,false,false,false,false,false,false,false,false,false,false,false,false,false,false,false,false,false,false,false,false,false,false,false,true,false,false,false,false,true,true,true,true,true,true,true,true,true,true,true,true,true,true,true,true,false,false,false,false,false,true]
noncomputable def tab:Tab:={ tk:=fun t=>tkL.getD t [],rk:=fun f=>rkL.getD f [],quiet:=fun f=>quietL.getD f false,callee:=fun f=>calleeL.getD f false,ext:=fun f=>extL.getD f false,meth:=fun m=>if m = "Object" then some (83,101) else if m = "Bytes" then some (83,136) else if m = "Get" then some (83,137) else if m = "Set" then some (83,138) else if m = "SetBytes" then some (83,139) else none }
theorem mixed:Tryz.prog.follows .mixedOrders=true:=by kernel_rfl
noncomputable def calleeOk (f:Nat):Bool:=match Tryz.prog.funcs[f]? with | some fn=>!(fn.name == "runtime.NumGoroutine") && fn.body.isSome | none=>false
theorem callable_of_ok {f:Nat} (h:calleeOk f=true):Callable Tryz.prog f:=by
 unfold calleeOk at h
 split at h
 ·rename_i fn hf
  simp only [Bool.and_eq_true,Bool.not_eq_true'] at h
  exact callable_of hf h.1 h.2
 ·cases h
theorem calleeL_len:calleeL.length=142:=by kernel_rfl
theorem callees:((List.range 142).all fun f=>!calleeL.getD f false || calleeOk f)=true:=by kernel_rfl
theorem meth_Object (a:Option Addr) (args:Array Value) (w:World):(callMethod (.iface 83 (.pointer a)) "Object" args).run Tryz.prog w=.ok (.enter 101 (#[.pointer a] ++ args)) w:=by kernel_rfl
theorem meth_Bytes (a:Option Addr) (args:Array Value) (w:World):(callMethod (.iface 83 (.pointer a)) "Bytes" args).run Tryz.prog w=.ok (.enter 136 (#[.pointer a] ++ args)) w:=by kernel_rfl
theorem meth_Get (a:Option Addr) (args:Array Value) (w:World):(callMethod (.iface 83 (.pointer a)) "Get" args).run Tryz.prog w=.ok (.enter 137 (#[.pointer a] ++ args)) w:=by kernel_rfl
theorem meth_Set (a:Option Addr) (args:Array Value) (w:World):(callMethod (.iface 83 (.pointer a)) "Set" args).run Tryz.prog w=.ok (.enter 138 (#[.pointer a] ++ args)) w:=by kernel_rfl
theorem meth_SetBytes (a:Option Addr) (args:Array Value) (w:World):(callMethod (.iface 83 (.pointer a)) "SetBytes" args).run Tryz.prog w=.ok (.enter 139 (#[.pointer a] ++ args)) w:=by kernel_rfl
theorem ahead_Object (a:Addr) (w:World):(nilAhead (Tryz.prog.types.size + Made.depth) 83 (.pointer (some a)) "Object").run Tryz.prog w=.ok (some false) w:=by kernel_rfl
theorem ahead_Bytes (a:Addr) (w:World):(nilAhead (Tryz.prog.types.size + Made.depth) 83 (.pointer (some a)) "Bytes").run Tryz.prog w=.ok (some false) w:=by kernel_rfl
theorem ahead_Get (a:Addr) (w:World):(nilAhead (Tryz.prog.types.size + Made.depth) 83 (.pointer (some a)) "Get").run Tryz.prog w=.ok (some false) w:=by kernel_rfl
theorem ahead_Set (a:Addr) (w:World):(nilAhead (Tryz.prog.types.size + Made.depth) 83 (.pointer (some a)) "Set").run Tryz.prog w=.ok (some false) w:=by kernel_rfl
theorem ahead_SetBytes (a:Addr) (w:World):(nilAhead (Tryz.prog.types.size + Made.depth) 83 (.pointer (some a)) "SetBytes").run Tryz.prog w=.ok (some false) w:=by kernel_rfl
theorem tab_ok:TabOk Tryz.prog tab:=by
 refine ⟨fun f hf=>?_,fun m t f hm a args w=>?_,fun m t f hm a w=>?_⟩
 ·have hf:calleeL.getD f false=true:=hf
  by_cases hlt:f < 142
  ·have:=List.all_eq_true.1 callees f (List.mem_range.2 hlt)
   rw [hf] at this
   have hc:calleeOk f=true:=by simpa using this
   exact callable_of_ok hc
  ·rw [List.getD_eq_getElem?_getD,List.getElem?_eq_none (Nat.le_trans (Nat.le_of_eq calleeL_len:calleeL.length ≤ 142) (Nat.le_of_not_lt hlt))] at hf
   cases hf
 ·simp only [tab] at hm
  split at hm
  ·rename_i he; subst he; simp only [Option.some.injEq,Prod.mk.injEq] at hm; obtain ⟨rfl,rfl⟩:=hm; exact meth_Object a args w
  split at hm
  ·rename_i he; subst he; simp only [Option.some.injEq,Prod.mk.injEq] at hm; obtain ⟨rfl,rfl⟩:=hm; exact meth_Bytes a args w
  split at hm
  ·rename_i he; subst he; simp only [Option.some.injEq,Prod.mk.injEq] at hm; obtain ⟨rfl,rfl⟩:=hm; exact meth_Get a args w
  split at hm
  ·rename_i he; subst he; simp only [Option.some.injEq,Prod.mk.injEq] at hm; obtain ⟨rfl,rfl⟩:=hm; exact meth_Set a args w
  split at hm
  ·rename_i he; subst he; simp only [Option.some.injEq,Prod.mk.injEq] at hm; obtain ⟨rfl,rfl⟩:=hm; exact meth_SetBytes a args w
  cases hm
 ·simp only [tab] at hm
  split at hm
  ·rename_i he; subst he; simp only [Option.some.injEq,Prod.mk.injEq] at hm; obtain ⟨rfl,rfl⟩:=hm; exact ahead_Object a w
  split at hm
  ·rename_i he; subst he; simp only [Option.some.injEq,Prod.mk.injEq] at hm; obtain ⟨rfl,rfl⟩:=hm; exact ahead_Bytes a w
  split at hm
  ·rename_i he; subst he; simp only [Option.some.injEq,Prod.mk.injEq] at hm; obtain ⟨rfl,rfl⟩:=hm; exact ahead_Get a w
  split at hm
  ·rename_i he; subst he; simp only [Option.some.injEq,Prod.mk.injEq] at hm; obtain ⟨rfl,rfl⟩:=hm; exact ahead_Set a w
  split at hm
  ·rename_i he; subst he; simp only [Option.some.injEq,Prod.mk.injEq] at hm; obtain ⟨rfl,rfl⟩:=hm; exact ahead_SetBytes a w
  cases hm
end Go.Ev
set_option linter.all false
set_option maxRecDepth 100000
namespace Go.Ev
open Go.Proofs
/- (*larder/arena.Arena).Size -/
noncomputable def body28:Code:=(Tryz.f28.body).getD .skip
def lv28 (m:Nat):List Nat:=[]
def f28F (a0:Option Addr) (h:Hp) (R:Value→Hp→Prop):Prop :=
 PtrOk a0 fun p4=>∃ t6:Int,cell h p4=some (.int .i64 t6)∧R (.int .i64 t6:Value) h
theorem f28F_eq (a0:Option Addr) (h:Hp) (R:Value→Hp→Prop):evF Tryz.prog tab lv28 Tryz.f28 body28 [] [.pointer a0] h R=f28F a0 h R:=by kernel_rfl
theorem f28F_ok {a0:Option Addr} {h:Hp} {R:Value→Hp→Prop} (hF:f28F a0 h R):CallTo Tryz.prog 28 #[.pointer a0] h R :=
 callTo_of_ev (lv:=lv28) (hints:=[]) (c:=body28) (args:=[.pointer a0]) mixed tab_ok Tryz.func28 (by kernel_rfl) (by kernel_rfl) (by rw [f28F_eq]; exact hF)
/- (*larder/arena.Arena).Used -/
noncomputable def body29:Code:=(Tryz.f29.body).getD .skip
def lv29 (m:Nat):List Nat:=[]
def f29F (a0:Option Addr) (h:Hp) (R:Value→Hp→Prop):Prop :=
 PtrOk a0 fun p4=>∃ t6:Sl,cell h (p4.add 1)=some (.slice t6.a t6.n t6.c)∧R ((.int .i64 (((t6.n:Nat):Int)):Value)) h
theorem f29F_eq (a0:Option Addr) (h:Hp) (R:Value→Hp→Prop):evF Tryz.prog tab lv29 Tryz.f29 body29 [] [.pointer a0] h R=f29F a0 h R:=by kernel_rfl
theorem f29F_ok {a0:Option Addr} {h:Hp} {R:Value→Hp→Prop} (hF:f29F a0 h R):CallTo Tryz.prog 29 #[.pointer a0] h R :=
 callTo_of_ev (lv:=lv29) (hints:=[]) (c:=body29) (args:=[.pointer a0]) mixed tab_ok Tryz.func29 (by kernel_rfl) (by kernel_rfl) (by rw [f29F_eq]; exact hF)
/- larder/arena.New -/
noncomputable def body39:Code:=(Tryz.f39.body).getD .skip
def lv39 (m:Nat):List Nat:=[]
def f39K1  (x0:Int) (x9:Bool) (h:Hp) (R:Value→Hp→Prop):Prop :=
 Cond x9 (R (.tuple #[.pointer none,.int .i64 20]:Value) h) (((0 ≤ (1:Int)∧(1:Int) ≤ (1:Int))∧(1:Int) < 2 ^ 62∧(8:Nat) * (1:Int) ≤ 2 ^ 48∧Let (h.push (.cells (zrow #[.int .u64 0] ((1:Int).toNat * 1)) 77)) fun h1=>(0 ≤ (1:Int)∧(1:Int) ≤ (1:Int))∧(1:Int) < 2 ^ 62∧(8:Nat) * (1:Int) ≤ 2 ^ 48∧Let (h1.push (.cells (zrow #[.int .u64 0] ((1:Int).toNat * 1)) 77)) fun h2=>Let (h2.push (.cells #[.int .i64 x0,.slice (some (nb h)) ((1:Int).toNat) ((1:Int).toNat),.slice (some (nb h1)) ((1:Int).toNat) ((1:Int).toNat)] 129)) fun h3=>R ((.tuple #[.pointer (some (nb h2)),.int .i64 0]:Value)) h3)∧((0 ≤ (1:Int)∧(1:Int) ≤ (1:Int))∧(1:Int) < 2 ^ 62∧(8:Nat) * (1:Int) ≤ 2 ^ 48∧Let (h.push (.cells (zrow #[.int .u64 0] ((1:Int).toNat * 1)) 77)) fun h4=>(0 ≤ (1:Int)∧(1:Int) ≤ (1:Int))∧(1:Int) < 2 ^ 62∧(8:Nat) * (1:Int) ≤ 2 ^ 48∧Let (h4.push (.cells (zrow #[.int .u64 0] ((1:Int).toNat * 1)) 77)) fun h5=>Let (h5.push (.cells #[.int .i64 x0,.slice (some (nb h4)) ((1:Int).toNat) ((1:Int).toNat),.slice (some (nb h)) ((1:Int).toNat) ((1:Int).toNat)] 129)) fun h6=>R ((.tuple #[.pointer (some (nb h5)),.int .i64 0]:Value)) h6))
def f39F (a0:Int) (h:Hp) (R:Value→Hp→Prop):Prop :=
 Cond (decide (a0 < (1:Int))) (f39K1  a0 true h R) (f39K1  a0 (decide (a0 > (1048576:Int))) h R)
theorem f39F_eq (a0:Int) (h:Hp) (R:Value→Hp→Prop):evF Tryz.prog tab lv39 Tryz.f39 body39 [] [.int .i64 a0] h R=f39F a0 h R:=by kernel_rfl
theorem f39F_ok {a0:Int} {h:Hp} {R:Value→Hp→Prop} (hF:f39F a0 h R):CallTo Tryz.prog 39 #[.int .i64 a0] h R :=
 callTo_of_ev (lv:=lv39) (hints:=[]) (c:=body39) (args:=[.int .i64 a0]) mixed tab_ok Tryz.func39 (by kernel_rfl) (by kernel_rfl) (by rw [f39F_eq]; exact hF)
/- (*larder/arena.Arena).Alloc -/
noncomputable def body66:Code:=(Tryz.f66.body).getD .skip
def lv66 (m:Nat):List Nat:=[]
def f66F (a0:Option Addr) (a1:Int) (a2:Int) (a3:Int) (h:Hp) (R:Value→Hp→Prop):Prop :=
 CallTo Tryz.prog 103 #[.int .i64 a1,.int .i64 a2,.int .i64 a3] h fun r h1=>∃ t17_0:Int,∃ t17_1:Int,r=.tuple #[.int .u64 t17_0,.int .i64 t17_1]∧Cond (t17_1 != (0:Int)) (R (.tuple #[.int .i64 0,.int .i64 21]:Value) h1) (PtrOk a0 fun p28=>∃ t30:Int,cell h1 p28=some (.int .i64 t30)∧PtrOk a0 fun p32=>∃ t34:Sl,cell h1 (p32.add 1)=some (.slice t34.a t34.n t34.c)∧Cond (decide ((IntKind.wrap .i64 ((IntKind.wrap .i64 ((1:Int) + a2)) + a3)) > (IntKind.wrap .i64 (t30 - (((t34.n:Nat):Int)))))) (R (.tuple #[.int .i64 0,.int .i64 22]:Value) h1) (CallTo Tryz.prog 104 #[.pointer a0,.int .u64 t17_0,.int .i64 (IntKind.wrap .i64 ((IntKind.wrap .i64 ((1:Int) + a2)) + a3))] h1 fun r h2=>∃ t41:Int,r=.int .i64 t41∧R (.tuple #[.int .i64 t41,.int .i64 0]:Value) h2))
theorem f66F_eq (a0:Option Addr) (a1:Int) (a2:Int) (a3:Int) (h:Hp) (R:Value→Hp→Prop):evF Tryz.prog tab lv66 Tryz.f66 body66 [] [.pointer a0,.int .i64 a1,.int .i64 a2,.int .i64 a3] h R=f66F a0 a1 a2 a3 h R:=by kernel_rfl
theorem f66F_ok {a0:Option Addr} {a1:Int} {a2:Int} {a3:Int} {h:Hp} {R:Value→Hp→Prop} (hF:f66F a0 a1 a2 a3 h R):CallTo Tryz.prog 66 #[.pointer a0,.int .i64 a1,.int .i64 a2,.int .i64 a3] h R :=
 callTo_of_ev (lv:=lv66) (hints:=[]) (c:=body66) (args:=[.pointer a0,.int .i64 a1,.int .i64 a2,.int .i64 a3]) mixed tab_ok Tryz.func66 (by kernel_rfl) (by kernel_rfl) (by rw [f66F_eq]; exact hF)
/- (*larder/arena.Arena).Clear -/
noncomputable def body67:Code:=(Tryz.f67.body).getD .skip
def lv67 (m:Nat):List Nat:=[]
def f67F (a0:Option Addr) (h:Hp) (R:Value→Hp→Prop):Prop :=
 (0 ≤ (1:Int)∧(1:Int) ≤ (1:Int))∧(1:Int) < 2 ^ 62∧(8:Nat) * (1:Int) ≤ 2 ^ 48∧Let (h.push (.cells (zrow #[.int .u64 0] ((1:Int).toNat * 1)) 77)) fun h1=>PtrOk a0 fun p4=>stOk h1 (p4.add 1)∧Let (setc h1 (p4.add 1) (.slice (some (nb h)) ((1:Int).toNat) ((1:Int).toNat))) fun h2=>(0 ≤ (1:Int)∧(1:Int) ≤ (1:Int))∧(1:Int) < 2 ^ 62∧(8:Nat) * (1:Int) ≤ 2 ^ 48∧Let (h2.push (.cells (zrow #[.int .u64 0] ((1:Int).toNat * 1)) 77)) fun h3=>PtrOk a0 fun p8=>stOk h3 (p8.add 2)∧Let (setc h3 (p8.add 2) (.slice (some (nb h2)) ((1:Int).toNat) ((1:Int).toNat))) fun h4=>R (.tuple #[]:Value) h4
theorem f67F_eq (a0:Option Addr) (h:Hp) (R:Value→Hp→Prop):evF Tryz.prog tab lv67 Tryz.f67 body67 [] [.pointer a0] h R=f67F a0 h R:=by kernel_rfl
theorem f67F_ok {a0:Option Addr} {h:Hp} {R:Value→Hp→Prop} (hF:f67F a0 h R):CallTo Tryz.prog 67 #[.pointer a0] h R :=
 callTo_of_ev (lv:=lv67) (hints:=[]) (c:=body67) (args:=[.pointer a0]) mixed tab_ok Tryz.func67 (by kernel_rfl) (by kernel_rfl) (by rw [f67F_eq]; exact hF)
/- larder/word.Words -/
noncomputable def body94:Code:=(Tryz.f94.body).getD .skip
def lv94 (m:Nat):List Nat:=[]
def f94F (a0:Int) (h:Hp) (R:Value→Hp→Prop):Prop :=
 Cond (decide (a0 < (1:Int))) (R (.int .i64 0:Value) h) ((8:Int) ≠ 0∧R ((.int .i64 (IntKind.wrap .i64 ((IntKind.wrap .i64 (Int.tdiv (IntKind.wrap .i64 (a0 - (1:Int))) (8:Int))) + (1:Int))):Value)) h)
theorem f94F_eq (a0:Int) (h:Hp) (R:Value→Hp→Prop):evF Tryz.prog tab lv94 Tryz.f94 body94 [] [.int .i64 a0] h R=f94F a0 h R:=by kernel_rfl
theorem f94F_ok {a0:Int} {h:Hp} {R:Value→Hp→Prop} (hF:f94F a0 h R):CallTo Tryz.prog 94 #[.int .i64 a0] h R :=
 callTo_of_ev (lv:=lv94) (hints:=[]) (c:=body94) (args:=[.int .i64 a0]) mixed tab_ok Tryz.func94 (by kernel_rfl) (by kernel_rfl) (by rw [f94F_eq]; exact hF)
/- (*larder/arena.Arena).Object -/
noncomputable def body101:Code:=(Tryz.f101.body).getD .skip
def lv101 (m:Nat):List Nat:=[]
def f101F (a0:Option Addr) (a1:Int) (h:Hp) (R:Value→Hp→Prop):Prop :=
 CallTo Tryz.prog 116 #[.pointer a0,.int .i64 a1] h fun r h1=>∃ t10:Bool,r=.bool t10∧Cond (!t10) (R (.tuple #[.int .i64 0,.int .i64 0,.int .i64 0,.int .i64 23]:Value) h1) (PtrOk a0 fun p13=>∃ t15:Sl,cell h1 (p13.add 1)=some (.slice t15.a t15.n t15.c)∧(0 ≤ a1∧a1 < ((t15.n:Nat):Int))∧PtrOk t15.a fun p17=>∃ t18:Int,cell h1 (p17.add (a1.toNat * 1))=some (.int .u64 t18)∧Cond ((andI .u64 t18 (9223372036854775808:Int)) != (0:Int)) (R (.tuple #[.int .i64 0,.int .i64 0,.int .i64 0,.int .i64 26]:Value) h1) (PtrOk a0 fun p22=>∃ t24:Sl,cell h1 (p22.add 1)=some (.slice t24.a t24.n t24.c)∧(0 ≤ a1∧a1 < ((t24.n:Nat):Int))∧PtrOk t24.a fun p26=>∃ t27:Int,cell h1 (p26.add (a1.toNat * 1))=some (.int .u64 t27)∧CallTo Tryz.prog 117 #[.int .u64 t27] h1 fun r h2=>∃ t28_0:Int,∃ t28_1:Int,∃ t28_2:Int,∃ t28_3:Int,r=.tuple #[.int .i64 t28_0,.int .i64 t28_1,.int .i64 t28_2,.int .i64 t28_3]∧R (.tuple #[.int .i64 t28_0,.int .i64 t28_1,.int .i64 t28_2,.int .i64 t28_3]:Value) h2))
theorem f101F_eq (a0:Option Addr) (a1:Int) (h:Hp) (R:Value→Hp→Prop):evF Tryz.prog tab lv101 Tryz.f101 body101 [] [.pointer a0,.int .i64 a1] h R=f101F a0 a1 h R:=by kernel_rfl
theorem f101F_ok {a0:Option Addr} {a1:Int} {h:Hp} {R:Value→Hp→Prop} (hF:f101F a0 a1 h R):CallTo Tryz.prog 101 #[.pointer a0,.int .i64 a1] h R :=
 callTo_of_ev (lv:=lv101) (hints:=[]) (c:=body101) (args:=[.pointer a0,.int .i64 a1]) mixed tab_ok Tryz.func101 (by kernel_rfl) (by kernel_rfl) (by rw [f101F_eq]; exact hF)
/- (*larder/arena.Arena).Take -/
noncomputable def body102:Code:=(Tryz.f102.body).getD .skip
def lv102 (m:Nat):List Nat:=[]
def f102K1  (x0:Option Addr) (x1:Option Addr) (x2:Int) (x8:Int) (x10:Int) (x25:Bool) (h:Hp) (R:Value→Hp→Prop):Prop :=
 Cond x25 (R (.tuple #[.int .i64 x8,.int .i64 x10]:Value) h) (CallTo Tryz.prog 119 #[.pointer x1,.int .i64 x2] h fun r h2=>∃ t31_0:Sl,∃ t31_1:Int,∃ t31_2:Int,r=.tuple #[.slice t31_0.a t31_0.n t31_0.c,.int .i64 t31_1,.int .i64 t31_2]∧Cond (t31_2 != (0:Int)) (R (.tuple #[.int .i64 0,.int .i64 t31_2]:Value) h2) (PtrOk x0 fun p43=>∃ t45:Int,cell h2 p43=some (.int .i64 t45)∧PtrOk x0 fun p47=>∃ t49:Sl,cell h2 (p47.add 1)=some (.slice t49.a t49.n t49.c)∧Cond (decide ((IntKind.wrap .i64 ((1:Int) + (((t31_0.n:Nat):Int)))) > (IntKind.wrap .i64 (t45 - (((t49.n:Nat):Int)))))) (R (.tuple #[.int .i64 0,.int .i64 22]:Value) h2) (PtrOk x1 fun p55=>∃ t57:Sl,cell h2 (p55.add 1)=some (.slice t57.a t57.n t57.c)∧(0 ≤ x2∧x2 < ((t57.n:Nat):Int))∧PtrOk t57.a fun p59=>∃ t60:Int,cell h2 (p59.add (x2.toNat * 1))=some (.int .u64 t60)∧CallTo Tryz.prog 104 #[.pointer x0,.int .u64 t60,.int .i64 (IntKind.wrap .i64 ((1:Int) + (((t31_0.n:Nat):Int))))] h2 fun r h3=>∃ t62:Int,r=.int .i64 t62∧PtrOk x0 fun p64=>∃ t66:Sl,cell h3 (p64.add 1)=some (.slice t66.a t66.n t66.c)∧(0 ≤ (IntKind.wrap .i64 (t62 + (1:Int)))∧(IntKind.wrap .i64 (t62 + (1:Int))) ≤ ((t66.n:Nat):Int))∧PtrOk x1 fun p71=>∃ t73:Sl,cell h3 (p71.add 1)=some (.slice t73.a t73.n t73.c)∧(0 ≤ (IntKind.wrap .i64 (x2 + (IntKind.wrap .i64 ((1:Int) + (((t31_0.n:Nat):Int))))))∧(IntKind.wrap .i64 (x2 + (IntKind.wrap .i64 ((1:Int) + (((t31_0.n:Nat):Int)))))) ≤ ((t73.c:Nat):Int))∧(0 ≤ (IntKind.wrap .i64 (x2 + (1:Int)))∧(IntKind.wrap .i64 (x2 + (1:Int))) ≤ (IntKind.wrap .i64 (x2 + (IntKind.wrap .i64 ((1:Int) + (((t31_0.n:Nat):Int)))))))∧cpySl 1 (if t66.c=(IntKind.wrap .i64 (t62 + (1:Int))).toNat then t66.a else Option.map (fun x=>x.add ((IntKind.wrap .i64 (t62 + (1:Int))).toNat * 1)) t66.a) (t66.n - (IntKind.wrap .i64 (t62 + (1:Int))).toNat) (if t73.c=(IntKind.wrap .i64 (x2 + (1:Int))).toNat then t73.a else Option.map (fun x=>x.add ((IntKind.wrap .i64 (x2 + (1:Int))).toNat * 1)) t73.a) ((IntKind.wrap .i64 (x2 + (IntKind.wrap .i64 ((1:Int) + (((t31_0.n:Nat):Int)))))).toNat - (IntKind.wrap .i64 (x2 + (1:Int))).toNat) h3 fun rk h4=>PtrOk x1 fun p82=>∃ t84:Sl,cell h4 (p82.add 1)=some (.slice t84.a t84.n t84.c)∧(0 ≤ x2∧x2 < ((t84.n:Nat):Int))∧PtrOk t84.a fun p89=>stOk h4 (p89.add (x2.toNat * 1))∧Let (setc h4 (p89.add (x2.toNat * 1)) (.int .u64 (orI .u64 (9223372036854775808:Int) (IntKind.wrap .u64 t62)))) fun h5=>R (.tuple #[.int .i64 t62,.int .i64 0]:Value) h5)))
def f102F (a0:Option Addr) (a1:Option Addr) (a2:Int) (h:Hp) (R:Value→Hp→Prop):Prop :=
 CallTo Tryz.prog 118 #[.pointer a1,.int .i64 a2] h fun r h1=>∃ t17_0:Int,∃ t17_1:Bool,∃ t17_2:Int,r=.tuple #[.int .i64 t17_0,.bool t17_1,.int .i64 t17_2]∧Cond (t17_2 != (0:Int)) (f102K1  a0 a1 a2 t17_0 t17_2 true h1 R) (f102K1  a0 a1 a2 t17_0 t17_2 t17_1 h1 R)
theorem f102F_eq (a0:Option Addr) (a1:Option Addr) (a2:Int) (h:Hp) (R:Value→Hp→Prop):evF Tryz.prog tab lv102 Tryz.f102 body102 [] [.pointer a0,.pointer a1,.int .i64 a2] h R=f102F a0 a1 a2 h R:=by kernel_rfl
theorem f102F_ok {a0:Option Addr} {a1:Option Addr} {a2:Int} {h:Hp} {R:Value→Hp→Prop} (hF:f102F a0 a1 a2 h R):CallTo Tryz.prog 102 #[.pointer a0,.pointer a1,.int .i64 a2] h R :=
 callTo_of_ev (lv:=lv102) (hints:=[]) (c:=body102) (args:=[.pointer a0,.pointer a1,.int .i64 a2]) mixed tab_ok Tryz.func102 (by kernel_rfl) (by kernel_rfl) (by rw [f102F_eq]; exact hF)
/- larder/word.Head -/
noncomputable def body103:Code:=(Tryz.f103.body).getD .skip
def lv103 (m:Nat):List Nat:=[]
def f103K1  (x0:Int) (x1:Int) (x2:Int) (x29:Bool) (h:Hp) (R:Value→Hp→Prop):Prop :=
 Cond x29 (R (.tuple #[.int .u64 0,.int .i64 10]:Value) h) (0 ≤ (0:Int)∧0 ≤ (8:Int)∧0 ≤ (32:Int)∧R ((.tuple #[.int .u64 (orI .u64 (orI .u64 (IntKind.wrap .u64 ((IntKind.wrap .u64 x0) * 2 ^ (min (0:Int).toNat (IntKind.bits .u64)))) (IntKind.wrap .u64 ((IntKind.wrap .u64 x1) * 2 ^ (min (8:Int).toNat (IntKind.bits .u64))))) (IntKind.wrap .u64 ((IntKind.wrap .u64 x2) * 2 ^ (min (32:Int).toNat (IntKind.bits .u64))))),.int .i64 0]:Value)) h)
def f103F (a0:Int) (a1:Int) (a2:Int) (h:Hp) (R:Value→Hp→Prop):Prop :=
 Cond (decide (a0 < (1:Int))) (f103K1  a0 a1 a2 true h R) (Cond (decide (a0 > (255:Int))) (f103K1  a0 a1 a2 true h R) (Cond (decide (a1 < (0:Int))) (f103K1  a0 a1 a2 true h R) (Cond (decide (a1 > (1048576:Int))) (f103K1  a0 a1 a2 true h R) (Cond (decide (a2 < (0:Int))) (f103K1  a0 a1 a2 true h R) (f103K1  a0 a1 a2 (decide (a2 > (1048576:Int))) h R)))))
theorem f103F_eq (a0:Int) (a1:Int) (a2:Int) (h:Hp) (R:Value→Hp→Prop):evF Tryz.prog tab lv103 Tryz.f103 body103 [] [.int .i64 a0,.int .i64 a1,.int .i64 a2] h R=f103F a0 a1 a2 h R:=by kernel_rfl
theorem f103F_ok {a0:Int} {a1:Int} {a2:Int} {h:Hp} {R:Value→Hp→Prop} (hF:f103F a0 a1 a2 h R):CallTo Tryz.prog 103 #[.int .i64 a0,.int .i64 a1,.int .i64 a2] h R :=
 callTo_of_ev (lv:=lv103) (hints:=[]) (c:=body103) (args:=[.int .i64 a0,.int .i64 a1,.int .i64 a2]) mixed tab_ok Tryz.func103 (by kernel_rfl) (by kernel_rfl) (by rw [f103F_eq]; exact hF)
/- (*larder/arena.Arena).extend -/
noncomputable def body104:Code:=(Tryz.f104.body).getD .skip
def lv104 (m:Nat):List Nat:=if m=4 then [0,7] else []
def f104I1 (J:Nat→Option Addr→Int→Hp→Prop) (n:Nat) (env:List Value) (h:Hp):Prop:=lenIs env 64 (DecP env 0 fun s0=>DecI .i64 env 7 fun s7=>J n s0 s7 h)
def f104L1 (J1:Nat→Option Addr→Int→Hp→Prop) (n1:Nat) (s0:Option Addr) (s7:Int) (g:Nat→Value) (h:Hp) (R:Value→Hp→Prop):Prop :=
 PtrOk s0 fun p30=>∃ t32:Sl,cell h (p30.add 2)=some (.slice t32.a t32.n t32.c)∧PtrOk s0 fun p36=>∃ t38:Sl,cell h (p36.add 1)=some (.slice t38.a t38.n t38.c)∧Cond (decide ((IntKind.wrap .i64 ((((t32.n:Nat):Int)) * (64:Int))) < (((t38.n:Nat):Int)))) (PtrOk s0 fun p43=>∃ t45:Sl,cell h (p43.add 2)=some (.slice t45.a t45.n t45.c)∧Let (h.push (.cells #[.int .u64 0] 77)) fun h4=>appSl 77 1 8 #[.int .u64 0] t45.a t45.n t45.c (some (nb h)) 1 h4 fun ra5 rn5 rc5 h5=>PtrOk s0 fun p48=>stOk h5 (p48.add 2)∧Let (setc h5 (p48.add 2) (.slice ra5 rn5 rc5)) fun h6=>∃ m,m < n1∧J1 m s0 s7 h6) (PtrOk s0 fun p51=>∃ t53:Sl,cell h (p51.add 2)=some (.slice t53.a t53.n t53.c)∧(64:Int) ≠ 0∧(0 ≤ (IntKind.wrap .i64 (Int.tdiv s7 (64:Int)))∧(IntKind.wrap .i64 (Int.tdiv s7 (64:Int))) < ((t53.n:Nat):Int))∧PtrOk t53.a fun p56=>∃ t57:Int,cell h (p56.add ((IntKind.wrap .i64 (Int.tdiv s7 (64:Int))).toNat * 1))=some (.int .u64 t57)∧(64:Int) ≠ 0∧0 ≤ (Int.tmod s7 (64:Int))∧(0 ≤ (IntKind.wrap .i64 (Int.tdiv s7 (64:Int)))∧(IntKind.wrap .i64 (Int.tdiv s7 (64:Int))) < ((t53.n:Nat):Int))∧PtrOk t53.a fun p62=>stOk h (p62.add ((IntKind.wrap .i64 (Int.tdiv s7 (64:Int))).toNat * 1))∧Let (setc h (p62.add ((IntKind.wrap .i64 (Int.tdiv s7 (64:Int))).toNat * 1)) (.int .u64 (orI .u64 t57 (IntKind.wrap .u64 ((1:Int) * 2 ^ (min (Int.tmod s7 (64:Int)).toNat (IntKind.bits .u64))))))) fun h7=>R (.int .i64 s7:Value) h7)
theorem f104L1_eq (J1:Nat→Option Addr→Int→Hp→Prop) (n1:Nat) (s0:Option Addr) (s7:Int) (g:Nat→Value) (h:Hp) (R:Value→Hp→Prop):(evC Tryz.prog tab lv104 (sub [1,1,1,1,0,0,0] body104)) (loopK (f104I1 J1) n1 (contAt Tryz.prog tab lv104 [1,1,1,1,0,0] body104 [] (bodyK Tryz.prog Tryz.f104 [] R))) (mkEnv 64 [(0,.pointer s0),(7,.int .i64 s7)] g) h=f104L1 J1 n1 s0 s7 g h R:=by kernel_rfl
theorem f104I1_at (J:Nat→Option Addr→Int→Hp→Prop) (n:Nat) (s0:Option Addr) (s7:Int) (g:Nat→Value) (h:Hp):f104I1 J n (mkEnv 64 [(0,.pointer s0),(7,.int .i64 s7)] g) h=J n s0 s7 h:=by kernel_rfl
theorem f104L1_rule  {R:Value→Hp→Prop} {s0:Option Addr} {s7:Int} {h0:Hp} (J:Nat→Option Addr→Int→Hp→Prop) (n0:Nat) (hi:J n0 s0 s7 h0)
  (hr:∀ n s0 s7 g h,J n s0 s7 h→f104L1  J n s0 s7 g h R):LoopEv (evC Tryz.prog tab lv104 (sub [1,1,1,1,0,0,0] body104)) (contAt Tryz.prog tab lv104 [1,1,1,1,0,0] body104 [] (bodyK Tryz.prog Tryz.f104 [] R)) [(0,.pointer s0),(7,.int .i64 s7)] 64 h0:=by
 refine ⟨f104I1 J,n0,fun g=>by rw [f104I1_at]; exact hi,fun n env h hI=>?_⟩
 clear hi
 clear s0 s7
 obtain ⟨hlen,hI⟩:=Cond_true' hI
 have hlen:env.length=64:=by simpa using hlen
 obtain ⟨s0,es0,hI⟩:=DecP.out hI
 obtain ⟨s7,es7,hI⟩:=DecI.out hI
 rw [mkEnv_of (l:=[(0,.pointer s0),(7,.int .i64 s7)]) hlen (by simp only [List.mem_cons,List.not_mem_nil,or_false,forall_eq_or_imp,forall_eq]; exact ⟨es0,es7⟩)]
 rw [f104L1_eq]
 exact hr n s0 s7 _ h hI
def f104F (a0:Option Addr) (a1:Int) (a2:Int) (h:Hp) (R:Value→Hp→Prop):Prop :=
 PtrOk a0 fun p9=>∃ t11:Sl,cell h (p9.add 1)=some (.slice t11.a t11.n t11.c)∧PtrOk a0 fun p15=>∃ t17:Sl,cell h (p15.add 1)=some (.slice t17.a t17.n t17.c)∧appZ 77 1 8 #[.int .u64 0] t17.a t17.n t17.c a2 h fun ra1 rn1 rc1 h1=>PtrOk a0 fun p20=>stOk h1 (p20.add 1)∧Let (setc h1 (p20.add 1) (.slice ra1 rn1 rc1)) fun h2=>PtrOk a0 fun p23=>∃ t25:Sl,cell h2 (p23.add 1)=some (.slice t25.a t25.n t25.c)∧(0 ≤ (((t11.n:Nat):Int))∧(((t11.n:Nat):Int)) < ((t25.n:Nat):Int))∧PtrOk t25.a fun p28=>stOk h2 (p28.add ((((t11.n:Nat):Int)).toNat * 1))∧Let (setc h2 (p28.add ((((t11.n:Nat):Int)).toNat * 1)) (.int .u64 a1)) fun h3=>LoopEv (evC Tryz.prog tab lv104 (sub [1,1,1,1,0,0,0] body104)) (contAt Tryz.prog tab lv104 [1,1,1,1,0,0] body104 [] (bodyK Tryz.prog Tryz.f104 [] R)) [(0,.pointer a0),(7,.int .i64 (((t11.n:Nat):Int)))] 64 h3
theorem f104F_eq (a0:Option Addr) (a1:Int) (a2:Int) (h:Hp) (R:Value→Hp→Prop):evF Tryz.prog tab lv104 Tryz.f104 body104 [] [.pointer a0,.int .u64 a1,.int .i64 a2] h R=f104F a0 a1 a2 h R:=by kernel_rfl
theorem f104F_ok {a0:Option Addr} {a1:Int} {a2:Int} {h:Hp} {R:Value→Hp→Prop} (hF:f104F a0 a1 a2 h R):CallTo Tryz.prog 104 #[.pointer a0,.int .u64 a1,.int .i64 a2] h R :=
 callTo_of_ev (lv:=lv104) (hints:=[]) (c:=body104) (args:=[.pointer a0,.int .u64 a1,.int .i64 a2]) mixed tab_ok Tryz.func104 (by kernel_rfl) (by kernel_rfl) (by rw [f104F_eq]; exact hF)
/- (*larder/arena.Arena).begins -/
noncomputable def body116:Code:=(Tryz.f116.body).getD .skip
def lv116 (m:Nat):List Nat:=[]
def f116F (a0:Option Addr) (a1:Int) (h:Hp) (R:Value→Hp→Prop):Prop :=
 Cond (decide (a1 > (0:Int))) (PtrOk a0 fun p10=>∃ t12:Sl,cell h (p10.add 1)=some (.slice t12.a t12.n t12.c)∧Cond (decide (a1 < (((t12.n:Nat):Int)))) (PtrOk a0 fun p18=>∃ t20:Sl,cell h (p18.add 2)=some (.slice t20.a t20.n t20.c)∧(64:Int) ≠ 0∧(0 ≤ (IntKind.wrap .i64 (Int.tdiv a1 (64:Int)))∧(IntKind.wrap .i64 (Int.tdiv a1 (64:Int))) < ((t20.n:Nat):Int))∧PtrOk t20.a fun p23=>∃ t24:Int,cell h (p23.add ((IntKind.wrap .i64 (Int.tdiv a1 (64:Int))).toNat * 1))=some (.int .u64 t24)∧(64:Int) ≠ 0∧0 ≤ (Int.tmod a1 (64:Int))∧R ((.bool ((andI .u64 (Int.fdiv t24 (2 ^ (min (Int.tmod a1 (64:Int)).toNat (IntKind.bits .u64)))) (1:Int)) == (1:Int)):Value)) h) (R (.bool false:Value) h)) (R (.bool false:Value) h)
theorem f116F_eq (a0:Option Addr) (a1:Int) (h:Hp) (R:Value→Hp→Prop):evF Tryz.prog tab lv116 Tryz.f116 body116 [] [.pointer a0,.int .i64 a1] h R=f116F a0 a1 h R:=by kernel_rfl
theorem f116F_ok {a0:Option Addr} {a1:Int} {h:Hp} {R:Value→Hp→Prop} (hF:f116F a0 a1 h R):CallTo Tryz.prog 116 #[.pointer a0,.int .i64 a1] h R :=
 callTo_of_ev (lv:=lv116) (hints:=[]) (c:=body116) (args:=[.pointer a0,.int .i64 a1]) mixed tab_ok Tryz.func116 (by kernel_rfl) (by kernel_rfl) (by rw [f116F_eq]; exact hF)
/- larder/word.Split -/
noncomputable def body117:Code:=(Tryz.f117.body).getD .skip
def lv117 (m:Nat):List Nat:=[]
def f117K1  (x2:Int) (x3:Int) (x4:Int) (x31:Bool) (h:Hp) (R:Value→Hp→Prop):Prop :=
 Cond x31 (R (.tuple #[.int .i64 0,.int .i64 0,.int .i64 0,.int .i64 10]:Value) h) (R (.tuple #[.int .i64 x2,.int .i64 x3,.int .i64 x4,.int .i64 0]:Value) h)
def f117F (a0:Int) (h:Hp) (R:Value→Hp→Prop):Prop :=
 0 ≤ (8:Int)∧0 ≤ (32:Int)∧0 ≤ (56:Int)∧Cond ((Int.fdiv a0 (2 ^ (min (56:Int).toNat (IntKind.bits .u64)))) != (0:Int)) (f117K1  (IntKind.wrap .i64 (andI .u64 a0 (255:Int))) (IntKind.wrap .i64 (andI .u64 (Int.fdiv a0 (2 ^ (min (8:Int).toNat (IntKind.bits .u64)))) (16777215:Int))) (IntKind.wrap .i64 (andI .u64 (Int.fdiv a0 (2 ^ (min (32:Int).toNat (IntKind.bits .u64)))) (16777215:Int))) true h R) (Cond ((IntKind.wrap .i64 (andI .u64 a0 (255:Int))) == (0:Int)) (f117K1  (IntKind.wrap .i64 (andI .u64 a0 (255:Int))) (IntKind.wrap .i64 (andI .u64 (Int.fdiv a0 (2 ^ (min (8:Int).toNat (IntKind.bits .u64)))) (16777215:Int))) (IntKind.wrap .i64 (andI .u64 (Int.fdiv a0 (2 ^ (min (32:Int).toNat (IntKind.bits .u64)))) (16777215:Int))) true h R) (Cond (decide ((IntKind.wrap .i64 (andI .u64 (Int.fdiv a0 (2 ^ (min (8:Int).toNat (IntKind.bits .u64)))) (16777215:Int))) > (1048576:Int))) (f117K1  (IntKind.wrap .i64 (andI .u64 a0 (255:Int))) (IntKind.wrap .i64 (andI .u64 (Int.fdiv a0 (2 ^ (min (8:Int).toNat (IntKind.bits .u64)))) (16777215:Int))) (IntKind.wrap .i64 (andI .u64 (Int.fdiv a0 (2 ^ (min (32:Int).toNat (IntKind.bits .u64)))) (16777215:Int))) true h R) (f117K1  (IntKind.wrap .i64 (andI .u64 a0 (255:Int))) (IntKind.wrap .i64 (andI .u64 (Int.fdiv a0 (2 ^ (min (8:Int).toNat (IntKind.bits .u64)))) (16777215:Int))) (IntKind.wrap .i64 (andI .u64 (Int.fdiv a0 (2 ^ (min (32:Int).toNat (IntKind.bits .u64)))) (16777215:Int))) (decide ((IntKind.wrap .i64 (andI .u64 (Int.fdiv a0 (2 ^ (min (32:Int).toNat (IntKind.bits .u64)))) (16777215:Int))) > (1048576:Int))) h R)))
theorem f117F_eq (a0:Int) (h:Hp) (R:Value→Hp→Prop):evF Tryz.prog tab lv117 Tryz.f117 body117 [] [.int .u64 a0] h R=f117F a0 h R:=by kernel_rfl
theorem f117F_ok {a0:Int} {h:Hp} {R:Value→Hp→Prop} (hF:f117F a0 h R):CallTo Tryz.prog 117 #[.int .u64 a0] h R :=
 callTo_of_ev (lv:=lv117) (hints:=[]) (c:=body117) (args:=[.int .u64 a0]) mixed tab_ok Tryz.func117 (by kernel_rfl) (by kernel_rfl) (by rw [f117F_eq]; exact hF)
/- (*larder/arena.Arena).Moved -/
noncomputable def body118:Code:=(Tryz.f118.body).getD .skip
def lv118 (m:Nat):List Nat:=[]
def f118F (a0:Option Addr) (a1:Int) (h:Hp) (R:Value→Hp→Prop):Prop :=
 CallTo Tryz.prog 116 #[.pointer a0,.int .i64 a1] h fun r h1=>∃ t9:Bool,r=.bool t9∧Cond (!t9) (R (.tuple #[.int .i64 0,.bool false,.int .i64 23]:Value) h1) (PtrOk a0 fun p12=>∃ t14:Sl,cell h1 (p12.add 1)=some (.slice t14.a t14.n t14.c)∧(0 ≤ a1∧a1 < ((t14.n:Nat):Int))∧PtrOk t14.a fun p16=>∃ t17:Int,cell h1 (p16.add (a1.toNat * 1))=some (.int .u64 t17)∧Cond ((andI .u64 t17 (9223372036854775808:Int)) == (0:Int)) (R (.tuple #[.int .i64 0,.bool false,.int .i64 0]:Value) h1) (PtrOk a0 fun p21=>∃ t23:Sl,cell h1 (p21.add 1)=some (.slice t23.a t23.n t23.c)∧(0 ≤ a1∧a1 < ((t23.n:Nat):Int))∧PtrOk t23.a fun p25=>∃ t26:Int,cell h1 (p25.add (a1.toNat * 1))=some (.int .u64 t26)∧R ((.tuple #[.int .i64 (IntKind.wrap .i64 (andNotI .u64 t26 (9223372036854775808:Int))),.bool true,.int .i64 0]:Value)) h1))
theorem f118F_eq (a0:Option Addr) (a1:Int) (h:Hp) (R:Value→Hp→Prop):evF Tryz.prog tab lv118 Tryz.f118 body118 [] [.pointer a0,.int .i64 a1] h R=f118F a0 a1 h R:=by kernel_rfl
theorem f118F_ok {a0:Option Addr} {a1:Int} {h:Hp} {R:Value→Hp→Prop} (hF:f118F a0 a1 h R):CallTo Tryz.prog 118 #[.pointer a0,.int .i64 a1] h R :=
 callTo_of_ev (lv:=lv118) (hints:=[]) (c:=body118) (args:=[.pointer a0,.int .i64 a1]) mixed tab_ok Tryz.func118 (by kernel_rfl) (by kernel_rfl) (by rw [f118F_eq]; exact hF)
/- (*larder/arena.Arena).fields -/
noncomputable def body119:Code:=(Tryz.f119.body).getD .skip
def lv119 (m:Nat):List Nat:=[]
def f119F (a0:Option Addr) (a1:Int) (h:Hp) (R:Value→Hp→Prop):Prop :=
 CallTo Tryz.prog 101 #[.pointer a0,.int .i64 a1] h fun r h1=>∃ t16_0:Int,∃ t16_1:Int,∃ t16_2:Int,∃ t16_3:Int,r=.tuple #[.int .i64 t16_0,.int .i64 t16_1,.int .i64 t16_2,.int .i64 t16_3]∧Cond (t16_3 != (0:Int)) (R (.tuple #[.slice none 0 0,.int .i64 0,.int .i64 t16_3]:Value) h1) (PtrOk a0 fun p33=>∃ t35:Sl,cell h1 (p33.add 1)=some (.slice t35.a t35.n t35.c)∧(0 ≤ (IntKind.wrap .i64 ((IntKind.wrap .i64 ((IntKind.wrap .i64 (a1 + (1:Int))) + t16_1)) + t16_2))∧(IntKind.wrap .i64 ((IntKind.wrap .i64 ((IntKind.wrap .i64 (a1 + (1:Int))) + t16_1)) + t16_2)) ≤ ((t35.c:Nat):Int))∧(0 ≤ (IntKind.wrap .i64 ((IntKind.wrap .i64 ((IntKind.wrap .i64 (a1 + (1:Int))) + t16_1)) + t16_2))∧(IntKind.wrap .i64 ((IntKind.wrap .i64 ((IntKind.wrap .i64 (a1 + (1:Int))) + t16_1)) + t16_2)) ≤ (IntKind.wrap .i64 ((IntKind.wrap .i64 ((IntKind.wrap .i64 (a1 + (1:Int))) + t16_1)) + t16_2)))∧(0 ≤ (IntKind.wrap .i64 (a1 + (1:Int)))∧(IntKind.wrap .i64 (a1 + (1:Int))) ≤ (IntKind.wrap .i64 ((IntKind.wrap .i64 ((IntKind.wrap .i64 (a1 + (1:Int))) + t16_1)) + t16_2)))∧R ((.tuple #[.slice (if (IntKind.wrap .i64 ((IntKind.wrap .i64 ((IntKind.wrap .i64 (a1 + (1:Int))) + t16_1)) + t16_2)).toNat=(IntKind.wrap .i64 (a1 + (1:Int))).toNat then t35.a else Option.map (fun x=>x.add ((IntKind.wrap .i64 (a1 + (1:Int))).toNat * 1)) t35.a) ((IntKind.wrap .i64 ((IntKind.wrap .i64 ((IntKind.wrap .i64 (a1 + (1:Int))) + t16_1)) + t16_2)).toNat - (IntKind.wrap .i64 (a1 + (1:Int))).toNat) ((IntKind.wrap .i64 ((IntKind.wrap .i64 ((IntKind.wrap .i64 (a1 + (1:Int))) + t16_1)) + t16_2)).toNat - (IntKind.wrap .i64 (a1 + (1:Int))).toNat),.int .i64 t16_1,.int .i64 0]:Value)) h1)
theorem f119F_eq (a0:Option Addr) (a1:Int) (h:Hp) (R:Value→Hp→Prop):evF Tryz.prog tab lv119 Tryz.f119 body119 [] [.pointer a0,.int .i64 a1] h R=f119F a0 a1 h R:=by kernel_rfl
theorem f119F_ok {a0:Option Addr} {a1:Int} {h:Hp} {R:Value→Hp→Prop} (hF:f119F a0 a1 h R):CallTo Tryz.prog 119 #[.pointer a0,.int .i64 a1] h R :=
 callTo_of_ev (lv:=lv119) (hints:=[]) (c:=body119) (args:=[.pointer a0,.int .i64 a1]) mixed tab_ok Tryz.func119 (by kernel_rfl) (by kernel_rfl) (by rw [f119F_eq]; exact hF)
/- (*larder/arena.Arena).Bytes -/
noncomputable def body136:Code:=(Tryz.f136.body).getD .skip
def lv136 (m:Nat):List Nat:=if m=6 then [2,10,12,29,30] else []
def f136I1 (J:Nat→Int→Sl→Sl→Int→Int→Hp→Prop) (n:Nat) (env:List Value) (h:Hp):Prop:=lenIs env 51 (DecI .i64 env 2 fun s2=>DecL env 10 fun s10=>DecL env 12 fun s12=>DecI .i64 env 29 fun s29=>DecI .i64 env 30 fun s30=>J n s2 s10 s12 s29 s30 h)
def f136L1 (J1:Nat→Int→Sl→Sl→Int→Int→Hp→Prop) (n1:Nat) (s2:Int) (s10:Sl) (s12:Sl) (s29:Int) (s30:Int) (g:Nat→Value) (h:Hp) (R:Value→Hp→Prop):Prop :=
 Cond (decide (s30 < s29)) ((8:Int) ≠ 0∧(0 ≤ (IntKind.wrap .i64 (Int.tdiv (IntKind.wrap .i64 (s2 + s30)) (8:Int)))∧(IntKind.wrap .i64 (Int.tdiv (IntKind.wrap .i64 (s2 + s30)) (8:Int))) < ((s10.n:Nat):Int))∧PtrOk s10.a fun p41=>∃ t42:Int,cell h (p41.add ((IntKind.wrap .i64 (Int.tdiv (IntKind.wrap .i64 (s2 + s30)) (8:Int))).toNat * 1))=some (.int .u64 t42)∧(8:Int) ≠ 0∧0 ≤ (IntKind.wrap .i64 ((Int.tmod (IntKind.wrap .i64 (s2 + s30)) (8:Int)) * (8:Int)))∧(0 ≤ s30∧s30 < ((s12.n:Nat):Int))∧PtrOk s12.a fun p48=>stOk h (p48.add (s30.toNat * 1))∧Let (setc h (p48.add (s30.toNat * 1)) (.int .u8 (IntKind.wrap .u8 (Int.fdiv t42 (2 ^ (min (IntKind.wrap .i64 ((Int.tmod (IntKind.wrap .i64 (s2 + s30)) (8:Int)) * (8:Int))).toNat (IntKind.bits .u64))))))) fun h3=>∃ m,m < n1∧J1 m s2 s10 s12 s29 (IntKind.wrap .i64 (s30 + (1:Int))) h3) (R (.tuple #[.slice s12.a s12.n s12.c,.int .i64 0]:Value) h)
theorem f136L1_eq (J1:Nat→Int→Sl→Sl→Int→Int→Hp→Prop) (n1:Nat) (s2:Int) (s10:Sl) (s12:Sl) (s29:Int) (s30:Int) (g:Nat→Value) (h:Hp) (R:Value→Hp→Prop):(evC Tryz.prog tab lv136 (sub [1,1,1,1,0,1,0,0] body136)) (loopK (f136I1 J1) n1 (contAt Tryz.prog tab lv136 [1,1,1,1,0,1,0] body136 [] (bodyK Tryz.prog Tryz.f136 [] R))) (mkEnv 51 [(2,.int .i64 s2),(10,.slice s10.a s10.n s10.c),(12,.slice s12.a s12.n s12.c),(29,.int .i64 s29),(30,.int .i64 s30)] g) h=f136L1 J1 n1 s2 s10 s12 s29 s30 g h R:=by kernel_rfl
theorem f136I1_at (J:Nat→Int→Sl→Sl→Int→Int→Hp→Prop) (n:Nat) (s2:Int) (s10:Sl) (s12:Sl) (s29:Int) (s30:Int) (g:Nat→Value) (h:Hp):f136I1 J n (mkEnv 51 [(2,.int .i64 s2),(10,.slice s10.a s10.n s10.c),(12,.slice s12.a s12.n s12.c),(29,.int .i64 s29),(30,.int .i64 s30)] g) h=J n s2 s10 s12 s29 s30 h:=by kernel_rfl
theorem f136L1_rule  {R:Value→Hp→Prop} {s2:Int} {s10:Sl} {s12:Sl} {s29:Int} {s30:Int} {h0:Hp} (J:Nat→Int→Sl→Sl→Int→Int→Hp→Prop) (n0:Nat) (hi:J n0 s2 s10 s12 s29 s30 h0)
  (hr:∀ n s2 s10 s12 s29 s30 g h,J n s2 s10 s12 s29 s30 h→f136L1  J n s2 s10 s12 s29 s30 g h R):LoopEv (evC Tryz.prog tab lv136 (sub [1,1,1,1,0,1,0,0] body136)) (contAt Tryz.prog tab lv136 [1,1,1,1,0,1,0] body136 [] (bodyK Tryz.prog Tryz.f136 [] R)) [(2,.int .i64 s2),(10,.slice s10.a s10.n s10.c),(12,.slice s12.a s12.n s12.c),(29,.int .i64 s29),(30,.int .i64 s30)] 51 h0:=by
 refine ⟨f136I1 J,n0,fun g=>by rw [f136I1_at]; exact hi,fun n env h hI=>?_⟩
 clear hi
 clear s2 s10 s12 s29 s30
 obtain ⟨hlen,hI⟩:=Cond_true' hI
 have hlen:env.length=51:=by simpa using hlen
 obtain ⟨s2,es2,hI⟩:=DecI.out hI
 obtain ⟨s10,es10,hI⟩:=DecL.out hI
 obtain ⟨s12,es12,hI⟩:=DecL.out hI
 obtain ⟨s29,es29,hI⟩:=DecI.out hI
 obtain ⟨s30,es30,hI⟩:=DecI.out hI
 rw [mkEnv_of (l:=[(2,.int .i64 s2),(10,.slice s10.a s10.n s10.c),(12,.slice s12.a s12.n s12.c),(29,.int .i64 s29),(30,.int .i64 s30)]) hlen (by simp only [List.mem_cons,List.not_mem_nil,or_false,forall_eq_or_imp,forall_eq]; exact ⟨es2,es10,es12,es29,es30⟩)]
 rw [f136L1_eq]
 exact hr n s2 s10 s12 s29 s30 _ h hI
def f136F (a0:Option Addr) (a1:Int) (a2:Int) (a3:Int) (h:Hp) (R:Value→Hp→Prop):Prop :=
 CallTo Tryz.prog 140 #[.pointer a0,.int .i64 a1,.int .i64 a2,.int .i64 a3] h fun r h1=>∃ t20_0:Sl,∃ t20_1:Int,r=.tuple #[.slice t20_0.a t20_0.n t20_0.c,.int .i64 t20_1]∧Cond (t20_1 != (0:Int)) (R (.tuple #[.slice none 0 0,.int .i64 t20_1]:Value) h1) ((0 ≤ a3∧a3 ≤ a3)∧a3 < 2 ^ 62∧(1:Nat) * a3 ≤ 2 ^ 48∧Let (h1.push (.cells (zrow #[.int .u8 0] (a3.toNat * 1)) 5)) fun h2=>LoopEv (evC Tryz.prog tab lv136 (sub [1,1,1,1,0,1,0,0] body136)) (contAt Tryz.prog tab lv136 [1,1,1,1,0,1,0] body136 [] (bodyK Tryz.prog Tryz.f136 [] R)) [(2,.int .i64 a2),(10,.slice t20_0.a t20_0.n t20_0.c),(12,.slice (some (nb h1)) a3.toNat a3.toNat),(29,.int .i64 (((a3.toNat:Nat):Int))),(30,.int .i64 0)] 51 h2)
theorem f136F_eq (a0:Option Addr) (a1:Int) (a2:Int) (a3:Int) (h:Hp) (R:Value→Hp→Prop):evF Tryz.prog tab lv136 Tryz.f136 body136 [] [.pointer a0,.int .i64 a1,.int .i64 a2,.int .i64 a3] h R=f136F a0 a1 a2 a3 h R:=by kernel_rfl
theorem f136F_ok {a0:Option Addr} {a1:Int} {a2:Int} {a3:Int} {h:Hp} {R:Value→Hp→Prop} (hF:f136F a0 a1 a2 a3 h R):CallTo Tryz.prog 136 #[.pointer a0,.int .i64 a1,.int .i64 a2,.int .i64 a3] h R :=
 callTo_of_ev (lv:=lv136) (hints:=[]) (c:=body136) (args:=[.pointer a0,.int .i64 a1,.int .i64 a2,.int .i64 a3]) mixed tab_ok Tryz.func136 (by kernel_rfl) (by kernel_rfl) (by rw [f136F_eq]; exact hF)
/- (*larder/arena.Arena).Get -/
noncomputable def body137:Code:=(Tryz.f137.body).getD .skip
def lv137 (m:Nat):List Nat:=[]
def f137K1  (x2:Int) (x8:Sl) (x28:Bool) (h:Hp) (R:Value→Hp→Prop):Prop :=
 Cond x28 (R (.tuple #[.int .u64 0,.int .i64 24]:Value) h) ((0 ≤ x2∧x2 < ((x8.n:Nat):Int))∧PtrOk x8.a fun p31=>∃ t32:Int,cell h (p31.add (x2.toNat * 1))=some (.int .u64 t32)∧R (.tuple #[.int .u64 t32,.int .i64 0]:Value) h)
def f137F (a0:Option Addr) (a1:Int) (a2:Int) (h:Hp) (R:Value→Hp→Prop):Prop :=
 CallTo Tryz.prog 119 #[.pointer a0,.int .i64 a1] h fun r h1=>∃ t14_0:Sl,∃ t14_1:Int,∃ t14_2:Int,r=.tuple #[.slice t14_0.a t14_0.n t14_0.c,.int .i64 t14_1,.int .i64 t14_2]∧Cond (t14_2 != (0:Int)) (R (.tuple #[.int .u64 0,.int .i64 t14_2]:Value) h1) (Cond (decide (a2 < (0:Int))) (f137K1  a2 t14_0 true h1 R) (f137K1  a2 t14_0 (decide (a2 ≥ (((t14_0.n:Nat):Int)))) h1 R))
theorem f137F_eq (a0:Option Addr) (a1:Int) (a2:Int) (h:Hp) (R:Value→Hp→Prop):evF Tryz.prog tab lv137 Tryz.f137 body137 [] [.pointer a0,.int .i64 a1,.int .i64 a2] h R=f137F a0 a1 a2 h R:=by kernel_rfl
theorem f137F_ok {a0:Option Addr} {a1:Int} {a2:Int} {h:Hp} {R:Value→Hp→Prop} (hF:f137F a0 a1 a2 h R):CallTo Tryz.prog 137 #[.pointer a0,.int .i64 a1,.int .i64 a2] h R :=
 callTo_of_ev (lv:=lv137) (hints:=[]) (c:=body137) (args:=[.pointer a0,.int .i64 a1,.int .i64 a2]) mixed tab_ok Tryz.func137 (by kernel_rfl) (by kernel_rfl) (by rw [f137F_eq]; exact hF)
/- (*larder/arena.Arena).Set -/
noncomputable def body138:Code:=(Tryz.f138.body).getD .skip
def lv138 (m:Nat):List Nat:=[]
def f138K1  (x2:Int) (x3:Int) (x9:Sl) (x29:Bool) (h:Hp) (R:Value→Hp→Prop):Prop :=
 Cond x29 (R (.int .i64 24:Value) h) ((0 ≤ x2∧x2 < ((x9.n:Nat):Int))∧PtrOk x9.a fun p33=>stOk h (p33.add (x2.toNat * 1))∧Let (setc h (p33.add (x2.toNat * 1)) (.int .u64 x3)) fun h2=>R (.int .i64 0:Value) h2)
def f138F (a0:Option Addr) (a1:Int) (a2:Int) (a3:Int) (h:Hp) (R:Value→Hp→Prop):Prop :=
 CallTo Tryz.prog 119 #[.pointer a0,.int .i64 a1] h fun r h1=>∃ t15_0:Sl,∃ t15_1:Int,∃ t15_2:Int,r=.tuple #[.slice t15_0.a t15_0.n t15_0.c,.int .i64 t15_1,.int .i64 t15_2]∧Cond (t15_2 != (0:Int)) (R (.int .i64 t15_2:Value) h1) (Cond (decide (a2 < (0:Int))) (f138K1  a2 a3 t15_0 true h1 R) (f138K1  a2 a3 t15_0 (decide (a2 ≥ (((t15_0.n:Nat):Int)))) h1 R))
theorem f138F_eq (a0:Option Addr) (a1:Int) (a2:Int) (a3:Int) (h:Hp) (R:Value→Hp→Prop):evF Tryz.prog tab lv138 Tryz.f138 body138 [] [.pointer a0,.int .i64 a1,.int .i64 a2,.int .u64 a3] h R=f138F a0 a1 a2 a3 h R:=by kernel_rfl
theorem f138F_ok {a0:Option Addr} {a1:Int} {a2:Int} {a3:Int} {h:Hp} {R:Value→Hp→Prop} (hF:f138F a0 a1 a2 a3 h R):CallTo Tryz.prog 138 #[.pointer a0,.int .i64 a1,.int .i64 a2,.int .u64 a3] h R :=
 callTo_of_ev (lv:=lv138) (hints:=[]) (c:=body138) (args:=[.pointer a0,.int .i64 a1,.int .i64 a2,.int .u64 a3]) mixed tab_ok Tryz.func138 (by kernel_rfl) (by kernel_rfl) (by rw [f138F_eq]; exact hF)
/- (*larder/arena.Arena).SetBytes -/
noncomputable def body139:Code:=(Tryz.f139.body).getD .skip
def lv139 (m:Nat):List Nat:=if m=5 then [2,9,27,28,29] else []
def f139I1 (J:Nat→Int→Sl→Sl→Int→Int→Hp→Prop) (n:Nat) (env:List Value) (h:Hp):Prop:=lenIs env 58 (DecI .i64 env 2 fun s2=>DecL env 9 fun s9=>DecL env 27 fun s27=>DecI .i64 env 28 fun s28=>DecI .i64 env 29 fun s29=>J n s2 s9 s27 s28 s29 h)
def f139L1 (J1:Nat→Int→Sl→Sl→Int→Int→Hp→Prop) (n1:Nat) (s2:Int) (s9:Sl) (s27:Sl) (s28:Int) (s29:Int) (g:Nat→Value) (h:Hp) (R:Value→Hp→Prop):Prop :=
 Cond (decide (s29 < s28)) ((0 ≤ s29∧s29 < ((s27.n:Nat):Int))∧PtrOk s27.a fun p32=>∃ t33:Int,cell h (p32.add (s29.toNat * 1))=some (.int .u8 t33)∧(8:Int) ≠ 0∧(8:Int) ≠ 0∧(8:Int) ≠ 0∧(0 ≤ (IntKind.wrap .i64 (Int.tdiv (IntKind.wrap .i64 (s2 + s29)) (8:Int)))∧(IntKind.wrap .i64 (Int.tdiv (IntKind.wrap .i64 (s2 + s29)) (8:Int))) < ((s9.n:Nat):Int))∧PtrOk s9.a fun p46=>∃ t47:Int,cell h (p46.add ((IntKind.wrap .i64 (Int.tdiv (IntKind.wrap .i64 (s2 + s29)) (8:Int))).toNat * 1))=some (.int .u64 t47)∧0 ≤ (IntKind.wrap .i64 ((Int.tmod (IntKind.wrap .i64 (s2 + s29)) (8:Int)) * (8:Int)))∧0 ≤ (IntKind.wrap .i64 ((Int.tmod (IntKind.wrap .i64 (s2 + s29)) (8:Int)) * (8:Int)))∧(0 ≤ (IntKind.wrap .i64 (Int.tdiv (IntKind.wrap .i64 (s2 + s29)) (8:Int)))∧(IntKind.wrap .i64 (Int.tdiv (IntKind.wrap .i64 (s2 + s29)) (8:Int))) < ((s9.n:Nat):Int))∧PtrOk s9.a fun p56=>stOk h (p56.add ((IntKind.wrap .i64 (Int.tdiv (IntKind.wrap .i64 (s2 + s29)) (8:Int))).toNat * 1))∧Let (setc h (p56.add ((IntKind.wrap .i64 (Int.tdiv (IntKind.wrap .i64 (s2 + s29)) (8:Int))).toNat * 1)) (.int .u64 (orI .u64 (andNotI .u64 t47 (IntKind.wrap .u64 ((255:Int) * 2 ^ (min (IntKind.wrap .i64 ((Int.tmod (IntKind.wrap .i64 (s2 + s29)) (8:Int)) * (8:Int))).toNat (IntKind.bits .u64))))) (IntKind.wrap .u64 ((IntKind.wrap .u64 t33) * 2 ^ (min (IntKind.wrap .i64 ((Int.tmod (IntKind.wrap .i64 (s2 + s29)) (8:Int)) * (8:Int))).toNat (IntKind.bits .u64))))))) fun h2=>∃ m,m < n1∧J1 m s2 s9 s27 s28 (IntKind.wrap .i64 (s29 + (1:Int))) h2) (R (.int .i64 0:Value) h)
theorem f139L1_eq (J1:Nat→Int→Sl→Sl→Int→Int→Hp→Prop) (n1:Nat) (s2:Int) (s9:Sl) (s27:Sl) (s28:Int) (s29:Int) (g:Nat→Value) (h:Hp) (R:Value→Hp→Prop):(evC Tryz.prog tab lv139 (sub [1,1,1,0,1,0,0] body139)) (loopK (f139I1 J1) n1 (contAt Tryz.prog tab lv139 [1,1,1,0,1,0] body139 [] (bodyK Tryz.prog Tryz.f139 [] R))) (mkEnv 58 [(2,.int .i64 s2),(9,.slice s9.a s9.n s9.c),(27,.slice s27.a s27.n s27.c),(28,.int .i64 s28),(29,.int .i64 s29)] g) h=f139L1 J1 n1 s2 s9 s27 s28 s29 g h R:=by kernel_rfl
theorem f139I1_at (J:Nat→Int→Sl→Sl→Int→Int→Hp→Prop) (n:Nat) (s2:Int) (s9:Sl) (s27:Sl) (s28:Int) (s29:Int) (g:Nat→Value) (h:Hp):f139I1 J n (mkEnv 58 [(2,.int .i64 s2),(9,.slice s9.a s9.n s9.c),(27,.slice s27.a s27.n s27.c),(28,.int .i64 s28),(29,.int .i64 s29)] g) h=J n s2 s9 s27 s28 s29 h:=by kernel_rfl
theorem f139L1_rule  {R:Value→Hp→Prop} {s2:Int} {s9:Sl} {s27:Sl} {s28:Int} {s29:Int} {h0:Hp} (J:Nat→Int→Sl→Sl→Int→Int→Hp→Prop) (n0:Nat) (hi:J n0 s2 s9 s27 s28 s29 h0)
  (hr:∀ n s2 s9 s27 s28 s29 g h,J n s2 s9 s27 s28 s29 h→f139L1  J n s2 s9 s27 s28 s29 g h R):LoopEv (evC Tryz.prog tab lv139 (sub [1,1,1,0,1,0,0] body139)) (contAt Tryz.prog tab lv139 [1,1,1,0,1,0] body139 [] (bodyK Tryz.prog Tryz.f139 [] R)) [(2,.int .i64 s2),(9,.slice s9.a s9.n s9.c),(27,.slice s27.a s27.n s27.c),(28,.int .i64 s28),(29,.int .i64 s29)] 58 h0:=by
 refine ⟨f139I1 J,n0,fun g=>by rw [f139I1_at]; exact hi,fun n env h hI=>?_⟩
 clear hi
 clear s2 s9 s27 s28 s29
 obtain ⟨hlen,hI⟩:=Cond_true' hI
 have hlen:env.length=58:=by simpa using hlen
 obtain ⟨s2,es2,hI⟩:=DecI.out hI
 obtain ⟨s9,es9,hI⟩:=DecL.out hI
 obtain ⟨s27,es27,hI⟩:=DecL.out hI
 obtain ⟨s28,es28,hI⟩:=DecI.out hI
 obtain ⟨s29,es29,hI⟩:=DecI.out hI
 rw [mkEnv_of (l:=[(2,.int .i64 s2),(9,.slice s9.a s9.n s9.c),(27,.slice s27.a s27.n s27.c),(28,.int .i64 s28),(29,.int .i64 s29)]) hlen (by simp only [List.mem_cons,List.not_mem_nil,or_false,forall_eq_or_imp,forall_eq]; exact ⟨es2,es9,es27,es28,es29⟩)]
 rw [f139L1_eq]
 exact hr n s2 s9 s27 s28 s29 _ h hI
def f139F (a0:Option Addr) (a1:Int) (a2:Int) (a3:Sl) (h:Hp) (R:Value→Hp→Prop):Prop :=
 CallTo Tryz.prog 140 #[.pointer a0,.int .i64 a1,.int .i64 a2,.int .i64 (((a3.n:Nat):Int))] h fun r h1=>∃ t21_0:Sl,∃ t21_1:Int,r=.tuple #[.slice t21_0.a t21_0.n t21_0.c,.int .i64 t21_1]∧Cond (t21_1 != (0:Int)) (R (.int .i64 t21_1:Value) h1) (LoopEv (evC Tryz.prog tab lv139 (sub [1,1,1,0,1,0,0] body139)) (contAt Tryz.prog tab lv139 [1,1,1,0,1,0] body139 [] (bodyK Tryz.prog Tryz.f139 [] R)) [(2,.int .i64 a2),(9,.slice t21_0.a t21_0.n t21_0.c),(27,.slice a3.a a3.n a3.c),(28,.int .i64 (((a3.n:Nat):Int))),(29,.int .i64 0)] 58 h1)
theorem f139F_eq (a0:Option Addr) (a1:Int) (a2:Int) (a3:Sl) (h:Hp) (R:Value→Hp→Prop):evF Tryz.prog tab lv139 Tryz.f139 body139 [] [.pointer a0,.int .i64 a1,.int .i64 a2,.slice a3.a a3.n a3.c] h R=f139F a0 a1 a2 a3 h R:=by kernel_rfl
theorem f139F_ok {a0:Option Addr} {a1:Int} {a2:Int} {a3:Sl} {h:Hp} {R:Value→Hp→Prop} (hF:f139F a0 a1 a2 a3 h R):CallTo Tryz.prog 139 #[.pointer a0,.int .i64 a1,.int .i64 a2,.slice a3.a a3.n a3.c] h R :=
 callTo_of_ev (lv:=lv139) (hints:=[]) (c:=body139) (args:=[.pointer a0,.int .i64 a1,.int .i64 a2,.slice a3.a a3.n a3.c]) mixed tab_ok Tryz.func139 (by kernel_rfl) (by kernel_rfl) (by rw [f139F_eq]; exact hF)
/- (*larder/arena.Arena).span -/
noncomputable def body140:Code:=(Tryz.f140.body).getD .skip
def lv140 (m:Nat):List Nat:=[]
def f140K1  (x13:Sl) (x48:Bool) (h:Hp) (R:Value→Hp→Prop):Prop :=
 Cond x48 (R (.tuple #[.slice none 0 0,.int .i64 25]:Value) h) (R (.tuple #[.slice x13.a x13.n x13.c,.int .i64 0]:Value) h)
def f140F (a0:Option Addr) (a1:Int) (a2:Int) (a3:Int) (h:Hp) (R:Value→Hp→Prop):Prop :=
 CallTo Tryz.prog 119 #[.pointer a0,.int .i64 a1] h fun r h1=>∃ t17_0:Sl,∃ t17_1:Int,∃ t17_2:Int,r=.tuple #[.slice t17_0.a t17_0.n t17_0.c,.int .i64 t17_1,.int .i64 t17_2]∧Cond (t17_2 != (0:Int)) (R (.tuple #[.slice none 0 0,.int .i64 t17_2]:Value) h1) ((0 ≤ t17_1∧t17_1 ≤ ((t17_0.n:Nat):Int))∧Cond (decide (a2 < (0:Int))) (f140K1  ⟨if t17_0.c=t17_1.toNat then t17_0.a else Option.map (fun x=>x.add (t17_1.toNat * 1)) t17_0.a,t17_0.n - t17_1.toNat,t17_0.c - t17_1.toNat⟩ true h1 R) (Cond (decide (a3 < (0:Int))) (f140K1  ⟨if t17_0.c=t17_1.toNat then t17_0.a else Option.map (fun x=>x.add (t17_1.toNat * 1)) t17_0.a,t17_0.n - t17_1.toNat,t17_0.c - t17_1.toNat⟩ true h1 R) (Cond (decide (a2 > (IntKind.wrap .i64 ((8:Int) * (((t17_0.n - t17_1.toNat:Nat):Int)))))) (f140K1  ⟨if t17_0.c=t17_1.toNat then t17_0.a else Option.map (fun x=>x.add (t17_1.toNat * 1)) t17_0.a,t17_0.n - t17_1.toNat,t17_0.c - t17_1.toNat⟩ true h1 R) (f140K1  ⟨if t17_0.c=t17_1.toNat then t17_0.a else Option.map (fun x=>x.add (t17_1.toNat * 1)) t17_0.a,t17_0.n - t17_1.toNat,t17_0.c - t17_1.toNat⟩ (decide (a3 > (IntKind.wrap .i64 ((IntKind.wrap .i64 ((8:Int) * (((t17_0.n - t17_1.toNat:Nat):Int)))) - a2)))) h1 R))))
theorem f140F_eq (a0:Option Addr) (a1:Int) (a2:Int) (a3:Int) (h:Hp) (R:Value→Hp→Prop):evF Tryz.prog tab lv140 Tryz.f140 body140 [] [.pointer a0,.int .i64 a1,.int .i64 a2,.int .i64 a3] h R=f140F a0 a1 a2 a3 h R:=by kernel_rfl
theorem f140F_ok {a0:Option Addr} {a1:Int} {a2:Int} {a3:Int} {h:Hp} {R:Value→Hp→Prop} (hF:f140F a0 a1 a2 a3 h R):CallTo Tryz.prog 140 #[.pointer a0,.int .i64 a1,.int .i64 a2,.int .i64 a3] h R :=
 callTo_of_ev (lv:=lv140) (hints:=[]) (c:=body140) (args:=[.pointer a0,.int .i64 a1,.int .i64 a2,.int .i64 a3]) mixed tab_ok Tryz.func140 (by kernel_rfl) (by kernel_rfl) (by rw [f140F_eq]; exact hF)
end Go.Ev
