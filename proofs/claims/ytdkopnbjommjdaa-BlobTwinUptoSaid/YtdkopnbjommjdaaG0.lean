/- Printed by a program (own work) out of the loaded functions: what each says of the heap, and that the evaluator says the same. No condition. -/
import Derived.Test.YtdkopnbjommjdaaK9
import Derived.Test.YtdkopnbjommjdaaProg
namespace Go.Ev
def tkL : List (List VK) := [[], [.any], [.int .i64], [.int .i64], [.bool], [.int .u8], [.int .u8], [.int .i64, .int .i64, .bool, .int .u8], [.int .i64, .int .i64, .bool, .int .u8], [.str], [.str], [.str], [.int .u64], [.str, .int .u64], [.str, .int .u64], [.ptr], [.ptr], [.ptr], [.ptr], [.ptr], [.any], [.int .i32], [.sl], [.sl], [.sl, .sl, .int .i64, .int .i64, .sl], [.sl, .sl, .int .i64, .int .i64, .sl], [.ptr], [.int .i64], [], [.any], [.any], [.any], [.any], [.any], [], [.any], [.int .u64], [.any], [.any], [.any], [], [.any], [.any], [], [.any], [.any], [.any], [.any], [.int .i64, .int .i64], [.sl], [.int .i64, .int .i64, .sl], [.int .i64, .int .i64, .sl], [.ptr], [.int .i64, .int .i64, .int .i64, .int .i64, .int .i64, .int .i64, .int .i64, .int .i64], [.ptr, .ptr, .int .i64, .int .i64, .int .i64, .int .i64, .int .i64, .int .i64, .int .i64, .int .i64], [.ptr, .ptr, .int .i64, .int .i64, .int .i64, .int .i64, .int .i64, .int .i64, .int .i64, .int .i64], [.any], [.sl], [.int .i64, .int .i64, .int .i64, .int .i64, .int .i64, .int .i64, .sl, .sl], [.int .i64, .int .i64, .int .i64, .int .i64, .int .i64, .int .i64, .sl, .sl], [.any], [.sl], [.any], [.any], [], [.any], [.int .i64, .int .i64, .int .i64, .int .i64, .int .i64, .int .i64, .int .i64, .int .i64, .int .i64], [.int .i64, .int .i64, .int .i64, .int .i64, .int .i64, .int .i64, .int .i64, .int .i64, .int .i64], [.any], [.any], [.ptr], [.sl], [.sl], [.sl], [.int .i64, .ptr, .ptr, .sl, .sl, .sl, .int .i64, .int .i64, .int .i64, .sl, .int .i64, .int .i64, .int .i64, .int .i64, .int .i64, .int .i64, .int .i64, .int .i64, .int .i64], [.int .i64, .ptr, .ptr, .sl, .sl, .sl, .int .i64, .int .i64, .int .i64, .sl, .int .i64, .int .i64, .int .i64, .int .i64, .int .i64, .int .i64, .int .i64, .int .i64, .int .i64], [], [.any], [.any], [.any], [.any], [.any], [.any], [.any], [.any], [.any], [.any], [.any], [.any], [.bool, .int .u64], [.bool, .int .u64], [], [.any], [.any], [.any], [.any], [.any], [.any], [.any], [.any], [.any], [.int .i64, .sl, .sl], [.int .i64, .sl, .sl], [.any], [.any], [.any], [.any], [.any], [.any], [], [.any], [.any], [.any], [.any], [.any], [.any], [.any], [.any], [.any], [.any], [.any], [.int .u64], [], [.any], [], [.any], [.any], [.ptr, .ptr, .ptr, .str], [.ptr, .ptr, .ptr, .str], [], [], [], [.int .u32], [.int .u8], [.int .u8], [.any], [.ptr], [.int .i32], [.int .i32], [.int .u64, .int .u64, .int .u32, .int .u8, .int .u8, .int .u8, .int .u8, .any, .ptr, .int .i32, .int .i32], [.int .u64, .int .u64, .int .u32, .int .u8, .int .u8, .int .u8, .int .u8, .any, .ptr, .int .i32, .int .i32], [], [.any], [.any]]
def rkL : List (List RK) := [[], [], [], [.leaf .bool], [.leaf .bool], [.leaf .bool], [.leaf .ptr, .leaf (.int .i64)], [.leaf (.int .i64)], [.leaf (.int .i64)], [], [.leaf (.int .i64)], [.leaf (.int .i64), .leaf (.int .i64)], [.leaf (.int .u64)], [.leaf (.int .i64), .leaf (.int .i64)], [.leaf .bool], [.leaf .sl, .leaf (.int .i64)], [.leaf (.int .u64), .leaf (.int .i64)], [.leaf (.int .i64), .leaf (.int .i64)], [.leaf .sl, .leaf (.int .i64)], [.leaf (.int .i64), .leaf (.int .i64)], [.leaf .bool], [.leaf .bool], [.leaf .sl], [.leaf (.int .u64), .leaf (.int .i64)], [.leaf (.int .u64), .leaf (.int .i64)], [.agg [.int .i64, .int .i64, .int .i64, .int .i64, .int .i64, .int .i64, .int .i64, .int .i64, .int .i64]], [.leaf .ptr, .leaf (.int .i64)], [.leaf (.int .u64), .leaf (.int .i64)], [], [.leaf (.int .i64)], [.leaf (.int .u64), .leaf (.int .i64)], [.leaf (.int .i64)], [.leaf (.int .i64)], [.leaf .sl, .leaf (.int .i64)], [.leaf (.int .i64)], [.leaf (.int .i64)], [.leaf (.int .i64)], [.leaf (.int .u64), .leaf (.int .i64)], [.leaf (.int .i64)], [.leaf .bool], [.leaf (.int .i64), .leaf (.int .i64), .leaf (.int .i64), .leaf (.int .i64)], [.leaf (.int .u64), .leaf (.int .i64)], [.leaf .sl], [.leaf .sl], [.leaf .bool], [.leaf .sl], [.leaf (.int .u64), .leaf (.int .i64)], [.leaf (.int .i64)], [.leaf .bool], [.leaf .sl], [.leaf (.int .i64)], [.leaf (.int .i64)], [.leaf (.int .i64)], [.leaf (.int .u64), .leaf (.int .i64)], [], [], [.leaf (.int .i64), .leaf (.int .i64)], [.leaf .bool], [.leaf (.int .i64)], [.leaf .any, .leaf (.int .i64), .leaf .bool], [.leaf (.int .i64)], [], [], [.leaf (.int .u64)], [.leaf (.int .i64)], [.leaf (.int .i64)], [.leaf (.int .u64), .leaf (.int .i64)], [.leaf (.int .i64)], [.leaf (.int .i64), .leaf (.int .i64), .leaf (.int .i64), .leaf (.int .i64)], [.leaf (.int .i64), .leaf (.int .i64)], [.leaf .bool], [.leaf (.int .i64), .leaf (.int .i64), .leaf (.int .i64), .leaf (.int .i64)], [.leaf (.int .i64), .leaf .bool, .leaf (.int .i64)], [.leaf .sl, .leaf (.int .i64), .leaf (.int .i64)], [.leaf .str], [], [.leaf .str], [], [.leaf .str], [], [.leaf .str], [], [.leaf .str], [], [.leaf .str], [], [.leaf (.int .i64)], [.leaf .str], [], [.leaf .str], [.leaf .sl, .leaf (.int .i64)], [.leaf (.int .u64), .leaf (.int .i64)], [.leaf (.int .i64)], [.leaf (.int .i64)], [.leaf .sl, .leaf (.int .i64)], [.leaf .str]]
def quietL : List Bool := [false, false, true, false, false, false, false, true, false, false, true, false, true, false, true, false, false, false, false, false, false, false, false, false, false, false, false, false, false, true, true, true, true, false, true, false, false, false, false, true, false, false, false, false, false, false, false, false, false, false, true, true, true, false, false, false, false, true, false, true, false, false, false, false, false, true, true, false, true, false, true, true, true, true, false, false, false, false, false, false, false, false, false, false, false, false, false, false, false, false, false, true, false, false, true, false]
def calleeL : List Bool := [false, false, true, true, true, true, true, true, true, true, true, true, true, true, true, true, true, true, true, true, true, true, true, true, true, true, true, true, true, true, true, true, true, true, true, true, true, true, true, true, true, true, true, true, true, true, true, true, true, true, true, true, true, true, true, true, true, true, false, true, true, true, true, true, true, true, true, true, true, true, true, true, true, true, false, false, false, false, false, false, false, false, false, false, false, false, false, false, false, false, true, true, true, true, true, false]
def extL : List Bool := [true, true, false, false, false, false, false, false, false, false, false, false, false, false, false, false, false, false, false, false, false, false, false, false, false, false, false, false, false, false, false, false, false, false, false, false, false, false, false, false, false, false, false, false, false, false, false, false, false, false, false, false, false, false, false, false, false, false, true, false, false, false, false, false, false, false, false, false, false, false, false, false, false, false, true, true, true, true, true, true, true, true, true, true, true, true, true, true, true, true, false, false, false, false, false, true]
noncomputable def tab : Tab := { tk := fun t => tkL.getD t [], rk := fun f => rkL.getD f [], quiet := fun f => quietL.getD f false, callee := fun f => calleeL.getD f false, ext := fun f => extL.getD f false, meth := fun m => if m = "Object" then some (70, 68) else if m = "Bytes" then some (70, 90) else if m = "Get" then some (70, 91) else if m = "Set" then some (70, 92) else if m = "SetBytes" then some (70, 93) else none }
theorem mixed : Go.Proofs.Try.prog.follows .mixedOrders = true := by kernel_rfl
noncomputable def calleeOk (f : Nat) : Bool := match Go.Proofs.Try.prog.funcs[f]? with | some fn => !(fn.name == "runtime.NumGoroutine") && fn.body.isSome | none => false
theorem callable_of_ok {f : Nat} (h : calleeOk f = true) : Callable Go.Proofs.Try.prog f := by
  unfold calleeOk at h
  split at h
  · rename_i fn hf
    simp only [Bool.and_eq_true, Bool.not_eq_true'] at h
    exact callable_of hf h.1 h.2
  · cases h
theorem calleeL_len : calleeL.length = 96 := by kernel_rfl
theorem callees : ((List.range 96).all fun f => !calleeL.getD f false || calleeOk f) = true := by kernel_rfl
theorem meth_Object (a : Option Addr) (args : Array Value) (w : World) : (callMethod (.iface 70 (.pointer a)) "Object" args).run Go.Proofs.Try.prog w = .ok (.enter 68 (#[.pointer a] ++ args)) w := by kernel_rfl
theorem meth_Bytes (a : Option Addr) (args : Array Value) (w : World) : (callMethod (.iface 70 (.pointer a)) "Bytes" args).run Go.Proofs.Try.prog w = .ok (.enter 90 (#[.pointer a] ++ args)) w := by kernel_rfl
theorem meth_Get (a : Option Addr) (args : Array Value) (w : World) : (callMethod (.iface 70 (.pointer a)) "Get" args).run Go.Proofs.Try.prog w = .ok (.enter 91 (#[.pointer a] ++ args)) w := by kernel_rfl
theorem meth_Set (a : Option Addr) (args : Array Value) (w : World) : (callMethod (.iface 70 (.pointer a)) "Set" args).run Go.Proofs.Try.prog w = .ok (.enter 92 (#[.pointer a] ++ args)) w := by kernel_rfl
theorem meth_SetBytes (a : Option Addr) (args : Array Value) (w : World) : (callMethod (.iface 70 (.pointer a)) "SetBytes" args).run Go.Proofs.Try.prog w = .ok (.enter 93 (#[.pointer a] ++ args)) w := by kernel_rfl
theorem ahead_Object (a : Addr) (w : World) : (nilAhead (Go.Proofs.Try.prog.types.size + Made.depth) 70 (.pointer (some a)) "Object").run Go.Proofs.Try.prog w = .ok (some false) w := by kernel_rfl
theorem ahead_Bytes (a : Addr) (w : World) : (nilAhead (Go.Proofs.Try.prog.types.size + Made.depth) 70 (.pointer (some a)) "Bytes").run Go.Proofs.Try.prog w = .ok (some false) w := by kernel_rfl
theorem ahead_Get (a : Addr) (w : World) : (nilAhead (Go.Proofs.Try.prog.types.size + Made.depth) 70 (.pointer (some a)) "Get").run Go.Proofs.Try.prog w = .ok (some false) w := by kernel_rfl
theorem ahead_Set (a : Addr) (w : World) : (nilAhead (Go.Proofs.Try.prog.types.size + Made.depth) 70 (.pointer (some a)) "Set").run Go.Proofs.Try.prog w = .ok (some false) w := by kernel_rfl
theorem ahead_SetBytes (a : Addr) (w : World) : (nilAhead (Go.Proofs.Try.prog.types.size + Made.depth) 70 (.pointer (some a)) "SetBytes").run Go.Proofs.Try.prog w = .ok (some false) w := by kernel_rfl
theorem tab_ok : TabOk Go.Proofs.Try.prog tab := by
  refine ⟨fun f hf => ?_, fun m t f hm a args w => ?_, fun m t f hm a w => ?_⟩
  · have hf : calleeL.getD f false = true := hf
    by_cases hlt : f < 96
    · have := List.all_eq_true.1 callees f (List.mem_range.2 hlt)
      rw [hf] at this
      have hc : calleeOk f = true := by simpa using this
      exact callable_of_ok hc
    · rw [List.getD_eq_getElem?_getD, List.getElem?_eq_none (Nat.le_trans (Nat.le_of_eq calleeL_len : calleeL.length ≤ 96) (Nat.le_of_not_lt hlt))] at hf
      cases hf
  · simp only [tab] at hm
    split at hm
    · rename_i he; subst he; simp only [Option.some.injEq, Prod.mk.injEq] at hm; obtain ⟨rfl, rfl⟩ := hm; exact meth_Object a args w
    split at hm
    · rename_i he; subst he; simp only [Option.some.injEq, Prod.mk.injEq] at hm; obtain ⟨rfl, rfl⟩ := hm; exact meth_Bytes a args w
    split at hm
    · rename_i he; subst he; simp only [Option.some.injEq, Prod.mk.injEq] at hm; obtain ⟨rfl, rfl⟩ := hm; exact meth_Get a args w
    split at hm
    · rename_i he; subst he; simp only [Option.some.injEq, Prod.mk.injEq] at hm; obtain ⟨rfl, rfl⟩ := hm; exact meth_Set a args w
    split at hm
    · rename_i he; subst he; simp only [Option.some.injEq, Prod.mk.injEq] at hm; obtain ⟨rfl, rfl⟩ := hm; exact meth_SetBytes a args w
    cases hm
  · simp only [tab] at hm
    split at hm
    · rename_i he; subst he; simp only [Option.some.injEq, Prod.mk.injEq] at hm; obtain ⟨rfl, rfl⟩ := hm; exact ahead_Object a w
    split at hm
    · rename_i he; subst he; simp only [Option.some.injEq, Prod.mk.injEq] at hm; obtain ⟨rfl, rfl⟩ := hm; exact ahead_Bytes a w
    split at hm
    · rename_i he; subst he; simp only [Option.some.injEq, Prod.mk.injEq] at hm; obtain ⟨rfl, rfl⟩ := hm; exact ahead_Get a w
    split at hm
    · rename_i he; subst he; simp only [Option.some.injEq, Prod.mk.injEq] at hm; obtain ⟨rfl, rfl⟩ := hm; exact ahead_Set a w
    split at hm
    · rename_i he; subst he; simp only [Option.some.injEq, Prod.mk.injEq] at hm; obtain ⟨rfl, rfl⟩ := hm; exact ahead_SetBytes a w
    cases hm
end Go.Ev
