/- Printed by a program (own work) out of the loaded functions: what each says of the heap, and that the evaluator says the same. No condition. -/
import Derived.Test.YtnippoaemjaihaaDoorK9
import Derived.Test.YtnippoaemjaihaaDoorProg
namespace Go.Ev
def tkL : List (List VK) := [[], [.any], [.int .i64], [.int .i64], [.bool], [.int .u8], [.int .u8], [.int .i64, .int .i64, .bool, .int .u8], [.int .i64, .int .i64, .bool, .int .u8], [.str], [.str], [.str], [.int .u64], [.str, .int .u64], [.str, .int .u64], [.ptr], [.ptr], [.ptr], [.ptr], [.ptr], [.any], [.int .i32], [.sl], [.sl], [.any], [.any], [.any], [.str, .int .i64, .bool, .int .i64, .int .i64, .int .i64, .int .i64], [.str, .int .i64, .bool, .int .i64, .int .i64, .int .i64, .int .i64], [.any], [.any], [], [.sl], [.any], [.any], [.ptr, .ptr, .ptr, .str], [.ptr, .ptr, .ptr, .str], [], [], [], [.any], [.int .u32], [.int .u8], [.int .u8], [.any], [.ptr], [.int .i32], [.int .i32], [.int .u64, .int .u64, .int .u32, .int .u8, .int .u8, .int .u8, .int .u8, .any, .ptr, .int .i32, .int .i32], [.int .u64, .int .u64, .int .u32, .int .u8, .int .u8, .int .u8, .int .u8, .any, .ptr, .int .i32, .int .i32], [.any]]
def rkL : List (List RK) := [[], [], [], [.leaf .bool], [.leaf .sl], [.leaf .bool], [.leaf .str], [.leaf .bool], [.leaf .sl], [.agg [.str, .int .i64, .bool, .int .i64, .int .i64, .int .i64, .int .i64]], [.leaf .str], [], [.leaf .str], [], [.leaf .str], [], [.leaf .str], [], [.leaf .str], [], [.leaf .str], [], [.leaf (.int .i64)], [.leaf .str], [], [.leaf .str], [], [], [], []]
def quietL : List Bool := [false, false, true, false, false, false, false, true, false, false, false, false, false, false, false, false, false, false, false, false, false, false, false, false, false, false, false, false, false, false]
def calleeL : List Bool := [false, false, true, true, true, true, true, true, true, true, false, false, false, false, false, false, false, false, false, false, false, false, false, false, false, false, false, false, false, true]
noncomputable def tab : Tab := { tk := fun t => tkL.getD t [], rk := fun f => rkL.getD f [], quiet := fun f => quietL.getD f false, callee := fun f => calleeL.getD f false, meth := fun m => none }
theorem mixed : Go.Proofs.Tryd.prog.follows .mixedOrders = true := by kernel_rfl
noncomputable def calleeOk (f : Nat) : Bool := match Go.Proofs.Tryd.prog.funcs[f]? with | some fn => !(fn.name == "runtime.NumGoroutine") && fn.body.isSome | none => false
theorem callable_of_ok {f : Nat} (h : calleeOk f = true) : Callable Go.Proofs.Tryd.prog f := by
  unfold calleeOk at h
  split at h
  · rename_i fn hf
    simp only [Bool.and_eq_true, Bool.not_eq_true'] at h
    exact callable_of hf h.1 h.2
  · cases h
theorem calleeL_len : calleeL.length = 30 := by kernel_rfl
theorem callees : ((List.range 30).all fun f => !calleeL.getD f false || calleeOk f) = true := by kernel_rfl
theorem tab_ok : TabOk Go.Proofs.Tryd.prog tab := by
  refine ⟨fun f hf => ?_, fun m t f hm a args w => ?_, fun m t f hm a w => ?_⟩
  · have hf : calleeL.getD f false = true := hf
    by_cases hlt : f < 30
    · have := List.all_eq_true.1 callees f (List.mem_range.2 hlt)
      rw [hf] at this
      have hc : calleeOk f = true := by simpa using this
      exact callable_of_ok hc
    · rw [List.getD_eq_getElem?_getD, List.getElem?_eq_none (Nat.le_trans (Nat.le_of_eq calleeL_len : calleeL.length ≤ 30) (Nat.le_of_not_lt hlt))] at hf
      cases hf
  · simp only [tab] at hm
    cases hm
  · simp only [tab] at hm
    cases hm
end Go.Ev
