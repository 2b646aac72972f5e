/-
  The table of types of this seat, and what the program says of itself. Printed by a program (dev/tt.sh). No condition.
-/
import Derived.Test.YtihmdlkbfpipeaaK1
import Derived.Test.YtihmdlkbfpipeaaProg
namespace Go.Proofs.Ytihmdlkbfpipeaa.V
open Go.RowKit

def tt : TT := [
  (22, ⟨.slice 28, 1, 24, [.slice none 0 0]⟩),
  (23, ⟨.ptr, 1, 8, [.pointer none]⟩),
  (3, ⟨.int .i64, 1, 8, [.int .i64 0]⟩),
  (28, ⟨.struct [(0, 26), (1, 3), (2, 3)], 3, 24, [.int .u32 0, .int .i64 0, .int .i64 0]⟩),
  (26, ⟨.int .u32, 1, 4, [.int .u32 0]⟩),
  (30, ⟨.map 28 4, 1, 8, [.map none]⟩),
  (34, ⟨.struct [(0, 26), (1, 3), (2, 3)], 3, 24, [.int .u32 0, .int .i64 0, .int .i64 0]⟩),
  (31, ⟨.slice 34, 1, 24, [.slice none 0 0]⟩),
  (4, ⟨.bool, 1, 1, [.bool false]⟩),
  (45, ⟨.struct [(0, 43), (2, 3), (3, 4)], 4, 32, [.pointer none, .pointer none, .int .i64 0, .bool false]⟩),
  (47, ⟨.struct [(0, 42), (1, 3)], 2, 16, [.pointer none, .int .i64 0]⟩),
  (42, ⟨.ptr, 1, 8, [.pointer none]⟩),
  (43, ⟨.array 2 42, 2, 16, [.pointer none, .pointer none]⟩),
  (55, ⟨.int .u64, 1, 8, [.int .u64 0]⟩)
]
theorem ttH : ttOk Try.prog tt := by unfold ttOk; kernel_rfl
theorem ebH : entersAll Try.prog = true := by kernel_rfl
theorem mxH : Try.prog.follows .mixedOrders = true := by kernel_rfl

theorem fnOf {f : FuncId} {fn : Func} {c : Code} (pl : Plans) (hfn : Try.prog.funcs[f]? = some fn) (hc : fn.body = some c) (hok : codeOk pl fn.ntmps c = true) {args : List D} {Q : D → Prop} (hn : args.length ≤ fn.ntmps)
    (h : wpc Try.prog tt pl c ⟨enumD args 0, [], 0, ([], 0)⟩ fun e s => endK e (resK tt s fn.results.toList fun l => seeD (snapD 6 s.H (oneD l)) Q)) : Fn Try.prog f args Q := fn_of_wpc ttH ebH mxH hfn hc hok hn h
end Go.Proofs.Ytihmdlkbfpipeaa.V
