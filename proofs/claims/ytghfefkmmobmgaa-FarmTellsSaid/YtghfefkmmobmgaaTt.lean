/-
  The table of types of this seat, and what the program says of itself. Printed by a program (dev/tt.sh). No condition.
-/
import Derived.Test.YtghfefkmmobmgaaVm
import Derived.Test.YtghfefkmmobmgaaProg
namespace Go.Proofs.Ytghfefkmmobmgaa.V
open Go.RowKit

def tt : TT := [
  (22, ⟨.slice 3, 1, 24, [.slice none 0 0]⟩),
  (3, ⟨.int .i64, 1, 8, [.int .i64 0]⟩),
  (4, ⟨.bool, 1, 1, [.bool false]⟩),
  (29, ⟨.struct [(0, 26), (1, 27)], 2, 48, [.slice none 0 0, .slice none 0 0]⟩),
  (30, ⟨.int .u64, 1, 8, [.int .u64 0]⟩),
  (32, ⟨.slice 38, 1, 24, [.slice none 0 0]⟩),
  (38, ⟨.struct [(0, 30), (1, 3), (2, 3), (3, 3), (4, 35), (5, 36), (6, 5), (7, 3)], 8, 48, [.int .u64 0, .int .i64 0, .int .i64 0, .int .i64 0, .int .u32 0, .int .u16 0, .int .u8 0, .int .i64 0]⟩),
  (26, ⟨.slice 45, 1, 24, [.slice none 0 0]⟩),
  (27, ⟨.slice 50, 1, 24, [.slice none 0 0]⟩),
  (42, ⟨.slice 88, 1, 24, [.slice none 0 0]⟩),
  (35, ⟨.int .u32, 1, 4, [.int .u32 0]⟩),
  (36, ⟨.int .u16, 1, 2, [.int .u16 0]⟩),
  (5, ⟨.int .u8, 1, 1, [.int .u8 0]⟩),
  (45, ⟨.struct [(0, 3), (1, 35), (2, 36), (3, 5), (4, 3)], 5, 24, [.int .i64 0, .int .u32 0, .int .u16 0, .int .u8 0, .int .i64 0]⟩),
  (50, ⟨.struct [(0, 3), (1, 3), (2, 35), (3, 3), (4, 3), (5, 4)], 6, 48, [.int .i64 0, .int .i64 0, .int .u32 0, .int .i64 0, .int .i64 0, .bool false]⟩),
  (58, ⟨.struct [(0, 29), (2, 30)], 3, 56, [.slice none 0 0, .slice none 0 0, .int .u64 0]⟩),
  (61, ⟨.int .i64, 1, 8, [.int .i64 0]⟩),
  (97, ⟨.slice 32, 1, 24, [.slice none 0 0]⟩),
  (76, ⟨.other, 1, 8, [.nilFunc]⟩),
  (82, ⟨.other, 1, 8, [.nilFunc]⟩),
  (84, ⟨.other, 1, 8, [.nilFunc]⟩),
  (88, ⟨.struct [(0, 3), (1, 45), (6, 50), (12, 3)], 13, 88, [.int .i64 0, .int .i64 0, .int .u32 0, .int .u16 0, .int .u8 0, .int .i64 0, .int .i64 0, .int .i64 0, .int .u32 0, .int .i64 0, .int .i64 0, .bool false, .int .i64 0]⟩),
  (9, ⟨.str, 1, 16, [.string ⟨#[]⟩]⟩),
  (100, ⟨.other, 1, 8, [.nilFunc]⟩),
  (102, ⟨.other, 1, 8, [.nilFunc]⟩),
  (114, ⟨.int .u64, 1, 8, [.int .u64 0]⟩),
  (119, ⟨.other, 1, 8, [.nilFunc]⟩),
  (118, ⟨.ptr, 1, 8, [.pointer none]⟩)
]
theorem ttH : ttOk Try.prog tt := by unfold ttOk; kernel_rfl
theorem ebH : entersAll Try.prog = true := by kernel_rfl
theorem mxH : Try.prog.follows .mixedOrders = true := by kernel_rfl

/-- A contract from the body. -/
theorem fnOf {f : FuncId} {fn : Func} {c : Code} (pl : Plans) (hfn : Try.prog.funcs[f]? = some fn) (hc : fn.body = some c) (hok : codeOk pl fn.ntmps c = true) {args : List D} {Q : D → Prop} (hn : args.length ≤ fn.ntmps)
    (h : wpc Try.prog tt pl c ⟨enumD args 0, [], 0, ([], 0)⟩ fun e s => endK e (resK tt s fn.results.toList fun l => seeD (snapD 6 s.H (oneD l)) Q)) : Fn Try.prog f args Q := fn_of_wpc ttH ebH mxH hfn hc hok hn h
/-- A call gone into. -/
theorem goIn {f : FuncId} {fn : Func} {c : Code} {args : List D} {s : St} {K : D → St → Prop} (pl : Plans) (hfn : Try.prog.funcs[f]? = some fn) (hc : fn.body = some c) (hok : codeOk pl fn.ntmps c = true) (hn : args.length ≤ fn.ntmps)
    (h : wpc Try.prog tt pl c ⟨enumD args 0, s.H, s.nx, (upto s.nx 0, s.nx)⟩ fun e s' => endK e (resK tt s' fn.results.toList fun l => seeD (oneD l) fun d => K d ⟨s.F, s'.H, s'.nx, s.G⟩)) : CallVC Try.prog false f args s K :=
  CallVC.inline ttH ebH mxH hfn hc hok hn h
end Go.Proofs.Ytghfefkmmobmgaa.V
