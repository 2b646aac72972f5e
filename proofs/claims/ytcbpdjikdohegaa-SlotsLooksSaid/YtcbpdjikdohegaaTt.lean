/-
  The table of types of this seat, and what the program says of itself. Printed by a program (dev/tt.sh). No condition.
-/
import Derived.Test.YtcbpdjikdohegaaVo
import Derived.Test.YtcbpdjikdohegaaProg
namespace Go.Proofs.Ytcbpdjikdohegaa.V
open Go.RowKit

def tt : TT := [
  (3, ⟨.int .i64, 1, 8, [.int .i64 0]⟩),
  (24, ⟨.struct [(0, 22), (1, 22)], 2, 16, [.int .u64 0, .int .u64 0]⟩),
  (25, ⟨.slice 35, 1, 24, [.slice none 0 0]⟩),
  (29, ⟨.struct [(0, 26), (1, 26), (2, 27), (3, 27), (4, 5)], 5, 16, [.int .u32 0, .int .u32 0, .int .u16 0, .int .u16 0, .int .u8 0]⟩),
  (30, ⟨.ptr, 1, 8, [.pointer none]⟩),
  (35, ⟨.struct [(0, 3), (1, 29), (6, 3)], 7, 32, [.int .i64 0, .int .u32 0, .int .u32 0, .int .u16 0, .int .u16 0, .int .u8 0, .int .i64 0]⟩),
  (32, ⟨.ptr, 1, 8, [.pointer none]⟩),
  (43, ⟨.struct [(0, 3), (1, 41)], 2, 32, [.int .i64 0, .slice none 0 0]⟩),
  (40, ⟨.slice 4, 1, 24, [.slice none 0 0]⟩),
  (41, ⟨.slice 46, 1, 24, [.slice none 0 0]⟩),
  (46, ⟨.struct [(0, 29), (5, 3), (6, 3), (7, 3), (8, 4), (9, 4), (10, 27), (11, 26), (12, 26)], 13, 56, [.int .u32 0, .int .u32 0, .int .u16 0, .int .u16 0, .int .u8 0, .int .i64 0, .int .i64 0, .int .i64 0, .bool false, .bool false, .int .u16 0, .int .u32 0, .int .u32 0]⟩),
  (4, ⟨.bool, 1, 1, [.bool false]⟩),
  (92, ⟨.slice 98, 1, 24, [.slice none 0 0]⟩),
  (94, ⟨.struct [(0, 92), (1, 24), (3, 3)], 4, 48, [.slice none 0 0, .int .u64 0, .int .u64 0, .int .i64 0]⟩),
  (98, ⟨.struct [(0, 29), (5, 3), (6, 4)], 7, 32, [.int .u32 0, .int .u32 0, .int .u16 0, .int .u16 0, .int .u8 0, .int .i64 0, .bool false]⟩),
  (102, ⟨.slice 5, 1, 24, [.slice none 0 0]⟩),
  (37, ⟨.int .i64, 1, 8, [.int .i64 0]⟩),
  (114, ⟨.other, 1, 8, [.nilFunc]⟩),
  (26, ⟨.int .u32, 1, 4, [.int .u32 0]⟩),
  (27, ⟨.int .u16, 1, 2, [.int .u16 0]⟩),
  (5, ⟨.int .u8, 1, 1, [.int .u8 0]⟩),
  (121, ⟨.slice 26, 1, 24, [.slice none 0 0]⟩),
  (22, ⟨.int .u64, 1, 8, [.int .u64 0]⟩),
  (157, ⟨.slice 27, 1, 24, [.slice none 0 0]⟩),
  (139, ⟨.array 4 22, 4, 32, [.int .u64 0, .int .u64 0, .int .u64 0, .int .u64 0]⟩),
  (133, ⟨.int .u64, 1, 8, [.int .u64 0]⟩),
  (154, ⟨.struct [(0, 22), (1, 22), (2, 22), (3, 22)], 4, 32, [.int .u64 0, .int .u64 0, .int .u64 0, .int .u64 0]⟩),
  (152, ⟨.ptr, 1, 8, [.pointer none]⟩),
  (9, ⟨.str, 1, 16, [.string ⟨#[]⟩]⟩)
]
theorem ttH : ttOk Try.prog tt := by unfold ttOk; kernel_rfl
theorem ebH : entersAll Try.prog = true := by kernel_rfl
theorem mxH : Try.prog.follows .mixedOrders = true := by kernel_rfl

/-- A contract from the body. -/
theorem fnOf {f : FuncId} {fn : Func} {c : Code} (pl : Plans) (hfn : Try.prog.funcs[f]? = some fn) (hc : fn.body = some c) (hok : codeOk pl fn.ntmps c = true) {args : List D} {Q : D → Prop} (hn : args.length ≤ fn.ntmps)
    (h : wpc Try.prog tt pl c ⟨enumD args 0, [], 0, ([], 0)⟩ fun e s => endK e (resK tt s fn.results.toList fun l => seeD (snapD 6 s.H (oneD l)) Q)) : Fn Try.prog f args Q := fn_of_wpc ttH ebH mxH hfn hc hok hn h
/-- A call gone into. -/
theorem goIn {f : FuncId} {fn : Func} {c : Code} {args : List D} {s : St} {K : D → St → Prop} (pl : Plans) (hfn : Try.prog.funcs[f]? = some fn) (hc : fn.body = some c) (hok : codeOk pl fn.ntmps c = true) (hn : args.length ≤ fn.ntmps)
    (h : wpc Try.prog tt pl c ⟨enumD args 0, s.H, s.nx, (upto s.nx 0, s.nx)⟩ fun e s' => endK e (resK tt s' fn.results.toList fun l => seeD (oneD l) fun d => K d ⟨s.F, s'.H, s'.nx, s.G⟩)) : CallVC Try.prog false f args s K :=
  CallVC.inline ttH ebH mxH hfn hc hok hn h
/-- A call gone into, whose answer lies in memory of its own. -/
theorem freshIn {f : FuncId} {fn : Func} {c : Code} {args : List D} {s : St} {K : D → St → Prop} {g : Bool} (pl : Plans) (hfn : Try.prog.funcs[f]? = some fn) (hc : fn.body = some c) (hok : codeOk pl fn.ntmps c = true) (hn : args.length ≤ fn.ntmps) (hcut : args.all (cutOk 6 0) = true)
    (h : wpc Try.prog tt pl c ⟨enumD args 0, [], s.nx, ([], 0)⟩ fun e s' => endK e (resK tt s' fn.results.toList fun l => seeD (oneD l) fun d => freshOk s.nx s'.H d = true ∧ Nat.ble s.nx s'.nx = true ∧ K d ⟨s.F, s'.H ++ s.H, s'.nx, s.G⟩)) : CallVC Try.prog g f args s K :=
  CallVC.fresh ttH ebH mxH hfn hc hok hn hcut h
end Go.Proofs.Ytcbpdjikdohegaa.V
