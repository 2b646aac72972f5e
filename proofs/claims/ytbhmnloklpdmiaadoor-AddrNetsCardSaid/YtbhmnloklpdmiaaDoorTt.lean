/-
  The table of types of this seat, and what the program says of itself. Printed by a program (dev/tt.sh). No condition.
-/
import Derived.Test.YtbhmnloklpdmiaaDoorVo
import Derived.Test.YtbhmnloklpdmiaaDoorProg
namespace Go.Proofs.YtbhmnloklpdmiaaDoor.V
open Go.RowKit

def tt : TT := [
  (22, ⟨.int .u32, 1, 4, [.int .u32 0]⟩),
  (9, ⟨.str, 1, 16, [.string ⟨#[]⟩]⟩),
  (3, ⟨.int .i64, 1, 8, [.int .i64 0]⟩),
  (33, ⟨.array 6 5, 6, 6, [.int .u8 0, .int .u8 0, .int .u8 0, .int .u8 0, .int .u8 0, .int .u8 0]⟩),
  (24, ⟨.int .i64, 1, 8, [.int .i64 0]⟩),
  (4, ⟨.bool, 1, 1, [.bool false]⟩),
  (21, ⟨.int .i32, 1, 4, [.int .i32 0]⟩),
  (44, ⟨.int .u64, 1, 8, [.int .u64 0]⟩),
  (5, ⟨.int .u8, 1, 1, [.int .u8 0]⟩),
  (47, ⟨.slice 9, 1, 24, [.slice none 0 0]⟩),
  (53, ⟨.int .u64, 1, 8, [.int .u64 0]⟩),
  (54, ⟨.slice 5, 1, 24, [.slice none 0 0]⟩),
  (64, ⟨.slice 3, 1, 24, [.slice none 0 0]⟩)
]
theorem ttH : ttOk Tryd.prog tt := by unfold ttOk; kernel_rfl
theorem ebH : entersAll Tryd.prog = true := by kernel_rfl
theorem mxH : Tryd.prog.follows .mixedOrders = true := by kernel_rfl

/-- A contract from the body. -/
theorem fnOf {f : FuncId} {fn : Func} {c : Code} (pl : Plans) (hfn : Tryd.prog.funcs[f]? = some fn) (hc : fn.body = some c) (hok : codeOk pl fn.ntmps c = true) {args : List D} {Q : D → Prop} (hn : args.length ≤ fn.ntmps)
    (h : wpc Tryd.prog tt pl c ⟨enumD args 0, [], 0, ([], 0)⟩ fun e s => endK e (resK tt s fn.results.toList fun l => seeD (snapD 6 s.H (oneD l)) Q)) : Fn Tryd.prog f args Q := fn_of_wpc ttH ebH mxH hfn hc hok hn h
/-- A call gone into. -/
theorem goIn {f : FuncId} {fn : Func} {c : Code} {args : List D} {s : St} {K : D → St → Prop} (pl : Plans) (hfn : Tryd.prog.funcs[f]? = some fn) (hc : fn.body = some c) (hok : codeOk pl fn.ntmps c = true) (hn : args.length ≤ fn.ntmps)
    (h : wpc Tryd.prog tt pl c ⟨enumD args 0, s.H, s.nx, (upto s.nx 0, s.nx)⟩ fun e s' => endK e (resK tt s' fn.results.toList fun l => seeD (oneD l) fun d => K d ⟨s.F, s'.H, s'.nx, s.G⟩)) : CallVC Tryd.prog false f args s K :=
  CallVC.inline ttH ebH mxH hfn hc hok hn h
/-- A call gone into, whose answer lies in memory of its own. -/
theorem freshIn {f : FuncId} {fn : Func} {c : Code} {args : List D} {s : St} {K : D → St → Prop} {g : Bool} (pl : Plans) (hfn : Tryd.prog.funcs[f]? = some fn) (hc : fn.body = some c) (hok : codeOk pl fn.ntmps c = true) (hn : args.length ≤ fn.ntmps) (hcut : args.all (cutOk 6 0) = true)
    (h : wpc Tryd.prog tt pl c ⟨enumD args 0, [], s.nx, ([], 0)⟩ fun e s' => endK e (resK tt s' fn.results.toList fun l => seeD (oneD l) fun d => freshOk s.nx s'.H d = true ∧ Nat.ble s.nx s'.nx = true ∧ K d ⟨s.F, s'.H ++ s.H, s'.nx, s.G⟩)) : CallVC Tryd.prog g f args s K :=
  CallVC.fresh ttH ebH mxH hfn hc hok hn hcut h
end Go.Proofs.YtbhmnloklpdmiaaDoor.V
