/-
  The table of types of this seat, and what the program says of itself. Printed by a program (dev/tt.sh). No condition.
-/
import Derived.Test.YtgodclgcfpmloaaGreatDoorK1
import Derived.Test.YtgodclgcfpmloaaGreatDoorProg
namespace Go.Proofs.YtgodclgcfpmloaaGreatDoor.V
open Go.RowKit

def tt : TT := [
  (22, ⟨.slice 25, 1, 24, [.slice none 0 0]⟩),
  (3, ⟨.int .i64, 1, 8, [.int .i64 0]⟩),
  (25, ⟨.struct [(0, 3), (1, 23)], 2, 32, [.int .i64 0, .slice none 0 0]⟩),
  (23, ⟨.slice 5, 1, 24, [.slice none 0 0]⟩),
  (27, ⟨.slice 9, 1, 24, [.slice none 0 0]⟩),
  (9, ⟨.str, 1, 16, [.string ⟨#[]⟩]⟩),
  (5, ⟨.int .u8, 1, 1, [.int .u8 0]⟩),
  (34, ⟨.int .u32, 1, 4, [.int .u32 0]⟩),
  (43, ⟨.struct [(0, 40), (6, 40), (12, 41), (13, 23)], 14, 40, [.int .u8 0, .int .u8 0, .int .u8 0, .int .u8 0, .int .u8 0, .int .u8 0, .int .u8 0, .int .u8 0, .int .u8 0, .int .u8 0, .int .u8 0, .int .u8 0, .int .u16 0, .slice none 0 0]⟩),
  (47, ⟨.struct [(0, 41), (1, 40), (7, 34), (8, 40), (14, 34)], 15, 24, [.int .u16 0, .int .u8 0, .int .u8 0, .int .u8 0, .int .u8 0, .int .u8 0, .int .u8 0, .int .u32 0, .int .u8 0, .int .u8 0, .int .u8 0, .int .u8 0, .int .u8 0, .int .u8 0, .int .u32 0]⟩),
  (51, ⟨.struct [(0, 5), (1, 41), (2, 4), (3, 4), (4, 41), (5, 5), (6, 5), (7, 34), (8, 34), (9, 23), (10, 23)], 11, 72, [.int .u8 0, .int .u16 0, .bool false, .bool false, .int .u16 0, .int .u8 0, .int .u8 0, .int .u32 0, .int .u32 0, .slice none 0 0, .slice none 0 0]⟩),
  (41, ⟨.int .u16, 1, 2, [.int .u16 0]⟩),
  (40, ⟨.array 6 5, 6, 6, [.int .u8 0, .int .u8 0, .int .u8 0, .int .u8 0, .int .u8 0, .int .u8 0]⟩),
  (59, ⟨.int .u64, 1, 8, [.int .u64 0]⟩),
  (39, ⟨.array 6 5, 6, 6, [.int .u8 0, .int .u8 0, .int .u8 0, .int .u8 0, .int .u8 0, .int .u8 0]⟩),
  (21, ⟨.int .i32, 1, 4, [.int .i32 0]⟩),
  (4, ⟨.bool, 1, 1, [.bool false]⟩),
  (74, ⟨.int .i64, 1, 8, [.int .i64 0]⟩),
  (87, ⟨.struct [(0, 85), (1, 23)], 2, 32, [.pointer none, .slice none 0 0]⟩),
  (94, ⟨.int .i64, 1, 8, [.int .i64 0]⟩),
  (105, ⟨.slice 3, 1, 24, [.slice none 0 0]⟩),
  (109, ⟨.struct [(0, 5), (1, 5), (2, 34), (3, 23)], 4, 32, [.int .u8 0, .int .u8 0, .int .u32 0, .slice none 0 0]⟩),
  (113, ⟨.struct [(0, 41), (1, 41), (2, 4), (3, 23)], 4, 32, [.int .u16 0, .int .u16 0, .bool false, .slice none 0 0]⟩),
  (118, ⟨.struct [(0, 41), (1, 41), (2, 34), (3, 34), (4, 5), (5, 5), (6, 41), (7, 41), (8, 23), (9, 23)], 10, 72, [.int .u16 0, .int .u16 0, .int .u32 0, .int .u32 0, .int .u8 0, .int .u8 0, .int .u16 0, .int .u16 0, .slice none 0 0, .slice none 0 0]⟩),
  (123, ⟨.int .u64, 1, 8, [.int .u64 0]⟩),
  (127, ⟨.ptr, 1, 8, [.pointer none]⟩),
  (85, ⟨.ptr, 1, 8, [.pointer none]⟩),
  (130, ⟨.ptr, 1, 8, [.pointer none]⟩),
  (146, ⟨.ptr, 1, 8, [.pointer none]⟩),
  (149, ⟨.other, 1, 8, [.pointer none]⟩),
  (161, ⟨.slice 23, 1, 24, [.slice none 0 0]⟩),
  (20, ⟨.other, 1, 16, [.nilIface]⟩),
  (84, ⟨.int .u64, 1, 8, [.int .u64 0]⟩),
  (184, ⟨.slice 34, 1, 24, [.slice none 0 0]⟩),
  (183, ⟨.slice 41, 1, 24, [.slice none 0 0]⟩)
]
theorem ttH : ttOk Tryz.prog tt := by unfold ttOk; kernel_rfl
theorem ebH : entersAll Tryz.prog = true := by kernel_rfl
theorem mxH : Tryz.prog.follows .mixedOrders = true := by kernel_rfl

theorem fnOf {f : FuncId} {fn : Func} {c : Code} (pl : Plans) (hfn : Tryz.prog.funcs[f]? = some fn) (hc : fn.body = some c) (hok : codeOk pl fn.ntmps c = true) {args : List D} {Q : D → Prop} (hn : args.length ≤ fn.ntmps)
    (h : wpc Tryz.prog tt pl c ⟨enumD args 0, [], 0, ([], 0)⟩ fun e s => endK e (resK tt s fn.results.toList fun l => seeD (snapD 6 s.H (oneD l)) Q)) : Fn Tryz.prog f args Q := fn_of_wpc ttH ebH mxH hfn hc hok hn h
theorem goIn {f : FuncId} {fn : Func} {c : Code} {args : List D} {s : St} {K : D → St → Prop} (pl : Plans) (hfn : Tryz.prog.funcs[f]? = some fn) (hc : fn.body = some c) (hok : codeOk pl fn.ntmps c = true) (hn : args.length ≤ fn.ntmps)
    (h : wpc Tryz.prog tt pl c ⟨enumD args 0, s.H, s.nx, (upto s.nx 0, s.nx)⟩ fun e s' => endK e (resK tt s' fn.results.toList fun l => seeD (oneD l) fun d => K d ⟨s.F, s'.H, s'.nx, s.G⟩)) : CallVC Tryz.prog false f args s K :=
  CallVC.inline ttH ebH mxH hfn hc hok hn h
end Go.Proofs.YtgodclgcfpmloaaGreatDoor.V
