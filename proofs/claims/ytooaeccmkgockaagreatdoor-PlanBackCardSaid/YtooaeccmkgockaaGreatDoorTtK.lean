/-
  The table of types of this seat, and what the program says of itself. Printed by a program (dev/tt.sh). No condition.
-/
import Derived.Test.YtooaeccmkgockaaGreatDoorK1
import Derived.Test.YtooaeccmkgockaaGreatDoorProg
namespace Go.Proofs.YtooaeccmkgockaaGreatDoor.V
open Go.RowKit

def tt : TT := [
  (26, ⟨.struct [(0, 22), (1, 3), (2, 3), (3, 3), (4, 23), (5, 24), (6, 5), (7, 3)], 8, 48, [.int .u64 0, .int .i64 0, .int .i64 0, .int .i64 0, .int .u32 0, .int .u16 0, .int .u8 0, .int .i64 0]⟩),
  (9, ⟨.str, 1, 16, [.string ⟨#[]⟩]⟩),
  (3, ⟨.int .i64, 1, 8, [.int .i64 0]⟩),
  (28, ⟨.int .i64, 1, 8, [.int .i64 0]⟩),
  (37, ⟨.slice 26, 1, 24, [.slice none 0 0]⟩),
  (45, ⟨.struct [(0, 42), (1, 43)], 2, 48, [.slice none 0 0, .slice none 0 0]⟩),
  (52, ⟨.slice 84, 1, 24, [.slice none 0 0]⟩),
  (4, ⟨.bool, 1, 1, [.bool false]⟩),
  (42, ⟨.slice 79, 1, 24, [.slice none 0 0]⟩),
  (43, ⟨.slice 81, 1, 24, [.slice none 0 0]⟩),
  (57, ⟨.slice 9, 1, 24, [.slice none 0 0]⟩),
  (60, ⟨.other, 1, 8, [.nilFunc]⟩),
  (23, ⟨.int .u32, 1, 4, [.int .u32 0]⟩),
  (24, ⟨.int .u16, 1, 2, [.int .u16 0]⟩),
  (5, ⟨.int .u8, 1, 1, [.int .u8 0]⟩),
  (22, ⟨.int .u64, 1, 8, [.int .u64 0]⟩),
  (73, ⟨.struct [(0, 45), (2, 22)], 3, 56, [.slice none 0 0, .slice none 0 0, .int .u64 0]⟩),
  (79, ⟨.struct [(0, 3), (1, 23), (2, 24), (3, 5), (4, 3)], 5, 24, [.int .i64 0, .int .u32 0, .int .u16 0, .int .u8 0, .int .i64 0]⟩),
  (81, ⟨.struct [(0, 3), (1, 3), (2, 23), (3, 3), (4, 3), (5, 4)], 6, 48, [.int .i64 0, .int .i64 0, .int .u32 0, .int .i64 0, .int .i64 0, .bool false]⟩),
  (84, ⟨.struct [(0, 3), (1, 79), (6, 81), (12, 3)], 13, 88, [.int .i64 0, .int .i64 0, .int .u32 0, .int .u16 0, .int .u8 0, .int .i64 0, .int .i64 0, .int .i64 0, .int .u32 0, .int .i64 0, .int .i64 0, .bool false, .int .i64 0]⟩),
  (88, ⟨.struct [(0, 85), (1, 86)], 2, 32, [.pointer none, .slice none 0 0]⟩),
  (96, ⟨.array 8 9, 8, 128, [.string ⟨#[]⟩, .string ⟨#[]⟩, .string ⟨#[]⟩, .string ⟨#[]⟩, .string ⟨#[]⟩, .string ⟨#[]⟩, .string ⟨#[]⟩, .string ⟨#[]⟩]⟩),
  (21, ⟨.int .i32, 1, 4, [.int .i32 0]⟩),
  (97, ⟨.int .u64, 1, 8, [.int .u64 0]⟩),
  (86, ⟨.slice 5, 1, 24, [.slice none 0 0]⟩),
  (110, ⟨.other, 1, 8, [.nilFunc]⟩),
  (112, ⟨.other, 1, 8, [.nilFunc]⟩),
  (85, ⟨.ptr, 1, 8, [.pointer none]⟩),
  (114, ⟨.ptr, 1, 8, [.pointer none]⟩),
  (118, ⟨.slice 3, 1, 24, [.slice none 0 0]⟩),
  (127, ⟨.other, 1, 8, [.pointer none]⟩),
  (135, ⟨.other, 1, 8, [.nilFunc]⟩),
  (137, ⟨.other, 1, 8, [.nilFunc]⟩),
  (141, ⟨.other, 1, 8, [.nilFunc]⟩),
  (140, ⟨.ptr, 1, 8, [.pointer none]⟩),
  (154, ⟨.int .i64, 1, 8, [.int .i64 0]⟩),
  (168, ⟨.int .u64, 1, 8, [.int .u64 0]⟩),
  (172, ⟨.ptr, 1, 8, [.pointer none]⟩),
  (176, ⟨.ptr, 1, 8, [.pointer none]⟩)
]
theorem ttH : ttOk Tryz.prog tt := by unfold ttOk; kernel_rfl
theorem ebH : entersAll Tryz.prog = true := by kernel_rfl
theorem mxH : Tryz.prog.follows .mixedOrders = true := by kernel_rfl

theorem fnOf {f : FuncId} {fn : Func} {c : Code} (pl : Plans) (hfn : Tryz.prog.funcs[f]? = some fn) (hc : fn.body = some c) (hok : codeOk pl fn.ntmps c = true) {args : List D} {Q : D → Prop} (hn : args.length ≤ fn.ntmps)
    (h : wpc Tryz.prog tt pl c ⟨enumD args 0, [], 0, ([], 0)⟩ fun e s => endK e (resK tt s fn.results.toList fun l => seeD (snapD 6 s.H (oneD l)) Q)) : Fn Tryz.prog f args Q := fn_of_wpc ttH ebH mxH hfn hc hok hn h
theorem goIn {f : FuncId} {fn : Func} {c : Code} {args : List D} {s : St} {K : D → St → Prop} (pl : Plans) (hfn : Tryz.prog.funcs[f]? = some fn) (hc : fn.body = some c) (hok : codeOk pl fn.ntmps c = true) (hn : args.length ≤ fn.ntmps)
    (h : wpc Tryz.prog tt pl c ⟨enumD args 0, s.H, s.nx, (upto s.nx 0, s.nx)⟩ fun e s' => endK e (resK tt s' fn.results.toList fun l => seeD (oneD l) fun d => K d ⟨s.F, s'.H, s'.nx, s.G⟩)) : CallVC Tryz.prog false f args s K :=
  CallVC.inline ttH ebH mxH hfn hc hok hn h
end Go.Proofs.YtooaeccmkgockaaGreatDoor.V
