/-
  The table of types of this seat, and what the program says of itself. Printed by a program (dev/tt.sh). No condition.
-/
import Derived.Test.YtgodclgcfpmloaaK1
import Derived.Test.YtgodclgcfpmloaaProg
namespace Go.Proofs.Ytgodclgcfpmloaa.V
open Go.RowKit

def tt : TT := [
  (22, ⟨.slice 32, 1, 24, [.slice none 0 0]⟩),
  (27, ⟨.struct [(0, 5), (1, 23), (2, 4), (3, 4), (4, 23), (5, 5), (6, 5), (7, 24), (8, 24), (9, 25), (10, 25)], 11, 72, [.int .u8 0, .int .u16 0, .bool false, .bool false, .int .u16 0, .int .u8 0, .int .u8 0, .int .u32 0, .int .u32 0, .slice none 0 0, .slice none 0 0]⟩),
  (4, ⟨.bool, 1, 1, [.bool false]⟩),
  (3, ⟨.int .i64, 1, 8, [.int .i64 0]⟩),
  (32, ⟨.struct [(0, 3), (1, 24), (2, 3)], 3, 24, [.int .i64 0, .int .u32 0, .int .i64 0]⟩),
  (35, ⟨.slice 53, 1, 24, [.slice none 0 0]⟩),
  (9, ⟨.str, 1, 16, [.string ⟨#[]⟩]⟩),
  (42, ⟨.int .i64, 1, 8, [.int .i64 0]⟩),
  (25, ⟨.slice 5, 1, 24, [.slice none 0 0]⟩),
  (50, ⟨.struct [(0, 27), (11, 4), (12, 3), (13, 3), (14, 4)], 15, 104, [.int .u8 0, .int .u16 0, .bool false, .bool false, .int .u16 0, .int .u8 0, .int .u8 0, .int .u32 0, .int .u32 0, .slice none 0 0, .slice none 0 0, .bool false, .int .i64 0, .int .i64 0, .bool false]⟩),
  (52, ⟨.slice 4, 1, 24, [.slice none 0 0]⟩),
  (24, ⟨.int .u32, 1, 4, [.int .u32 0]⟩),
  (53, ⟨.struct [(0, 3), (1, 24), (2, 3)], 3, 24, [.int .i64 0, .int .u32 0, .int .i64 0]⟩),
  (55, ⟨.slice 9, 1, 24, [.slice none 0 0]⟩),
  (62, ⟨.struct [(0, 55), (1, 3), (2, 3), (3, 4)], 4, 48, [.slice none 0 0, .int .i64 0, .int .i64 0, .bool false]⟩),
  (59, ⟨.ptr, 1, 8, [.pointer none]⟩),
  (20, ⟨.other, 1, 16, [.nilIface]⟩),
  (67, ⟨.struct [(0, 23), (1, 23), (2, 4), (3, 25)], 4, 32, [.int .u16 0, .int .u16 0, .bool false, .slice none 0 0]⟩),
  (23, ⟨.int .u16, 1, 2, [.int .u16 0]⟩),
  (69, ⟨.struct [(0, 23), (1, 23), (2, 24), (3, 24), (4, 5), (5, 5), (6, 23), (7, 23), (8, 25), (9, 25)], 10, 72, [.int .u16 0, .int .u16 0, .int .u32 0, .int .u32 0, .int .u8 0, .int .u8 0, .int .u16 0, .int .u16 0, .slice none 0 0, .slice none 0 0]⟩),
  (5, ⟨.int .u8, 1, 1, [.int .u8 0]⟩),
  (21, ⟨.int .i32, 1, 4, [.int .i32 0]⟩),
  (81, ⟨.array 11 9, 11, 176, [.string ⟨#[]⟩, .string ⟨#[]⟩, .string ⟨#[]⟩, .string ⟨#[]⟩, .string ⟨#[]⟩, .string ⟨#[]⟩, .string ⟨#[]⟩, .string ⟨#[]⟩, .string ⟨#[]⟩, .string ⟨#[]⟩, .string ⟨#[]⟩]⟩),
  (90, ⟨.slice 3, 1, 24, [.slice none 0 0]⟩),
  (92, ⟨.struct [(0, 5), (1, 5), (2, 24), (3, 25)], 4, 32, [.int .u8 0, .int .u8 0, .int .u32 0, .slice none 0 0]⟩),
  (99, ⟨.int .u64, 1, 8, [.int .u64 0]⟩),
  (102, ⟨.struct [(0, 100), (1, 25)], 2, 32, [.pointer none, .slice none 0 0]⟩),
  (63, ⟨.other, 1, 8, [.nilFunc]⟩),
  (122, ⟨.slice 25, 1, 24, [.slice none 0 0]⟩),
  (116, ⟨.int .u64, 1, 8, [.int .u64 0]⟩),
  (100, ⟨.ptr, 1, 8, [.pointer none]⟩),
  (117, ⟨.ptr, 1, 8, [.pointer none]⟩),
  (139, ⟨.slice 24, 1, 24, [.slice none 0 0]⟩),
  (138, ⟨.slice 23, 1, 24, [.slice none 0 0]⟩),
  (129, ⟨.other, 1, 8, [.pointer none]⟩)
]
theorem ttH : ttOk Try.prog tt := by unfold ttOk; kernel_rfl
theorem ebH : entersAll Try.prog = true := by kernel_rfl
theorem mxH : Try.prog.follows .mixedOrders = true := by kernel_rfl

theorem fnOf {f : FuncId} {fn : Func} {c : Code} (pl : Plans) (hfn : Try.prog.funcs[f]? = some fn) (hc : fn.body = some c) (hok : codeOk pl fn.ntmps c = true) {args : List D} {Q : D → Prop} (hn : args.length ≤ fn.ntmps)
    (h : wpc Try.prog tt pl c ⟨enumD args 0, [], 0, ([], 0)⟩ fun e s => endK e (resK tt s fn.results.toList fun l => seeD (snapD 6 s.H (oneD l)) Q)) : Fn Try.prog f args Q := fn_of_wpc ttH ebH mxH hfn hc hok hn h
theorem goIn {f : FuncId} {fn : Func} {c : Code} {args : List D} {s : St} {K : D → St → Prop} (pl : Plans) (hfn : Try.prog.funcs[f]? = some fn) (hc : fn.body = some c) (hok : codeOk pl fn.ntmps c = true) (hn : args.length ≤ fn.ntmps)
    (h : wpc Try.prog tt pl c ⟨enumD args 0, s.H, s.nx, (upto s.nx 0, s.nx)⟩ fun e s' => endK e (resK tt s' fn.results.toList fun l => seeD (oneD l) fun d => K d ⟨s.F, s'.H, s'.nx, s.G⟩)) : CallVC Try.prog false f args s K :=
  CallVC.inline ttH ebH mxH hfn hc hok hn h
end Go.Proofs.Ytgodclgcfpmloaa.V
