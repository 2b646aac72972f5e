/-
  The table of types of this seat, and what the program says of itself. Printed by a program (dev/tt.sh). No condition.
-/
import Derived.Test.YtfghccppoilfhaaK1
import Derived.Test.YtfghccppoilfhaaProg
namespace Go.Proofs.Ytfghccppoilfhaa.V
open Go.RowKit

def tt : TT := [
  (22, ⟨.slice 37, 1, 24, [.slice none 0 0]⟩),
  (3, ⟨.int .i64, 1, 8, [.int .i64 0]⟩),
  (23, ⟨.slice 38, 1, 24, [.slice none 0 0]⟩),
  (4, ⟨.bool, 1, 1, [.bool false]⟩),
  (9, ⟨.str, 1, 16, [.string ⟨#[]⟩]⟩),
  (30, ⟨.int .i64, 1, 8, [.int .i64 0]⟩),
  (37, ⟨.struct [(0, 3), (1, 35), (2, 3)], 3, 24, [.int .i64 0, .int .u32 0, .int .i64 0]⟩),
  (35, ⟨.int .u32, 1, 4, [.int .u32 0]⟩),
  (38, ⟨.struct [(0, 3), (1, 35), (2, 3)], 3, 24, [.int .i64 0, .int .u32 0, .int .i64 0]⟩),
  (40, ⟨.slice 9, 1, 24, [.slice none 0 0]⟩),
  (46, ⟨.struct [(0, 5), (1, 43), (2, 4), (3, 4), (4, 43), (5, 5), (6, 5), (7, 35), (8, 35), (9, 44), (10, 44)], 11, 72, [.int .u8 0, .int .u16 0, .bool false, .bool false, .int .u16 0, .int .u8 0, .int .u8 0, .int .u32 0, .int .u32 0, .slice none 0 0, .slice none 0 0]⟩),
  (51, ⟨.struct [(0, 40), (1, 3), (2, 3), (3, 4)], 4, 48, [.slice none 0 0, .int .i64 0, .int .i64 0, .bool false]⟩),
  (48, ⟨.ptr, 1, 8, [.pointer none]⟩),
  (57, ⟨.struct [(0, 46), (11, 4), (12, 3), (13, 3), (14, 4)], 15, 104, [.int .u8 0, .int .u16 0, .bool false, .bool false, .int .u16 0, .int .u8 0, .int .u8 0, .int .u32 0, .int .u32 0, .slice none 0 0, .slice none 0 0, .bool false, .int .i64 0, .int .i64 0, .bool false]⟩),
  (59, ⟨.slice 4, 1, 24, [.slice none 0 0]⟩),
  (5, ⟨.int .u8, 1, 1, [.int .u8 0]⟩),
  (44, ⟨.slice 5, 1, 24, [.slice none 0 0]⟩),
  (21, ⟨.int .i32, 1, 4, [.int .i32 0]⟩),
  (61, ⟨.array 11 9, 11, 176, [.string ⟨#[]⟩, .string ⟨#[]⟩, .string ⟨#[]⟩, .string ⟨#[]⟩, .string ⟨#[]⟩, .string ⟨#[]⟩, .string ⟨#[]⟩, .string ⟨#[]⟩, .string ⟨#[]⟩, .string ⟨#[]⟩, .string ⟨#[]⟩]⟩),
  (20, ⟨.other, 1, 16, [.nilIface]⟩),
  (66, ⟨.struct [(0, 43), (1, 43), (2, 4), (3, 44)], 4, 32, [.int .u16 0, .int .u16 0, .bool false, .slice none 0 0]⟩),
  (43, ⟨.int .u16, 1, 2, [.int .u16 0]⟩),
  (68, ⟨.struct [(0, 43), (1, 43), (2, 35), (3, 35), (4, 5), (5, 5), (6, 43), (7, 43), (8, 44), (9, 44)], 10, 72, [.int .u16 0, .int .u16 0, .int .u32 0, .int .u32 0, .int .u8 0, .int .u8 0, .int .u16 0, .int .u16 0, .slice none 0 0, .slice none 0 0]⟩),
  (72, ⟨.slice 3, 1, 24, [.slice none 0 0]⟩),
  (75, ⟨.struct [(0, 73), (1, 44)], 2, 32, [.pointer none, .slice none 0 0]⟩),
  (52, ⟨.other, 1, 8, [.nilFunc]⟩),
  (73, ⟨.ptr, 1, 8, [.pointer none]⟩),
  (85, ⟨.ptr, 1, 8, [.pointer none]⟩),
  (87, ⟨.struct [(0, 5), (1, 5), (2, 35), (3, 44)], 4, 32, [.int .u8 0, .int .u8 0, .int .u32 0, .slice none 0 0]⟩),
  (94, ⟨.int .u64, 1, 8, [.int .u64 0]⟩),
  (99, ⟨.other, 1, 8, [.pointer none]⟩),
  (115, ⟨.slice 44, 1, 24, [.slice none 0 0]⟩),
  (110, ⟨.int .u64, 1, 8, [.int .u64 0]⟩),
  (125, ⟨.slice 35, 1, 24, [.slice none 0 0]⟩),
  (124, ⟨.slice 43, 1, 24, [.slice none 0 0]⟩)
]
theorem ttH : ttOk Try.prog tt := by unfold ttOk; kernel_rfl
theorem ebH : entersAll Try.prog = true := by kernel_rfl
theorem mxH : Try.prog.follows .mixedOrders = true := by kernel_rfl

theorem fnOf {f : FuncId} {fn : Func} {c : Code} (pl : Plans) (hfn : Try.prog.funcs[f]? = some fn) (hc : fn.body = some c) (hok : codeOk pl fn.ntmps c = true) {args : List D} {Q : D → Prop} (hn : args.length ≤ fn.ntmps)
    (h : wpc Try.prog tt pl c ⟨enumD args 0, [], 0, ([], 0)⟩ fun e s => endK e (resK tt s fn.results.toList fun l => seeD (snapD 6 s.H (oneD l)) Q)) : Fn Try.prog f args Q := fn_of_wpc ttH ebH mxH hfn hc hok hn h
theorem goIn {f : FuncId} {fn : Func} {c : Code} {args : List D} {s : St} {K : D → St → Prop} (pl : Plans) (hfn : Try.prog.funcs[f]? = some fn) (hc : fn.body = some c) (hok : codeOk pl fn.ntmps c = true) (hn : args.length ≤ fn.ntmps)
    (h : wpc Try.prog tt pl c ⟨enumD args 0, s.H, s.nx, (upto s.nx 0, s.nx)⟩ fun e s' => endK e (resK tt s' fn.results.toList fun l => seeD (oneD l) fun d => K d ⟨s.F, s'.H, s'.nx, s.G⟩)) : CallVC Try.prog false f args s K :=
  CallVC.inline ttH ebH mxH hfn hc hok hn h
end Go.Proofs.Ytfghccppoilfhaa.V
