/-
  The table of types of this seat, and what the program says of itself. Printed by a program (dev/tt.sh). No condition.
-/
import Derived.Test.YtjgihniedhmpeaaK1
import Derived.Test.YtjgihniedhmpeaaProg
namespace Go.Proofs.Ytjgihniedhmpeaa.V
open Go.RowKit

def tt : TT := [
  (33, ⟨.struct [(0, 24), (12, 26), (14, 27), (16, 25), (17, 3), (18, 30), (20, 30), (22, 31), (23, 3), (24, 3), (25, 3), (26, 3), (27, 3), (28, 3), (29, 3), (30, 3), (31, 3), (32, 3), (33, 3), (34, 3), (35, 3), (36, 3), (37, 3), (38, 3), (39, 3)], 40, 232, [.int .u8 0, .int .u8 0, .int .u8 0, .int .u8 0, .int .u8 0, .int .u8 0, .int .u8 0, .int .u8 0, .int .u8 0, .int .u8 0, .int .u8 0, .int .u8 0, .int .u32 0, .int .u32 0, .int .i64 0, .int .i64 0, .int .u32 0, .int .i64 0, .int .u64 0, .int .u64 0, .int .u64 0, .int .u64 0, .int .u16 0, .int .i64 0, .int .i64 0, .int .i64 0, .int .i64 0, .int .i64 0, .int .i64 0, .int .i64 0, .int .i64 0, .int .i64 0, .int .i64 0, .int .i64 0, .int .i64 0, .int .i64 0, .int .i64 0, .int .i64 0, .int .i64 0, .int .i64 0]⟩),
  (34, ⟨.slice 42, 1, 24, [.slice none 0 0]⟩),
  (3, ⟨.int .i64, 1, 8, [.int .i64 0]⟩),
  (35, ⟨.ptr, 1, 8, [.pointer none]⟩),
  (37, ⟨.map 39 47, 1, 8, [.map none]⟩),
  (42, ⟨.struct [(0, 3), (1, 39), (3, 23), (9, 40)], 10, 56, [.int .i64 0, .int .i64 0, .int .u32 0, .int .u8 0, .int .u8 0, .int .u8 0, .int .u8 0, .int .u8 0, .int .u8 0, .slice none 0 0]⟩),
  (40, ⟨.slice 5, 1, 24, [.slice none 0 0]⟩),
  (39, ⟨.struct [(0, 3), (1, 25)], 2, 16, [.int .i64 0, .int .u32 0]⟩),
  (44, ⟨.int .i64, 1, 8, [.int .i64 0]⟩),
  (47, ⟨.slice 40, 1, 24, [.slice none 0 0]⟩),
  (4, ⟨.bool, 1, 1, [.bool false]⟩),
  (23, ⟨.array 6 5, 6, 6, [.int .u8 0, .int .u8 0, .int .u8 0, .int .u8 0, .int .u8 0, .int .u8 0]⟩),
  (51, ⟨.slice 39, 1, 24, [.slice none 0 0]⟩),
  (57, ⟨.ptr, 1, 8, [.pointer none]⟩),
  (66, ⟨.struct [(0, 33), (40, 3), (41, 64)], 42, 264, [.int .u8 0, .int .u8 0, .int .u8 0, .int .u8 0, .int .u8 0, .int .u8 0, .int .u8 0, .int .u8 0, .int .u8 0, .int .u8 0, .int .u8 0, .int .u8 0, .int .u32 0, .int .u32 0, .int .i64 0, .int .i64 0, .int .u32 0, .int .i64 0, .int .u64 0, .int .u64 0, .int .u64 0, .int .u64 0, .int .u16 0, .int .i64 0, .int .i64 0, .int .i64 0, .int .i64 0, .int .i64 0, .int .i64 0, .int .i64 0, .int .i64 0, .int .i64 0, .int .i64 0, .int .i64 0, .int .i64 0, .int .i64 0, .int .i64 0, .int .i64 0, .int .i64 0, .int .i64 0, .int .i64 0, .slice none 0 0]⟩),
  (64, ⟨.slice 82, 1, 24, [.slice none 0 0]⟩),
  (69, ⟨.map 39 72, 1, 8, [.map none]⟩),
  (71, ⟨.struct [(0, 33), (40, 3), (41, 69), (42, 3)], 43, 256, [.int .u8 0, .int .u8 0, .int .u8 0, .int .u8 0, .int .u8 0, .int .u8 0, .int .u8 0, .int .u8 0, .int .u8 0, .int .u8 0, .int .u8 0, .int .u8 0, .int .u32 0, .int .u32 0, .int .i64 0, .int .i64 0, .int .u32 0, .int .i64 0, .int .u64 0, .int .u64 0, .int .u64 0, .int .u64 0, .int .u16 0, .int .i64 0, .int .i64 0, .int .i64 0, .int .i64 0, .int .i64 0, .int .i64 0, .int .i64 0, .int .i64 0, .int .i64 0, .int .i64 0, .int .i64 0, .int .i64 0, .int .i64 0, .int .i64 0, .int .i64 0, .int .i64 0, .int .i64 0, .int .i64 0, .map none, .int .i64 0]⟩),
  (72, ⟨.ptr, 1, 8, [.pointer none]⟩),
  (75, ⟨.struct [(0, 4), (1, 23), (7, 3), (8, 3), (9, 47)], 10, 48, [.bool false, .int .u8 0, .int .u8 0, .int .u8 0, .int .u8 0, .int .u8 0, .int .u8 0, .int .i64 0, .int .i64 0, .slice none 0 0]⟩),
  (5, ⟨.int .u8, 1, 1, [.int .u8 0]⟩),
  (82, ⟨.struct [(0, 39), (2, 4), (3, 23), (9, 3), (10, 3), (11, 47)], 12, 64, [.int .i64 0, .int .u32 0, .bool false, .int .u8 0, .int .u8 0, .int .u8 0, .int .u8 0, .int .u8 0, .int .u8 0, .int .i64 0, .int .i64 0, .slice none 0 0]⟩),
  (88, ⟨.other, 1, 8, [.nilFunc]⟩),
  (93, ⟨.other, 1, 8, [.nilFunc]⟩),
  (25, ⟨.int .u32, 1, 4, [.int .u32 0]⟩),
  (97, ⟨.slice 3, 1, 24, [.slice none 0 0]⟩),
  (103, ⟨.int .u64, 1, 8, [.int .u64 0]⟩),
  (96, ⟨.other, 1, 8, [.nilFunc]⟩),
  (105, ⟨.int .i64, 1, 8, [.int .i64 0]⟩),
  (114, ⟨.int .u64, 1, 8, [.int .u64 0]⟩),
  (118, ⟨.ptr, 1, 8, [.pointer none]⟩),
  (120, ⟨.ptr, 1, 8, [.pointer none]⟩),
  (24, ⟨.array 2 23, 12, 12, [.int .u8 0, .int .u8 0, .int .u8 0, .int .u8 0, .int .u8 0, .int .u8 0, .int .u8 0, .int .u8 0, .int .u8 0, .int .u8 0, .int .u8 0, .int .u8 0]⟩),
  (26, ⟨.array 2 25, 2, 8, [.int .u32 0, .int .u32 0]⟩),
  (27, ⟨.array 2 3, 2, 16, [.int .i64 0, .int .i64 0]⟩),
  (30, ⟨.struct [(0, 28), (1, 28)], 2, 16, [.int .u64 0, .int .u64 0]⟩),
  (31, ⟨.int .u16, 1, 2, [.int .u16 0]⟩),
  (28, ⟨.int .u64, 1, 8, [.int .u64 0]⟩)
]
theorem ttH : ttOk Try.prog tt := by unfold ttOk; kernel_rfl
theorem ebH : entersAll Try.prog = true := by kernel_rfl
theorem mxH : Try.prog.follows .mixedOrders = true := by kernel_rfl

theorem fnOf {f : FuncId} {fn : Func} {c : Code} (pl : Plans) (hfn : Try.prog.funcs[f]? = some fn) (hc : fn.body = some c) (hok : codeOk pl fn.ntmps c = true) {args : List D} {Q : D → Prop} (hn : args.length ≤ fn.ntmps)
    (h : wpc Try.prog tt pl c ⟨enumD args 0, [], 0, ([], 0)⟩ fun e s => endK e (resK tt s fn.results.toList fun l => seeD (snapD 6 s.H (oneD l)) Q)) : Fn Try.prog f args Q := fn_of_wpc ttH ebH mxH hfn hc hok hn h
theorem goIn {f : FuncId} {fn : Func} {c : Code} {args : List D} {s : St} {K : D → St → Prop} (pl : Plans) (hfn : Try.prog.funcs[f]? = some fn) (hc : fn.body = some c) (hok : codeOk pl fn.ntmps c = true) (hn : args.length ≤ fn.ntmps)
    (h : wpc Try.prog tt pl c ⟨enumD args 0, s.H, s.nx, (upto s.nx 0, s.nx)⟩ fun e s' => endK e (resK tt s' fn.results.toList fun l => seeD (oneD l) fun d => K d ⟨s.F, s'.H, s'.nx, s.G⟩)) : CallVC Try.prog false f args s K :=
  CallVC.inline ttH ebH mxH hfn hc hok hn h
end Go.Proofs.Ytjgihniedhmpeaa.V
