/-
  The table of types of this seat, and what the program says of itself. Printed by a program (dev/tt.sh). No condition.
  Contracts with an object, and ones that only look, for this seat. No condition.
-/
import Derived.Test.YtfepckbhnghpeaaK1
import Derived.Test.YtfepckbhnghpeaaProg
namespace Go.Proofs.Ytfepckbhnghpeaa.V
open Go.RowKit

def tt : TT := [
  (33, ⟨.struct [(0, 24), (12, 26), (14, 27), (16, 25), (17, 3), (18, 30), (20, 30), (22, 31), (23, 3), (24, 3), (25, 3), (26, 3), (27, 3), (28, 3), (29, 3), (30, 3), (31, 3), (32, 3), (33, 3), (34, 3), (35, 3), (36, 3), (37, 3), (38, 3), (39, 3)], 40, 232, [.int .u8 0, .int .u8 0, .int .u8 0, .int .u8 0, .int .u8 0, .int .u8 0, .int .u8 0, .int .u8 0, .int .u8 0, .int .u8 0, .int .u8 0, .int .u8 0, .int .u32 0, .int .u32 0, .int .i64 0, .int .i64 0, .int .u32 0, .int .i64 0, .int .u64 0, .int .u64 0, .int .u64 0, .int .u64 0, .int .u16 0, .int .i64 0, .int .i64 0, .int .i64 0, .int .i64 0, .int .i64 0, .int .i64 0, .int .i64 0, .int .i64 0, .int .i64 0, .int .i64 0, .int .i64 0, .int .i64 0, .int .i64 0, .int .i64 0, .int .i64 0, .int .i64 0, .int .i64 0]⟩),
  (34, ⟨.slice 45, 1, 24, [.slice none 0 0]⟩),
  (4, ⟨.bool, 1, 1, [.bool false]⟩),
  (3, ⟨.int .i64, 1, 8, [.int .i64 0]⟩),
  (37, ⟨.ptr, 1, 8, [.pointer none]⟩),
  (45, ⟨.struct [(0, 3), (1, 3), (2, 41), (13, 43)], 28, 112, [.int .i64 0, .int .i64 0, .int .u8 0, .int .u16 0, .bool false, .bool false, .int .u16 0, .int .u8 0, .int .u8 0, .int .u32 0, .int .u32 0, .slice none 0 0, .slice none 0 0, .int .u16 0, .int .u8 0, .int .u8 0, .int .u8 0, .int .u8 0, .int .u8 0, .int .u8 0, .int .u32 0, .int .u8 0, .int .u8 0, .int .u8 0, .int .u8 0, .int .u8 0, .int .u8 0, .int .u32 0]⟩),
  (41, ⟨.struct [(0, 5), (1, 31), (2, 4), (3, 4), (4, 31), (5, 5), (6, 5), (7, 25), (8, 25), (9, 39), (10, 39)], 11, 72, [.int .u8 0, .int .u16 0, .bool false, .bool false, .int .u16 0, .int .u8 0, .int .u8 0, .int .u32 0, .int .u32 0, .slice none 0 0, .slice none 0 0]⟩),
  (43, ⟨.struct [(0, 31), (1, 23), (7, 25), (8, 23), (14, 25)], 15, 24, [.int .u16 0, .int .u8 0, .int .u8 0, .int .u8 0, .int .u8 0, .int .u8 0, .int .u8 0, .int .u32 0, .int .u8 0, .int .u8 0, .int .u8 0, .int .u8 0, .int .u8 0, .int .u8 0, .int .u32 0]⟩),
  (46, ⟨.slice 57, 1, 24, [.slice none 0 0]⟩),
  (57, ⟨.struct [(0, 3), (1, 39)], 2, 32, [.int .i64 0, .slice none 0 0]⟩),
  (39, ⟨.slice 5, 1, 24, [.slice none 0 0]⟩),
  (53, ⟨.struct [(0, 23), (6, 23), (12, 31), (13, 39)], 14, 40, [.int .u8 0, .int .u8 0, .int .u8 0, .int .u8 0, .int .u8 0, .int .u8 0, .int .u8 0, .int .u8 0, .int .u8 0, .int .u8 0, .int .u8 0, .int .u8 0, .int .u16 0, .slice none 0 0]⟩),
  (23, ⟨.array 6 5, 6, 6, [.int .u8 0, .int .u8 0, .int .u8 0, .int .u8 0, .int .u8 0, .int .u8 0]⟩),
  (24, ⟨.array 2 23, 12, 12, [.int .u8 0, .int .u8 0, .int .u8 0, .int .u8 0, .int .u8 0, .int .u8 0, .int .u8 0, .int .u8 0, .int .u8 0, .int .u8 0, .int .u8 0, .int .u8 0]⟩),
  (31, ⟨.int .u16, 1, 2, [.int .u16 0]⟩),
  (27, ⟨.array 2 3, 2, 16, [.int .i64 0, .int .i64 0]⟩),
  (65, ⟨.slice 3, 1, 24, [.slice none 0 0]⟩),
  (26, ⟨.array 2 25, 2, 8, [.int .u32 0, .int .u32 0]⟩),
  (25, ⟨.int .u32, 1, 4, [.int .u32 0]⟩),
  (5, ⟨.int .u8, 1, 1, [.int .u8 0]⟩),
  (72, ⟨.struct [(0, 33), (40, 69)], 41, 240, [.int .u8 0, .int .u8 0, .int .u8 0, .int .u8 0, .int .u8 0, .int .u8 0, .int .u8 0, .int .u8 0, .int .u8 0, .int .u8 0, .int .u8 0, .int .u8 0, .int .u32 0, .int .u32 0, .int .i64 0, .int .i64 0, .int .u32 0, .int .i64 0, .int .u64 0, .int .u64 0, .int .u64 0, .int .u64 0, .int .u16 0, .int .i64 0, .int .i64 0, .int .i64 0, .int .i64 0, .int .i64 0, .int .i64 0, .int .i64 0, .int .i64 0, .int .i64 0, .int .i64 0, .int .i64 0, .int .i64 0, .int .i64 0, .int .i64 0, .int .i64 0, .int .i64 0, .int .i64 0, .pointer none]⟩),
  (74, ⟨.int .i64, 1, 8, [.int .i64 0]⟩),
  (78, ⟨.struct [(0, 3), (1, 25)], 2, 16, [.int .i64 0, .int .u32 0]⟩),
  (69, ⟨.ptr, 1, 8, [.pointer none]⟩),
  (87, ⟨.slice 39, 1, 24, [.slice none 0 0]⟩),
  (93, ⟨.slice 78, 1, 24, [.slice none 0 0]⟩),
  (28, ⟨.int .u64, 1, 8, [.int .u64 0]⟩),
  (30, ⟨.struct [(0, 28), (1, 28)], 2, 16, [.int .u64 0, .int .u64 0]⟩),
  (106, ⟨.map 78 114, 1, 8, [.map none]⟩),
  (108, ⟨.struct [(0, 33), (40, 3), (41, 106), (42, 3)], 43, 256, [.int .u8 0, .int .u8 0, .int .u8 0, .int .u8 0, .int .u8 0, .int .u8 0, .int .u8 0, .int .u8 0, .int .u8 0, .int .u8 0, .int .u8 0, .int .u8 0, .int .u32 0, .int .u32 0, .int .i64 0, .int .i64 0, .int .u32 0, .int .i64 0, .int .u64 0, .int .u64 0, .int .u64 0, .int .u64 0, .int .u16 0, .int .i64 0, .int .i64 0, .int .i64 0, .int .i64 0, .int .i64 0, .int .i64 0, .int .i64 0, .int .i64 0, .int .i64 0, .int .i64 0, .int .i64 0, .int .i64 0, .int .i64 0, .int .i64 0, .int .i64 0, .int .i64 0, .int .i64 0, .int .i64 0, .map none, .int .i64 0]⟩),
  (114, ⟨.ptr, 1, 8, [.pointer none]⟩),
  (117, ⟨.struct [(0, 4), (1, 23), (7, 3), (8, 3), (9, 87)], 10, 48, [.bool false, .int .u8 0, .int .u8 0, .int .u8 0, .int .u8 0, .int .u8 0, .int .u8 0, .int .i64 0, .int .i64 0, .slice none 0 0]⟩),
  (132, ⟨.slice 31, 1, 24, [.slice none 0 0]⟩),
  (143, ⟨.slice 25, 1, 24, [.slice none 0 0]⟩),
  (131, ⟨.int .u64, 1, 8, [.int .u64 0]⟩),
  (137, ⟨.other, 1, 8, [.nilFunc]⟩),
  (142, ⟨.other, 1, 8, [.nilFunc]⟩),
  (147, ⟨.other, 1, 8, [.nilFunc]⟩),
  (153, ⟨.int .i64, 1, 8, [.int .i64 0]⟩),
  (161, ⟨.int .u64, 1, 8, [.int .u64 0]⟩),
  (165, ⟨.ptr, 1, 8, [.pointer none]⟩),
  (167, ⟨.ptr, 1, 8, [.pointer none]⟩)
]
theorem ttH : ttOk Try.prog tt := by unfold ttOk; kernel_rfl
theorem ebH : entersAll Try.prog = true := by kernel_rfl
theorem mxH : Try.prog.follows .mixedOrders = true := by kernel_rfl

theorem fnOf {f : FuncId} {fn : Func} {c : Code} (pl : Plans) (hfn : Try.prog.funcs[f]? = some fn) (hc : fn.body = some c) (hok : codeOk pl fn.ntmps c = true) {args : List D} {Q : D → Prop} (hn : args.length ≤ fn.ntmps)
    (h : wpc Try.prog tt pl c ⟨enumD args 0, [], 0, ([], 0)⟩ fun e s => endK e (resK tt s fn.results.toList fun l => seeD (snapD 6 s.H (oneD l)) Q)) : Fn Try.prog f args Q := fn_of_wpc ttH ebH mxH hfn hc hok hn h
theorem goIn {f : FuncId} {fn : Func} {c : Code} {args : List D} {s : St} {K : D → St → Prop} (pl : Plans) (hfn : Try.prog.funcs[f]? = some fn) (hc : fn.body = some c) (hok : codeOk pl fn.ntmps c = true) (hn : args.length ≤ fn.ntmps)
    (h : wpc Try.prog tt pl c ⟨enumD args 0, s.H, s.nx, (upto s.nx 0, s.nx)⟩ fun e s' => endK e (resK tt s' fn.results.toList fun l => seeD (oneD l) fun d => K d ⟨s.F, s'.H, s'.nx, s.G⟩)) : CallVC Try.prog false f args s K :=
  CallVC.inline ttH ebH mxH hfn hc hok hn h
end Go.Proofs.Ytfepckbhnghpeaa.V
namespace Go.Proofs.Ytfepckbhnghpeaa.V
open Go.RowKit
theorem fnNOf {f : FuncId} {fn : Func} {c : Code} {args : List D} {Q : D → Prop} (pl : Plans) (hfn : Try.prog.funcs[f]? = some fn) (hc : fn.body = some c) (hok : codeOk pl fn.ntmps c = true) (hn : args.length ≤ fn.ntmps)
    (h : wpc Try.prog tt pl c ⟨enumD args 0, [], 0, ([], 0)⟩ fun e s => endK e (resK tt s fn.results.toList fun l => seeD (oneD l) fun d => newAns s d Q)) : FnN Try.prog f args Q :=
  fnN_of_wpc ttH ebH mxH hfn hc hok hn h
end Go.Proofs.Ytfepckbhnghpeaa.V
