/-
  The table of types of this seat, and what the program says of itself. Printed by a program (dev/tt.sh). No condition.
-/
import Derived.Test.YtfepckbhnghpeaaGreatK1
import Derived.Test.YtfepckbhnghpeaaGreatProg
namespace Go.Proofs.YtfepckbhnghpeaaGreat.V
open Go.RowKit

def tt : TT := [
  (33, ⟨.struct [(0, 24), (12, 26), (14, 27), (16, 25), (17, 3), (18, 30), (20, 30), (22, 31), (23, 3), (24, 3), (25, 3), (26, 3), (27, 3), (28, 3), (29, 3), (30, 3), (31, 3), (32, 3), (33, 3), (34, 3), (35, 3), (36, 3), (37, 3), (38, 3), (39, 3)], 40, 232, [.int .u8 0, .int .u8 0, .int .u8 0, .int .u8 0, .int .u8 0, .int .u8 0, .int .u8 0, .int .u8 0, .int .u8 0, .int .u8 0, .int .u8 0, .int .u8 0, .int .u32 0, .int .u32 0, .int .i64 0, .int .i64 0, .int .u32 0, .int .i64 0, .int .u64 0, .int .u64 0, .int .u64 0, .int .u64 0, .int .u16 0, .int .i64 0, .int .i64 0, .int .i64 0, .int .i64 0, .int .i64 0, .int .i64 0, .int .i64 0, .int .i64 0, .int .i64 0, .int .i64 0, .int .i64 0, .int .i64 0, .int .i64 0, .int .i64 0, .int .i64 0, .int .i64 0, .int .i64 0]⟩),
  (3, ⟨.int .i64, 1, 8, [.int .i64 0]⟩),
  (34, ⟨.slice 47, 1, 24, [.slice none 0 0]⟩),
  (4, ⟨.bool, 1, 1, [.bool false]⟩),
  (37, ⟨.ptr, 1, 8, [.pointer none]⟩),
  (47, ⟨.struct [(0, 3), (1, 3), (2, 43), (13, 45)], 28, 112, [.int .i64 0, .int .i64 0, .int .u8 0, .int .u16 0, .bool false, .bool false, .int .u16 0, .int .u8 0, .int .u8 0, .int .u32 0, .int .u32 0, .slice none 0 0, .slice none 0 0, .int .u16 0, .int .u8 0, .int .u8 0, .int .u8 0, .int .u8 0, .int .u8 0, .int .u8 0, .int .u32 0, .int .u8 0, .int .u8 0, .int .u8 0, .int .u8 0, .int .u8 0, .int .u8 0, .int .u32 0]⟩),
  (43, ⟨.struct [(0, 5), (1, 31), (2, 4), (3, 4), (4, 31), (5, 5), (6, 5), (7, 25), (8, 25), (9, 41), (10, 41)], 11, 72, [.int .u8 0, .int .u16 0, .bool false, .bool false, .int .u16 0, .int .u8 0, .int .u8 0, .int .u32 0, .int .u32 0, .slice none 0 0, .slice none 0 0]⟩),
  (39, ⟨.ptr, 1, 8, [.pointer none]⟩),
  (49, ⟨.slice 70, 1, 24, [.slice none 0 0]⟩),
  (45, ⟨.struct [(0, 31), (1, 23), (7, 25), (8, 23), (14, 25)], 15, 24, [.int .u16 0, .int .u8 0, .int .u8 0, .int .u8 0, .int .u8 0, .int .u8 0, .int .u8 0, .int .u32 0, .int .u8 0, .int .u8 0, .int .u8 0, .int .u8 0, .int .u8 0, .int .u8 0, .int .u32 0]⟩),
  (58, ⟨.struct [(0, 33), (40, 56)], 41, 240, [.int .u8 0, .int .u8 0, .int .u8 0, .int .u8 0, .int .u8 0, .int .u8 0, .int .u8 0, .int .u8 0, .int .u8 0, .int .u8 0, .int .u8 0, .int .u8 0, .int .u32 0, .int .u32 0, .int .i64 0, .int .i64 0, .int .u32 0, .int .i64 0, .int .u64 0, .int .u64 0, .int .u64 0, .int .u64 0, .int .u16 0, .int .i64 0, .int .i64 0, .int .i64 0, .int .i64 0, .int .i64 0, .int .i64 0, .int .i64 0, .int .i64 0, .int .i64 0, .int .i64 0, .int .i64 0, .int .i64 0, .int .i64 0, .int .i64 0, .int .i64 0, .int .i64 0, .int .i64 0, .pointer none]⟩),
  (56, ⟨.ptr, 1, 8, [.pointer none]⟩),
  (61, ⟨.struct [(0, 33), (40, 3), (41, 59)], 42, 264, [.int .u8 0, .int .u8 0, .int .u8 0, .int .u8 0, .int .u8 0, .int .u8 0, .int .u8 0, .int .u8 0, .int .u8 0, .int .u8 0, .int .u8 0, .int .u8 0, .int .u32 0, .int .u32 0, .int .i64 0, .int .i64 0, .int .u32 0, .int .i64 0, .int .u64 0, .int .u64 0, .int .u64 0, .int .u64 0, .int .u16 0, .int .i64 0, .int .i64 0, .int .i64 0, .int .i64 0, .int .i64 0, .int .i64 0, .int .i64 0, .int .i64 0, .int .i64 0, .int .i64 0, .int .i64 0, .int .i64 0, .int .i64 0, .int .i64 0, .int .i64 0, .int .i64 0, .int .i64 0, .int .i64 0, .slice none 0 0]⟩),
  (59, ⟨.slice 110, 1, 24, [.slice none 0 0]⟩),
  (24, ⟨.array 2 23, 12, 12, [.int .u8 0, .int .u8 0, .int .u8 0, .int .u8 0, .int .u8 0, .int .u8 0, .int .u8 0, .int .u8 0, .int .u8 0, .int .u8 0, .int .u8 0, .int .u8 0]⟩),
  (23, ⟨.array 6 5, 6, 6, [.int .u8 0, .int .u8 0, .int .u8 0, .int .u8 0, .int .u8 0, .int .u8 0]⟩),
  (27, ⟨.array 2 3, 2, 16, [.int .i64 0, .int .i64 0]⟩),
  (65, ⟨.slice 3, 1, 24, [.slice none 0 0]⟩),
  (26, ⟨.array 2 25, 2, 8, [.int .u32 0, .int .u32 0]⟩),
  (25, ⟨.int .u32, 1, 4, [.int .u32 0]⟩),
  (31, ⟨.int .u16, 1, 2, [.int .u16 0]⟩),
  (41, ⟨.slice 5, 1, 24, [.slice none 0 0]⟩),
  (70, ⟨.struct [(0, 3), (1, 41)], 2, 32, [.int .i64 0, .slice none 0 0]⟩),
  (5, ⟨.int .u8, 1, 1, [.int .u8 0]⟩),
  (74, ⟨.struct [(0, 33), (40, 71)], 41, 240, [.int .u8 0, .int .u8 0, .int .u8 0, .int .u8 0, .int .u8 0, .int .u8 0, .int .u8 0, .int .u8 0, .int .u8 0, .int .u8 0, .int .u8 0, .int .u8 0, .int .u32 0, .int .u32 0, .int .i64 0, .int .i64 0, .int .u32 0, .int .i64 0, .int .u64 0, .int .u64 0, .int .u64 0, .int .u64 0, .int .u16 0, .int .i64 0, .int .i64 0, .int .i64 0, .int .i64 0, .int .i64 0, .int .i64 0, .int .i64 0, .int .i64 0, .int .i64 0, .int .i64 0, .int .i64 0, .int .i64 0, .int .i64 0, .int .i64 0, .int .i64 0, .int .i64 0, .int .i64 0, .pointer none]⟩),
  (77, ⟨.int .i64, 1, 8, [.int .i64 0]⟩),
  (81, ⟨.struct [(0, 3), (1, 25)], 2, 16, [.int .i64 0, .int .u32 0]⟩),
  (71, ⟨.ptr, 1, 8, [.pointer none]⟩),
  (97, ⟨.slice 41, 1, 24, [.slice none 0 0]⟩),
  (102, ⟨.struct [(0, 23), (6, 23), (12, 31), (13, 41)], 14, 40, [.int .u8 0, .int .u8 0, .int .u8 0, .int .u8 0, .int .u8 0, .int .u8 0, .int .u8 0, .int .u8 0, .int .u8 0, .int .u8 0, .int .u8 0, .int .u8 0, .int .u16 0, .slice none 0 0]⟩),
  (106, ⟨.slice 81, 1, 24, [.slice none 0 0]⟩),
  (110, ⟨.struct [(0, 81), (2, 4), (3, 23), (9, 3), (10, 3), (11, 97)], 12, 64, [.int .i64 0, .int .u32 0, .bool false, .int .u8 0, .int .u8 0, .int .u8 0, .int .u8 0, .int .u8 0, .int .u8 0, .int .i64 0, .int .i64 0, .slice none 0 0]⟩),
  (28, ⟨.int .u64, 1, 8, [.int .u64 0]⟩),
  (30, ⟨.struct [(0, 28), (1, 28)], 2, 16, [.int .u64 0, .int .u64 0]⟩),
  (112, ⟨.map 81 121, 1, 8, [.map none]⟩),
  (114, ⟨.struct [(0, 33), (40, 3), (41, 112), (42, 3)], 43, 256, [.int .u8 0, .int .u8 0, .int .u8 0, .int .u8 0, .int .u8 0, .int .u8 0, .int .u8 0, .int .u8 0, .int .u8 0, .int .u8 0, .int .u8 0, .int .u8 0, .int .u32 0, .int .u32 0, .int .i64 0, .int .i64 0, .int .u32 0, .int .i64 0, .int .u64 0, .int .u64 0, .int .u64 0, .int .u64 0, .int .u16 0, .int .i64 0, .int .i64 0, .int .i64 0, .int .i64 0, .int .i64 0, .int .i64 0, .int .i64 0, .int .i64 0, .int .i64 0, .int .i64 0, .int .i64 0, .int .i64 0, .int .i64 0, .int .i64 0, .int .i64 0, .int .i64 0, .int .i64 0, .int .i64 0, .map none, .int .i64 0]⟩),
  (121, ⟨.ptr, 1, 8, [.pointer none]⟩),
  (124, ⟨.struct [(0, 4), (1, 23), (7, 3), (8, 3), (9, 97)], 10, 48, [.bool false, .int .u8 0, .int .u8 0, .int .u8 0, .int .u8 0, .int .u8 0, .int .u8 0, .int .i64 0, .int .i64 0, .slice none 0 0]⟩),
  (148, ⟨.slice 31, 1, 24, [.slice none 0 0]⟩),
  (159, ⟨.slice 25, 1, 24, [.slice none 0 0]⟩),
  (147, ⟨.int .u64, 1, 8, [.int .u64 0]⟩),
  (153, ⟨.other, 1, 8, [.nilFunc]⟩),
  (158, ⟨.other, 1, 8, [.nilFunc]⟩),
  (163, ⟨.other, 1, 8, [.nilFunc]⟩),
  (169, ⟨.int .i64, 1, 8, [.int .i64 0]⟩),
  (177, ⟨.int .u64, 1, 8, [.int .u64 0]⟩),
  (181, ⟨.ptr, 1, 8, [.pointer none]⟩),
  (183, ⟨.ptr, 1, 8, [.pointer none]⟩)
]
theorem ttH : ttOk Tryz.prog tt := by unfold ttOk; kernel_rfl
theorem ebH : entersAll Tryz.prog = true := by kernel_rfl
theorem mxH : Tryz.prog.follows .mixedOrders = true := by kernel_rfl

theorem fnOf {f : FuncId} {fn : Func} {c : Code} (pl : Plans) (hfn : Tryz.prog.funcs[f]? = some fn) (hc : fn.body = some c) (hok : codeOk pl fn.ntmps c = true) {args : List D} {Q : D → Prop} (hn : args.length ≤ fn.ntmps)
    (h : wpc Tryz.prog tt pl c ⟨enumD args 0, [], 0, ([], 0)⟩ fun e s => endK e (resK tt s fn.results.toList fun l => seeD (snapD 6 s.H (oneD l)) Q)) : Fn Tryz.prog f args Q := fn_of_wpc ttH ebH mxH hfn hc hok hn h
theorem goIn {f : FuncId} {fn : Func} {c : Code} {args : List D} {s : St} {K : D → St → Prop} (pl : Plans) (hfn : Tryz.prog.funcs[f]? = some fn) (hc : fn.body = some c) (hok : codeOk pl fn.ntmps c = true) (hn : args.length ≤ fn.ntmps)
    (h : wpc Tryz.prog tt pl c ⟨enumD args 0, s.H, s.nx, (upto s.nx 0, s.nx)⟩ fun e s' => endK e (resK tt s' fn.results.toList fun l => seeD (oneD l) fun d => K d ⟨s.F, s'.H, s'.nx, s.G⟩)) : CallVC Tryz.prog false f args s K :=
  CallVC.inline ttH ebH mxH hfn hc hok hn h
theorem freshIn {f : FuncId} {fn : Func} {c : Code} {args : List D} {s : St} {K : D → St → Prop} {g : Bool} (pl : Plans) (hfn : Tryz.prog.funcs[f]? = some fn) (hc : fn.body = some c) (hok : codeOk pl fn.ntmps c = true) (hn : args.length ≤ fn.ntmps) (hcut : args.all (cutOk 6 0) = true)
    (h : wpc Tryz.prog tt pl c ⟨enumD args 0, [], s.nx, ([], 0)⟩ fun e s' => endK e (resK tt s' fn.results.toList fun l => seeD (oneD l) fun d => freshOk s.nx s'.H d = true ∧ Nat.ble s.nx s'.nx = true ∧ K d ⟨s.F, s'.H ++ s.H, s'.nx, s.G⟩)) : CallVC Tryz.prog g f args s K :=
  CallVC.fresh ttH ebH mxH hfn hc hok hn hcut h
end Go.Proofs.YtfepckbhnghpeaaGreat.V
