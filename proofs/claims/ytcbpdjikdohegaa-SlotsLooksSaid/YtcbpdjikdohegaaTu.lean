/-
  Contracts with an object, and ones that only look, for this seat. No condition.
-/
import Derived.Test.YtcbpdjikdohegaaTt
import Derived.Test.YtcbpdjikdohegaaVr
namespace Go.Proofs.Ytcbpdjikdohegaa.V
open Go.RowKit
/-- A contract with an object, from the body. -/
theorem obOf {f : FuncId} {fn : Func} {c : Code} {el : TypeId} {X rest : List D} {Q : D → List D → Prop} (pl : Plans) (hfn : Try.prog.funcs[f]? = some fn) (hc : fn.body = some c) (hok : codeOk pl fn.ntmps c = true) (hn : rest.length + 1 ≤ fn.ntmps)
    (h : wpc Try.prog tt pl c ⟨enumD (.loc 0 0 :: rest) 0, [(0, .cells el X)], 1, ([0], 1)⟩ fun e s' => endK e (resK tt s' fn.results.toList fun l => seeD (oneD l) fun d => obAt el s' fun X' => seeD (snapD 6 ((0, .dead) :: s'.H) d) fun d => seeL (X'.map (snapD 6 ((0, .dead) :: s'.H))) fun X' => Q d X')) : Ob Try.prog f el X rest Q :=
  ob_of_wpc ttH ebH mxH hfn hc hok hn h
/-- A contract that only looks, from the body. -/
theorem fnNOf {f : FuncId} {fn : Func} {c : Code} {args : List D} {Q : D → Prop} (pl : Plans) (hfn : Try.prog.funcs[f]? = some fn) (hc : fn.body = some c) (hok : codeOk pl fn.ntmps c = true) (hn : args.length ≤ fn.ntmps)
    (h : wpc Try.prog tt pl c ⟨enumD args 0, [], 0, ([], 0)⟩ fun e s => endK e (resK tt s fn.results.toList fun l => seeD (oneD l) fun d => newAns s d Q)) : FnN Try.prog f args Q :=
  fnN_of_wpc ttH ebH mxH hfn hc hok hn h
end Go.Proofs.Ytcbpdjikdohegaa.V
