/-
  Contracts with an object, and ones that only look, for this seat. No condition.
-/
import Derived.Test.YtfepckbhnghpeaaGreatTtK
import Derived.Test.YtfepckbhnghpeaaGreatK1
namespace Go.Proofs.YtfepckbhnghpeaaGreat.V
open Go.RowKit
theorem fnNOf {f : FuncId} {fn : Func} {c : Code} {args : List D} {Q : D → Prop} (pl : Plans) (hfn : Tryz.prog.funcs[f]? = some fn) (hc : fn.body = some c) (hok : codeOk pl fn.ntmps c = true) (hn : args.length ≤ fn.ntmps)
    (h : wpc Tryz.prog tt pl c ⟨enumD args 0, [], 0, ([], 0)⟩ fun e s => endK e (resK tt s fn.results.toList fun l => seeD (oneD l) fun d => newAns s d Q)) : FnN Tryz.prog f args Q :=
  fnN_of_wpc ttH ebH mxH hfn hc hok hn h
end Go.Proofs.YtfepckbhnghpeaaGreat.V
