/-
  The balancer's lives: it answers true in each world. Printed by a program (dev/chunk.sh). No condition.
-/
import Derived.Test.YtfdpaognkjebeaaGreatQhb
import Derived.Test.YtfdpaognkjebeaaGreatQhc
import Derived.Test.YtfdpaognkjebeaaGreatQhd
import Derived.Test.YtfdpaognkjebeaaGreatQhzr
namespace Go.Proofs.YtfdpaognkjebeaaGreat
open Go.RowKit
theorem qht53_ok : CallOk Tryz.prog (fun _ => True) qht53 := noMemo_ok
theorem qht69_ok : CallOk Tryz.prog (fun _ => True) qht69 := noMemo_ok
theorem qht52_ok : CallOk Tryz.prog (fun _ => True) qht52 := (memo_step law_zeros law_calls law_mixed qht53_ok (memo_step law_zeros law_calls law_mixed qht69_ok noMemo_ok qhr69) qhr53)
theorem qht196_ok : CallOk Tryz.prog (fun _ => True) qht196 := noMemo_ok
theorem qht212_ok : CallOk Tryz.prog (fun _ => True) qht212 := noMemo_ok
theorem qht195_ok : CallOk Tryz.prog (fun _ => True) qht195 := (memo_step law_zeros law_calls law_mixed qht196_ok (memo_step law_zeros law_calls law_mixed qht212_ok noMemo_ok qhr212) qhr196)
theorem qht2_ok : CallOk Tryz.prog (fun _ => True) qht2 := (memo_step law_zeros law_calls law_mixed qht52_ok (memo_step law_zeros law_calls law_mixed qht195_ok noMemo_ok qhr195) qhr52)
theorem qht424_ok : CallOk Tryz.prog (fun _ => True) qht424 := noMemo_ok
theorem qhtop_ok : CallOk Tryz.prog (fun _ => True) qhtop := (memo_step law_zeros law_calls law_mixed qht2_ok (memo_step law_zeros law_calls law_mixed qht424_ok noMemo_ok qhr424) qhr2)
theorem qhcalls (w : World) : Calls Tryz.prog 13 #[] w fun e w' => e = .returned (.bool true) ∧ Below w.heap.size w w' := mem_true law_zeros law_calls law_mixed qhtop_ok 100000 60 13 qhruns w
end Go.Proofs.YtfdpaognkjebeaaGreat
