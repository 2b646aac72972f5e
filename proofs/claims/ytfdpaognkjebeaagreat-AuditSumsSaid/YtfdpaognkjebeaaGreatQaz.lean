/-
  The audit's lives: it answers true in each world. Printed by a program (dev/chunk.sh). No condition.
-/
import Derived.Test.YtfdpaognkjebeaaGreatQab
import Derived.Test.YtfdpaognkjebeaaGreatQac
import Derived.Test.YtfdpaognkjebeaaGreatQad
import Derived.Test.YtfdpaognkjebeaaGreatQazr
namespace Go.Proofs.YtfdpaognkjebeaaGreat
open Go.RowKit
theorem qat53_ok : CallOk Tryz.prog (fun _ => True) qat53 := noMemo_ok
theorem qat69_ok : CallOk Tryz.prog (fun _ => True) qat69 := noMemo_ok
theorem qat52_ok : CallOk Tryz.prog (fun _ => True) qat52 := (memo_step law_zeros law_calls law_mixed qat53_ok (memo_step law_zeros law_calls law_mixed qat69_ok noMemo_ok qar69) qar53)
theorem qat196_ok : CallOk Tryz.prog (fun _ => True) qat196 := noMemo_ok
theorem qat212_ok : CallOk Tryz.prog (fun _ => True) qat212 := noMemo_ok
theorem qat195_ok : CallOk Tryz.prog (fun _ => True) qat195 := (memo_step law_zeros law_calls law_mixed qat196_ok (memo_step law_zeros law_calls law_mixed qat212_ok noMemo_ok qar212) qar196)
theorem qat337_ok : CallOk Tryz.prog (fun _ => True) qat337 := noMemo_ok
theorem qat436_ok : CallOk Tryz.prog (fun _ => True) qat436 := noMemo_ok
theorem qatop_ok : CallOk Tryz.prog (fun _ => True) qatop := (memo_step law_zeros law_calls law_mixed qat52_ok (memo_step law_zeros law_calls law_mixed qat195_ok (memo_step law_zeros law_calls law_mixed qat337_ok (memo_step law_zeros law_calls law_mixed qat436_ok noMemo_ok qar436) qar337) qar195) qar52)
theorem qacalls (w : World) : Calls Tryz.prog 17 #[] w fun e w' => e = .returned (.bool true) ∧ Below w.heap.size w w' := mem_true law_zeros law_calls law_mixed qatop_ok 100000 60 17 qaruns w
end Go.Proofs.YtfdpaognkjebeaaGreat
