/-
  The plane's lives: it answers true in each world. Printed by a program (dev/chunk.sh). No condition.
-/
import Derived.Test.YtpbijafbfpjofaaGreatQpb
import Derived.Test.YtpbijafbfpjofaaGreatQpc
import Derived.Test.YtpbijafbfpjofaaGreatQpd
import Derived.Test.YtpbijafbfpjofaaGreatQpe
import Derived.Test.YtpbijafbfpjofaaGreatQpzr
namespace Go.Proofs.YtpbijafbfpjofaaGreat
open Go.RowKit
theorem qt95_ok : CallOk Tryz.prog (fun _ => True) qt95 := noMemo_ok
theorem qt94_ok : CallOk Tryz.prog (fun _ => True) qt94 := (memo_step law_zeros law_calls law_mixed qt95_ok noMemo_ok qr95)
theorem qt32_ok : CallOk Tryz.prog (fun _ => True) qt32 := (memo_step law_zeros law_calls law_mixed qt94_ok noMemo_ok qr94)
theorem qt246_ok : CallOk Tryz.prog (fun _ => True) qt246 := noMemo_ok
theorem qt238_ok : CallOk Tryz.prog (fun _ => True) qt238 := (memo_step law_zeros law_calls law_mixed qt246_ok noMemo_ok qr246)
theorem qt228_ok : CallOk Tryz.prog (fun _ => True) qt228 := (memo_step law_zeros law_calls law_mixed qt238_ok noMemo_ok qr238)
theorem qt438_ok : CallOk Tryz.prog (fun _ => True) qt438 := noMemo_ok
theorem qt507_ok : CallOk Tryz.prog (fun _ => True) qt507 := noMemo_ok
theorem qt681_ok : CallOk Tryz.prog (fun _ => True) qt681 := noMemo_ok
theorem qt612_ok : CallOk Tryz.prog (fun _ => True) qt612 := (memo_step law_zeros law_calls law_mixed qt681_ok noMemo_ok qr681)
theorem qt437_ok : CallOk Tryz.prog (fun _ => True) qt437 := (memo_step law_zeros law_calls law_mixed qt438_ok (memo_step law_zeros law_calls law_mixed qt507_ok (memo_step law_zeros law_calls law_mixed qt612_ok noMemo_ok qr612) qr507) qr438)
theorem qt375_ok : CallOk Tryz.prog (fun _ => True) qt375 := (memo_step law_zeros law_calls law_mixed qt437_ok noMemo_ok qr437)
theorem qtop_ok : CallOk Tryz.prog (fun _ => True) qtop := (memo_step law_zeros law_calls law_mixed qt32_ok (memo_step law_zeros law_calls law_mixed qt228_ok (memo_step law_zeros law_calls law_mixed qt375_ok noMemo_ok qr375) qr228) qr32)
theorem qcalls (w : World) : Calls Tryz.prog 13 #[] w fun e w' => e = .returned (.bool true) ∧ Below w.heap.size w w' := mem_true law_zeros law_calls law_mixed qtop_ok 100000 60 13 qruns w
end Go.Proofs.YtpbijafbfpjofaaGreat
