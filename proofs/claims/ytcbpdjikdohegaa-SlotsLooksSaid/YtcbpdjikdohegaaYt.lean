/-
  Keys and rows of deeds that come in. No condition beyond the reading.
-/
import Derived.Test.YtcbpdjikdohegaaLaw
import Derived.Test.YtcbpdjikdohegaaReads
import Derived.Test.YtcbpdjikdohegaaYs
namespace Go.Proofs.Ytcbpdjikdohegaa.V
open Go.ChangeShapes Go.WideShapes Go.ChangeAt Go.RowKit

def deV (x : De) : List Value := [.int .i64 x.kind, .int .u32 x.f.src, .int .u32 x.f.dst, .int .u16 x.f.sp, .int .u16 x.f.dp, .int .u8 x.f.pr, .int .i64 x.v]
instance : Inhabited De := ⟨⟨0, fl0, 0⟩⟩

section
variable {H : Type} {enc : TypeId × Value → H} {W : World}
theorem w_u32 {n : Int} (h : (Lit.int .u32 n).wf = true) : 0 ≤ n ∧ n < 4294967296 := by
  unfold Lit.wf at h; simp [IntKind.min, IntKind.max, IntKind.bits, IntKind.signed] at h; omega
theorem w_u16 {n : Int} (h : (Lit.int .u16 n).wf = true) : 0 ≤ n ∧ n < 65536 := by
  unfold Lit.wf at h; simp [IntKind.min, IntKind.max, IntKind.bits, IntKind.signed] at h; omega
theorem w_u8 {n : Int} (h : (Lit.int .u8 n).wf = true) : 0 ≤ n ∧ n < 256 := by
  unfold Lit.wf at h; simp [IntKind.min, IntKind.max, IntKind.bits, IntKind.signed] at h; omega
theorem de_elem {fuel : Nat} {cs : List Value} {x : DataW H × List MemPlace} (h : DataW.trod enc Try.prog W 0 (fun _ => true) true fuel 35 cs = some x) :
    ∃ d : De, DeOk d ∧ ∀ (j : Nat) (c : Value), (deV d)[j]? = some c → cs[j]? = some c := by
  obtain ⟨z, hz⟩ := trod_kinds (d := 4) [.i64, .u32, .u32, .u16, .u16, .u8, .i64] (by kernel_rfl) h
  refine ⟨⟨z 0, ⟨z 1, z 2, z 3, z 4, z 5⟩, z 6⟩, ⟨⟨w_u32 (hz 1 _ rfl).2, w_u32 (hz 2 _ rfl).2, w_u16 (hz 3 _ rfl).2, w_u16 (hz 4 _ rfl).2, w_u8 (hz 5 _ rfl).2⟩⟩, ?_⟩
  intro j c hj
  match j, hj with
  | 0, hj => simp [deV] at hj; subst hj; exact (hz 0 _ rfl).1
  | 1, hj => simp [deV] at hj; subst hj; exact (hz 1 _ rfl).1
  | 2, hj => simp [deV] at hj; subst hj; exact (hz 2 _ rfl).1
  | 3, hj => simp [deV] at hj; subst hj; exact (hz 3 _ rfl).1
  | 4, hj => simp [deV] at hj; subst hj; exact (hz 4 _ rfl).1
  | 5, hj => simp [deV] at hj; subst hj; exact (hz 5 _ rfl).1
  | 6, hj => simp [deV] at hj; subst hj; exact (hz 6 _ rfl).1
  | n + 7, hj => simp [deV] at hj
set_option maxRecDepth 100000 in
theorem key_read {base : Nat} {v : Value} {d : DataW H} {ps : List MemPlace} (hval : Value.okWide Try.prog W .any base 24 v) (h : DataW.Trod enc Try.prog W 0 (fun _ => true) true 24 v d ps) :
    ∃ x : Int × Int, Rep (baseCtx W fun b => b < W.heap.size) (.agg [u64D x.1, u64D x.2]) v ∧ True := by
  obtain ⟨cs, rfl, hn⟩ := okWide_struct Try.underlying24 hval
  obtain ⟨fuel, hf⟩ := h
  have hn2 : cs.size = 2 := hn.trans (by kernel_rfl)
  simp only [Value.cells] at hf
  obtain ⟨z, hz⟩ := trod_kinds (d := 3) [.u64, .u64] (by kernel_rfl) hf
  refine ⟨(z 0, z 1), .agg (by simpa using hn2) fun j d u hd hu => ?_, trivial⟩
  rw [← Array.getElem?_toList] at hu
  match j, hd, hu with
  | 0, hd, hu => simp only [List.getElem?_cons_zero, Option.some.injEq] at hd; subst hd; rw [(hz 0 _ rfl).1] at hu; injection hu with hu; subst hu; exact .v
  | 1, hd, hu => simp only [List.getElem?_cons_succ, List.getElem?_cons_zero, Option.some.injEq] at hd; subst hd; rw [(hz 1 _ rfl).1] at hu; injection hu with hu; subst hu; exact .v
  | n + 2, hd, _ => simp at hd
end
end Go.Proofs.Ytcbpdjikdohegaa.V
