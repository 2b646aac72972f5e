/-
  Keys and rows of deeds that come in. No condition beyond the reading.
-/
import Derived.Test.YtcbpdjikdohegaaGreatLaw
import Derived.Test.YtcbpdjikdohegaaGreatReads
import Derived.Test.YtcbpdjikdohegaaGreatRcK
namespace Go.Proofs.YtcbpdjikdohegaaGreat.V
open Go.ChangeShapes Go.WideShapes Go.ChangeAt Go.RowKit

def tdV (x : Tde) : List Value := .int .i64 x.kind :: enV x.e ++ [.int .i64 x.n]
instance : Inhabited Tde := ⟨⟨0, en0, 0⟩⟩

section
variable {H : Type} {enc : TypeId × Value → H} {W : World}
theorem w_u32 {n : Int} (h : (Lit.int .u32 n).wf = true) : 0 ≤ n ∧ n < 4294967296 := by
  unfold Lit.wf at h; simp [IntKind.min, IntKind.max, IntKind.bits, IntKind.signed] at h; omega
theorem w_u16 {n : Int} (h : (Lit.int .u16 n).wf = true) : 0 ≤ n ∧ n < 65536 := by
  unfold Lit.wf at h; simp [IntKind.min, IntKind.max, IntKind.bits, IntKind.signed] at h; omega
theorem w_u8 {n : Int} (h : (Lit.int .u8 n).wf = true) : 0 ≤ n ∧ n < 256 := by
  unfold Lit.wf at h; simp [IntKind.min, IntKind.max, IntKind.bits, IntKind.signed] at h; omega
theorem td_elem {fuel : Nat} {cs : List Value} {x : DataW H × List MemPlace} (h : DataW.trod enc Tryz.prog W 0 (fun _ => true) true fuel 41 cs = some x) :
    ∃ d : Tde, TdOk d ∧ ∀ (j : Nat) (c : Value), (tdV d)[j]? = some c → cs[j]? = some c := by
  obtain ⟨z, hz⟩ := trod_kinds (d := 4) [.i64, .u32, .u32, .u16, .u16, .u8, .i64, .i64, .i64] (by kernel_rfl) h
  obtain ⟨v9, f9, y9, h9, g9⟩ := trod_cell 4 _ 4 9 _ _ _ h (by kernel_rfl)
  obtain ⟨b9, e9, _⟩ := DataW.trod_bool Tryz.underlying4 g9
  simp only [List.cons.injEq, and_true] at e9
  subst e9
  obtain ⟨v10, f10, y10, h10, g10⟩ := trod_cell 4 _ 4 10 _ _ _ h (by kernel_rfl)
  obtain ⟨b10, e10, _⟩ := DataW.trod_bool Tryz.underlying4 g10
  simp only [List.cons.injEq, and_true] at e10
  subst e10
  obtain ⟨n11, h11, _⟩ := trod_cell_int (d := 4) (off := 11) h (show cellAt Tryz.prog 4 41 11 = some 35 by kernel_rfl) Tryz.underlying35
  obtain ⟨n12, h12, _⟩ := trod_cell_int (d := 4) (off := 12) h (show cellAt Tryz.prog 4 41 12 = some 34 by kernel_rfl) Tryz.underlying34
  obtain ⟨n13, h13, _⟩ := trod_cell_int (d := 4) (off := 13) h (show cellAt Tryz.prog 4 41 13 = some 34 by kernel_rfl) Tryz.underlying34
  obtain ⟨n14, h14, _⟩ := trod_cell_int (d := 4) (off := 14) h (show cellAt Tryz.prog 4 41 14 = some 3 by kernel_rfl) Tryz.underlying3
  refine ⟨⟨z 0, ⟨⟨z 1, z 2, z 3, z 4, z 5⟩, z 6, z 7, z 8, b9, b10, n11, n12, n13⟩, n14⟩, ⟨⟨w_u32 (hz 1 _ rfl).2, w_u32 (hz 2 _ rfl).2, w_u16 (hz 3 _ rfl).2, w_u16 (hz 4 _ rfl).2, w_u8 (hz 5 _ rfl).2⟩⟩, ?_⟩
  intro j c hj
  match j, hj with
  | 0, hj => simp [tdV, enV] at hj; subst hj; exact (hz 0 _ rfl).1
  | 1, hj => simp [tdV, enV] at hj; subst hj; exact (hz 1 _ rfl).1
  | 2, hj => simp [tdV, enV] at hj; subst hj; exact (hz 2 _ rfl).1
  | 3, hj => simp [tdV, enV] at hj; subst hj; exact (hz 3 _ rfl).1
  | 4, hj => simp [tdV, enV] at hj; subst hj; exact (hz 4 _ rfl).1
  | 5, hj => simp [tdV, enV] at hj; subst hj; exact (hz 5 _ rfl).1
  | 6, hj => simp [tdV, enV] at hj; subst hj; exact (hz 6 _ rfl).1
  | 7, hj => simp [tdV, enV] at hj; subst hj; exact (hz 7 _ rfl).1
  | 8, hj => simp [tdV, enV] at hj; subst hj; exact (hz 8 _ rfl).1
  | 9, hj => simp [tdV, enV] at hj; subst hj; exact h9
  | 10, hj => simp [tdV, enV] at hj; subst hj; exact h10
  | 11, hj => simp [tdV, enV] at hj; subst hj; exact h11
  | 12, hj => simp [tdV, enV] at hj; subst hj; exact h12
  | 13, hj => simp [tdV, enV] at hj; subst hj; exact h13
  | 14, hj => simp [tdV, enV] at hj; subst hj; exact h14
  | n + 15, hj => simp [tdV, enV] at hj
set_option maxRecDepth 100000 in
theorem key_read {base : Nat} {v : Value} {d : DataW H} {ps : List MemPlace} (hval : Value.okWide Tryz.prog W .any base 24 v) (h : DataW.Trod enc Tryz.prog W 0 (fun _ => true) true 24 v d ps) :
    ∃ x : Int × Int, Rep (baseCtx W fun b => b < W.heap.size) (.agg [u64D x.1, u64D x.2]) v ∧ True := by
  obtain ⟨cs, rfl, hn⟩ := okWide_struct Tryz.underlying24 hval
  obtain ⟨fuel, hf⟩ := h
  have hn2 : cs.size = 2 := hn.trans (by kernel_rfl)
  simp only [Value.cells] at hf
  obtain ⟨z, hz⟩ := trod_kinds (d := 3) [.u64, .u64] (by kernel_rfl) hf
  refine ⟨(z 0, z 1), .agg (by simpa using hn2) fun j d u hd hu => ?_, trivial⟩
  rw [← Array.getElem?_toList] at hu
  match j, hd, hu with
  | 0, hd, hu => simp only [List.getElem?_cons_zero, Option.some.injEq] at hd; subst hd; rw [(hz 0 _ rfl).1] at hu; injection hu with hu; subst hu; exact .v
  | 1, hd, hu => simp only [List.getElem?_cons_succ, List.getElem?_cons_zero, Option.some.injEq] at hd; subst hd; rw [(hz 1 _ rfl).1] at hu; injection hu with hu; subst hu; exact .v
  | n + 2, hd, _ => simp at hd
end
end Go.Proofs.YtcbpdjikdohegaaGreat.V
