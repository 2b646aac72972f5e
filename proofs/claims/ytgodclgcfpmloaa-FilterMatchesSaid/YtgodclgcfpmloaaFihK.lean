/-
  Steps of filters, packets, that come in, read by value. No condition beyond the reading. (printed by gen_fih.py)
-/
import Derived.Test.YtgodclgcfpmloaaLaw
import Derived.Test.YtgodclgcfpmloaaReads
import Derived.Test.YtgodclgcfpmloaaK6
namespace Go.Proofs.Ytgodclgcfpmloaa.V
open Go.ChangeShapes Go.WideShapes Go.ChangeAt Go.RowKit Go.Deep

section
variable {H : Type} {enc : TypeId × Value → H} {W : World}
theorem wfU8 {n : Int} (h : (Lit.int .u8 n).wf = true) : 0 ≤ n ∧ n < 256 := by
  simp [Lit.wf, IntKind.min, IntKind.max, IntKind.signed, IntKind.bits] at h; omega
theorem wfU16 {n : Int} (h : (Lit.int .u16 n).wf = true) : 0 ≤ n ∧ n < 65536 := by
  simp [Lit.wf, IntKind.min, IntKind.max, IntKind.signed, IntKind.bits] at h; omega
theorem wfU32 {n : Int} (h : (Lit.int .u32 n).wf = true) : 0 ≤ n ∧ n < 4294967296 := by
  simp [Lit.wf, IntKind.min, IntKind.max, IntKind.signed, IntKind.bits] at h; omega
def octV (x : Nat) : List Value := [.int .u8 x]
theorem oct_elem {fuel : Nat} {cs : List Value} {x : DataW H × List MemPlace} (h : DataW.trod enc Try.prog W 0 (fun _ => true) true fuel 5 cs = some x) :
    ∃ d : Nat, d < 256 ∧ ∀ (j : Nat) (c : Value), (octV d)[j]? = some c → cs[j]? = some c := by
  obtain ⟨n, rfl, _, hw⟩ := DataW.trod_int Try.underlying5 h
  have := wfU8 hw
  refine ⟨n.toNat, by omega, fun j c hj => ?_⟩
  unfold octV at hj
  rw [show ((n.toNat : Nat) : Int) = n by omega] at hj
  exact hj
theorem octs_read {fuel : Nat} {sv : Value} {x : DataW H × List MemPlace} (h : DataW.trod enc Try.prog W 0 (fun _ => true) true fuel 25 [sv] = some x) :
    ∃ L : List Nat, Rep (baseCtx W fun b => b < W.heap.size) (octR L) sv ∧ Byt L := by
  obtain ⟨L, h1, h2⟩ := rows_read (encD := octE) (encV := octV) (k := 1) (ok := fun n => n < 256) (fun _ => rfl) Try.underlying25 (by kernel_rfl) (by decide) (fun _ => rfl) (fun _ _ _ h => oct_elem h) h
  exact ⟨L, h1, fun c hc => h2 c hc⟩
theorem still_rows {W : World} {p : Nat → Prop} {α : Type} {e : Nat} {f : α → List D} {L : List α} {v : Value} (h : Rep (baseCtx W p) (.rows α e f L) v) : Rep (baseCtx W p).still (.rows α e f L) v := by
  cases h with
  | rows b o g hc hp hl hcell hrep => exact .rows b o g hc hp hl hcell hrep
instance : Inhabited FSt := ⟨⟨0, 0, 0⟩⟩
def fstV (x : FSt) : List Value := [.int .i64 x.op, .int .u32 x.addr, .int .i64 x.num]
theorem fst_elem {fuel : Nat} {cs : List Value} {x : DataW H × List MemPlace} (h : DataW.trod enc Try.prog W 0 (fun _ => true) true fuel 32 cs = some x) :
    ∃ a : FSt, a.addr < 4294967296 ∧ ∀ (j : Nat) (c : Value), (fstV a)[j]? = some c → cs[j]? = some c := by
  obtain ⟨z0, h0, w0⟩ := trod_cell_int (d := 3) (off := 0) (k := .i64) h (by kernel_rfl) Try.underlying3
  obtain ⟨z1, h1, w1⟩ := trod_cell_int (d := 3) (off := 1) (k := .u32) h (by kernel_rfl) Try.underlying24
  obtain ⟨z2, h2, w2⟩ := trod_cell_int (d := 3) (off := 2) (k := .i64) h (by kernel_rfl) Try.underlying3
  have b1 := wfU32 w1
  have e1 : ((z1.toNat : Nat) : Int) = z1 := by omega
  refine ⟨⟨z0, z1.toNat, z2⟩, by show z1.toNat < _; omega, fun j c hj => ?_⟩
  match j, hj with
  | 0, hj => injection hj with hj; subst hj; exact h0
  | 1, hj => injection hj with hj; subst hj; show cs[1]? = some (.int .u32 ((z1.toNat : Nat) : Int)); rw [e1]; exact h1
  | 2, hj => injection hj with hj; subst hj; exact h2
  | n + 3, hj => simp [fstV] at hj
theorem pkt_elem {fuel : Nat} {cs : List Value} {x : DataW H × List MemPlace} (h : DataW.trod enc Try.prog W 0 (fun _ => true) true fuel 27 cs = some x) :
    ∃ a : Pkt, a.ok ∧ ∀ (j : Nat) (d : D), (pktD a)[j]? = some d → ∃ c, cs[j]? = some c ∧ Rep (baseCtx W fun b => b < W.heap.size).still d c := by
  obtain ⟨z0, h0, w0⟩ := trod_cell_int (d := 3) (off := 0) (k := .u8) h (by kernel_rfl) Try.underlying5
  have q0 := wfU8 w0
  have e0 : ((z0.toNat : Nat) : Int) = z0 := by omega
  obtain ⟨z1, h1, w1⟩ := trod_cell_int (d := 3) (off := 1) (k := .u16) h (by kernel_rfl) Try.underlying23
  have q1 := wfU16 w1
  have e1 : ((z1.toNat : Nat) : Int) = z1 := by omega
  obtain ⟨s2, f2, y2, h2, k2⟩ := trod_cell 3 _ 4 2 _ _ _ h (by kernel_rfl)
  obtain ⟨b2, e2, _⟩ := DataW.trod_bool Try.underlying4 k2
  obtain rfl : s2 = .bool b2 := by simpa using e2
  obtain ⟨s3, f3, y3, h3, k3⟩ := trod_cell 3 _ 4 3 _ _ _ h (by kernel_rfl)
  obtain ⟨b3, e3, _⟩ := DataW.trod_bool Try.underlying4 k3
  obtain rfl : s3 = .bool b3 := by simpa using e3
  obtain ⟨z4, h4, w4⟩ := trod_cell_int (d := 3) (off := 4) (k := .u16) h (by kernel_rfl) Try.underlying23
  have q4 := wfU16 w4
  have e4 : ((z4.toNat : Nat) : Int) = z4 := by omega
  obtain ⟨z5, h5, w5⟩ := trod_cell_int (d := 3) (off := 5) (k := .u8) h (by kernel_rfl) Try.underlying5
  have q5 := wfU8 w5
  have e5 : ((z5.toNat : Nat) : Int) = z5 := by omega
  obtain ⟨z6, h6, w6⟩ := trod_cell_int (d := 3) (off := 6) (k := .u8) h (by kernel_rfl) Try.underlying5
  have q6 := wfU8 w6
  have e6 : ((z6.toNat : Nat) : Int) = z6 := by omega
  obtain ⟨z7, h7, w7⟩ := trod_cell_int (d := 3) (off := 7) (k := .u32) h (by kernel_rfl) Try.underlying24
  have q7 := wfU32 w7
  have e7 : ((z7.toNat : Nat) : Int) = z7 := by omega
  obtain ⟨z8, h8, w8⟩ := trod_cell_int (d := 3) (off := 8) (k := .u32) h (by kernel_rfl) Try.underlying24
  have q8 := wfU32 w8
  have e8 : ((z8.toNat : Nat) : Int) = z8 := by omega
  obtain ⟨s9, f9, y9, h9, k9⟩ := trod_cell 3 _ 25 9 _ _ _ h (by kernel_rfl)
  obtain ⟨L9, l9, o9⟩ := octs_read k9
  obtain ⟨s10, f10, y10, h10, k10⟩ := trod_cell 3 _ 25 10 _ _ _ h (by kernel_rfl)
  obtain ⟨L10, l10, o10⟩ := octs_read k10
  refine ⟨⟨z0.toNat, z1.toNat, b2, b3, z4.toNat, z5.toNat, z6.toNat, z7.toNat, z8.toNat, L9, L10⟩, ⟨by show z0.toNat < _; omega, by show z1.toNat < _; omega, by show z4.toNat < _; omega, by show z5.toNat < _; omega, by show z6.toNat < _; omega, by show z7.toNat < _; omega, by show z8.toNat < _; omega, o9, o10⟩, fun j d hd => ?_⟩
  match j, hd with
  | 0, hd => injection hd with hd; subst hd; refine ⟨_, h0, ?_⟩; show Rep _ (.v (.int .u8 ((z0.toNat : Nat) : Int))) _; rw [e0]; exact .v
  | 1, hd => injection hd with hd; subst hd; refine ⟨_, h1, ?_⟩; show Rep _ (.v (.int .u16 ((z1.toNat : Nat) : Int))) _; rw [e1]; exact .v
  | 2, hd => injection hd with hd; subst hd; exact ⟨_, h2, .v⟩
  | 3, hd => injection hd with hd; subst hd; exact ⟨_, h3, .v⟩
  | 4, hd => injection hd with hd; subst hd; refine ⟨_, h4, ?_⟩; show Rep _ (.v (.int .u16 ((z4.toNat : Nat) : Int))) _; rw [e4]; exact .v
  | 5, hd => injection hd with hd; subst hd; refine ⟨_, h5, ?_⟩; show Rep _ (.v (.int .u8 ((z5.toNat : Nat) : Int))) _; rw [e5]; exact .v
  | 6, hd => injection hd with hd; subst hd; refine ⟨_, h6, ?_⟩; show Rep _ (.v (.int .u8 ((z6.toNat : Nat) : Int))) _; rw [e6]; exact .v
  | 7, hd => injection hd with hd; subst hd; refine ⟨_, h7, ?_⟩; show Rep _ (.v (.int .u32 ((z7.toNat : Nat) : Int))) _; rw [e7]; exact .v
  | 8, hd => injection hd with hd; subst hd; refine ⟨_, h8, ?_⟩; show Rep _ (.v (.int .u32 ((z8.toNat : Nat) : Int))) _; rw [e8]; exact .v
  | 9, hd => injection hd with hd; subst hd; exact ⟨_, h9, still_rows l9⟩
  | 10, hd => injection hd with hd; subst hd; exact ⟨_, h10, still_rows l10⟩
  | n + 11, hd => simp [pktD] at hd
set_option maxRecDepth 100000 in
theorem pkt_read {base : Nat} {v : Value} {d : DataW H} {ps : List MemPlace} (hval : Value.okWide Try.prog W .any base 27 v) (h : DataW.Trod enc Try.prog W 0 (fun _ => true) true 27 v d ps) :
    ∃ a : Pkt, Rep (baseCtx W fun b => b < W.heap.size) (.agg (pktD a)) v ∧ a.ok := by
  obtain ⟨cs, rfl, hn⟩ := okWide_struct Try.underlying27 hval
  obtain ⟨fuel, hf⟩ := h
  have hn2 : cs.size = 11 := hn.trans (by kernel_rfl)
  simp only [Value.cells] at hf
  obtain ⟨a, ha, hd⟩ := pkt_elem hf
  refine ⟨a, .agg hn2 fun j d u hj hu => ?_, ha⟩
  obtain ⟨c, hc, hr⟩ := hd j d hj
  rw [← Array.getElem?_toList, hc] at hu
  injection hu with hu; subst hu
  exact hr.mono (Ctx.still_le _)
end
end Go.Proofs.Ytgodclgcfpmloaa.V
