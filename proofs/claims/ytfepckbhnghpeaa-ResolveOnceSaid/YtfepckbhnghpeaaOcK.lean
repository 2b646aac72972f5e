/-
  Deeds with a net as they come in, whose addresses are bytes. No condition beyond the reading.
-/
import Derived.Test.YtfepckbhnghpeaaEoK
import Derived.Test.YtfepckbhnghpeaaK20
namespace Go.Proofs.Ytfepckbhnghpeaa.V
open Go.ChangeShapes Go.WideShapes Go.ChangeAt Go.RowKit Go.Deep

section
variable {H : Type} {enc : TypeId × Value → H} {W : World}
set_option maxRecDepth 100000 in
set_option maxHeartbeats 1000000 in
theorem nde_elem2 {fuel : Nat} {cs : List Value} {x : DataW H × List MemPlace} (h : DataW.trod enc Try.prog W 0 (fun _ => true) true fuel 45 cs = some x) :
    ∃ a : NDe, (a.ok ∧ Byt a.arp.srcMac) ∧ ∀ (j : Nat) (d : D), (ndC a)[j]? = some d → ∃ c, cs[j]? = some c ∧ Rep (baseCtx W fun b => b < W.heap.size).still d c := by
  obtain ⟨z0, h0, w0⟩ := trod_cell_int (d := 6) (off := 0) (k := .i64) h (by kernel_rfl) Try.underlying3
  obtain ⟨z1, h1, w1⟩ := trod_cell_int (d := 6) (off := 1) (k := .i64) h (by kernel_rfl) Try.underlying3
  obtain ⟨z2, h2, w2⟩ := trod_cell_int (d := 6) (off := 2) (k := .u8) h (by kernel_rfl) Try.underlying5
  have u2 := wf_u8 w2
  have e2 : ((z2.toNat : Nat) : Int) = z2 := by omega
  obtain ⟨z3, h3, w3⟩ := trod_cell_int (d := 6) (off := 3) (k := .u16) h (by kernel_rfl) Try.underlying31
  have u3 := wf_u16 w3
  have e3 : ((z3.toNat : Nat) : Int) = z3 := by omega
  obtain ⟨s4, f4, v4, h4, k4⟩ := trod_cell 6 _ 4 4 _ _ _ h (by kernel_rfl)
  obtain ⟨b4, q4, _⟩ := DataW.trod_bool Try.underlying4 k4
  obtain rfl : s4 = .bool b4 := by simpa using q4
  obtain ⟨s5, f5, v5, h5, k5⟩ := trod_cell 6 _ 4 5 _ _ _ h (by kernel_rfl)
  obtain ⟨b5, q5, _⟩ := DataW.trod_bool Try.underlying4 k5
  obtain rfl : s5 = .bool b5 := by simpa using q5
  obtain ⟨z6, h6, w6⟩ := trod_cell_int (d := 6) (off := 6) (k := .u16) h (by kernel_rfl) Try.underlying31
  have u6 := wf_u16 w6
  have e6 : ((z6.toNat : Nat) : Int) = z6 := by omega
  obtain ⟨z7, h7, w7⟩ := trod_cell_int (d := 6) (off := 7) (k := .u8) h (by kernel_rfl) Try.underlying5
  have u7 := wf_u8 w7
  have e7 : ((z7.toNat : Nat) : Int) = z7 := by omega
  obtain ⟨z8, h8, w8⟩ := trod_cell_int (d := 6) (off := 8) (k := .u8) h (by kernel_rfl) Try.underlying5
  have u8 := wf_u8 w8
  have e8 : ((z8.toNat : Nat) : Int) = z8 := by omega
  obtain ⟨z9, h9, w9⟩ := trod_cell_int (d := 6) (off := 9) (k := .u32) h (by kernel_rfl) Try.underlying25
  have u9 := wf_u32 w9
  have e9 : ((z9.toNat : Nat) : Int) = z9 := by omega
  obtain ⟨z10, h10, w10⟩ := trod_cell_int (d := 6) (off := 10) (k := .u32) h (by kernel_rfl) Try.underlying25
  have u10 := wf_u32 w10
  have e10 : ((z10.toNat : Nat) : Int) = z10 := by omega
  obtain ⟨s11, f11, v11, h11, k11⟩ := trod_cell 6 _ 39 11 _ _ _ h (by kernel_rfl)
  obtain ⟨L11, r11, o11⟩ := octets_read k11
  obtain ⟨s12, f12, v12, h12, k12⟩ := trod_cell 6 _ 39 12 _ _ _ h (by kernel_rfl)
  obtain ⟨L12, r12, o12⟩ := octets_read k12
  obtain ⟨z13, h13, w13⟩ := trod_cell_int (d := 6) (off := 13) (k := .u16) h (by kernel_rfl) Try.underlying31
  have u13 := wf_u16 w13
  have e13 : ((z13.toNat : Nat) : Int) = z13 := by omega
  obtain ⟨z14, h14, w14⟩ := trod_cell_int (d := 6) (off := 14) (k := .u8) h (by kernel_rfl) Try.underlying5
  have u14 := wf_u8 w14
  have e14 : ((z14.toNat : Nat) : Int) = z14 := by omega
  obtain ⟨z15, h15, w15⟩ := trod_cell_int (d := 6) (off := 15) (k := .u8) h (by kernel_rfl) Try.underlying5
  have u15 := wf_u8 w15
  have e15 : ((z15.toNat : Nat) : Int) = z15 := by omega
  obtain ⟨z16, h16, w16⟩ := trod_cell_int (d := 6) (off := 16) (k := .u8) h (by kernel_rfl) Try.underlying5
  have u16 := wf_u8 w16
  have e16 : ((z16.toNat : Nat) : Int) = z16 := by omega
  obtain ⟨z17, h17, w17⟩ := trod_cell_int (d := 6) (off := 17) (k := .u8) h (by kernel_rfl) Try.underlying5
  have u17 := wf_u8 w17
  have e17 : ((z17.toNat : Nat) : Int) = z17 := by omega
  obtain ⟨z18, h18, w18⟩ := trod_cell_int (d := 6) (off := 18) (k := .u8) h (by kernel_rfl) Try.underlying5
  have u18 := wf_u8 w18
  have e18 : ((z18.toNat : Nat) : Int) = z18 := by omega
  obtain ⟨z19, h19, w19⟩ := trod_cell_int (d := 6) (off := 19) (k := .u8) h (by kernel_rfl) Try.underlying5
  have u19 := wf_u8 w19
  have e19 : ((z19.toNat : Nat) : Int) = z19 := by omega
  obtain ⟨z20, h20, w20⟩ := trod_cell_int (d := 6) (off := 20) (k := .u32) h (by kernel_rfl) Try.underlying25
  have u20 := wf_u32 w20
  have e20 : ((z20.toNat : Nat) : Int) = z20 := by omega
  obtain ⟨z21, h21, w21⟩ := trod_cell_int (d := 6) (off := 21) (k := .u8) h (by kernel_rfl) Try.underlying5
  have u21 := wf_u8 w21
  have e21 : ((z21.toNat : Nat) : Int) = z21 := by omega
  obtain ⟨z22, h22, w22⟩ := trod_cell_int (d := 6) (off := 22) (k := .u8) h (by kernel_rfl) Try.underlying5
  have u22 := wf_u8 w22
  have e22 : ((z22.toNat : Nat) : Int) = z22 := by omega
  obtain ⟨z23, h23, w23⟩ := trod_cell_int (d := 6) (off := 23) (k := .u8) h (by kernel_rfl) Try.underlying5
  have u23 := wf_u8 w23
  have e23 : ((z23.toNat : Nat) : Int) = z23 := by omega
  obtain ⟨z24, h24, w24⟩ := trod_cell_int (d := 6) (off := 24) (k := .u8) h (by kernel_rfl) Try.underlying5
  have u24 := wf_u8 w24
  have e24 : ((z24.toNat : Nat) : Int) = z24 := by omega
  obtain ⟨z25, h25, w25⟩ := trod_cell_int (d := 6) (off := 25) (k := .u8) h (by kernel_rfl) Try.underlying5
  have u25 := wf_u8 w25
  have e25 : ((z25.toNat : Nat) : Int) = z25 := by omega
  obtain ⟨z26, h26, w26⟩ := trod_cell_int (d := 6) (off := 26) (k := .u8) h (by kernel_rfl) Try.underlying5
  have u26 := wf_u8 w26
  have e26 : ((z26.toNat : Nat) : Int) = z26 := by omega
  obtain ⟨z27, h27, w27⟩ := trod_cell_int (d := 6) (off := 27) (k := .u32) h (by kernel_rfl) Try.underlying25
  have u27 := wf_u32 w27
  have e27 : ((z27.toNat : Nat) : Int) = z27 := by omega
  refine ⟨⟨z0, z1, ⟨z2.toNat, z3.toNat, b4, b5, z6.toNat, z7.toNat, z8.toNat, z9.toNat, z10.toNat, L11, L12⟩, z13.toNat, z14.toNat, z15.toNat, z16.toNat, z17.toNat, z18.toNat, z19.toNat, z20.toNat, z21.toNat, z22.toNat, z23.toNat, z24.toNat, z25.toNat, z26.toNat, z27.toNat⟩, ⟨⟨⟨by show z2.toNat < _; omega, by show z3.toNat < _; omega, by show z6.toNat < _; omega, by show z7.toNat < _; omega, by show z8.toNat < _; omega, by show z9.toNat < _; omega, by show z10.toNat < _; omega, o11, o12⟩, by show z13.toNat < _; omega, by show z20.toNat < _; omega, by show z27.toNat < _; omega⟩, ?_⟩, fun j d hd => ?_⟩
  · show Byt [z14.toNat, z15.toNat, z16.toNat, z17.toNat, z18.toNat, z19.toNat]
    exact byt6 (by omega) (by omega) (by omega) (by omega) (by omega) (by omega)
  match j, hd with
  | 0, hd => injection hd with hd; subst hd; exact ⟨_, h0, .v⟩
  | 1, hd => injection hd with hd; subst hd; exact ⟨_, h1, .v⟩
  | 2, hd => injection hd with hd; subst hd; exact ⟨_, h2, rep_int e2⟩
  | 3, hd => injection hd with hd; subst hd; exact ⟨_, h3, rep_int e3⟩
  | 4, hd => injection hd with hd; subst hd; exact ⟨_, h4, .v⟩
  | 5, hd => injection hd with hd; subst hd; exact ⟨_, h5, .v⟩
  | 6, hd => injection hd with hd; subst hd; exact ⟨_, h6, rep_int e6⟩
  | 7, hd => injection hd with hd; subst hd; exact ⟨_, h7, rep_int e7⟩
  | 8, hd => injection hd with hd; subst hd; exact ⟨_, h8, rep_int e8⟩
  | 9, hd => injection hd with hd; subst hd; exact ⟨_, h9, rep_int e9⟩
  | 10, hd => injection hd with hd; subst hd; exact ⟨_, h10, rep_int e10⟩
  | 11, hd => injection hd with hd; subst hd; exact ⟨_, h11, rep_still_rows r11⟩
  | 12, hd => injection hd with hd; subst hd; exact ⟨_, h12, rep_still_rows r12⟩
  | 13, hd => injection hd with hd; subst hd; exact ⟨_, h13, rep_int e13⟩
  | 14, hd => injection hd with hd; subst hd; exact ⟨_, h14, rep_int e14⟩
  | 15, hd => injection hd with hd; subst hd; exact ⟨_, h15, rep_int e15⟩
  | 16, hd => injection hd with hd; subst hd; exact ⟨_, h16, rep_int e16⟩
  | 17, hd => injection hd with hd; subst hd; exact ⟨_, h17, rep_int e17⟩
  | 18, hd => injection hd with hd; subst hd; exact ⟨_, h18, rep_int e18⟩
  | 19, hd => injection hd with hd; subst hd; exact ⟨_, h19, rep_int e19⟩
  | 20, hd => injection hd with hd; subst hd; exact ⟨_, h20, rep_int e20⟩
  | 21, hd => injection hd with hd; subst hd; exact ⟨_, h21, rep_int e21⟩
  | 22, hd => injection hd with hd; subst hd; exact ⟨_, h22, rep_int e22⟩
  | 23, hd => injection hd with hd; subst hd; exact ⟨_, h23, rep_int e23⟩
  | 24, hd => injection hd with hd; subst hd; exact ⟨_, h24, rep_int e24⟩
  | 25, hd => injection hd with hd; subst hd; exact ⟨_, h25, rep_int e25⟩
  | 26, hd => injection hd with hd; subst hd; exact ⟨_, h26, rep_int e26⟩
  | 27, hd => injection hd with hd; subst hd; exact ⟨_, h27, rep_int e27⟩
  | n + 28, hd => simp [ndC] at hd
theorem ndes_read2 {fuel : Nat} {sv : Value} {x : DataW H × List MemPlace} (h : DataW.trod enc Try.prog W 0 (fun _ => true) true fuel 34 [sv] = some x) :
    ∃ L : List NDe, Rep (baseCtx W fun b => b < W.heap.size) (ndsR L) sv ∧ ∀ x ∈ L, x.ok ∧ Byt x.arp.srcMac :=
  rowsD_read (encD := ndC) (k := 28) (ok := fun x => x.ok ∧ Byt x.arp.srcMac) Try.underlying34 (by kernel_rfl) (by decide) (fun _ => rfl) (fun _ _ _ h => nde_elem2 h) h
end
end Go.Proofs.Ytfepckbhnghpeaa.V
