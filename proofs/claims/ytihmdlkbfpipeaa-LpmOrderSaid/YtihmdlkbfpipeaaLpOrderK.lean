/-
  The law LpmOrder: in which order nets came plays no part, nor what was dropped again. Conditions: none on the arguments.
-/
import Derived.Test.YtihmdlkbfpipeaaLaw
import Derived.Test.YtihmdlkbfpipeaaReads
import Derived.Test.YtihmdlkbfpipeaaLmK
import Derived.Test.YtihmdlkbfpipeaaLnK
namespace Go.Proofs.Ytihmdlkbfpipeaa.V
open Go.ChangeShapes Go.WideShapes Go.ChangeAt Go.RowKit Go.Deep

section
variable {H : Type} {enc : TypeId × Value → H} {W : World}
instance : Inhabited LNet := ⟨⟨0, 0, 0⟩⟩
def netV (x : LNet) : List Value := [.int .u32 x.addr, .int .i64 x.bits, .int .i64 x.num]
theorem net_elem {fuel : Nat} {cs : List Value} {x : DataW H × List MemPlace} (h : DataW.trod enc Try.prog W 0 (fun _ => true) true fuel 28 cs = some x) :
    ∃ a : LNet, a.ok ∧ ∀ (j : Nat) (c : Value), (netV a)[j]? = some c → cs[j]? = some c := by
  obtain ⟨z0, h0, w0⟩ := trod_cell_int (d := 3) (off := 0) (k := .u32) h (by kernel_rfl) Try.underlying26
  obtain ⟨z1, h1, w1⟩ := trod_cell_int (d := 3) (off := 1) (k := .i64) h (by kernel_rfl) Try.underlying3
  obtain ⟨z2, h2, w2⟩ := trod_cell_int (d := 3) (off := 2) (k := .i64) h (by kernel_rfl) Try.underlying3
  have b0 : 0 ≤ z0 ∧ z0 < 4294967296 := by
    simp [Lit.wf, IntKind.min, IntKind.max, IntKind.signed, IntKind.bits] at w0; omega
  have e0 : ((z0.toNat : Nat) : Int) = z0 := by omega
  refine ⟨⟨z0.toNat, z1, z2⟩, by show z0.toNat < _; omega, fun j c hj => ?_⟩
  match j, hj with
  | 0, hj => injection hj with hj; subst hj; show cs[0]? = some (.int .u32 ((z0.toNat : Nat) : Int)); rw [e0]; exact h0
  | 1, hj => injection hj with hj; subst hj; exact h1
  | 2, hj => injection hj with hj; subst hj; exact h2
  | n + 3, hj => simp [netV] at hj
theorem nets_read {fuel : Nat} {sv : Value} {x : DataW H × List MemPlace} (h : DataW.trod enc Try.prog W 0 (fun _ => true) true fuel 22 [sv] = some x) :
    ∃ L : List LNet, Rep (baseCtx W fun b => b < W.heap.size) (rowsL L) sv ∧ netsOk L := by
  obtain ⟨L, h1, h2⟩ := rows_read (encD := netC) (encV := netV) (k := 3) (ok := LNet.ok) (fun _ => rfl) Try.underlying22 (by kernel_rfl) (by decide) (fun _ => rfl) (fun _ _ _ h => net_elem h) h
  exact ⟨L, h1, h2⟩
end
set_option maxRecDepth 100000 in
theorem lpmOrder_walk {H : Type} (enc : TypeId × Value → H) (W : World) (base : Nat) (args : Array Value) (ds : List (DataW H)) (p : List MemPlace)
    (hval : ∀ (j : Nat) t v, Try.f3.params[j]? = some t → args[j]? = some v → Value.okWide Try.prog W .any base t v)
    (hA : DataW.TrodAll enc Try.prog W 0 (fun _ => true) true Try.f3.params.toList args.toList ds p) :
    Calls Try.prog 3 args W fun e W' => e = .returned (.bool true) ∧ Below W.heap.size W W' := by
  rw [Try.params3] at hA hval
  obtain ⟨v0, r0, d0, s0, p0, q0, ha, rfl, rfl, h0, hA⟩ := trodAll_cons hA
  obtain ⟨v1, r1, d1, s1, p1, q1, rfl, rfl, rfl, h1, hA⟩ := trodAll_cons hA
  obtain ⟨rfl, rfl, rfl⟩ := trodAll_nil hA
  have hargs : args = #[v0, v1] := by apply Array.ext'; rw [ha]
  subst hargs
  obtain ⟨pa0, pl0, pc0, rfl⟩ := okWide_slice Try.underlying22 (hval 0 22 v0 rfl rfl)
  obtain ⟨pa1, pl1, pc1, rfl⟩ := okWide_slice Try.underlying22 (hval 1 22 v1 rfl rfl)
  obtain ⟨g0, hf0⟩ := h0
  obtain ⟨g1, hf1⟩ := h1
  obtain ⟨x0, e0, o0⟩ := nets_read hf0
  obtain ⟨x1, e1, o1⟩ := nets_read hf1
  refine calls_of_fn (lpmOrder_fn lives44_fn x0 x1 o0 o1) ⟨rfl, fun j d u hd hu => ?_⟩
  match j, hd, hu with
  | 0, hd, hu => simp at hd hu; subst hd hu; exact e0
  | 1, hd, hu => simp at hd hu; subst hd hu; exact e1
end Go.Proofs.Ytihmdlkbfpipeaa.V

namespace Go.Proofs.Ytihmdlkbfpipeaa
open Go.ChangeShapes Go.WideShapes Go.ChangeAt Go.RowKit
def lpmOrder_zeros (P : Program) (fn : Func) : Array Value := fn.params.map fun t => match P.info? t with
  | some i => i.zero.getD undef
  | none => undef
set_option maxRecDepth 100000 in
theorem lpmOrder_lifted (os : Os) (started : os.Started) (H : Type) (enc : TypeId × Value → H) :
    ReturnsInHanded {} Try.checked os 3 .any (Rows.lpmOrderSpec.pre6 enc Try.prog Try.f3 [] false) (Rows.lpmOrderSpec.post enc Try.prog Try.f3 false true false false) :=
  law_lifted Try.func3 (by kernel_rfl) rfl rfl Try.underlying4 (by kernel_rfl) os started H enc
    (fun ds hds => by match ds, hds with | [_, _], _ => exact ⟨rfl, rfl, rfl⟩)
    (ChangeSpec.witness6 (enc := enc) (C := Try.checked) false ⟨#[], lpmOrder_zeros Try.prog Try.f3, []⟩ 8 (by kernel_rfl) (by kernel_rfl) (by kernel_rfl) (by kernel_rfl))
    (V.lpmOrder_walk enc)

theorem lpmOrder_holds : Rows.LpmOrderSaid :=
  OpenClaim.holds_of_wide 3 Try.f3 rfl rfl rfl rfl rfl rfl rfl ⟨rfl, rfl, rfl, rfl, rfl⟩ rfl rfl rfl rfl rfl (by kernel_rfl) Try.func3 (by kernel_rfl)
    (of_decide_eq_true (by kernel_rfl)) (by unfold Func.isWrapper; first | (rw [if_pos (by decide +kernel)]; kernel_rfl) | (rw [if_neg (by decide +kernel)]; exact ⟨rfl, rfl⟩))
    (fun os started H enc _ => lpmOrder_lifted os started H enc)
#print axioms lpmOrder_holds
end Go.Proofs.Ytihmdlkbfpipeaa
