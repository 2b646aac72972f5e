/-
  The law FarmTells of layer 31: the given statement, proved. No condition.
-/
import Derived.Test.YtghfefkmmobmgaaLaw
import Derived.Test.YtghfefkmmobmgaaReads
import Derived.Test.YtghfefkmmobmgaaFt
namespace Go.Proofs.Ytghfefkmmobmgaa.V
open Go.ChangeShapes Go.WideShapes Go.ChangeAt Go.RowKit

def deedV (d : Deed) : List Value := [.int .i64 d.kind, .int .i64 d.v.id, .int .u32 d.v.addr, .int .u16 d.v.port, .int .u8 d.v.proto, .int .i64 d.v.mode,
  .int .i64 d.b.id, .int .i64 d.b.vip, .int .u32 d.b.addr, .int .i64 d.b.weight, .int .i64 d.b.life, .bool d.b.up, .int .i64 d.n]

instance : Inhabited Deed := ⟨⟨0, ⟨0, 0, 0, 0, 0⟩, ⟨0, 0, 0, 0, 0, false⟩, 0⟩⟩

section
variable {H : Type} {enc : TypeId × Value → H} {W : World}
theorem deed_elem {fuel : Nat} {cs : List Value} {x : DataW H × List MemPlace} (h : DataW.trod enc Try.prog W 0 (fun _ => true) true fuel 88 cs = some x) :
    ∃ d : Deed, d.ok ∧ ∀ (j : Nat) (c : Value), (deedV d)[j]? = some c → cs[j]? = some c := by
  obtain ⟨z, hz⟩ := trod_kinds (d := 4) [.i64, .i64, .u32, .u16, .u8, .i64, .i64, .i64, .u32, .i64, .i64] (by kernel_rfl) h
  obtain ⟨v11, f11, y11, h11, g11⟩ := trod_cell 4 _ 4 11 _ _ _ h (by kernel_rfl)
  obtain ⟨b, e1, _⟩ := DataW.trod_bool Try.underlying4 g11
  simp only [List.cons.injEq, and_true] at e1
  subst e1
  obtain ⟨n, h12, _⟩ := trod_cell_int (d := 4) (off := 12) h (show cellAt Try.prog 4 88 12 = some 3 by kernel_rfl) Try.underlying3
  refine ⟨⟨z 0, ⟨z 1, z 2, z 3, z 4, z 5⟩, ⟨z 6, z 7, z 8, z 9, z 10, b⟩, n⟩, ⟨⟨wf_i64 (hz 1 _ rfl).2, wf_u32 (hz 2 _ rfl).2, wf_u16 (hz 3 _ rfl).2, wf_u8 (hz 4 _ rfl).2, wf_i64 (hz 5 _ rfl).2⟩, ⟨wf_i64 (hz 6 _ rfl).2, wf_u32 (hz 8 _ rfl).2⟩⟩, ?_⟩
  intro j c hj
  match j, hj with
  | 0, hj => simp [deedV] at hj; subst hj; exact (hz 0 _ rfl).1
  | 1, hj => simp [deedV] at hj; subst hj; exact (hz 1 _ rfl).1
  | 2, hj => simp [deedV] at hj; subst hj; exact (hz 2 _ rfl).1
  | 3, hj => simp [deedV] at hj; subst hj; exact (hz 3 _ rfl).1
  | 4, hj => simp [deedV] at hj; subst hj; exact (hz 4 _ rfl).1
  | 5, hj => simp [deedV] at hj; subst hj; exact (hz 5 _ rfl).1
  | 6, hj => simp [deedV] at hj; subst hj; exact (hz 6 _ rfl).1
  | 7, hj => simp [deedV] at hj; subst hj; exact (hz 7 _ rfl).1
  | 8, hj => simp [deedV] at hj; subst hj; exact (hz 8 _ rfl).1
  | 9, hj => simp [deedV] at hj; subst hj; exact (hz 9 _ rfl).1
  | 10, hj => simp [deedV] at hj; subst hj; exact (hz 10 _ rfl).1
  | 11, hj => simp [deedV] at hj; subst hj; exact h11
  | 12, hj => simp [deedV] at hj; subst hj; exact h12
  | n + 13, hj => simp [deedV] at hj
end

set_option maxRecDepth 100000 in
theorem farmTells_walk {H : Type} (enc : TypeId × Value → H) (W : World) (base : Nat) (args : Array Value) (ds : List (DataW H)) (p : List MemPlace)
    (hval : ∀ (j : Nat) t v, Try.f6.params[j]? = some t → args[j]? = some v → Value.okWide Try.prog W .any base t v)
    (hA : DataW.TrodAll enc Try.prog W 0 (fun _ => true) true Try.f6.params.toList args.toList ds p) :
    Calls Try.prog 6 args W fun e W' => e = .returned (.bool true) ∧ Below W.heap.size W W' := by
  rw [Try.params6] at hA hval
  obtain ⟨v0, r0, d0, s0, p0, q0, ha, rfl, rfl, h0, hA⟩ := trodAll_cons hA
  obtain ⟨v1, r1, d1, s1, p1, q1, rfl, rfl, rfl, h1, hA⟩ := trodAll_cons hA
  obtain ⟨v2, r2, d2, s2, p2, q2, rfl, rfl, rfl, h2, hA⟩ := trodAll_cons hA
  obtain ⟨v3, r3, d3, s3, p3, q3, rfl, rfl, rfl, h3, hA⟩ := trodAll_cons hA
  obtain ⟨v4, r4, d4, s4, p4, q4, rfl, rfl, rfl, h4, hA⟩ := trodAll_cons hA
  obtain ⟨rfl, rfl, rfl⟩ := trodAll_nil hA
  have hargs : args = #[v0, v1, v2, v3, v4] := by apply Array.ext'; rw [ha]
  subst hargs
  obtain ⟨a, rfl, rfl, rfl, _⟩ := open_int Try.underlying35 (hval 1 35 v1 rfl rfl) h1
  obtain ⟨b, rfl, rfl, rfl, _⟩ := open_int Try.underlying36 (hval 2 36 v2 rfl rfl) h2
  obtain ⟨c, rfl, rfl, rfl, _⟩ := open_int Try.underlying5 (hval 3 5 v3 rfl rfl) h3
  obtain ⟨i, rfl, rfl, rfl, _⟩ := open_int Try.underlying3 (hval 4 3 v4 rfl rfl) h4
  obtain ⟨pa, pl, pc, rfl⟩ := okWide_slice Try.underlying42 (hval 0 42 v0 rfl rfl)
  obtain ⟨fuel, hf⟩ := h0
  obtain ⟨L, hr, hok⟩ := rows_read (encD := deedD) (encV := deedV) (k := 13) (ok := Deed.ok) (fun _ => rfl) Try.underlying42 (by kernel_rfl) (by decide) (fun _ => rfl) (fun _ _ _ h => deed_elem h) hf
  refine calls_of_fn (farmTells_fn L hok a b c i) ⟨rfl, fun j d u hd hu => ?_⟩
  match j, hd, hu with
  | 0, hd, hu => simp at hd hu; subst hd hu; exact hr
  | 1, hd, hu => simp at hd hu; subst hd hu; exact .v
  | 2, hd, hu => simp at hd hu; subst hd hu; exact .v
  | 3, hd, hu => simp at hd hu; subst hd hu; exact .v
  | 4, hd, hu => simp at hd hu; subst hd hu; exact .v
end Go.Proofs.Ytghfefkmmobmgaa.V

namespace Go.Proofs.Ytghfefkmmobmgaa
open Go.ChangeShapes Go.WideShapes Go.ChangeAt Go.RowKit
set_option maxRecDepth 100000 in
theorem farmTells_lifted (os : Os) (started : os.Started) (H : Type) (enc : TypeId × Value → H) :
    ReturnsInHanded {} Try.checked os 6 .any (Rows.farmTellsSpec.pre6 enc Try.prog Try.f6 [] false) (Rows.farmTellsSpec.post enc Try.prog Try.f6 false true false false) :=
  law_lifted Try.func6 (by kernel_rfl) rfl rfl Try.underlying4 (by kernel_rfl) os started H enc
    (fun ds hds => by match ds, hds with | [_, _, _, _, _], _ => exact ⟨rfl, rfl, rfl⟩)
    (ChangeSpec.witness6 (enc := enc) (C := Try.checked) false ⟨#[], zeroArgs Try.prog Try.f6, []⟩ 8 (by kernel_rfl) (by kernel_rfl) (by kernel_rfl) (by kernel_rfl))
    (V.farmTells_walk enc)

theorem farmTells_holds : Rows.FarmTellsSaid :=
  OpenClaim.holds_of_wide 6 Try.f6 rfl rfl rfl rfl rfl rfl rfl ⟨rfl, rfl, rfl, rfl, rfl⟩ rfl rfl rfl rfl rfl (by kernel_rfl) Try.func6 (by kernel_rfl)
    (of_decide_eq_true (by kernel_rfl)) (by unfold Func.isWrapper; first | (rw [if_pos (by decide +kernel)]; kernel_rfl) | (rw [if_neg (by decide +kernel)]; exact ⟨rfl, rfl⟩))
    (fun os started H enc _ => farmTells_lifted os started H enc)
#print axioms farmTells_holds
end Go.Proofs.Ytghfefkmmobmgaa
