/-
  strings.Join by value; calls that are asked for by name when lives is run; lives of the filter: true. Conditions: texts not too long.
-/
import Derived.Test.YtfghccppoilfhaaCeL
import Derived.Test.YtfghccppoilfhaaCeP
import Derived.Test.YtfghccppoilfhaaK3
import Derived.Test.YtfghccppoilfhaaVdr
import Derived.Test.YtfghccppoilfhaaSl
import Derived.Shelf.Strings.SplitCore
import Derived.Shelf.Strings.Search3
namespace Go.Proofs.Ytfghccppoilfhaa.V
open Go.RowKit Go.Shelf Go.Lib
attribute [local irreducible] OpVC

theorem Builder_Extra_156 : Builder.Extra Try.prog lays156_ren := {
  sizeBuilder := by kernel_rfl
  liesBuilder := by kernel_rfl
  t5 := Try.underlying5
  a5 := Try.isAgg5
  z5 := Try.sizeOf5
  v5 := Try.zeroValue5
  infoByte := by kernel_rfl
  cellsByte := by kernel_rfl
  sizeByte := by kernel_rfl
  neB5 := by decide }

theorem interc_map {α β : Type} (f : α → β) (sep : List α) : ∀ L : List (List α), (sep.map f).intercalate (L.map (List.map f)) = (sep.intercalate L).map f
  | [] => rfl
  | [x] => by simp [List.intercalate]
  | x :: y :: r => by
    have := interc_map f sep (y :: r)
    simp only [List.intercalate, List.map_cons, List.intersperse, List.flatten_cons, List.map_append] at this ⊢
    rw [this]
theorem map_data (L : List (List Nat)) : (L.map strB).map (fun b => b.data.toList) = L.map (List.map UInt8.ofNat) := by
  rw [List.map_map]; rfl
theorem join_c : JoinC := by
  intro L sep hL hs hlen hjl
  refine ⟨⟨_, Try.func35, rfl⟩, fun w B args' hB hr => ?_⟩
  match args', hr with
  | [], hr => have := hr.1; simp at this
  | [_], hr => have := hr.1; simp at this
  | _ :: _ :: _ :: _, hr => have := hr.1; simp at this
  | [v0, v1], hr =>
  have h0 := hr.2 0 _ v0 rfl rfl
  have h1 := rep_v (hr.2 1 (strD sep) v1 rfl rfl)
  subst h1
  have hval : Lib.join ((L.map strB).map (fun b => b.data.toList)) (strB sep).data.toList = (joinN sep L).map UInt8.ofNat := by
    rw [map_data, strB_data]; exact interc_map _ _ _
  cases h0 with
  | rows b o g hc hp hl hcell hrep =>
    rename_i p c
    cases L with
    | nil =>
      refine (calls_under ((Any.strings_Join_none lays156 Builder_Extra_156 p c (strB sep) w).mono fun e w' ⟨h1, h2⟩ => ⟨h1, h2 ▸ Below.refl _ _⟩)).mono fun e w' ⟨h1, h2⟩ => ?_
      exact ⟨_, _, rfl, h1, h2, .v⟩
    | cons x r =>
      obtain ⟨hp1, hp2⟩ := hp (by simp)
      subst hp1
      have hcells : ∀ (j : Nat) y, ((x :: r).map strB)[j]? = some y → w.cell? ⟨b, o + j, none⟩ = some (.string y) := fun j y hy => by
        rw [List.getElem?_map] at hy
        cases hq : (x :: r)[j]? with
        | none => rw [hq] at hy; cases hy
        | some z =>
          rw [hq] at hy
          simp only [Option.map_some, Option.some.injEq] at hy
          subst hy
          have h4 := hcell j z 0 (strD z) hq rfl
          have h5 := rep_v (hrep j z 0 (strD z) hq rfl)
          rw [h5, Nat.mul_one, Nat.add_zero] at h4
          exact h4
      have hll : ((x :: r).map strB).length = (x :: r).length := by simp
      have hcall := Any.strings_Join lays156 Builder_Extra_156 b o c ((x :: r).map strB) (strB sep) w hcells (hB b hp2) (by rw [hll]; omega) (by rw [hll]; exact hc) (by rw [hval, List.length_map]; omega)
      rw [hll, hval] at hcall
      exact (calls_under hcall).mono fun e w' ⟨h1, h2⟩ => ⟨_, _, rfl, h1, h2, .v⟩

end Go.Proofs.Ytfghccppoilfhaa.V
namespace Go.Proofs.Ytfghccppoilfhaa.V
open Go.RowKit
theorem calls_of_fnV {P : Program} {f : FuncId} {args : List D} {vs : Array Value} {v0 : Value} (h : Fn P f args fun d => d = .v v0) (W : World) (hr : reps (baseCtx W fun b => b < W.heap.size) args vs.toList) :
    Calls P f vs W fun e W' => e = .returned v0 ∧ Under W.heap.size W W' := by
  have := h.2 W _ vs.toList (fun b hb => hb) hr
  refine this.mono fun e w' hh => ?_
  obtain ⟨d, v, rfl, rfl, h1, h2⟩ := hh
  rw [rep_v h2]
  exact ⟨rfl, h1⟩
theorem text_calls (a : Nat) (ha : a < 4294967296) (W : World) : Calls Try.prog 24 #[.int .u32 a] W fun e W' => e = .returned (.string (strB (txt a))) ∧ Under W.heap.size W W' := by
  refine calls_of_fnV (text_fn join_c a ha) W ⟨rfl, fun j d u hd hu => ?_⟩
  match j, hd, hu with
  | 0, hd, hu => injection hd with hd; injection hu with hu; subst hd hu; exact .v
  | j + 1, hd, _ => simp at hd
end Go.Proofs.Ytfghccppoilfhaa.V

namespace Go.Proofs.Ytfghccppoilfhaa
open Go.RowKit

def oneAsk (f : FuncId) (a : Array Value) (v : Value) (rest : Oracle) : Oracle := fun g args => bif Nat.beq g f && eqArr (eqV 6) args a then some v else rest g args
theorem oneAsk_ok {P : Program} {T : (Nat → Value) → Prop} {f : FuncId} {a : Array Value} {v : Value} {rest : Oracle} (hr : OracleOk P T rest) (ha : a.toList.all (pureD 6) = true) (hv : pureD 6 v = true) (h : ∀ w, Calls P f a w fun e w' => e = .returned v ∧ V.Under w.heap.size w w') : OracleOk P T (oneAsk f a v rest) := by
  intro g args u hu σ w args' hT hargs
  unfold oneAsk at hu
  cases hc : Nat.beq g f && eqArr (eqV 6) args a with
  | false => rw [hc] at hu; exact hr g args u hu σ w args' hT hargs
  | true =>
    rw [hc] at hu
    simp only [cond_true, Option.some.injEq] at hu
    subst hu
    simp only [Bool.and_eq_true] at hc
    have e1 := Nat.eq_of_beq_eq_true hc.1
    have e2 := eqArr_eq (eqV_eq 6) hc.2
    subst e1 e2
    have e3 := rows_eq (fun v v' => pure_eq 6 v v') ha hargs.size hargs.each
    subst e3
    exact (h w).mono fun e w' ⟨h1, h2⟩ => ⟨_, h1, h2, pure_rel 6 _ hv⟩
def byteAsk (f : FuncId) (op : List UInt8 → UInt8 → Int) (rest : Oracle) : Oracle := fun g args => bif Nat.beq g f then (match args with
  | ⟨[.string s, .string ⟨⟨[c]⟩⟩]⟩ => some (.int .i64 (op s.data.toList c))
  | _ => none) else rest g args
theorem byteAsk_ok {P : Program} {T : (Nat → Value) → Prop} {f : FuncId} {op : List UInt8 → UInt8 → Int} {rest : Oracle} (hr : OracleOk P T rest) (h : ∀ (s : ByteArray) (c : UInt8) w, Calls P f #[.string s, .string ⟨#[c]⟩] w fun e w' => e = .returned (.int .i64 (op s.data.toList c)) ∧ w' = w) : OracleOk P T (byteAsk f op rest) := by
  intro g args u hu σ w args' hT hargs
  unfold byteAsk at hu
  cases hc : Nat.beq g f with
  | false => rw [hc] at hu; exact hr g args u hu σ w args' hT hargs
  | true =>
    rw [hc] at hu
    simp only [cond_true] at hu
    have hg := Nat.eq_of_beq_eq_true hc
    subst hg
    split at hu
    · rename_i s c
      injection hu with hu; subst hu
      obtain ⟨l⟩ := args'
      have hl : l.length = 2 := by have := hargs.size; simpa using this.symm
      match l, hl with
      | [x, y], _ =>
        have h0 := hargs.each 0 _ x rfl rfl
        have h1 := hargs.each 1 _ y rfl rfl
        cases h0
        cases h1
        exact (h s c w).mono fun e w' ⟨h1, h2⟩ => ⟨_, h1, h2 ▸ V.Under.refl _ _, .int _ _⟩
    · cases hu
def flOracle : Oracle := byteAsk 77 Lib.indexByte (oneAsk 24 #[.int .u32 167772160] (.string (V.strB [49, 48, 46, 48, 46, 48, 46, 48])) noOracle)
theorem flOracle_ok : OracleOk Try.prog (fun _ => True) flOracle := by
  refine byteAsk_ok (oneAsk_ok (noOracle_ok _) (by decide) (by decide) fun w => ?_) fun s c w => ?_
  · have h := V.text_calls 167772160 (by decide) w
    have e : V.txt 167772160 = [49, 48, 46, 48, 46, 48, 46, 48] := by decide +kernel
    rw [e] at h
    exact h
  · exact (Any.stringslite_Index_one V.lays219 s c w).mono fun e w' ⟨h1, h2⟩ => ⟨h1, h2⟩
theorem flRuns : asksTrue Try.prog flOracle 100000 60 7 #[] = true := by kernel_rfl
end Go.Proofs.Ytfghccppoilfhaa
namespace Go.Proofs.Ytfghccppoilfhaa.V
open Go.RowKit
theorem lives45_fn : Fn Try.prog 7 [] fun d => d = boolD true := by
  refine ⟨⟨_, Try.func7, rfl⟩, fun w B args' hB hr => ?_⟩
  match args', hr with
  | _ :: _, hr => have := hr.1; simp at this
  | [], hr => exact (asks_of flOracle_ok flRuns w).mono fun e w' ⟨h1, h2⟩ => ⟨_, _, rfl, h1, h2, .v⟩
end Go.Proofs.Ytfghccppoilfhaa.V
