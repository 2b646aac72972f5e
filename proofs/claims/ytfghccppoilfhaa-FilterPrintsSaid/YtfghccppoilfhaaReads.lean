/-
  Slices of structs that come in, read as rows by value. No condition beyond the reading.
-/
import Derived.Test.YtfghccppoilfhaaFlat
import Derived.Test.YtfghccppoilfhaaVm
import Derived.Deep.Slices
namespace Go.Proofs.Ytfghccppoilfhaa.V
open Go.ChangeShapes Go.WideShapes Go.ChangeAt Go.RowKit Go.Deep

section
variable {H : Type} {enc : TypeId × Value → H} {W : World} {P : Program}

theorem rows_read {α : Type} [Inhabited α] {t el : TypeId} {k : Nat} {encD : α → List D} {encV : α → List Value} {ok : α → Prop} (henc : ∀ x, encD x = (encV x).map .v) (ht : P.underlying t = some (.slice el)) (hk : P.cellsOf el = k) (hk0 : 0 < k)
    (hlen : ∀ x, (encV x).length = k) (helem : ∀ (fuel : Nat) (cs : List Value) (x : DataW H × List MemPlace), DataW.trod enc P W 0 (fun _ => true) true fuel el cs = some x → ∃ v, ok v ∧ ∀ (j : Nat) (c : Value), (encV v)[j]? = some c → cs[j]? = some c)
    {fuel : Nat} {sv : Value} {x : DataW H × List MemPlace} (h : DataW.trod enc P W 0 (fun _ => true) true fuel t [sv] = some x) :
    ∃ L : List α, Rep (baseCtx W fun b => b < W.heap.size) (.rows α k encD L) sv ∧ ∀ v ∈ L, ok v := by
  rcases open_slice ht h with ⟨h1, _⟩ | ⟨a, len, cap, m, n, Dd, Pl, h1, _, hlc, hcm, hm, _, hx⟩
  · simp only [List.cons.injEq, and_true] at h1
    subst h1
    exact ⟨[], DLe.nil k encD _ _ .v, fun v hv => by cases hv⟩
  · simp only [List.cons.injEq, and_true] at h1
    subst h1
    have hmc : len ≤ m := by rw [hm]; simp; omega
    have key : ∀ i, i < len → ∃ v : α, ok v ∧ ∀ (j : Nat) (c : Value), (encV v)[j]? = some c → W.cell? ((a.add (i * k)).add j) = some c := fun i hi => by
      obtain ⟨cs', g1, g2⟩ := hx i (by omega)
      obtain ⟨v, g3, g4⟩ := helem _ _ _ g2
      obtain ⟨_, g5, g6⟩ := World.cells?_some g1
      rw [hk] at g5 g6
      refine ⟨v, g3, fun j c hj => ?_⟩
      have hjk : j < k := by have := (List.getElem?_eq_some_iff.1 hj).1; rw [hlen] at this; exact this
      rw [g6 j hjk]
      exact g4 j c hj
    obtain ⟨f, hf⟩ := choose_lt (α := α) (p := fun i v => ok v ∧ ∀ (j : Nat) (c : Value), (encV v)[j]? = some c → W.cell? ((a.add (i * k)).add j) = some c) (n := len) key
    refine ⟨(List.range len).map f, ?_, ?_⟩
    · have hL : ((List.range len).map f).length = len := by simp
      obtain ⟨b, o, sp⟩ := a
      have first : 0 < len → ∃ c, (encV (f 0))[0]? = some c ∧ W.cell? (((⟨b, o, sp⟩ : Addr).add (0 * k)).add 0) = some c := fun h0 => by
        have hl0 := hlen (f 0)
        have h2 : (encV (f 0))[0]? = some ((encV (f 0))[0]'(by omega)) := List.getElem?_eq_getElem (by omega)
        exact ⟨_, h2, (hf 0 h0).2 0 _ h2⟩
      have hsp : 0 < len → sp = none := fun h0 => by
        cases sp with
        | none => rfl
        | some s =>
          exfalso
          obtain ⟨c, _, h3⟩ := first h0
          simp only [Addr.add, Nat.zero_mul, if_true, World.cell?] at h3
          split at h3 <;> simp at h3
      have hblk : 0 < len → b < W.heap.size := fun h0 => by
        obtain ⟨c, _, h3⟩ := first h0
        have := hsp h0
        subst this
        have e : (((⟨b, o, none⟩ : Addr).add (0 * k)).add 0) = ⟨b, o, none⟩ := by unfold Addr.add; simp
        rw [e] at h3
        unfold World.cell? at h3
        by_cases hb : b < W.heap.size
        · exact hb
        · exfalso
          rw [Array.getElem?_eq_none (by show W.heap.size ≤ b; omega)] at h3
          simp at h3
      have hget : ∀ (i : Nat) x, ((List.range len).map f)[i]? = some x → i < len ∧ x = f i := by
        intro i x hx'
        have hi : i < len := by have := (List.getElem?_eq_some_iff.1 hx').1; simpa using this
        rw [List.getElem?_map, List.getElem?_range hi] at hx'
        exact ⟨hi, by simpa [eq_comm] using hx'⟩
      have hr := Rep.rows (C := baseCtx W fun b => b < W.heap.size) (α := α) (e := k) (enc := encD) (L := (List.range len).map f) (p := some ⟨b, o, sp⟩) (c := cap) b o (fun i j => ((encV (f i))[j]?).getD undef) (by rw [hL]; exact hlc)
        (fun hne => by
          have h0 : 0 < len := by
            rcases Nat.eq_zero_or_pos len with h0 | h0
            · subst h0; exact absurd rfl hne
            · exact h0
          rw [hsp h0]
          exact ⟨rfl, hblk h0⟩)
        (fun i x _ => by rw [henc, List.length_map, hlen])
        (fun i x j d hx' hd => by
          obtain ⟨hi, rfl⟩ := hget i x hx'
          rw [henc, List.getElem?_map] at hd
          cases hq : (encV (f i))[j]? with
          | none => rw [hq] at hd; cases hd
          | some c =>
            have h3 := (hf i hi).2 j c hq
            have := hsp (by omega)
            subst this
            have ea : ((⟨b, o, none⟩ : Addr).add (i * k)).add j = ⟨b, o + i * k + j, none⟩ := by unfold Addr.add; split <;> split <;> simp_all
            rw [ea] at h3
            show W.cell? _ = some ((some c).getD undef)
            exact h3)
        (fun i x j d hx' hd => by
          obtain ⟨hi, rfl⟩ := hget i x hx'
          rw [henc, List.getElem?_map] at hd
          cases hq : (encV (f i))[j]? with
          | none => rw [hq] at hd; cases hd
          | some c =>
            rw [hq] at hd
            simp only [Option.map_some, Option.some.injEq] at hd
            subst hd
            exact .v)
      rw [hL] at hr
      exact hr
    · intro v hv
      obtain ⟨i, hi, rfl⟩ := List.mem_map.1 hv
      exact (hf i (List.mem_range.1 hi)).1

theorem calls_of_fn {f : FuncId} {args : List D} {vs : Array Value} (h : Fn P f args fun d => d = .v (.bool true)) (hr : reps (baseCtx W fun b => b < W.heap.size) args vs.toList) :
    Calls P f vs W fun e W' => e = .returned (.bool true) ∧ Below W.heap.size W W' := by
  have := h.2 W _ vs.toList (fun b hb => hb) hr
  refine this.mono fun e w' hh => ?_
  obtain ⟨d, v, rfl, rfl, h1, h2⟩ := hh
  rw [rep_v h2]
  exact ⟨rfl, h1.toBelow⟩
end
end Go.Proofs.Ytfghccppoilfhaa.V
