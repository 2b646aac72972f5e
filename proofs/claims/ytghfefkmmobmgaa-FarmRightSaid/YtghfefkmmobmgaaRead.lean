/-
  A farm that comes in, read: its rows. No condition beyond the reading.
-/
import Derived.Test.YtghfefkmmobmgaaFlat
import Derived.Test.YtghfefkmmobmgaaFarm
import Derived.Deep.Slices
namespace Go.Proofs.Ytghfefkmmobmgaa
open Go.ChangeShapes Go.WideShapes Go.ChangeAt Go.RowKit Go.Deep

theorem wf_byte {n : Int} (h : (Lit.int .u8 n).wf = true) : 0 ≤ n ∧ n ≤ 255 := by
  simp [Lit.wf, IntKind.min, IntKind.max, IntKind.signed, IntKind.bits] at h; omega

section
variable {H : Type} {enc : TypeId × Value → H} {W : World}

theorem vip_elem {fuel : Nat} {cs : List Value} {x : DataW H × List MemPlace} (h : DataW.trod enc Try.prog W 0 (fun _ => true) true fuel 45 cs = some x) :
    ∃ v : VipD, vipW v ∧ ∀ (j : Nat) (c : Value), (vipV v)[j]? = some c → cs[j]? = some c := by
  obtain ⟨z, hz⟩ := trod_kinds (d := 3) [.i64, .u32, .u16, .u8, .i64] (by kernel_rfl) h
  refine ⟨(z 0, z 1, z 2, z 3, z 4), ?_, ?_⟩
  · have h1 := bounds_u32 (hz 1 _ rfl).2
    have h2 := bounds_u16 (hz 2 _ rfl).2
    have h3 := wf_byte (hz 3 _ rfl).2
    exact ⟨h1.1, by have := h1.2; simp only; omega, h2.1, h2.2, h3.1, h3.2⟩
  · intro j c hj
    match j, hj with
    | 0, hj => simp [vipV] at hj; subst hj; exact (hz 0 _ rfl).1
    | 1, hj => simp [vipV] at hj; subst hj; exact (hz 1 _ rfl).1
    | 2, hj => simp [vipV] at hj; subst hj; exact (hz 2 _ rfl).1
    | 3, hj => simp [vipV] at hj; subst hj; exact (hz 3 _ rfl).1
    | 4, hj => simp [vipV] at hj; subst hj; exact (hz 4 _ rfl).1
    | n + 5, hj => simp [vipV] at hj

theorem back_elem {fuel : Nat} {cs : List Value} {x : DataW H × List MemPlace} (h : DataW.trod enc Try.prog W 0 (fun _ => true) true fuel 50 cs = some x) :
    ∃ v : BackD, backW v ∧ ∀ (j : Nat) (c : Value), (backV v)[j]? = some c → cs[j]? = some c := by
  obtain ⟨z, hz⟩ := trod_kinds (d := 3) [.i64, .i64, .u32, .i64, .i64] (by kernel_rfl) h
  obtain ⟨v5, f5, y5, h5, h6⟩ := trod_cell 3 _ 4 5 _ _ _ h (by kernel_rfl)
  obtain ⟨b, e1, _⟩ := DataW.trod_bool Try.underlying4 h6
  simp only [List.cons.injEq, and_true] at e1
  subst e1
  refine ⟨(z 0, z 1, z 2, z 3, z 4, b), ?_, ?_⟩
  · have h1 := bounds_u32 (hz 2 _ rfl).2
    exact ⟨h1.1, by have := h1.2; simp only; omega⟩
  · intro j c hj
    match j, hj with
    | 0, hj => simp [backV] at hj; subst hj; exact (hz 0 _ rfl).1
    | 1, hj => simp [backV] at hj; subst hj; exact (hz 1 _ rfl).1
    | 2, hj => simp [backV] at hj; subst hj; exact (hz 2 _ rfl).1
    | 3, hj => simp [backV] at hj; subst hj; exact (hz 3 _ rfl).1
    | 4, hj => simp [backV] at hj; subst hj; exact (hz 4 _ rfl).1
    | 5, hj => simp [backV] at hj; subst hj; exact h5
    | n + 6, hj => simp [backV] at hj

/-- A slice of structs, read: its row. -/
theorem rows_of {α : Type} [Inhabited α] {t el : TypeId} {k : Nat} {encV : α → List Value} {ok : α → Prop} (ht : Try.prog.underlying t = some (.slice el)) (hk : Try.prog.cellsOf el = k) (hk0 : 0 < k)
    (hlen : ∀ x, (encV x).length = k) (helem : ∀ (fuel : Nat) (cs : List Value) (x : DataW H × List MemPlace), DataW.trod enc Try.prog W 0 (fun _ => true) true fuel el cs = some x → ∃ v, ok v ∧ ∀ (j : Nat) (c : Value), (encV v)[j]? = some c → cs[j]? = some c)
    {fuel : Nat} {sv : Value} {x : DataW H × List MemPlace} (h : DataW.trod enc Try.prog W 0 (fun _ => true) true fuel t [sv] = some x) :
    ∃ (p : Option Addr) (c : Nat) (L : List α), sv = .slice p L.length c ∧ L.length ≤ c ∧ RowsAt W encV k p L ∧ ∀ v ∈ L, ok v := by
  rcases open_slice ht h with ⟨h1, _⟩ | ⟨a, len, cap, m, n, D, Pl, h1, _, hlc, hcm, hm, _, hx⟩
  · simp only [List.cons.injEq, and_true] at h1
    exact ⟨none, 0, [], h1, Nat.le_refl _, fun i x hx => by simp at hx, fun v hv => by cases hv⟩
  · simp only [List.cons.injEq, and_true] at h1
    have hmc : len ≤ m := by rw [hm]; simp; omega
    have key : ∀ i, i < len → ∃ v : α, ok v ∧ ∀ (j : Nat) (c : Value), (encV v)[j]? = some c → W.cell? ((a.add (i * k)).add j) = some c := fun i hi => by
      obtain ⟨cs', g1, g2⟩ := hx i (by omega)
      obtain ⟨v, g3, g4⟩ := helem _ _ _ g2
      obtain ⟨_, g5, g6⟩ := World.cells?_some g1
      rw [hk] at g5 g6
      refine ⟨v, g3, fun j c hj => ?_⟩
      have hjk : j < k := by have := (List.getElem?_eq_some_iff.1 hj).1; rw [hlen] at this; exact this
      rw [g6 j hjk]
      exact g4 j c hj
    obtain ⟨f, hf⟩ := choose_lt (α := α) (p := fun i v => ok v ∧ ∀ (j : Nat) (c : Value), (encV v)[j]? = some c → W.cell? ((a.add (i * k)).add j) = some c) (n := len) key
    refine ⟨some a, cap, (List.range len).map f, by simpa using h1, by simpa using hlc, ?_, ?_⟩
    · intro i x hx'
      have hi : i < len := by have := (List.getElem?_eq_some_iff.1 hx').1; simpa using this
      have hxf : x = f i := by
        rw [List.getElem?_map, List.getElem?_range hi] at hx'
        simpa [eq_comm] using hx'
      subst hxf
      obtain ⟨b, o, sp⟩ := a
      have hsp : sp = none := by
        cases sp with
        | none => rfl
        | some s =>
          exfalso
          have hl0 := hlen (f 0)
          have h3 := (hf 0 (by omega)).2 0 ((encV (f 0))[0]'(by omega)) (List.getElem?_eq_getElem (by omega))
          simp only [Addr.add, Nat.zero_mul, if_true, World.cell?] at h3
          split at h3 <;> simp at h3
      subst hsp
      refine ⟨b, o, rfl, fun j c hj => ?_⟩
      have := (hf i hi).2 j c hj
      have ea : ((⟨b, o, none⟩ : Addr).add (i * k)).add j = ⟨b, o + i * k + j, none⟩ := by unfold Addr.add; split <;> split <;> simp_all
      rw [ea] at this
      exact this
    · intro v hv
      obtain ⟨i, hi, rfl⟩ := List.mem_map.1 hv
      exact (hf i (List.mem_range.1 hi)).1
end
end Go.Proofs.Ytghfefkmmobmgaa
