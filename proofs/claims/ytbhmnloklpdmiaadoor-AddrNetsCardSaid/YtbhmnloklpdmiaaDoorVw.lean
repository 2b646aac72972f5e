/-
  Words for numbers, and what stands first in a row. No condition.
-/
import Derived.Test.YtbhmnloklpdmiaaDoorVq
import Derived.IntWalk
namespace Go.Proofs.YtbhmnloklpdmiaaDoor.V
open Go.RowKit
abbrev intD (n : Int) : D := .v (.int .i64 n)
abbrev boolD (b : Bool) : D := .v (.bool b)
theorem wrap_next {k n : Nat} (h : k < n) (hn : n ≤ 1000000) : IntKind.i64.wrap ((k : Int) + 1) = ((k + 1 : Nat) : Int) := by
  rw [IntWalk.i64_in _ (by omega)]; omega
theorem nat_toNat (k : Nat) : (k : Int).toNat = k := by omega

/-- Where the first one stands for which something is so; below 0: nowhere. -/
def findI {α : Type} (p : α → Bool) (L : List α) : Int := match L.findIdx? p with
  | some i => (i : Int)
  | none => -1
theorem findI_at {α : Type} {p : α → Bool} {L : List α} {k : Nat} {x : α} (hx : L[k]? = some x) (h : p x = true) (hno : ∀ (j : Nat) u, j < k → L[j]? = some u → p u = false) : findI p L = k := by
  unfold findI
  have : L.findIdx? p = some k := by
    rw [List.findIdx?_eq_some_iff_getElem]
    obtain ⟨hk, rfl⟩ := List.getElem?_eq_some_iff.1 hx
    exact ⟨hk, h, fun j hj => by simpa using hno j _ hj (List.getElem?_eq_getElem (by omega))⟩
  rw [this]
theorem findI_none {α : Type} {p : α → Bool} {L : List α} (hno : ∀ (j : Nat) u, j < L.length → L[j]? = some u → p u = false) : findI p L = -1 := by
  unfold findI
  have : L.findIdx? p = none := by
    rw [List.findIdx?_eq_none_iff]
    intro x hx
    obtain ⟨j, hj, rfl⟩ := List.mem_iff_getElem.1 hx
    exact hno j _ hj (List.getElem?_eq_getElem hj)
  rw [this]
theorem no_next {α : Type} {p : α → Bool} {L : List α} {k : Nat} {x : α} (hx : L[k]? = some x) (h : p x = false) (hno : ∀ (j : Nat) u, j < k → L[j]? = some u → p u = false) : ∀ (j : Nat) u, j < k + 1 → L[j]? = some u → p u = false := by
  intro j u hj hu
  rcases Nat.lt_succ_iff_lt_or_eq.1 hj with h1 | rfl
  · exact hno j u h1 hu
  · rw [hx] at hu; injection hu with hu; subst hu; exact h

theorem u32_wrap (n : Int) : IntKind.u32.wrap n = n % 4294967296 := by
  rw [IntKind.wrap]; rfl
/-- The answer of a contract with an object, known up to what it says. -/
theorem Ob.exact {P : Program} {f : FuncId} {el : TypeId} {X rest : List D} {d0 : D} {X0 : List D} (h : Ob P f el X rest fun d X' => DLe d d0 ∧ X' = X0) : Ob P f el X rest fun d X' => d = d0 ∧ X' = X0 :=
  ⟨h.1, fun w B b c args' h1 h2 h3 h4 => (h.2 w B b c args' h1 h2 h3 h4).mono fun _ _ ⟨_, v, _, c', ⟨h5, h6⟩, h7, h8, h9, h10, h11⟩ => ⟨d0, v, X0, c', ⟨rfl, rfl⟩, h7, h8, h9, h6 ▸ h10, h5 _ _ h11⟩⟩
theorem sorted_unique {α : Type} {key : α → Int} : ∀ {l m : List α}, l.Perm m → l.Pairwise (fun x y => key x < key y) → m.Pairwise (fun x y => key x < key y) → l = m
  | [], m, hp, _, _ => (List.Perm.eq_nil hp.symm).symm
  | x :: l, [], hp, _, _ => by have := hp.length_eq; simp at this
  | x :: l, y :: m, hp, hl, hm => by
    rw [List.pairwise_cons] at hl hm
    have hxy : x = y := by
      have hx : x ∈ y :: m := hp.subset List.mem_cons_self
      have hy : y ∈ x :: l := hp.symm.subset List.mem_cons_self
      rcases List.mem_cons.1 hx with h | h
      · exact h
      · rcases List.mem_cons.1 hy with h' | h'
        · exact h'.symm
        · have h1 := hm.1 x h
          have h2 := hl.1 y h'
          omega
    subst hxy
    rw [sorted_unique (List.Perm.cons_inv hp) hl.2 hm.2]
theorem pairwise_get {α : Type} {R : α → α → Prop} {l : List α} : l.Pairwise R ↔ ∀ (i j : Nat) x y, j < i → l[i]? = some x → l[j]? = some y → R y x := by
  rw [List.pairwise_iff_getElem]
  constructor
  · intro h i j x y hij hx hy
    obtain ⟨hi, rfl⟩ := List.getElem?_eq_some_iff.1 hx
    obtain ⟨hj, rfl⟩ := List.getElem?_eq_some_iff.1 hy
    exact h j i hj hi hij
  · intro h i j hi hj hij
    exact h j i _ _ hij (List.getElem?_eq_getElem hj) (List.getElem?_eq_getElem hi)
theorem map_get {α β : Type} {f : α → β} {l : List α} {i : Nat} {y : β} (h : (l.map f)[i]? = some y) : ∃ x, l[i]? = some x ∧ f x = y := by
  rw [List.getElem?_map] at h
  cases hq : l[i]? with
  | none => rw [hq] at h; cases h
  | some x => rw [hq] at h; simp only [Option.map_some, Option.some.injEq] at h; exact ⟨x, rfl, h⟩
theorem get_map {α β : Type} (f : α → β) {l : List α} {i : Nat} {x : α} (h : l[i]? = some x) : (l.map f)[i]? = some (f x) := by
  rw [List.getElem?_map, h]; rfl
theorem sub_list {α : Type} {p : α → Prop} (L : List α) (h : ∀ x, x ∈ L → p x) : ∃ M : List {x // p x}, M.map Subtype.val = L := by
  induction L with
  | nil => exact ⟨[], rfl⟩
  | cons x r ih =>
    obtain ⟨M, hM⟩ := ih fun y hy => h y (List.mem_cons_of_mem _ hy)
    exact ⟨⟨x, h x List.mem_cons_self⟩ :: M, by simp [hM]⟩

/-- A row that is sorted, with numbers all of their own, is the one. -/
theorem sorted_one {α : Type} {key : α → Int} {S M : List α} (hS : S.Pairwise fun x y => key x < key y) (hp : M.Perm S) (h : ∀ (i j : Nat) x y, i < j → M[i]? = some x → M[j]? = some y → key x ≤ key y) : M = S := by
  refine sorted_unique hp (pairwise_get.2 fun i j x y hij hx hy => ?_) hS
  have h1 := h j i y x hij hy hx
  have h2 : S.Pairwise fun x y => key x ≠ key y := hS.imp (fun h => by omega)
  have h3 : M.Pairwise fun x y => key x ≠ key y := (List.Perm.pairwise_iff (fun {a b} h => Ne.symm h) hp).2 h2
  have h4 := pairwise_get.1 h3 i j x y hij hx hy
  omega

end Go.Proofs.YtbhmnloklpdmiaaDoor.V
