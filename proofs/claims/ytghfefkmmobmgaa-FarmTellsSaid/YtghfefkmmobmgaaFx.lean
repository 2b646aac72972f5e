/-
  Farms: deeds by the document, one behind the other. Conditions: numbers are of their types.
-/
import Derived.Test.YtghfefkmmobmgaaFw
namespace Go.Proofs.Ytghfefkmmobmgaa.V
open Go.RowKit
attribute [local irreducible] Fn CallVC OpVC

structure Deed where
  kind : Int
  v : Vip
  b : Back
  n : Int
def deedD (d : Deed) : List D := [intD d.kind, intD d.v.id, .v (.int .u32 d.v.addr), .v (.int .u16 d.v.port), .v (.int .u8 d.v.proto), intD d.v.mode,
  intD d.b.id, intD d.b.vip, .v (.int .u32 d.b.addr), intD d.b.weight, intD d.b.life, boolD d.b.up, intD d.n]
structure Deed.ok (d : Deed) : Prop where
  v : d.v.ok
  b : d.b.ok
abbrev rowsDeed (L : List Deed) : D := .rows Deed 13 deedD L

/-- Short farms of numbers of their types. -/
structure FarmOk (V : List Vip) (B : List Back) : Prop where
  lv : V.length ≤ 4
  lb : B.length ≤ 16
  v : ∀ x, x ∈ V → x.ok
  b : ∀ x, x ∈ B → x.ok

theorem ins_mem {α : Type} {key : α → Int} {x y : α} : ∀ {l : List α}, y ∈ insBy key x l → y = x ∨ y ∈ l
  | [], h => by simp [insBy] at h; exact .inl h
  | z :: r, h => by
    simp only [insBy] at h
    split at h
    · rcases List.mem_cons.1 h with h | h
      · exact .inl h
      · exact .inr h
    · rcases List.mem_cons.1 h with h | h
      · exact .inr (by rw [h]; exact List.mem_cons_self)
      · rcases ins_mem h with h | h
        · exact .inl h
        · exact .inr (List.mem_cons_of_mem _ h)
theorem ins_len {α : Type} {key : α → Int} {x : α} : ∀ l : List α, (insBy key x l).length = l.length + 1
  | [] => rfl
  | y :: r => by simp only [insBy]; split <;> simp [ins_len r]

theorem addV_ok {V : List Vip} {B : List Back} {v : Vip} (h : FarmOk V B) (hv : v.ok) : FarmOk (addV V v).1 B := by
  unfold addV
  split
  · exact h
  · split
    · exact h
    · split
      · exact h
      · rename_i h4
        have h4 := of_decide_eq_false h4
        refine ⟨by rw [ins_len]; have := h.lv; omega, h.lb, fun x hx => ?_, h.b⟩
        rcases ins_mem hx with rfl | hx
        · exact hv
        · exact h.v x hx
theorem addB_ok {V : List Vip} {B : List Back} {b : Back} (h : FarmOk V B) (hb : b.ok) : FarmOk V (addB V B b).1 := by
  unfold addB
  split
  · exact h
  · split
    · exact h
    · split
      · exact h
      · split
        · exact h
        · rename_i h4
          have h4 := of_decide_eq_false h4
          refine ⟨h.lv, by rw [ins_len]; have := h.lb; omega, h.v, fun x hx => ?_⟩
          rcases ins_mem hx with rfl | hx
          · exact ⟨hb.id, hb.addr⟩
          · exact h.b x hx
theorem withB_mem {B : List Back} {b : Back} {no : Bool} {x : Back} (h : x ∈ withB B b no) : x = b ∨ x ∈ B := by
  unfold withB at h
  rw [List.mem_flatMap] at h
  obtain ⟨y, hy, h⟩ := h
  unfold with1 at h
  split at h
  · simp at h; subst h; exact .inr hy
  · split at h
    · simp at h; exact .inl h
    · cases h
theorem changeB_ok {V : List Vip} {B : List Back} {kind id w : Int} (h : FarmOk V B) : FarmOk V (changeB B kind id w).1 := by
  unfold changeB
  split
  · exact h
  · split
    · exact h
    · split
      · exact h
      · rename_i b hb
        refine ⟨h.lv, Nat.le_trans (withB_len _ _ _) h.lb, h.v, fun x hx => ?_⟩
        rcases withB_mem hx with rfl | hx
        · have := h.b b (List.mem_of_getElem? hb)
          exact ⟨this.id, this.addr⟩
        · exact h.b x hx
theorem modeV_ok {V : List Vip} {B : List Back} {id m : Int} (h : FarmOk V B) : FarmOk (modeV V id m).1 B := by
  unfold modeV
  split
  · exact h
  · rename_i hm
    split
    · exact h
    · split
      · exact h
      · split
        · exact h
        · refine ⟨by simpa using h.lv, h.lb, fun x hx => ?_, h.b⟩
          rw [List.mem_mapIdx] at hx
          obtain ⟨i, hi, rfl⟩ := hx
          have := h.v V[i] (List.getElem_mem hi)
          unfold mode1
          split
          · refine ⟨this.id, this.addr, this.port, this.proto, ?_⟩
            show -9223372036854775808 ≤ m ∧ m ≤ 9223372036854775807
            simp only [Bool.and_eq_false_iff, Bool.not_eq_false', decide_eq_true_eq] at hm
            omega
          · exact this

def would (V : List Vip) (B : List Back) (d : Deed) : (List Vip × List Back) × Int := match decide (d.kind = 0) with
  | true => (((addV V d.v).1, B), (addV V d.v).2)
  | false => match decide (d.kind = 1) with
    | true => ((V, (addB V B d.b).1), (addB V B d.b).2)
    | false => match decide (2 ≤ d.kind) && decide (d.kind ≤ 6) with
      | true => ((V, (changeB B (d.kind - 2) d.b.id d.n).1), (changeB B (d.kind - 2) d.b.id d.n).2)
      | false => (((modeV V d.v.id d.n).1, B), (modeV V d.v.id d.n).2)

theorem would_ok {V : List Vip} {B : List Back} {d : Deed} (h : FarmOk V B) (hd : d.ok) : FarmOk (would V B d).1.1 (would V B d).1.2 := by
  unfold would
  split
  · exact addV_ok h hd.v
  · split
    · exact addB_ok h hd.b
    · split
      · exact changeB_ok h
      · exact modeV_ok h

theorem tupF {B B' : List Back} {V V' : List Vip} {n n' : Int} (h : ((V, B), n) = ((V', B'), n')) : D.tup [farmD V B, intD n] = D.tup [farmD V' B', intD n'] := by
  injection h with h1 h2
  injection h1 with h1 h3
  rw [h1, h2, h3]
theorem wrap_sub2 {k : Int} (h : 2 ≤ k) (h6 : k ≤ 6) : IntKind.i64.wrap (k - 2) = k - 2 := by
  rw [IntWalk.i64_in _ (by omega)]

theorem would_fn (V : List Vip) (B : List Back) (d : Deed) (h : FarmOk V B) (hd : d.ok) : Fn Try.prog 60 [farmD V B, .agg (deedD d)] fun r => r = .tup [farmD (would V B d).1.1 (would V B d).1.2, intD (would V B d).2] := by
  refine fnOf [] Try.func60 rfl (by kernel_rfl) (Nat.le_of_ble_eq_true rfl) ?_
  conv => whnf
  repeat' (first
    | (refine Fork.intro (fun _ => ?_) (fun _ => ?_) <;> conv => whnf)
    | (refine CallVC.pure (addVip_fn V B d.v hd.v h.lv) rfl ?_; rintro _ rfl; conv => whnf)
    | (refine CallVC.pure (addBackend_fn V B d.b hd.b h.lv h.lb) rfl ?_; rintro _ rfl; conv => whnf)
    | (refine CallVC.pure (change_fn V B _ d.b.id d.n h.lb) rfl ?_; rintro _ rfl; conv => whnf)
    | (refine CallVC.pure (mode_fn V B d.v.id d.n h.lv) rfl ?_; rintro _ rfl; conv => whnf))
  all_goals
    refine tupF ?_
    simp only [decide_eq_true_eq, decide_eq_false_iff_not] at *
    try rw [wrap_sub2 (by omega) (by omega)]
    unfold would
    first
      | rw [decide_eq_true (by assumption : d.kind = 0)]
      | (rw [decide_eq_false (by assumption : ¬ d.kind = 0)]
         first
           | rw [decide_eq_true (by assumption : d.kind = 1)]
           | (rw [decide_eq_false (by assumption : ¬ d.kind = 1)]
              first
                | rw [decide_eq_true (by omega : 2 ≤ d.kind), decide_eq_true (by omega : d.kind ≤ 6)]; rfl
                | (have : (decide (2 ≤ d.kind) && decide (d.kind ≤ 6)) = false := by
                     rw [← Bool.not_eq_true, Bool.and_eq_true, decide_eq_true_eq, decide_eq_true_eq]; omega
                   rw [this])))

def madeTo (L : List Deed) : Nat → List Vip × List Back
  | 0 => ([], [])
  | k + 1 => match L[k]? with
    | some d => (would (madeTo L k).1 (madeTo L k).2 d).1
    | none => madeTo L k
def made (L : List Deed) : List Vip × List Back := madeTo L (min L.length 60)
theorem madeTo_ok {L : List Deed} (h : ∀ x, x ∈ L → x.ok) : ∀ k, FarmOk (madeTo L k).1 (madeTo L k).2
  | 0 => ⟨Nat.zero_le _, Nat.zero_le _, fun x h => by simp [madeTo] at h, fun x h => by simp [madeTo] at h⟩
  | k + 1 => by
    rw [madeTo]
    split
    · rename_i d hd
      exact would_ok (madeTo_ok h k) (h d (List.mem_of_getElem? hd))
    · exact madeTo_ok h k

theorem made_fn (L : List Deed) (hL : ∀ x, x ∈ L → x.ok) : Fn Try.prog 23 [rowsDeed L] fun r => r = farmD (made L).1 (made L).2 := by
  refine fnOf [] Try.func23 rfl (by kernel_rfl) (Nat.le_of_ble_eq_true rfl) ?_
  conv => whnf
  refine ⟨Nat, fun k => ⟨[(4, intD k), (3, .loc 1 0), (2, .loc 0 0), (0, rowsDeed L)], [(0, .cells 29 [.v (.slice none 0 0), .v (.slice none 0 0)]), (1, .cells 29 [rowsV (madeTo L k).1, rowsB (madeTo L k).2])], 2, ([], 0)⟩,
    fun k => k ≤ L.length ∧ k ≤ 60, fun k => L.length - k, ⟨0, [], [], ?_, Nat.zero_le _, Nat.zero_le _⟩, ?_⟩
  · repeat' (first | exact trivial | exact .inl (DLe.refl _) | exact .inl (DLe.nil _ _) | (refine .inr ⟨rfl, _, ?_, rfl⟩; rfl) | exact rfl | exact Nat.zero_le _ | constructor)
  · rintro k ⟨hk, hk60⟩
    have hend : ¬ (k < L.length ∧ k < 60) → made L = madeTo L k := fun h => by
      unfold made
      congr 1
      omega
    conv => whnf
    refine Fork.intro (fun h1 => ?_) (fun h1 => ?_)
    · have hlt : (k : Int) < L.length := of_decide_eq_true h1
      conv => whnf
      refine Fork.intro (fun h2 => ?_) (fun h2 => ?_)
      · have hlt2 : (k : Int) < 60 := of_decide_eq_true h2
        conv => whnf
        refine ⟨rfl, ⟨by omega, hlt⟩, fun x hx => ?_⟩
        have hxk : L[k]? = some x := by simpa using hx
        have hn : madeTo L (k + 1) = (would (madeTo L k).1 (madeTo L k).2 x).1 := by rw [madeTo, hxk]
        conv => whnf
        refine CallVC.pure (would_fn _ _ x (madeTo_ok hL k) (hL x (List.mem_of_getElem? hxk))) rfl ?_
        rintro _ rfl
        rw [← hn]
        conv => whnf
        rw [wrap_next (show k < 60 by omega) (by omega)]
        refine ⟨k + 1, [], [], ?_, ⟨by omega, by omega⟩, by show L.length - (k + 1) < L.length - k; omega⟩
        repeat' (first | exact trivial | exact .inl (DLe.refl _) | exact .inl (DLe.nil _ _) | (refine .inr ⟨rfl, _, ?_, rfl⟩; rfl) | exact rfl | exact Nat.zero_le _ | constructor)
      · conv => whnf
        have hge : ¬ (k : Int) < 60 := of_decide_eq_false h2
        rw [hend (by omega)]
        rfl
    · conv => whnf
      have hge : ¬ (k : Int) < L.length := of_decide_eq_false h1
      rw [hend (by omega)]
      rfl
end Go.Proofs.Ytghfefkmmobmgaa.V
