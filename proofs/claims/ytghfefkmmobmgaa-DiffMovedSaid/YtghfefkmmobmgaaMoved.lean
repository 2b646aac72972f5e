/-
  diff.Moved, the reference's Same, the law DiffMoved walked. Written by program (gen_moved.py). Conditions: the rows read.
-/
import Derived.Test.YtghfefkmmobmgaaRow
import Derived.Test.YtghfefkmmobmgaaProg
import Derived.LoopTactic
import Derived.Handy
import Derived.BigQuiet
namespace Go.Proofs.Ytghfefkmmobmgaa
open Go.RowKit

def cntD (V U : Nat → Int) : Nat → Nat
  | 0 => 0
  | k + 1 => cntD V U k + (if V k = U k then 0 else 1)
def cntW (V U : Nat → Int) (m n : Nat) : Nat → Nat
  | 0 => 0
  | k + 1 => cntW V U m n k + (if k < m ∧ k < n ∧ V k = U k then 0 else 1)

theorem cntD_le (V U : Nat → Int) : ∀ k, cntD V U k ≤ k
  | 0 => Nat.le_refl _
  | k + 1 => by have := cntD_le V U k; simp only [cntD]; split <;> omega
theorem cntW_le (V U : Nat → Int) (m n : Nat) : ∀ k, cntW V U m n k ≤ k
  | 0 => Nat.le_refl _
  | k + 1 => by have := cntW_le V U m n k; simp only [cntW]; split <;> omega
theorem cntW_low (V U : Nat → Int) (m n : Nat) : ∀ k, k ≤ m → k ≤ n → cntW V U m n k = cntD V U k
  | 0, _, _ => rfl
  | k + 1, h1, h2 => by
    have := cntW_low V U m n k (by omega) (by omega)
    simp only [cntW, cntD, this]
    by_cases h : V k = U k
    · rw [if_pos ⟨by omega, by omega, h⟩, if_pos h]
    · rw [if_neg (fun h' => h h'.2.2), if_neg h]
theorem cntW_high (V U : Nat → Int) (m n b : Nat) (hb : b = min m n) : ∀ k, b ≤ k → cntW V U m n k = cntD V U b + (k - b)
  | 0, h => by have : b = 0 := by omega
               subst this; simp [cntW, cntD]
  | k + 1, h => by
    by_cases hk : b ≤ k
    · have := cntW_high V U m n b hb k hk
      simp only [cntW, this]
      rw [if_neg (by omega)]; omega
    · have : b = k + 1 := by omega
      rw [← this, cntW_low V U m n b (by omega) (by omega)]; omega
theorem cntD_swap (V U : Nat → Int) : ∀ k, cntD V U k = cntD U V k
  | 0 => rfl
  | k + 1 => by simp only [cntD, cntD_swap V U k]; by_cases h : V k = U k
                · simp [h]
                · simp [h, Ne.symm h]
theorem cntD_zero (V U : Nat → Int) : ∀ k, cntD V U k = 0 ↔ ∀ i, i < k → V i = U i
  | 0 => by simp [cntD]
  | k + 1 => by
    simp only [cntD, Nat.add_eq_zero_iff, cntD_zero V U k]
    constructor
    · rintro ⟨h1, h2⟩ i hi
      by_cases h : V k = U k
      · rcases Nat.lt_succ_iff_lt_or_eq.1 hi with h' | rfl
        · exact h1 i h'
        · exact h
      · simp [h] at h2
    · intro h
      exact ⟨fun i hi => h i (by omega), by simp [h k (by omega)]⟩

/-- A slice of ints that reads. -/
def IntsAt (w : World) (p : Option Addr) (l : Nat) (V : Nat → Int) : Prop := ∀ i, i < l → ∃ b o, p = some ⟨b, o, none⟩ ∧ w.cell? ⟨b, o + i, none⟩ = some (.int .i64 (V i))

theorem IntsAt.below {w w' : World} {p : Option Addr} {l : Nat} {V : Nat → Int} (h : IntsAt w p l V) (hb : Below w.heap.size w w') : IntsAt w' p l V := fun i hi => by
  obtain ⟨b, o, hp, hc⟩ := h i hi
  exact ⟨b, o, hp, (hb.cell (World.block_lt_of_cell? w _ hc)).trans hc⟩

theorem drewN_below {B : Nat} {w w' : World} (h : Below B w w') (n : Nat) : Below B w (w'.drewN n) := by
  induction n with
  | zero => exact ⟨h.os, h.tape, h.output, h.size, h.block⟩
  | succ n ih => exact ⟨ih.os, ih.tape, ih.output, ih.size, ih.block⟩

theorem moved_le (p q : Option Addr) (m n c c' : Nat) (V U : Nat → Int) (w : World) (_hmn : m ≤ n) (_hn : n ≤ 300) (hp : IntsAt w p m V) (hq : IntsAt w q n U) :
    Calls Try.prog 11 #[.slice p m c, .slice q n c'] w fun e w' => e = .returned (.int .i64 ((n - m + cntD V U m : Nat) : Int)) ∧ w = w' := by
  have hlt : ¬ (n : Int) < m := by omega
  go_enter Try.func11, Try.ntmps11
  go_wp2
  go_loop [5, 23] (fun nn i => ∃ k : Nat, k ≤ m ∧ i = .int .i64 k ∧ nn = .int .i64 ((n : Int) - m + (cntD V U k : Nat))) (fun _ i => m - (intOf i).toNat)
  case atStart => exact ⟨0, Nat.zero_le _, rfl, by simp [cntD]⟩
  case round =>
    obtain ⟨k, hk, rfl, rfl⟩ := hrel
    have hle := cntD_le V U k
    by_cases hkl : k < m
    · obtain ⟨b, o, rfl, h0⟩ := hp k hkl
      obtain ⟨b2, o2, rfl, h1⟩ := hq k (by omega)
      by_cases heq : V k = U k
      · have hd : (U k != V k) = false := by simp [heq]
        go_wp2
        go_round
        case rel => exact ⟨k + 1, by omega, by go_num, by simp [cntD, heq]⟩
        case measure => simp only [intOf]; omega
      · have hd : (U k != V k) = true := by simp [Ne.symm heq]
        go_wp2
        go_round
        case rel => exact ⟨k + 1, by omega, by go_num, by simp [cntD, heq]; omega⟩
        case measure => simp only [intOf]; omega
    · have : k = m := by omega
      subst this
      go_wp2
      go_ret
      exact ⟨ret_int (by omega), rfl⟩

theorem moved_any (p q : Option Addr) (m n c c' : Nat) (V U : Nat → Int) (w : World) (_hm : m ≤ 300) (_hn : n ≤ 300) (hp : IntsAt w p m V) (hq : IntsAt w q n U) :
    Calls Try.prog 11 #[.slice p m c, .slice q n c'] w fun e w' => e = .returned (.int .i64 ((max m n - min m n + cntD V U (min m n) : Nat) : Int)) ∧ w = w' := by
  by_cases hmn : m ≤ n
  · rw [Nat.max_eq_right hmn, Nat.min_eq_left hmn]
    exact moved_le p q m n c c' V U w hmn _hn hp hq
  · have h1 : n ≤ m := by omega
    rw [Nat.max_eq_left h1, Nat.min_eq_right h1, cntD_swap]
    have hlt : (n : Int) < m := by omega
    go_enter Try.func11, Try.ntmps11
    go_wp2_with (first | (go_at_call 11; refine (moved_le q p n m c' c U V _ h1 _hm hq hp).mono ?_; rintro _ w' ⟨rfl, rfl⟩))
    go_ret
    exact ⟨rfl, rfl⟩

def AnsS (w : World) (p : Prop) (e : Ending) (w' : World) : Prop := ∃ r : Bool, e = .returned (.bool r) ∧ (r = true ↔ p) ∧ Below w.heap.size w w'
theorem AnsS.mk {w w' : World} {p : Prop} {e : Ending} (r : Bool) (h : e = .returned (.bool r)) (hp : r = true ↔ p) (hb : Below w.heap.size w w') : AnsS w p e w' := ⟨r, h, hp, hb⟩

theorem rsame_any (p q : Option Addr) (m n c c' : Nat) (V U : Nat → Int) (w : World) (_hm : m ≤ 300) (_hn : n ≤ 300) (hp : IntsAt w p m V) (hq : IntsAt w q n U) :
    Calls Try.prog 12 #[.slice p m c, .slice q n c'] w (AnsS w (m = n ∧ cntD V U m = 0)) := by
  by_cases hmn : m = n
  · subst hmn
    go_enter Try.func12, Try.ntmps12
    go_wp2
    go_loopw [5] (fun i wr => ∃ k : Nat, k ≤ m ∧ i = .int .i64 k ∧ Below w.heap.size w wr ∧ ∀ j, j < k → V j = U j) (fun i => fun _ => m - (intOf i).toNat)
    case atStart => exact ⟨0, Nat.zero_le _, rfl, Below.refl _ _, fun j h => by omega⟩
    case round =>
      obtain ⟨k, hk, rfl, hbw, hall⟩ := hrel
      by_cases hkl : k < m
      · obtain ⟨b, o, rfl, h0⟩ := (hp.below hbw) k hkl
        obtain ⟨b2, o2, rfl, h1⟩ := (hq.below hbw) k hkl
        by_cases heq : V k = U k
        · have hd : (V k != U k) = false := by simp [heq]
          go_wp2
          go_quiet (fail)
          go_wp2
          go_roundw
          case rel => exact ⟨k + 1, by omega, by go_num, by first | exact hbw | exact hbw.drew | exact drewN_below hbw _ | exact hbw.drew.drew, fun j hj => by rcases Nat.lt_succ_iff_lt_or_eq.1 hj with h | rfl; exact hall j h; exact heq⟩
          case measure => simp only [intOf]; omega
        · have hd : (V k != U k) = true := by simp [heq]
          go_wp2
          go_quiet (fail)
          go_wp2
          go_ret
          refine AnsS.mk _ rfl ?_ (by first | exact hbw | exact hbw.drew | exact drewN_below hbw _ | exact hbw.drew.drew)
          have : ¬ cntD V U m = 0 := fun h => heq ((cntD_zero V U m).1 h k hkl)
          simp [this]
      · have : k = m := by omega
        subst this
        go_wp2
        go_ret
        refine AnsS.mk _ rfl ?_ hbw
        simp [(cntD_zero V U k).2 hall]
  · have hd : ((m : Int) != n) = true := by simp; omega
    go_enter Try.func12, Try.ntmps12
    go_wp2
    go_ret
    exact AnsS.mk _ rfl (by simp [hmn]) (Below.refl _ _)
end Go.Proofs.Ytghfefkmmobmgaa
