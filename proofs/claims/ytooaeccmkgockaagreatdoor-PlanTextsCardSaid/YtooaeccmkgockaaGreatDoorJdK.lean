/-
  Words of orders, digits, numbers, by value: the program's and the document's. Conditions: numbers of their types.
-/
import Derived.Test.YtooaeccmkgockaaGreatDoorK4
import Derived.Test.YtooaeccmkgockaaGreatDoorAhK
namespace Go.Proofs.YtooaeccmkgockaaGreatDoor.V
open Go.RowKit
attribute [local irreducible] Fn FnN OpVC

theorem opW_no {n : Int} (h : n < 1 ∨ 7 < n) : opW n = [] := by
  unfold opW
  split <;> first | rfl | (exfalso; revert h; decide)
theorem modeW_no {n : Int} (h : n ≠ 1) (k : n ≠ 2) : modeW n = [] := by
  unfold modeW
  split <;> first | rfl | exact absurd rfl h | exact absurd rfl k
theorem protoW_no {n : Int} (h : n ≠ 6) (k : n ≠ 17) : protoW n = [] := by
  unfold protoW
  split <;> first | rfl | exact absurd rfl h | exact absurd rfl k
theorem word_fn (n : Int) : Fn Tryz.prog 24 [intD n] fun d => d = strD (opW n) := by
  refine fnOf [] Tryz.func24 rfl (by kernel_rfl) (Nat.le_of_ble_eq_true rfl) ?_
  by_cases h : n < 0
  · rw [opW_no (by omega)]
    conv => whnf
    refine Fork.intro (fun _ => ?_) (fun g => absurd h (of_decide_eq_false g))
    conv => whnf
    rfl
  by_cases h8 : 8 ≤ n
  · rw [opW_no (by omega)]
    conv => whnf
    refine Fork.intro (fun g => absurd (of_decide_eq_true g) h) (fun _ => ?_)
    conv => whnf
    refine Fork.intro (fun _ => ?_) (fun g => absurd h8 (of_decide_eq_false g))
    conv => whnf
    rfl
  rcases (by omega : n = 0 ∨ n = 1 ∨ n = 2 ∨ n = 3 ∨ n = 4 ∨ n = 5 ∨ n = 6 ∨ n = 7) with rfl | rfl | rfl | rfl | rfl | rfl | rfl | rfl
  all_goals
    conv => whnf
    (refine ⟨by decide, ?_⟩; conv => whnf)
    rfl
theorem pmode_fn (n : Int) : Fn Tryz.prog 30 [intD n] fun d => d = strD (modeW n) := by
  refine fnOf [] Tryz.func30 rfl (by kernel_rfl) (Nat.le_of_ble_eq_true rfl) ?_
  conv => whnf
  refine Fork.intro (fun h => ?_) (fun h => ?_)
  · obtain rfl : n = 1 := of_decide_eq_true h
    conv => whnf
    rfl
  · have h := of_decide_eq_false h
    conv => whnf
    refine Fork.intro (fun h2 => ?_) (fun h2 => ?_)
    · obtain rfl : n = 2 := of_decide_eq_true h2
      conv => whnf
      rfl
    · have h2 := of_decide_eq_false h2
      rw [modeW_no h h2]
      conv => whnf
      rfl
theorem proto_fn (n : Int) : Fn Tryz.prog 29 [.v (.int .u8 n)] fun d => d = strD (protoW n) := by
  refine fnOf [] Tryz.func29 rfl (by kernel_rfl) (Nat.le_of_ble_eq_true rfl) ?_
  conv => whnf
  refine Fork.intro (fun h => ?_) (fun h => ?_)
  · obtain rfl : n = 6 := of_decide_eq_true h
    conv => whnf
    rfl
  · have h := of_decide_eq_false h
    conv => whnf
    refine Fork.intro (fun h2 => ?_) (fun h2 => ?_)
    · obtain rfl : n = 17 := of_decide_eq_true h2
      conv => whnf
      rfl
    · have h2 := of_decide_eq_false h2
      rw [protoW_no h h2]
      conv => whnf
      rfl

def DgAt (n : Nat) (g : Nat × List Nat × Bool) : Prop := (g.2.2 = true → dgs n = dgs g.1 ++ g.2.1) ∧ (g.2.2 = false → g.2.1 = dgs n) ∧ g.1 ≤ n
theorem DgAt.step {n m : Nat} {out : List Nat} (hg : DgAt n (m, out, true)) : m ≤ n ∧ out.length ≤ (dgs n).length ∧ DgAt n (m / 10, (48 + m % 10) :: out, decide (0 < m / 10)) := by
  obtain ⟨h1, _, h3⟩ := hg
  have h1 := h1 rfl
  dsimp only at h1 h3
  refine ⟨h3, by rw [h1]; simp, fun g => ?_, fun g => ?_, by show m / 10 ≤ n; omega⟩
  · have g := of_decide_eq_true g
    dsimp only
    rw [h1, dgs_ge (n := m) (by omega)]
    simp
  · have g := of_decide_eq_false g
    dsimp only
    rw [h1, dgs_lt (n := m) (by omega), show m % 10 = m by omega]
    rfl
theorem digitsP_fn (n : Nat) (h : n < 10000000000) : Fn Tryz.prog 36 [intD n] fun d => d = strD (dgs n) := by
  refine fnOf [] Tryz.func36 rfl (by kernel_rfl) (Nat.le_of_ble_eq_true rfl) ?_
  have hlen := dgs_len 9 n (by omega)
  conv => whnf
  refine ⟨Nat × List Nat × Bool, fun g => ⟨[(4, boolD g.2.2), (3, strD g.2.1), (0, intD g.1)], [], 0, ([], 0)⟩,
    DgAt n, fun g => match g.2.2 with | true => g.1 + 1 | false => 0, ⟨(n, [], true), [], [], ?_, ⟨fun _ => by simp, fun h => (by cases h), Nat.le_refl _⟩⟩, ?_⟩
  · repeat' (first | exact trivial | exact .inl (DLe.refl _) | exact .inl (DLe.nil _ _) | (refine .inr ⟨rfl, _, ?_, rfl⟩; rfl) | exact rfl | exact Nat.zero_le _ | constructor)
  · rintro ⟨m, out, ok⟩ hg
    cases ok with
    | false =>
      dsimp only
      conv => whnf
      have hd : out = dgs n := hg.2.1 rfl
      rw [hd]
    | true =>
      obtain ⟨hm, ho, hnext⟩ := DgAt.step hg
      have e1 : IntKind.u8.wrap (IntKind.i64.wrap (48 + (m : Int).tmod 10)) = ((48 + m % 10 : Nat) : Int) := by
        rw [Int.tmod_eq_emod_of_nonneg (by omega), IntWalk.i64_in _ (by omega), u8_small (by omega)]; omega
      have e2 : IntKind.i64.wrap ((m : Int).tdiv 10) = ((m / 10 : Nat) : Int) := by
        rw [Int.tdiv_eq_ediv_of_nonneg (by omega), IntWalk.i64_in _ (by omega)]; omega
      have e3 : decide (0 < ((m / 10 : Nat) : Int)) = decide (0 < m / 10) := decide_eq_decide.2 (by omega)
      dsimp only
      conv => whnf
      refine ⟨by decide, ?_⟩
      conv => whnf
      (refine ⟨by decide, ?_⟩; conv => whnf)
      refine op_bytesStr (L := [((48 + m % 10 : Nat) : Int)]) ttH rfl rfl rfl rfl ?_ rfl ?_
      · exact congrArg (fun x => some [[u8D x]]) e1
      rw [bytesOf_str, show [((48 + m % 10 : Nat) : Int)].map Int.toNat = [48 + m % 10] from rfl]
      conv => whnf
      refine ⟨str_le (by simp; omega), ?_⟩
      rw [strB_append]
      conv => whnf
      refine ⟨by decide, ?_⟩
      conv => whnf
      rw [e2]
      conv => whnf
      rw [e3]
      refine ⟨(m / 10, (48 + m % 10) :: out, decide (0 < m / 10)), [], [], ?_, hnext, ?_⟩
      · repeat' (first | exact trivial | exact .inl (DLe.refl _) | exact .inl (DLe.nil _ _) | (refine .inr ⟨rfl, _, ?_, rfl⟩; rfl) | exact rfl | exact Nat.zero_le _ | constructor)
      · show (match decide (0 < m / 10) with | true => m / 10 + 1 | false => 0) < m + 1
        cases h9 : decide (0 < m / 10) with
        | true => have := of_decide_eq_true h9; show m / 10 + 1 < m + 1; omega
        | false => exact Nat.succ_pos _
theorem digitsI_fn (n : Int) (h : 0 ≤ n ∧ n < 10000000000) : Fn Tryz.prog 36 [intD n] fun d => d = strD (dgI n) := by
  have := digitsP_fn n.toNat (by omega)
  rw [show ((n.toNat : Nat) : Int) = n by omega] at this
  exact this

theorem within_fn (n m : Int) : Fn Tryz.prog 52 [intD n, intD m] fun d => d = boolD (decide (0 ≤ n ∧ n ≤ m)) := by
  refine fnOf [] Tryz.func52 rfl (by kernel_rfl) (Nat.le_of_ble_eq_true rfl) ?_
  conv => whnf
  refine Fork.intro (fun h => ?_) (fun h => ?_)
  · have h := of_decide_eq_true h
    conv => whnf
    rw [show decide (0 ≤ n ∧ n ≤ m) = decide (n ≤ m) from decide_eq_decide.2 ⟨fun g => g.2, fun g => ⟨h, g⟩⟩]
  · have h := of_decide_eq_false h
    conv => whnf
    rw [decide_eq_false (fun g => h g.1)]

def bareO (o : Ord) : Ord := match o.op with
  | .ofNat 1 => ⟨0, 1, o.id, 0, o.addr, o.port, o.proto, o.num⟩
  | .ofNat 2 => ⟨0, 2, o.id, o.vip, o.addr, 0, 0, o.num⟩
  | .ofNat 5 => ⟨0, 5, o.id, 0, 0, 0, 0, o.num⟩
  | .ofNat 6 => ⟨0, 6, o.id, 0, 0, 0, 0, o.num⟩
  | .ofNat 7 => ⟨0, 7, 0, 0, 0, 0, 0, 0⟩
  | _ => ⟨0, o.op, o.id, 0, 0, 0, 0, 0⟩
theorem bareO_other {o : Ord} (h1 : o.op ≠ 1) (h2 : o.op ≠ 2) (h5 : o.op ≠ 5) (h6 : o.op ≠ 6) (h7 : o.op ≠ 7) : bareO o = ⟨0, o.op, o.id, 0, 0, 0, 0, 0⟩ := by
  unfold bareO
  split
  · rename_i h; exact absurd h h1
  · rename_i h; exact absurd h h2
  · rename_i h; exact absurd h h5
  · rename_i h; exact absurd h h6
  · rename_i h; exact absurd h h7
  · rfl
set_option maxHeartbeats 8000000 in
theorem bare_fn (o : Ord) : Fn Tryz.prog 51 [.agg (ordD o)] fun d => d = .agg (ordD (bareO o)) := by
  refine fnOf [(4, [1000]), (6, [1000])] Tryz.func51 rfl (by kernel_rfl) (Nat.le_of_ble_eq_true rfl) ?_
  obtain ⟨count, op, id, vip, addr, port, proto, num⟩ := o
  by_cases h : op = 1 ∨ op = 2 ∨ op = 5 ∨ op = 6 ∨ op = 7
  · rcases h with rfl | rfl | rfl | rfl | rfl
    · conv => whnf
      refine ⟨Unit, fun _ => ⟨[(3, .loc 2 0), (2, .loc 1 0)], [(2, .cells 26 (ordD ⟨0, 1, id, 0, addr, port, proto, num⟩)), (1, .cells 26 (ordD zeroO))], 3, ([], 0)⟩, ?_, fun _ => ?_⟩
      · repeat' (first | (with_reducible refine And.intro ?_ ?_) | exact trivial | (refine ⟨(), [], [], ?_⟩; (repeat' (first | exact trivial | exact .inl (DLe.refl _) | exact .inl (DLe.nil _ _) | (refine .inr ⟨rfl, _, ?_, rfl⟩; rfl) | exact rfl | exact Nat.zero_le _ | constructor)); done) | (refine ⟨[], [], ?_⟩; (repeat' (first | exact trivial | exact .inl (DLe.refl _) | exact .inl (DLe.nil _ _) | (refine .inr ⟨rfl, _, ?_, rfl⟩; rfl) | exact rfl | exact Nat.zero_le _ | constructor)); done) | (refine And.intro ?_ ?_) | (conv => whnf))
      · conv => whnf
        rfl
    · conv => whnf
      refine ⟨Unit, fun _ => ⟨[(3, .loc 2 0), (2, .loc 1 0)], [(2, .cells 26 (ordD ⟨0, 2, id, vip, addr, 0, 0, num⟩)), (1, .cells 26 (ordD zeroO))], 3, ([], 0)⟩, ?_, fun _ => ?_⟩
      · repeat' (first | (with_reducible refine And.intro ?_ ?_) | exact trivial | (refine ⟨(), [], [], ?_⟩; (repeat' (first | exact trivial | exact .inl (DLe.refl _) | exact .inl (DLe.nil _ _) | (refine .inr ⟨rfl, _, ?_, rfl⟩; rfl) | exact rfl | exact Nat.zero_le _ | constructor)); done) | (refine ⟨[], [], ?_⟩; (repeat' (first | exact trivial | exact .inl (DLe.refl _) | exact .inl (DLe.nil _ _) | (refine .inr ⟨rfl, _, ?_, rfl⟩; rfl) | exact rfl | exact Nat.zero_le _ | constructor)); done) | (refine And.intro ?_ ?_) | (conv => whnf))
      · conv => whnf
        rfl
    all_goals
      conv => whnf
      rfl
  · rw [bareO_other (fun g => h (.inl g)) (fun g => h (.inr (.inl g))) (fun g => h (.inr (.inr (.inl g)))) (fun g => h (.inr (.inr (.inr (.inl g))))) (fun g => h (.inr (.inr (.inr (.inr g)))))]
    have k : op ≠ 1 ∧ op ≠ 2 ∧ op ≠ 5 ∧ op ≠ 6 ∧ op ≠ 7 := ⟨fun g => h (.inl g), fun g => h (.inr (.inl g)), fun g => h (.inr (.inr (.inl g))), fun g => h (.inr (.inr (.inr (.inl g)))), fun g => h (.inr (.inr (.inr (.inr g))))⟩
    conv => whnf
    refine Fork.intro (fun g => absurd (of_decide_eq_true g) k.1) (fun _ => ?_)
    conv => whnf
    refine Fork.intro (fun g => absurd (of_decide_eq_true g) k.2.1) (fun _ => ?_)
    conv => whnf
    refine Fork.intro (fun g => absurd (of_decide_eq_true g) k.2.2.1) (fun _ => ?_)
    conv => whnf
    refine Fork.intro (fun g => absurd (of_decide_eq_true g) k.2.2.2.1) (fun _ => ?_)
    conv => whnf
    refine Fork.intro (fun g => absurd (of_decide_eq_true g) k.2.2.2.2) (fun _ => ?_)
    conv => whnf
    rfl
end Go.Proofs.YtooaeccmkgockaaGreatDoor.V
