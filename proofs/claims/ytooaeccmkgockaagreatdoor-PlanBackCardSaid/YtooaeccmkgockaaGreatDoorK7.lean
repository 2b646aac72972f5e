/-
  Words of orders, digits, numbers, by value: the program's and the document's. Conditions: numbers of their types.
  Numbers read, words looked for, which orders may be written: the program's, by value. Conditions: numbers of their types.
  Which orders may be written: the program's, and the document's, by value. Conditions: numbers of their types.
-/
import Derived.Test.YtooaeccmkgockaaGreatDoorK4
import Derived.Test.YtooaeccmkgockaaGreatDoorAfK
namespace Go.Proofs.YtooaeccmkgockaaGreatDoor.V
open Go.RowKit
attribute [local irreducible] Fn FnN OpVC

theorem opW_no {n : Int} (h : n < 1 ∨ 7 < n) : opW n = [] := by
  unfold opW
  split <;> first | rfl | (exfalso; revert h; decide)
theorem modeW_no {n : Int} (h : n ≠ 1) (k : n ≠ 2) : modeW n = [] := by
  unfold modeW
  split <;> first | rfl | exact absurd rfl h | exact absurd rfl k
theorem protoW_no {n : Int} (h : n ≠ 6) (k : n ≠ 17) : protoW n = [] := by
  unfold protoW
  split <;> first | rfl | exact absurd rfl h | exact absurd rfl k
theorem word_fn (n : Int) : Fn Tryz.prog 24 [intD n] fun d => d = strD (opW n) := by
  refine fnOf [] Tryz.func24 rfl (by kernel_rfl) (Nat.le_of_ble_eq_true rfl) ?_
  by_cases h : n < 0
  · rw [opW_no (by omega)]
    conv => whnf
    refine Fork.intro (fun _ => ?_) (fun g => absurd h (of_decide_eq_false g))
    conv => whnf
    rfl
  by_cases h8 : 8 ≤ n
  · rw [opW_no (by omega)]
    conv => whnf
    refine Fork.intro (fun g => absurd (of_decide_eq_true g) h) (fun _ => ?_)
    conv => whnf
    refine Fork.intro (fun _ => ?_) (fun g => absurd h8 (of_decide_eq_false g))
    conv => whnf
    rfl
  rcases (by omega : n = 0 ∨ n = 1 ∨ n = 2 ∨ n = 3 ∨ n = 4 ∨ n = 5 ∨ n = 6 ∨ n = 7) with rfl | rfl | rfl | rfl | rfl | rfl | rfl | rfl
  all_goals
    conv => whnf
    (refine ⟨by decide, ?_⟩; conv => whnf)
    rfl
theorem pmode_fn (n : Int) : Fn Tryz.prog 30 [intD n] fun d => d = strD (modeW n) := by
  refine fnOf [] Tryz.func30 rfl (by kernel_rfl) (Nat.le_of_ble_eq_true rfl) ?_
  conv => whnf
  refine Fork.intro (fun h => ?_) (fun h => ?_)
  · obtain rfl : n = 1 := of_decide_eq_true h
    conv => whnf
    rfl
  · have h := of_decide_eq_false h
    conv => whnf
    refine Fork.intro (fun h2 => ?_) (fun h2 => ?_)
    · obtain rfl : n = 2 := of_decide_eq_true h2
      conv => whnf
      rfl
    · have h2 := of_decide_eq_false h2
      rw [modeW_no h h2]
      conv => whnf
      rfl
theorem proto_fn (n : Int) : Fn Tryz.prog 29 [.v (.int .u8 n)] fun d => d = strD (protoW n) := by
  refine fnOf [] Tryz.func29 rfl (by kernel_rfl) (Nat.le_of_ble_eq_true rfl) ?_
  conv => whnf
  refine Fork.intro (fun h => ?_) (fun h => ?_)
  · obtain rfl : n = 6 := of_decide_eq_true h
    conv => whnf
    rfl
  · have h := of_decide_eq_false h
    conv => whnf
    refine Fork.intro (fun h2 => ?_) (fun h2 => ?_)
    · obtain rfl : n = 17 := of_decide_eq_true h2
      conv => whnf
      rfl
    · have h2 := of_decide_eq_false h2
      rw [protoW_no h h2]
      conv => whnf
      rfl

def DgAt (n : Nat) (g : Nat × List Nat × Bool) : Prop := (g.2.2 = true → dgs n = dgs g.1 ++ g.2.1) ∧ (g.2.2 = false → g.2.1 = dgs n) ∧ g.1 ≤ n
theorem DgAt.step {n m : Nat} {out : List Nat} (hg : DgAt n (m, out, true)) : m ≤ n ∧ out.length ≤ (dgs n).length ∧ DgAt n (m / 10, (48 + m % 10) :: out, decide (0 < m / 10)) := by
  obtain ⟨h1, _, h3⟩ := hg
  have h1 := h1 rfl
  dsimp only at h1 h3
  refine ⟨h3, by rw [h1]; simp, fun g => ?_, fun g => ?_, by show m / 10 ≤ n; omega⟩
  · have g := of_decide_eq_true g
    dsimp only
    rw [h1, dgs_ge (n := m) (by omega)]
    simp
  · have g := of_decide_eq_false g
    dsimp only
    rw [h1, dgs_lt (n := m) (by omega), show m % 10 = m by omega]
    rfl
theorem digitsP_fn (n : Nat) (h : n < 10000000000) : Fn Tryz.prog 36 [intD n] fun d => d = strD (dgs n) := by
  refine fnOf [] Tryz.func36 rfl (by kernel_rfl) (Nat.le_of_ble_eq_true rfl) ?_
  have hlen := dgs_len 9 n (by omega)
  conv => whnf
  refine ⟨Nat × List Nat × Bool, fun g => ⟨[(4, boolD g.2.2), (3, strD g.2.1), (0, intD g.1)], [], 0, ([], 0)⟩,
    DgAt n, fun g => match g.2.2 with | true => g.1 + 1 | false => 0, ⟨(n, [], true), [], [], ?_, ⟨fun _ => by simp, fun h => (by cases h), Nat.le_refl _⟩⟩, ?_⟩
  · repeat' (first | exact trivial | exact .inl (DLe.refl _) | exact .inl (DLe.nil _ _) | (refine .inr ⟨rfl, _, ?_, rfl⟩; rfl) | exact rfl | exact Nat.zero_le _ | constructor)
  · rintro ⟨m, out, ok⟩ hg
    cases ok with
    | false =>
      dsimp only
      conv => whnf
      have hd : out = dgs n := hg.2.1 rfl
      rw [hd]
    | true =>
      obtain ⟨hm, ho, hnext⟩ := DgAt.step hg
      have e1 : IntKind.u8.wrap (IntKind.i64.wrap (48 + (m : Int).tmod 10)) = ((48 + m % 10 : Nat) : Int) := by
        rw [Int.tmod_eq_emod_of_nonneg (by omega), IntWalk.i64_in _ (by omega), u8_small (by omega)]; omega
      have e2 : IntKind.i64.wrap ((m : Int).tdiv 10) = ((m / 10 : Nat) : Int) := by
        rw [Int.tdiv_eq_ediv_of_nonneg (by omega), IntWalk.i64_in _ (by omega)]; omega
      have e3 : decide (0 < ((m / 10 : Nat) : Int)) = decide (0 < m / 10) := decide_eq_decide.2 (by omega)
      dsimp only
      conv => whnf
      refine ⟨by decide, ?_⟩
      conv => whnf
      (refine ⟨by decide, ?_⟩; conv => whnf)
      refine op_bytesStr (L := [((48 + m % 10 : Nat) : Int)]) ttH rfl rfl rfl rfl ?_ rfl ?_
      · exact congrArg (fun x => some [[u8D x]]) e1
      rw [bytesOf_str, show [((48 + m % 10 : Nat) : Int)].map Int.toNat = [48 + m % 10] from rfl]
      conv => whnf
      refine ⟨str_le (by simp; omega), ?_⟩
      rw [strB_append]
      conv => whnf
      refine ⟨by decide, ?_⟩
      conv => whnf
      rw [e2]
      conv => whnf
      rw [e3]
      refine ⟨(m / 10, (48 + m % 10) :: out, decide (0 < m / 10)), [], [], ?_, hnext, ?_⟩
      · repeat' (first | exact trivial | exact .inl (DLe.refl _) | exact .inl (DLe.nil _ _) | (refine .inr ⟨rfl, _, ?_, rfl⟩; rfl) | exact rfl | exact Nat.zero_le _ | constructor)
      · show (match decide (0 < m / 10) with | true => m / 10 + 1 | false => 0) < m + 1
        cases h9 : decide (0 < m / 10) with
        | true => have := of_decide_eq_true h9; show m / 10 + 1 < m + 1; omega
        | false => exact Nat.succ_pos _
theorem digitsI_fn (n : Int) (h : 0 ≤ n ∧ n < 10000000000) : Fn Tryz.prog 36 [intD n] fun d => d = strD (dgI n) := by
  have := digitsP_fn n.toNat (by omega)
  rw [show ((n.toNat : Nat) : Int) = n by omega] at this
  exact this

theorem within_fn (n m : Int) : Fn Tryz.prog 52 [intD n, intD m] fun d => d = boolD (decide (0 ≤ n ∧ n ≤ m)) := by
  refine fnOf [] Tryz.func52 rfl (by kernel_rfl) (Nat.le_of_ble_eq_true rfl) ?_
  conv => whnf
  refine Fork.intro (fun h => ?_) (fun h => ?_)
  · have h := of_decide_eq_true h
    conv => whnf
    rw [show decide (0 ≤ n ∧ n ≤ m) = decide (n ≤ m) from decide_eq_decide.2 ⟨fun g => g.2, fun g => ⟨h, g⟩⟩]
  · have h := of_decide_eq_false h
    conv => whnf
    rw [decide_eq_false (fun g => h g.1)]

def bareO (o : Ord) : Ord := match o.op with
  | .ofNat 1 => ⟨0, 1, o.id, 0, o.addr, o.port, o.proto, o.num⟩
  | .ofNat 2 => ⟨0, 2, o.id, o.vip, o.addr, 0, 0, o.num⟩
  | .ofNat 5 => ⟨0, 5, o.id, 0, 0, 0, 0, o.num⟩
  | .ofNat 6 => ⟨0, 6, o.id, 0, 0, 0, 0, o.num⟩
  | .ofNat 7 => ⟨0, 7, 0, 0, 0, 0, 0, 0⟩
  | _ => ⟨0, o.op, o.id, 0, 0, 0, 0, 0⟩
theorem bareO_other {o : Ord} (h1 : o.op ≠ 1) (h2 : o.op ≠ 2) (h5 : o.op ≠ 5) (h6 : o.op ≠ 6) (h7 : o.op ≠ 7) : bareO o = ⟨0, o.op, o.id, 0, 0, 0, 0, 0⟩ := by
  unfold bareO
  split
  · rename_i h; exact absurd h h1
  · rename_i h; exact absurd h h2
  · rename_i h; exact absurd h h5
  · rename_i h; exact absurd h h6
  · rename_i h; exact absurd h h7
  · rfl
set_option maxHeartbeats 8000000 in
theorem bare_fn (o : Ord) : Fn Tryz.prog 51 [.agg (ordD o)] fun d => d = .agg (ordD (bareO o)) := by
  refine fnOf [(4, [1000]), (6, [1000])] Tryz.func51 rfl (by kernel_rfl) (Nat.le_of_ble_eq_true rfl) ?_
  obtain ⟨count, op, id, vip, addr, port, proto, num⟩ := o
  by_cases h : op = 1 ∨ op = 2 ∨ op = 5 ∨ op = 6 ∨ op = 7
  · rcases h with rfl | rfl | rfl | rfl | rfl
    · conv => whnf
      refine ⟨Unit, fun _ => ⟨[(3, .loc 2 0), (2, .loc 1 0)], [(2, .cells 26 (ordD ⟨0, 1, id, 0, addr, port, proto, num⟩)), (1, .cells 26 (ordD zeroO))], 3, ([], 0)⟩, ?_, fun _ => ?_⟩
      · repeat' (first | (with_reducible refine And.intro ?_ ?_) | exact trivial | (refine ⟨(), [], [], ?_⟩; (repeat' (first | exact trivial | exact .inl (DLe.refl _) | exact .inl (DLe.nil _ _) | (refine .inr ⟨rfl, _, ?_, rfl⟩; rfl) | exact rfl | exact Nat.zero_le _ | constructor)); done) | (refine ⟨[], [], ?_⟩; (repeat' (first | exact trivial | exact .inl (DLe.refl _) | exact .inl (DLe.nil _ _) | (refine .inr ⟨rfl, _, ?_, rfl⟩; rfl) | exact rfl | exact Nat.zero_le _ | constructor)); done) | (refine And.intro ?_ ?_) | (conv => whnf))
      · conv => whnf
        rfl
    · conv => whnf
      refine ⟨Unit, fun _ => ⟨[(3, .loc 2 0), (2, .loc 1 0)], [(2, .cells 26 (ordD ⟨0, 2, id, vip, addr, 0, 0, num⟩)), (1, .cells 26 (ordD zeroO))], 3, ([], 0)⟩, ?_, fun _ => ?_⟩
      · repeat' (first | (with_reducible refine And.intro ?_ ?_) | exact trivial | (refine ⟨(), [], [], ?_⟩; (repeat' (first | exact trivial | exact .inl (DLe.refl _) | exact .inl (DLe.nil _ _) | (refine .inr ⟨rfl, _, ?_, rfl⟩; rfl) | exact rfl | exact Nat.zero_le _ | constructor)); done) | (refine ⟨[], [], ?_⟩; (repeat' (first | exact trivial | exact .inl (DLe.refl _) | exact .inl (DLe.nil _ _) | (refine .inr ⟨rfl, _, ?_, rfl⟩; rfl) | exact rfl | exact Nat.zero_le _ | constructor)); done) | (refine And.intro ?_ ?_) | (conv => whnf))
      · conv => whnf
        rfl
    all_goals
      conv => whnf
      rfl
  · rw [bareO_other (fun g => h (.inl g)) (fun g => h (.inr (.inl g))) (fun g => h (.inr (.inr (.inl g)))) (fun g => h (.inr (.inr (.inr (.inl g))))) (fun g => h (.inr (.inr (.inr (.inr g)))))]
    have k : op ≠ 1 ∧ op ≠ 2 ∧ op ≠ 5 ∧ op ≠ 6 ∧ op ≠ 7 := ⟨fun g => h (.inl g), fun g => h (.inr (.inl g)), fun g => h (.inr (.inr (.inl g))), fun g => h (.inr (.inr (.inr (.inl g)))), fun g => h (.inr (.inr (.inr (.inr g))))⟩
    conv => whnf
    refine Fork.intro (fun g => absurd (of_decide_eq_true g) k.1) (fun _ => ?_)
    conv => whnf
    refine Fork.intro (fun g => absurd (of_decide_eq_true g) k.2.1) (fun _ => ?_)
    conv => whnf
    refine Fork.intro (fun g => absurd (of_decide_eq_true g) k.2.2.1) (fun _ => ?_)
    conv => whnf
    refine Fork.intro (fun g => absurd (of_decide_eq_true g) k.2.2.2.1) (fun _ => ?_)
    conv => whnf
    refine Fork.intro (fun g => absurd (of_decide_eq_true g) k.2.2.2.2) (fun _ => ?_)
    conv => whnf
    rfl
end Go.Proofs.YtooaeccmkgockaaGreatDoor.V
namespace Go.Proofs.YtooaeccmkgockaaGreatDoor.V
open Go.RowKit
attribute [local irreducible] Fn FnN OpVC

theorem str_no {s : List Nat} (hs : Byt s) {b : Bool} (h : (!((strB s).toList == (strB []).toList)) = b) : (b = true → s ≠ []) ∧ (b = false → s = []) := by
  rw [strB_beq hs .nil] at h
  subst h
  exact ⟨fun h => by simpa using h, fun h => by simpa using h⟩
theorem str_is {s t : List Nat} (hs : Byt s) (ht : Byt t) {b : Bool} (h : ((strB s).toList == (strB t).toList) = b) : (b = true → s = t) ∧ (b = false → s ≠ t) := by
  rw [strB_beq hs ht] at h
  subst h
  exact ⟨fun h => by simpa using h, fun h => by simpa using h⟩
theorem numS_next {bad : Int} {l : List Nat} {k n x : Nat} (hx : l[k]? = some x) (hs : numS bad l 0 = numS bad (l.drop k) n) : numS bad l 0 = match isDig x && !decide (65535 < n) with
    | true => numS bad (l.drop (k + 1)) (n * 10 + (x - 48))
    | false => bad := by
  have e : l.drop k = x :: l.drop (k + 1) := by
    have hk := (List.getElem?_eq_some_iff.1 hx).1
    rw [List.drop_eq_getElem_cons hk]
    congr 1
    rw [List.getElem?_eq_getElem hk] at hx
    injection hx
  rw [hs, e, numS]
  rfl
theorem numP_ne {l : List Nat} (h : l ≠ []) : numP l = numS (-1) l 0 := by
  unfold numP; split
  · rename_i h1; exact absurd rfl h
  · rfl

set_option maxHeartbeats 1000000 in
theorem number_fnP (l : List Nat) (hl : Byt l) : Fn Tryz.prog 25 [strD l] fun d => d = intD (numP l) := by
  refine fnOf [] Tryz.func25 rfl (by kernel_rfl) (Nat.le_of_ble_eq_true rfl) ?_
  conv => whnf
  refine op_rangeStr ttH rfl rfl rfl ?_
  conv => whnf
  refine ⟨Nat × Nat, fun g => ⟨[(7, .loc 0 0), (3, intD g.2), (0, strD l)], [(0, strI (strB l) g.1)], 1, ([], 0)⟩,
    fun g => g.1 ≤ l.length ∧ g.2 ≤ 655359 ∧ numS (-1) l 0 = numS (-1) (l.drop g.1) g.2, fun g => l.length - g.1, ⟨(0, 0), [], [], ?_, Nat.zero_le _, Nat.zero_le _, rfl⟩, ?_⟩
  · repeat' (first | exact trivial | exact .inl (DLe.refl _) | exact .inl (DLe.nil _ _) | (refine .inr ⟨rfl, _, ?_, rfl⟩; rfl) | exact rfl | exact Nat.zero_le _ | constructor)
  · rintro ⟨k, n⟩ ⟨hk, hn, hs⟩
    dsimp only at hk hn hs
    dsimp only
    conv => whnf
    refine op_nextStr rfl rfl rfl (fun c w hlt hd => ?_) (fun hge => ?_)
    · rw [strB_size] at hlt
      obtain ⟨x, hx⟩ : ∃ x, l[k]? = some x := ⟨_, List.getElem?_eq_getElem hlt⟩
      have hx256 := hl.get hx
      have hne : l ≠ [] := fun e => by rw [e] at hlt; simp at hlt
      have hnx := numS_next hx hs
      rw [← numP_ne hne] at hnx
      by_cases hx7 : x < 128
      · rw [decode_low hl hx hx7] at hd
        injection hd with hd1 hd2; subst hd1 hd2
        cases g1 : isDig x with
        | false =>
          rw [g1] at hnx
          rw [hnx]
          have g1' : ¬ (48 ≤ x ∧ x ≤ 57) := by
            intro h; unfold isDig at g1; rw [decide_eq_true h.1, decide_eq_true h.2] at g1; cases g1
          conv => whnf
          refine Fork.intro (fun g => ?_) (fun g => ?_)
          · conv => whnf
            rfl
          · conv => whnf
            refine Fork.intro (fun g2 => ?_) (fun g2 => absurd ⟨by have := of_decide_eq_false g; omega, by have := of_decide_eq_false g2; omega⟩ g1')
            conv => whnf
            rfl
        | true =>
          unfold isDig at g1
          simp only [Bool.and_eq_true, decide_eq_true_eq] at g1
          conv => whnf
          refine Fork.intro (fun g => absurd (of_decide_eq_true g) (by omega)) (fun g => ?_)
          conv => whnf
          refine Fork.intro (fun g => absurd (of_decide_eq_true g) (by omega)) (fun g => ?_)
          conv => whnf
          cases g2 : decide (65535 < n) with
          | true =>
            rw [g2] at hnx
            have hnx : numP l = -1 := by rw [hnx]; simp
            rw [hnx]
            refine Fork.intro (fun g => ?_) (fun g => absurd (of_decide_eq_false g) (by have := of_decide_eq_true g2; omega))
            conv => whnf
          | false =>
            rw [g2, show isDig x = true by unfold isDig; rw [decide_eq_true g1.1, decide_eq_true g1.2]; rfl] at hnx
            have g2 := of_decide_eq_false g2
            rw [numP_ne hne] at hnx
            refine Fork.intro (fun g => absurd (of_decide_eq_true g) (by omega)) (fun g => ?_)
            conv => whnf
            have e : IntKind.i64.wrap (IntKind.i64.wrap ((n : Int) * 10) + IntKind.i64.wrap (IntKind.i32.wrap ((x : Int) - 48))) = ((n * 10 + (x - 48) : Nat) : Int) := by
              rw [IntWalk.i32_in _ (by omega), IntWalk.i64_in (_ - _) (by omega), IntWalk.i64_in (_ * _) (by omega), IntWalk.i64_in _ (by omega)]; omega
            rw [e]
            refine ⟨(k + 1, n * 10 + (x - 48)), [], [], ?_, ⟨hlt, by show n * 10 + (x - 48) ≤ 655359; omega, hnx⟩, by show l.length - (k + 1) < l.length - k; omega⟩
            repeat' (first | exact trivial | exact .inl (DLe.refl _) | exact .inl (DLe.nil _ _) | (refine .inr ⟨rfl, _, ?_, rfl⟩; rfl) | exact rfl | exact Nat.zero_le _ | constructor)
      · have hc := decode_high hl hx hx7 hd
        rw [show isDig x = false by unfold isDig; rw [decide_eq_false (show ¬ x ≤ 57 by omega)]; simp] at hnx
        rw [hnx]
        conv => whnf
        refine Fork.intro (fun g => absurd (of_decide_eq_true g) (by omega)) (fun g => ?_)
        conv => whnf
        refine Fork.intro (fun g => ?_) (fun g => absurd (of_decide_eq_false g) (by omega))
        conv => whnf
        rfl
    · rw [strB_size] at hge
      obtain rfl : k = l.length := by omega
      conv => whnf
      refine Fork.intro (fun h => ?_) (fun h => ?_)
      · have h0 := (str_is hl .nil h).1 rfl
        subst h0
        conv => whnf
        rfl
      · have h0 := (str_is hl .nil h).2 rfl
        rw [numP_ne h0, hs, List.drop_length, numS]
        conv => whnf

theorem find_fnP (W : Int → List Nat) (f : FuncId) (s : List Nat) (hs : Byt s) (hW : ∀ n, Byt (W n)) (k : Nat) (hk : k ≤ 100) (hf : ∀ n : Nat, n ≤ 100 → Fn Tryz.prog f [intD n] fun d => d = strD (W n)) :
    Fn Tryz.prog 23 [strD s, intD k, .fn f [] []] fun d => d = intD (findW W s k 1) := by
  refine fnOf [] Tryz.func23 rfl (by kernel_rfl) (Nat.le_of_ble_eq_true rfl) ?_
  conv => whnf
  refine ⟨Nat, fun n => ⟨[(7, intD n), (2, .fn f [] []), (1, intD k), (0, strD s)], [], 0, ([], 0)⟩, fun n => n ≤ k + 1 ∧ findW W s k 1 = findW W s (k + 1 - n) n, fun n => k + 1 - n, ⟨1, [], [], ?_, by omega, by rw [Nat.add_sub_cancel]⟩, ?_⟩
  · repeat' (first | exact trivial | exact .inl (DLe.refl _) | exact .inl (DLe.nil _ _) | (refine .inr ⟨rfl, _, ?_, rfl⟩; rfl) | exact rfl | exact Nat.zero_le _ | constructor)
  · rintro n ⟨hn, he⟩
    dsimp only
    conv => whnf
    refine Fork.intro (fun h1 => ?_) (fun h1 => ?_)
    · have h1 := of_decide_eq_true h1
      have hn1 : IntKind.i64.wrap ((n : Int) + 1) = ((n + 1 : Nat) : Int) := wrap_next (n := 101) (by omega) (by decide)
      have e : findW W s (k + 1 - n) n = match !decide (s = []) && decide (W n = s) with
        | true => (n : Int)
        | false => findW W s (k + 1 - (n + 1)) (n + 1) := by
        rw [show k + 1 - n = (k + 1 - (n + 1)) + 1 by omega, findW]
        rfl
      conv => whnf
      refine Fork.intro (fun h2 => ?_) (fun h2 => ?_)
      · have h2 := (str_no hs h2).1 rfl
        rw [decide_eq_false h2] at e
        conv => whnf
        refine CallVC.pure (hf n (by omega)) rfl ?_
        rintro _ rfl
        conv => whnf
        refine Fork.intro (fun h3 => ?_) (fun h3 => ?_)
        · rw [decide_eq_true ((str_is (hW n) hs h3).1 rfl)] at e
          rw [he, e]
          conv => whnf
          rfl
        · rw [decide_eq_false ((str_is (hW n) hs h3).2 rfl)] at e
          have he := he.trans e
          conv => whnf
          rw [hn1]
          refine ⟨n + 1, [], [], ?_, ⟨by show n + 1 ≤ k + 1; omega, he⟩, by show k + 1 - (n + 1) < k + 1 - n; omega⟩
          repeat' (first | exact trivial | exact .inl (DLe.refl _) | exact .inl (DLe.nil _ _) | (refine .inr ⟨rfl, _, ?_, rfl⟩; rfl) | exact rfl | exact Nat.zero_le _ | constructor)
      · have h2 := (str_no hs h2).2 rfl
        rw [decide_eq_true h2] at e
        have he := he.trans e
        conv => whnf
        rw [hn1]
        refine ⟨n + 1, [], [], ?_, ⟨by show n + 1 ≤ k + 1; omega, he⟩, by show k + 1 - (n + 1) < k + 1 - n; omega⟩
        repeat' (first | exact trivial | exact .inl (DLe.refl _) | exact .inl (DLe.nil _ _) | (refine .inr ⟨rfl, _, ?_, rfl⟩; rfl) | exact rfl | exact Nat.zero_le _ | constructor)
    · have h1 := of_decide_eq_false h1
      rw [he, show k + 1 - n = 0 by omega, findW]
      conv => whnf
end Go.Proofs.YtooaeccmkgockaaGreatDoor.V
namespace Go.Proofs.YtooaeccmkgockaaGreatDoor.V
open Go.RowKit
attribute [local irreducible] Fn FnN OpVC

theorem opW_byt (n : Int) : Byt (opW n) := by
  unfold opW
  split <;> first | exact .nil | (intro x hx; revert x; decide)
theorem modeW_byt (n : Int) : Byt (modeW n) := by
  unfold modeW
  split <;> first | exact .nil | (intro x hx; revert x; decide)
theorem protoW_byt (n : Int) : Byt (protoW n) := by
  unfold protoW
  split <;> first | exact .nil | (intro x hx; revert x; decide)
theorem opW_nil {n : Int} : opW n = [] ↔ n < 1 ∨ 7 < n := by
  refine ⟨fun h => ?_, opW_no⟩
  by_cases h1 : n < 1 ∨ 7 < n
  · exact h1
  · rcases (by omega : n = 1 ∨ n = 2 ∨ n = 3 ∨ n = 4 ∨ n = 5 ∨ n = 6 ∨ n = 7) with rfl | rfl | rfl | rfl | rfl | rfl | rfl <;> exact absurd h (by decide)
theorem modeW_nil {n : Int} : modeW n = [] ↔ n ≠ 1 ∧ n ≠ 2 := by
  refine ⟨fun h => ⟨fun e => ?_, fun e => ?_⟩, fun h => modeW_no h.1 h.2⟩
  · subst e; exact absurd h (by decide)
  · subst e; exact absurd h (by decide)
theorem protoW_nil {n : Int} : protoW n = [] ↔ n ≠ 6 ∧ n ≠ 17 := by
  refine ⟨fun h => ⟨fun e => ?_, fun e => ?_⟩, fun h => protoW_no h.1 h.2⟩
  · subst e; exact absurd h (by decide)
  · subst e; exact absurd h (by decide)
theorem ord_iff (a b : Ord) : a = b ↔ a.count = b.count ∧ a.op = b.op ∧ a.id = b.id ∧ a.vip = b.vip ∧ a.addr = b.addr ∧ a.port = b.port ∧ a.proto = b.proto ∧ a.num = b.num := by
  obtain ⟨a1, a2, a3, a4, a5, a6, a7, a8⟩ := a
  obtain ⟨b1, b2, b3, b4, b5, b6, b7, b8⟩ := b
  rw [Ord.mk.injEq]
instance (a b : Ord) : Decidable (a = b) := decidable_of_iff _ (ord_iff a b).symm
theorem eqOrdOk : eqOk Tryz.prog 26 [1, 1, 1, 1, 1, 1, 1, 1] = true := by kernel_rfl
theorem eqD_ord (a b : Ord) : eqD (ordD a) (ordD b) = decide (a = b) := by
  obtain ⟨a1, a2, a3, a4, a5, a6, a7, a8⟩ := a
  obtain ⟨b1, b2, b3, b4, b5, b6, b7, b8⟩ := b
  simp only [ordD, eqD, Bool.and_true]
  rw [decide_eq_decide.2 (ord_iff ⟨a1, a2, a3, a4, a5, a6, a7, a8⟩ ⟨b1, b2, b3, b4, b5, b6, b7, b8⟩)]
  dsimp only
  by_cases h : a1 = b1 ∧ a2 = b2 ∧ a3 = b3 ∧ a4 = b4 ∧ a5 = b5 ∧ a6 = b6 ∧ a7 = b7 ∧ a8 = b8
  · rw [decide_eq_true h]
    obtain ⟨rfl, rfl, rfl, rfl, rfl, rfl, rfl, rfl⟩ := h
    simp
  · rw [decide_eq_false h]
    rw [Bool.eq_false_iff]
    intro hh
    simp only [Bool.and_eq_true, decide_eq_true_eq] at hh
    exact h hh
theorem bareO_iff {o : Ord} (h : 1 ≤ o.op ∧ o.op ≤ 7) : o = bareO o ↔ o.count = 0 ∧ (o.op = 1 ∨ (o.port = 0 ∧ o.proto = 0)) ∧ (o.op = 2 ∨ o.vip = 0) ∧ (o.op ≤ 2 ∨ o.addr = 0) ∧ (¬ (o.op = 3 ∨ o.op = 4 ∨ o.op = 7) ∨ o.num = 0) ∧ (o.op ≠ 7 ∨ o.id = 0) := by
  obtain ⟨count, op, id, vip, addr, port, proto, num⟩ := o
  dsimp only at *
  rcases op_cases h with rfl | rfl | rfl | rfl | rfl | rfl | rfl
  all_goals
    first
      | rw [show bareO ⟨count, 1, id, vip, addr, port, proto, num⟩ = ⟨0, 1, id, 0, addr, port, proto, num⟩ from rfl]
      | rw [show bareO ⟨count, 2, id, vip, addr, port, proto, num⟩ = ⟨0, 2, id, vip, addr, 0, 0, num⟩ from rfl]
      | rw [show bareO ⟨count, 3, id, vip, addr, port, proto, num⟩ = ⟨0, 3, id, 0, 0, 0, 0, 0⟩ from rfl]
      | rw [show bareO ⟨count, 4, id, vip, addr, port, proto, num⟩ = ⟨0, 4, id, 0, 0, 0, 0, 0⟩ from rfl]
      | rw [show bareO ⟨count, 5, id, vip, addr, port, proto, num⟩ = ⟨0, 5, id, 0, 0, 0, 0, num⟩ from rfl]
      | rw [show bareO ⟨count, 6, id, vip, addr, port, proto, num⟩ = ⟨0, 6, id, 0, 0, 0, 0, num⟩ from rfl]
      | rw [show bareO ⟨count, 7, id, vip, addr, port, proto, num⟩ = ⟨0, 7, 0, 0, 0, 0, 0, 0⟩ from rfl]
    rw [ord_iff]
    dsimp only
    refine ⟨fun h => ?_, fun h => ?_⟩ <;> omega
theorem mayO_bare (o : Ord) : MayO o ↔ (1 ≤ o.op ∧ o.op ≤ 7) ∧ o = bareO o ∧ (0 ≤ o.id ∧ o.id ≤ 65535) ∧ (0 ≤ o.vip ∧ o.vip ≤ 255) ∧ (0 ≤ o.num ∧ o.num ≤ 255) ∧ (¬ (o.op = 1 ∨ o.op = 6) ∨ o.num = 1 ∨ o.num = 2) ∧ (o.op ≠ 1 ∨ o.proto = 6 ∨ o.proto = 17) := by
  rw [mayO_iff]
  constructor
  · rintro ⟨h1, h2, h3, h4, h5, h6, h7, h8, h9, h10, h11, h12⟩
    exact ⟨h1, (bareO_iff h1).2 ⟨h5, h6, h7, h8, h9, h10⟩, h2, h3, h4, h11, h12⟩
  · rintro ⟨h1, hb, h2, h3, h4, h11, h12⟩
    obtain ⟨h5, h6, h7, h8, h9, h10⟩ := (bareO_iff h1).1 hb
    exact ⟨h1, h2, h3, h4, h5, h6, h7, h8, h9, h10, h11, h12⟩
theorem mayOB_no {o : Ord} (h : ¬ MayO o) : mayOB o = false := decide_eq_false h
theorem mayOB_is {o : Ord} (h : MayO o) : mayOB o = true := decide_eq_true h
theorem not_dec {p : Prop} [Decidable p] {b : Bool} (h : (!decide p) = b) : (b = true → ¬ p) ∧ (b = false → p) := by
  subst h; exact ⟨fun h => by simpa using h, fun h => by simpa using h⟩

set_option maxHeartbeats 2000000 in
theorem may_fnP (o : Ord) : Fn Tryz.prog 31 [.agg (ordD o)] fun d => d = boolD (mayOB o) := by
  refine fnOf [] Tryz.func31 rfl (by kernel_rfl) (Nat.le_of_ble_eq_true rfl) ?_
  have hw := word_fn o.op
  have hb := bare_fn o
  have w1 := within_fn o.id 65535
  have w2 := within_fn o.vip 255
  have w3 := within_fn o.num 255
  have hm := pmode_fn o.num
  have hp := proto_fn o.proto
  have key := mayO_bare o
  have hwb := opW_byt o.op
  have hmb := modeW_byt o.num
  have hpb := protoW_byt o.proto
  have hwn := opW_nil (n := o.op)
  have hmn := modeW_nil (n := o.num)
  have hpn := protoW_nil (n := o.proto)
  have no : ¬ MayO o → boolD false = boolD (mayOB o) := fun h => by rw [mayOB_no h]
  have yes : MayO o → boolD true = boolD (mayOB o) := fun h => by rw [mayOB_is h]
  have hpair : pairsB (ordD o) (ordD (bareO o)) = true := rfl
  have heq := eqD_ord o (bareO o)
  generalize hbo : bareO o = bo at *
  generalize mayOB o = r at *
  by_cases hop : 1 ≤ o.op ∧ o.op ≤ 7
  · obtain ⟨count, op, id, vip, addr, port, proto, num⟩ := o
    dsimp only at *
    have hwne : opW op ≠ [] := fun e => by have := hwn.1 e; omega
    generalize hwo : opW op = ow at *
    rcases op_cases hop with rfl | rfl | rfl | rfl | rfl | rfl | rfl
    all_goals
      conv => whnf
      refine CallVC.pure hw rfl ?_
      rintro _ rfl
      conv => whnf
      refine Fork.intro (fun g => absurd ((str_is hwb .nil g).1 rfl) hwne) (fun _ => ?_)
      conv => whnf
      refine CallVC.pure hb rfl ?_
      rintro _ rfl
      conv => whnf
      refine ⟨eqOrdOk, hpair, ?_⟩
      conv => whnf
      refine Fork.intro (fun g => ?_) (fun g => ?_)
      · have g := (not_dec ((congrArg Bool.not heq).symm.trans g)).1 rfl
        conv => whnf
        exact no fun h => g (key.1 h).2.1
      have gb := (not_dec ((congrArg Bool.not heq).symm.trans g)).2 rfl
      conv => whnf
      refine CallVC.pure w1 rfl ?_
      rintro _ rfl
      conv => whnf
      refine Fork.intro (fun g => ?_) (fun g => ?_)
      · have g := (not_dec g).1 rfl
        conv => whnf
        exact no fun h => g (key.1 h).2.2.1
      have g1 := (not_dec g).2 rfl
      conv => whnf
      refine CallVC.pure w2 rfl ?_
      rintro _ rfl
      conv => whnf
      refine Fork.intro (fun g => ?_) (fun g => ?_)
      · have g := (not_dec g).1 rfl
        conv => whnf
        exact no fun h => g (key.1 h).2.2.2.1
      have g2 := (not_dec g).2 rfl
      conv => whnf
      refine CallVC.pure w3 rfl ?_
      rintro _ rfl
      conv => whnf
      refine Fork.intro (fun g => ?_) (fun g => ?_)
      · have g := (not_dec g).1 rfl
        conv => whnf
        exact no fun h => g (key.1 h).2.2.2.2.1
      have g3 := (not_dec g).2 rfl
      conv => whnf
      first
        | exact yes (key.2 ⟨by decide, gb, g1, g2, g3, .inl (by decide), .inl (by decide)⟩)
        | refine CallVC.pure hm rfl ?_
          rintro _ rfl
          conv => whnf
          refine Fork.intro (fun g => ?_) (fun g => ?_)
          · have g := hmn.1 ((str_is hmb .nil g).1 rfl)
            conv => whnf
            exact no fun h => by
              have := (key.1 h).2.2.2.2.2.1
              omega
          have g4 : num = 1 ∨ num = 2 := by
            rcases Classical.em (num = 1 ∨ num = 2) with h | h
            · exact h
            · exact absurd (hmn.2 ⟨fun e => h (.inl e), fun e => h (.inr e)⟩) ((str_is hmb .nil g).2 rfl)
          conv => whnf
          first
            | exact yes (key.2 ⟨by decide, gb, g1, g2, g3, .inr g4, .inl (by decide)⟩)
            | refine CallVC.pure hp rfl ?_
              rintro _ rfl
              conv => whnf
              generalize hz : (!((strB (protoW proto)).toList == _)) = z
              have h5 := str_no hpb hz
              cases z with
              | true =>
                have g5 : proto = 6 ∨ proto = 17 := by
                  rcases Classical.em (proto = 6 ∨ proto = 17) with h | h
                  · exact h
                  · exact absurd (hpn.2 ⟨fun e => h (.inl e), fun e => h (.inr e)⟩) (h5.1 rfl)
                exact yes (key.2 ⟨by decide, gb, g1, g2, g3, .inr g4, .inr g5⟩)
              | false =>
                have g5 := hpn.1 (h5.2 rfl)
                exact no fun h => by
                  have := (key.1 h).2.2.2.2.2.2
                  omega
  · have hwe : opW o.op = [] := hwn.2 (by omega)
    obtain ⟨count, op, id, vip, addr, port, proto, num⟩ := o
    dsimp only at *
    rw [hwe] at hw
    conv => whnf
    refine Fork.intro (fun g => absurd (show op = 1 from of_decide_eq_true g) (by omega)) (fun _ => ?_)
    conv => whnf
    refine CallVC.pure hw rfl ?_
    rintro _ rfl
    conv => whnf
    refine Fork.intro (fun _ => ?_) (fun g => absurd rfl ((str_is .nil .nil g).2 rfl))
    conv => whnf
    exact no fun h => hop (key.1 h).1
end Go.Proofs.YtooaeccmkgockaaGreatDoor.V
