/-
  Which orders may be written: the program's, and the document's, by value. Conditions: numbers of their types.
-/
import Derived.Test.YtooaeccmkgockaaGreatDoorJeK
namespace Go.Proofs.YtooaeccmkgockaaGreatDoor.V
open Go.RowKit
attribute [local irreducible] Fn FnN OpVC

theorem opW_byt (n : Int) : Byt (opW n) := by
  unfold opW
  split <;> first | exact .nil | (intro x hx; revert x; decide)
theorem modeW_byt (n : Int) : Byt (modeW n) := by
  unfold modeW
  split <;> first | exact .nil | (intro x hx; revert x; decide)
theorem protoW_byt (n : Int) : Byt (protoW n) := by
  unfold protoW
  split <;> first | exact .nil | (intro x hx; revert x; decide)
theorem opW_nil {n : Int} : opW n = [] ↔ n < 1 ∨ 7 < n := by
  refine ⟨fun h => ?_, opW_no⟩
  by_cases h1 : n < 1 ∨ 7 < n
  · exact h1
  · rcases (by omega : n = 1 ∨ n = 2 ∨ n = 3 ∨ n = 4 ∨ n = 5 ∨ n = 6 ∨ n = 7) with rfl | rfl | rfl | rfl | rfl | rfl | rfl <;> exact absurd h (by decide)
theorem modeW_nil {n : Int} : modeW n = [] ↔ n ≠ 1 ∧ n ≠ 2 := by
  refine ⟨fun h => ⟨fun e => ?_, fun e => ?_⟩, fun h => modeW_no h.1 h.2⟩
  · subst e; exact absurd h (by decide)
  · subst e; exact absurd h (by decide)
theorem protoW_nil {n : Int} : protoW n = [] ↔ n ≠ 6 ∧ n ≠ 17 := by
  refine ⟨fun h => ⟨fun e => ?_, fun e => ?_⟩, fun h => protoW_no h.1 h.2⟩
  · subst e; exact absurd h (by decide)
  · subst e; exact absurd h (by decide)
theorem ord_iff (a b : Ord) : a = b ↔ a.count = b.count ∧ a.op = b.op ∧ a.id = b.id ∧ a.vip = b.vip ∧ a.addr = b.addr ∧ a.port = b.port ∧ a.proto = b.proto ∧ a.num = b.num := by
  obtain ⟨a1, a2, a3, a4, a5, a6, a7, a8⟩ := a
  obtain ⟨b1, b2, b3, b4, b5, b6, b7, b8⟩ := b
  rw [Ord.mk.injEq]
instance (a b : Ord) : Decidable (a = b) := decidable_of_iff _ (ord_iff a b).symm
theorem eqOrdOk : eqOk Tryz.prog 26 [1, 1, 1, 1, 1, 1, 1, 1] = true := by kernel_rfl
theorem eqD_ord (a b : Ord) : eqD (ordD a) (ordD b) = decide (a = b) := by
  obtain ⟨a1, a2, a3, a4, a5, a6, a7, a8⟩ := a
  obtain ⟨b1, b2, b3, b4, b5, b6, b7, b8⟩ := b
  simp only [ordD, eqD, Bool.and_true]
  rw [decide_eq_decide.2 (ord_iff ⟨a1, a2, a3, a4, a5, a6, a7, a8⟩ ⟨b1, b2, b3, b4, b5, b6, b7, b8⟩)]
  dsimp only
  by_cases h : a1 = b1 ∧ a2 = b2 ∧ a3 = b3 ∧ a4 = b4 ∧ a5 = b5 ∧ a6 = b6 ∧ a7 = b7 ∧ a8 = b8
  · rw [decide_eq_true h]
    obtain ⟨rfl, rfl, rfl, rfl, rfl, rfl, rfl, rfl⟩ := h
    simp
  · rw [decide_eq_false h]
    rw [Bool.eq_false_iff]
    intro hh
    simp only [Bool.and_eq_true, decide_eq_true_eq] at hh
    exact h hh
theorem bareO_iff {o : Ord} (h : 1 ≤ o.op ∧ o.op ≤ 7) : o = bareO o ↔ o.count = 0 ∧ (o.op = 1 ∨ (o.port = 0 ∧ o.proto = 0)) ∧ (o.op = 2 ∨ o.vip = 0) ∧ (o.op ≤ 2 ∨ o.addr = 0) ∧ (¬ (o.op = 3 ∨ o.op = 4 ∨ o.op = 7) ∨ o.num = 0) ∧ (o.op ≠ 7 ∨ o.id = 0) := by
  obtain ⟨count, op, id, vip, addr, port, proto, num⟩ := o
  dsimp only at *
  rcases op_cases h with rfl | rfl | rfl | rfl | rfl | rfl | rfl
  all_goals
    first
      | rw [show bareO ⟨count, 1, id, vip, addr, port, proto, num⟩ = ⟨0, 1, id, 0, addr, port, proto, num⟩ from rfl]
      | rw [show bareO ⟨count, 2, id, vip, addr, port, proto, num⟩ = ⟨0, 2, id, vip, addr, 0, 0, num⟩ from rfl]
      | rw [show bareO ⟨count, 3, id, vip, addr, port, proto, num⟩ = ⟨0, 3, id, 0, 0, 0, 0, 0⟩ from rfl]
      | rw [show bareO ⟨count, 4, id, vip, addr, port, proto, num⟩ = ⟨0, 4, id, 0, 0, 0, 0, 0⟩ from rfl]
      | rw [show bareO ⟨count, 5, id, vip, addr, port, proto, num⟩ = ⟨0, 5, id, 0, 0, 0, 0, num⟩ from rfl]
      | rw [show bareO ⟨count, 6, id, vip, addr, port, proto, num⟩ = ⟨0, 6, id, 0, 0, 0, 0, num⟩ from rfl]
      | rw [show bareO ⟨count, 7, id, vip, addr, port, proto, num⟩ = ⟨0, 7, 0, 0, 0, 0, 0, 0⟩ from rfl]
    rw [ord_iff]
    dsimp only
    refine ⟨fun h => ?_, fun h => ?_⟩ <;> omega
theorem mayO_bare (o : Ord) : MayO o ↔ (1 ≤ o.op ∧ o.op ≤ 7) ∧ o = bareO o ∧ (0 ≤ o.id ∧ o.id ≤ 65535) ∧ (0 ≤ o.vip ∧ o.vip ≤ 255) ∧ (0 ≤ o.num ∧ o.num ≤ 255) ∧ (¬ (o.op = 1 ∨ o.op = 6) ∨ o.num = 1 ∨ o.num = 2) ∧ (o.op ≠ 1 ∨ o.proto = 6 ∨ o.proto = 17) := by
  rw [mayO_iff]
  constructor
  · rintro ⟨h1, h2, h3, h4, h5, h6, h7, h8, h9, h10, h11, h12⟩
    exact ⟨h1, (bareO_iff h1).2 ⟨h5, h6, h7, h8, h9, h10⟩, h2, h3, h4, h11, h12⟩
  · rintro ⟨h1, hb, h2, h3, h4, h11, h12⟩
    obtain ⟨h5, h6, h7, h8, h9, h10⟩ := (bareO_iff h1).1 hb
    exact ⟨h1, h2, h3, h4, h5, h6, h7, h8, h9, h10, h11, h12⟩
theorem mayOB_no {o : Ord} (h : ¬ MayO o) : mayOB o = false := decide_eq_false h
theorem mayOB_is {o : Ord} (h : MayO o) : mayOB o = true := decide_eq_true h
theorem not_dec {p : Prop} [Decidable p] {b : Bool} (h : (!decide p) = b) : (b = true → ¬ p) ∧ (b = false → p) := by
  subst h; exact ⟨fun h => by simpa using h, fun h => by simpa using h⟩

set_option maxHeartbeats 2000000 in
theorem may_fnP (o : Ord) : Fn Tryz.prog 31 [.agg (ordD o)] fun d => d = boolD (mayOB o) := by
  refine fnOf [] Tryz.func31 rfl (by kernel_rfl) (Nat.le_of_ble_eq_true rfl) ?_
  have hw := word_fn o.op
  have hb := bare_fn o
  have w1 := within_fn o.id 65535
  have w2 := within_fn o.vip 255
  have w3 := within_fn o.num 255
  have hm := pmode_fn o.num
  have hp := proto_fn o.proto
  have key := mayO_bare o
  have hwb := opW_byt o.op
  have hmb := modeW_byt o.num
  have hpb := protoW_byt o.proto
  have hwn := opW_nil (n := o.op)
  have hmn := modeW_nil (n := o.num)
  have hpn := protoW_nil (n := o.proto)
  have no : ¬ MayO o → boolD false = boolD (mayOB o) := fun h => by rw [mayOB_no h]
  have yes : MayO o → boolD true = boolD (mayOB o) := fun h => by rw [mayOB_is h]
  have hpair : pairsB (ordD o) (ordD (bareO o)) = true := rfl
  have heq := eqD_ord o (bareO o)
  generalize hbo : bareO o = bo at *
  generalize mayOB o = r at *
  by_cases hop : 1 ≤ o.op ∧ o.op ≤ 7
  · obtain ⟨count, op, id, vip, addr, port, proto, num⟩ := o
    dsimp only at *
    have hwne : opW op ≠ [] := fun e => by have := hwn.1 e; omega
    generalize hwo : opW op = ow at *
    rcases op_cases hop with rfl | rfl | rfl | rfl | rfl | rfl | rfl
    all_goals
      conv => whnf
      refine CallVC.pure hw rfl ?_
      rintro _ rfl
      conv => whnf
      refine Fork.intro (fun g => absurd ((str_is hwb .nil g).1 rfl) hwne) (fun _ => ?_)
      conv => whnf
      refine CallVC.pure hb rfl ?_
      rintro _ rfl
      conv => whnf
      refine ⟨eqOrdOk, hpair, ?_⟩
      conv => whnf
      refine Fork.intro (fun g => ?_) (fun g => ?_)
      · have g := (not_dec ((congrArg Bool.not heq).symm.trans g)).1 rfl
        conv => whnf
        exact no fun h => g (key.1 h).2.1
      have gb := (not_dec ((congrArg Bool.not heq).symm.trans g)).2 rfl
      conv => whnf
      refine CallVC.pure w1 rfl ?_
      rintro _ rfl
      conv => whnf
      refine Fork.intro (fun g => ?_) (fun g => ?_)
      · have g := (not_dec g).1 rfl
        conv => whnf
        exact no fun h => g (key.1 h).2.2.1
      have g1 := (not_dec g).2 rfl
      conv => whnf
      refine CallVC.pure w2 rfl ?_
      rintro _ rfl
      conv => whnf
      refine Fork.intro (fun g => ?_) (fun g => ?_)
      · have g := (not_dec g).1 rfl
        conv => whnf
        exact no fun h => g (key.1 h).2.2.2.1
      have g2 := (not_dec g).2 rfl
      conv => whnf
      refine CallVC.pure w3 rfl ?_
      rintro _ rfl
      conv => whnf
      refine Fork.intro (fun g => ?_) (fun g => ?_)
      · have g := (not_dec g).1 rfl
        conv => whnf
        exact no fun h => g (key.1 h).2.2.2.2.1
      have g3 := (not_dec g).2 rfl
      conv => whnf
      first
        | exact yes (key.2 ⟨by decide, gb, g1, g2, g3, .inl (by decide), .inl (by decide)⟩)
        | refine CallVC.pure hm rfl ?_
          rintro _ rfl
          conv => whnf
          refine Fork.intro (fun g => ?_) (fun g => ?_)
          · have g := hmn.1 ((str_is hmb .nil g).1 rfl)
            conv => whnf
            exact no fun h => by
              have := (key.1 h).2.2.2.2.2.1
              omega
          have g4 : num = 1 ∨ num = 2 := by
            rcases Classical.em (num = 1 ∨ num = 2) with h | h
            · exact h
            · exact absurd (hmn.2 ⟨fun e => h (.inl e), fun e => h (.inr e)⟩) ((str_is hmb .nil g).2 rfl)
          conv => whnf
          first
            | exact yes (key.2 ⟨by decide, gb, g1, g2, g3, .inr g4, .inl (by decide)⟩)
            | refine CallVC.pure hp rfl ?_
              rintro _ rfl
              conv => whnf
              generalize hz : (!((strB (protoW proto)).toList == _)) = z
              have h5 := str_no hpb hz
              cases z with
              | true =>
                have g5 : proto = 6 ∨ proto = 17 := by
                  rcases Classical.em (proto = 6 ∨ proto = 17) with h | h
                  · exact h
                  · exact absurd (hpn.2 ⟨fun e => h (.inl e), fun e => h (.inr e)⟩) (h5.1 rfl)
                exact yes (key.2 ⟨by decide, gb, g1, g2, g3, .inr g4, .inr g5⟩)
              | false =>
                have g5 := hpn.1 (h5.2 rfl)
                exact no fun h => by
                  have := (key.1 h).2.2.2.2.2.2
                  omega
  · have hwe : opW o.op = [] := hwn.2 (by omega)
    obtain ⟨count, op, id, vip, addr, port, proto, num⟩ := o
    dsimp only at *
    rw [hwe] at hw
    conv => whnf
    refine Fork.intro (fun g => absurd (show op = 1 from of_decide_eq_true g) (by omega)) (fun _ => ?_)
    conv => whnf
    refine CallVC.pure hw rfl ?_
    rintro _ rfl
    conv => whnf
    refine Fork.intro (fun _ => ?_) (fun g => absurd rfl ((str_is .nil .nil g).2 rfl))
    conv => whnf
    exact no fun h => hop (key.1 h).1
end Go.Proofs.YtooaeccmkgockaaGreatDoor.V
