/-
  The document's track, by value. Conditions: flows' numbers are of their kinds, rows not too long, ticks not too great. (Printed by gen_ra.py.)
  The document's track, by value: Add, Turn, New; the program's Get. Conditions: flows' numbers are of their kinds, rows not too long, ticks not too great. (Printed by gen_rb.py.)
-/
import Derived.Test.YtcbpdjikdohegaaGreatK17
import Derived.Test.YtcbpdjikdohegaaGreatK15
namespace Go.Proofs.YtcbpdjikdohegaaGreat.V
open Go.RowKit
attribute [local irreducible] Fn FnN OpVC Ob RowFn ObS NewS

abbrev rT (N : Nat) (now : Int) (S : List En) : List D := [intD N, intD now, rowsN S]
theorem r23find_fn (N : Nat) (now : Int) (S : List En) (hS : S.length ≤ 1000) (f : Fl) : FnN Tryz.prog 17 [.fp (rT N now S), .agg (flD f)] fun d => d = intD (findI (isFl f) S) := by
  refine fnNOf [] Tryz.func17 rfl (by kernel_rfl) (Nat.le_of_ble_eq_true rfl) ?_
  conv => whnf
  refine ⟨Nat, fun k => ⟨[(5, intD k), (3, .loc 0 0), (0, .fp (rT N now S))], [(0, .cells 37 (flD f))], 1, ([], 0)⟩,
    fun k => k ≤ S.length ∧ ∀ (j : Nat) u, j < k → S[j]? = some u → isFl f u = false, fun k => S.length - k, ⟨0, [], [], ?_, Nat.zero_le _, fun j u h => by omega⟩, ?_⟩
  · repeat' (first | exact trivial | exact .inl (DLe.refl _) | exact .inl (DLe.nil _ _) | (refine .inr ⟨rfl, _, ?_, rfl⟩; rfl) | exact rfl | exact Nat.zero_le _ | constructor)
  · rintro k ⟨hk, hno⟩
    conv => whnf
    cases g1 : decide ((k : Int) < S.length) with
    | true =>
      have hlt : k < S.length := by have := of_decide_eq_true g1; omega
      obtain ⟨x, hx⟩ : ∃ x, S[k]? = some x := ⟨_, List.getElem?_eq_getElem hlt⟩
      conv => whnf
      refine ⟨rfl, ⟨by omega, by omega⟩, fun y hy => ?_⟩
      obtain rfl : y = x := by rw [Int.toNat_natCast, hx] at hy; injection hy with hy; exact hy.symm
      conv => whnf
      refine ⟨eqFlOk, rfl, ?_⟩
      conv => whnf
      refine Fork.intro (fun hfk => ?_) (fun hfk => ?_)
      · have g3 : isFl f y = true := (eq_fl y.f f).symm.trans hfk
        conv => whnf
        refine ⟨rfl, ?_⟩
        rw [findI_at hx g3 hno]
      · have g3 : isFl f y = false := (eq_fl y.f f).symm.trans hfk
        conv => whnf
        rw [wrap_next (show k < 1000 by omega) (by omega)]
        refine ⟨k + 1, [], [], ?_, ⟨hlt, no_next hx g3 hno⟩, by show S.length - (k + 1) < S.length - k; omega⟩
        repeat' (first | exact trivial | exact .inl (DLe.refl _) | exact .inl (DLe.nil _ _) | (refine .inr ⟨rfl, _, ?_, rfl⟩; rfl) | exact rfl | exact Nat.zero_le _ | constructor)
    | false =>
      have hge := of_decide_eq_false g1
      conv => whnf
      refine ⟨rfl, ?_⟩
      rw [findI_none (fun j u hj => hno j u (by omega))]


theorem clampT (n : Int) : (turnN n : Int) = clampI n := by
  have := clampI_in n
  have := turnN_in n
  unfold clampN at this
  omega
theorem due_step (S : List En) (now : Int) (i : Nat) (hS : ∀ x, x ∈ S → now < x.at_) : dueS S now (i + 1) = dueS S now i ++ (S.filter fun x => decide (now + (i : Int) < x.at_)).filter (fun x => decide (x.at_ ≤ now + i + 1)) ∧ (S.filter fun x => decide (now + ((i + 1 : Nat) : Int) < x.at_)) = (S.filter fun x => decide (now + (i : Int) < x.at_)).filter fun x => !decide (x.at_ ≤ now + i + 1) := by
  refine ⟨?_, ?_⟩
  · rw [dueS_next, List.filter_filter]
    congr 1
    refine List.filter_congr fun x _ => ?_
    rw [Bool.eq_iff_iff]
    simp only [Bool.and_eq_true, decide_eq_true_eq]
    omega
  · rw [List.filter_filter]
    refine List.filter_congr fun x _ => ?_
    rw [Bool.eq_iff_iff]
    simp only [Bool.and_eq_true, decide_eq_true_eq, Bool.not_eq_true', decide_eq_false_iff_not]
    omega
theorem part_snoc {S : List En} {p : En → Bool} {k : Nat} {x : En} (hx : S[k]? = some x) : (S.take (k + 1)).filter p = (S.take k).filter p ++ match p x with
    | true => [x]
    | false => [] := by
  rw [take_snoc hx, List.filter_append]
  cases h : p x <;> simp [h]

theorem r23of_fn (N : Nat) (now : Int) (S : List En) (be : Int) (hS : S.length ≤ 1000) : FnN Tryz.prog 22 [.fp (rT N now S), intD be] fun d => d = rowsN (keptOf be S) := by
  refine fnNOf [] Tryz.func22 rfl (by kernel_rfl) (Nat.le_of_ble_eq_true rfl) ?_
  unfold keptOf
  conv => whnf
  refine ⟨Nat, fun k => ⟨[(6, intD k), (5, .grow 0), (1, intD be), (0, .fp (rT N now S))], [(0, .grow En 39 13 enD ((S.take k).filter fun a => !delP be a))], 1, ([], 0)⟩, fun k => k ≤ S.length, fun k => S.length - k, ⟨0, [], [0], ?_, Nat.zero_le _⟩, ?_⟩
  · repeat' (first | exact trivial | exact .inl (DLe.refl _) | exact .inl (DLe.nil _ _) | (refine .inr ⟨rfl, _, ?_, rfl⟩; rfl) | exact rfl | exact Nat.zero_le _ | constructor)
  · intro k hk
    replace hk : k ≤ S.length := hk
    have hfl : ((S.take k).filter fun a => !delP be a).length ≤ k := Nat.le_trans (List.length_filter_le _ _) (by rw [List.length_take]; omega)
    conv => whnf
    refine Fork.intro (fun g1 => ?_) (fun g1 => ?_)
    · have hlt : (k : Int) < S.length := of_decide_eq_true g1
      obtain ⟨x, hx⟩ : ∃ x, S[k]? = some x := ⟨S[k]'(by omega), List.getElem?_eq_getElem _⟩
      have hsn := part_snoc (p := fun a => !delP be a) hx
      have hstay : ∀ b, (!delP be x) = b → (S.take (k + 1)).filter (fun a => !delP be a) = (S.take k).filter (fun a => !delP be a) ++ match b with
        | true => [x]
        | false => [] := fun b hb => by rw [← hb]; exact hsn
      conv => whnf
      refine ⟨rfl, ⟨by omega, hlt⟩, each_one hx ?_⟩
      conv => whnf
      cases c1 : decide (x.be = be) with
      | false =>
        have hb : (!delP be x) = false := by unfold delP; rw [c1]; rfl
        have hst := hstay false hb
        dsimp only at hst
        rw [List.append_nil] at hst
        conv => whnf
        rw [← hst, wrap_next (show k < 1000 by omega) (by omega)]
        refine ⟨k + 1, [], [], ?_, by show k + 1 ≤ _; omega, by show S.length - (k + 1) < S.length - k; omega⟩
        repeat' (first | exact trivial | exact .inl (DLe.refl _) | exact .inl (DLe.nil _ _) | (refine .inr ⟨rfl, _, ?_, rfl⟩; rfl) | exact rfl | exact Nat.zero_le _ | constructor)
      | true =>
        conv => whnf
        refine ⟨rfl, ⟨by omega, hlt⟩, each_one hx ?_⟩
        conv => whnf
        cases c2 : x.px with
        | true =>
          have hb : (!delP be x) = false := by unfold delP; rw [c1, c2]; rfl
          have hst := hstay false hb
          dsimp only at hst
          rw [List.append_nil] at hst
          conv => whnf
          rw [← hst, wrap_next (show k < 1000 by omega) (by omega)]
          refine ⟨k + 1, [], [], ?_, by show k + 1 ≤ _; omega, by show S.length - (k + 1) < S.length - k; omega⟩
          repeat' (first | exact trivial | exact .inl (DLe.refl _) | exact .inl (DLe.nil _ _) | (refine .inr ⟨rfl, _, ?_, rfl⟩; rfl) | exact rfl | exact Nat.zero_le _ | constructor)
        | false =>
          have hb : (!delP be x) = true := by unfold delP; rw [c1, c2]; rfl
          have hst := hstay true hb
          dsimp only at hst
          conv => whnf
          refine ⟨rfl, ⟨by omega, hlt⟩, each_one hx ?_⟩
          conv => whnf
          (refine ⟨Nat.le_of_ble_eq_true rfl, ?_⟩; conv => whnf)
          refine ⟨En, enD, ((S.take k).filter fun a => !delP be a) ++ [x], (by rw [List.map_append]; rfl), fun _ => rfl, by simp only [List.length_append, List.length_cons, List.length_nil]; omega, by simp only [List.length_append, List.length_cons, List.length_nil]; omega, rfl, ?_⟩
          rw [← hst]
          conv => whnf
          rw [wrap_next (show k < 1000 by omega) (by omega)]
          refine ⟨k + 1, [(0, 1)], [], ?_, by show k + 1 ≤ _; omega, by show S.length - (k + 1) < S.length - k; omega⟩
          repeat' (first | exact trivial | exact .inl (DLe.refl _) | exact .inl (DLe.nil _ _) | (refine .inr ⟨rfl, _, ?_, rfl⟩; rfl) | exact rfl | exact Nat.zero_le _ | constructor)
    · have hge : ¬ (k : Int) < S.length := of_decide_eq_false g1
      rw [show S.take k = S from List.take_of_length_le (by omega)]
      conv => whnf
      exact ⟨fun _ => rfl, rfl⟩
end Go.Proofs.YtcbpdjikdohegaaGreat.V
namespace Go.Proofs.YtcbpdjikdohegaaGreat.V
open Go.RowKit
attribute [local irreducible] Fn FnN OpVC Ob RowFn ObS NewS

structure TR where
  i : Nat
  nw : Int
  m : Int
  R : List En
  out : List En
def getS (S : List En) (f : Fl) : En × Bool := match S.findIdx? (isFl f) with
  | none => (en0, false)
  | some k => ((S[k]?).getD en0, true)
theorem tget_fn {lo hi : Int} {N : Nat} {L : List Sl} {n : Nat} {B : List En} {Fr : List Int} {now : Int} {W : List Al} {S0 S : List En} (h : TInv lo hi N L n B Fr now W S0 S) (g p m c : Nat) (now' : Int) (W' : List Al) {f : Fl} (hf : FlOk f) : FnN Tryz.prog 16 [.fp (trX lo hi L n B g p m c now' W'), .agg (flD f)] fun d => d = .tup [.agg (enD (getS S f).1), boolD (getS S f).2] := by
  refine fnNOf [] Tryz.func16 rfl (by kernel_rfl) (Nat.le_of_ble_eq_true rfl) ?_
  have hfind := tfind_fn lo hi L n B g p m c now' W' h.rel.ok hf
  have hBl := h.len
  unfold getS
  cases hq : fnd L f (homeN lo hi L.length f) L.length 0 with
  | mk a q =>
  obtain ⟨b, is⟩ := q
  rw [hq] at hfind
  cases is with
  | false =>
    rw [h.find_not hq]
    conv => whnf
    refine CallVC.look hfind rfl ?_
    rintro _ rfl
    conv => whnf
    exact ⟨rfl, rfl⟩
  | true =>
    obtain ⟨k, k1, k2, k3, k4, k5⟩ := h.find_is hq
    have hBv := bAt_get (B := B) k5.1 (by rw [hBl]; exact k5.2)
    rw [k1]
    dsimp only
    rw [k3]
    conv => whnf
    refine CallVC.look hfind rfl ?_
    rintro _ rfl
    conv => whnf
    refine ⟨rfl, ⟨k5.1, by rw [hBl]; exact k5.2⟩, fun y hy => ?_⟩
    rw [hBv] at hy
    injection hy with hy
    subst hy
    conv => whnf
    exact ⟨rfl, rfl⟩
theorem tget_sp (lo hi : Int) (N : Nat) (S : List En) (now : Int) {f : Fl} (hf : FlOk f) : FnN Tryz.prog 16 [.sp (trA lo hi N S now), .agg (flD f)] fun d => d = .tup [.agg (enD (getS S f).1), boolD (getS S f).2] :=
  tr_look ⟨_, Tryz.func16, rfl⟩ fun L n B g p m c W S0 Fr h => tget_fn h g p m c now W hf
end Go.Proofs.YtcbpdjikdohegaaGreat.V
