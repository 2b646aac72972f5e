/-
  Texts of addresses read, by value: the program's reading, and the document's text. Conditions: strings.Join answers the row joined.
-/
import Derived.Test.YtooaeccmkgockaaGreatDoorAeK
namespace Go.Proofs.YtooaeccmkgockaaGreatDoor.V
open Go.RowKit
attribute [local irreducible] Fn FnN OpVC

theorem u32_of (x : Nat) (h : x < 4294967296) : IntKind.u32.wrap ((x : Nat) : Int) = ((x : Nat) : Int) := u32_small (by omega)
theorem i64_of (x : Nat) (h : x < 4294967296) : IntKind.i64.wrap ((x : Nat) : Int) = ((x : Nat) : Int) := IntWalk.i64_in _ (by omega)
theorem number_at (m : Nat) (h : m < 256) {x : Int} (e : x = ((m : Nat) : Int)) : Fn Tryz.prog 57 [.v (.int .i64 x)] fun d => d = strD (dig m) := by subst e; exact number_fn m h

theorem dot_app {x : List Nat} {b : ByteArray} (h : b = strB [46]) : strB x ++ b = strB (x ++ [46]) := by rw [h, strB_append]
set_option maxHeartbeats 1000000 in
theorem rtext_fn (a : Nat) (ha : a < 4294967296) : Fn Tryz.prog 40 [u32D a] fun d => d = strD (txt a) := by
  refine fnOf [] Tryz.func40 rfl (by kernel_rfl) (Nat.le_of_ble_eq_true rfl) ?_
  have q : ∀ d : Nat, 0 < d → IntKind.u32.wrap ((a : Int).tdiv d) = ((a / d : Nat) : Int) := fun d hd => by
    rw [Int.tdiv_eq_ediv_of_nonneg (by omega), ← Int.natCast_ediv]
    exact u32_of _ (by have := Nat.div_le_self a d; omega)
  have m : ∀ x : Nat, ((x : Nat) : Int).tmod 256 = ((x % 256 : Nat) : Int) := fun x => by
    rw [Int.tmod_eq_emod_of_nonneg (by omega)]; omega
  have e3 : IntKind.i64.wrap (IntKind.u32.wrap ((a : Int).tdiv 16777216)) = ((a / 16777216 % 256 : Nat) : Int) := by
    rw [show (16777216 : Int) = ((16777216 : Nat) : Int) from rfl, q _ (by decide), i64_of _ (by omega)]; omega
  have e2 : IntKind.i64.wrap ((IntKind.u32.wrap ((a : Int).tdiv 65536)).tmod 256) = ((a / 65536 % 256 : Nat) : Int) := by
    rw [show (65536 : Int) = ((65536 : Nat) : Int) from rfl, q _ (by decide), m, i64_of _ (by omega)]
  have e1 : IntKind.i64.wrap ((IntKind.u32.wrap ((a : Int).tdiv 256)).tmod 256) = ((a / 256 % 256 : Nat) : Int) := by
    rw [show (IntKind.u32.wrap ((a : Int).tdiv 256)) = ((a / 256 : Nat) : Int) from q 256 (by decide), m, i64_of _ (by omega)]
  have e0 : IntKind.i64.wrap (((a : Nat) : Int).tmod 256) = ((a % 256 : Nat) : Int) := by rw [m, i64_of _ (by omega)]
  have l3 := dig_len (a / 16777216 % 256); have l2 := dig_len (a / 65536 % 256); have l1 := dig_len (a / 256 % 256); have l0 := dig_len (a % 256)
  have ht : txt a = (((((dig (a / 16777216 % 256) ++ [46]) ++ dig (a / 65536 % 256)) ++ [46]) ++ dig (a / 256 % 256)) ++ [46]) ++ dig (a % 256) := by simp [txt, join4]
  rw [ht]
  have f3 := number_at _ (Nat.mod_lt _ (by decide)) e3
  have f2 := number_at _ (Nat.mod_lt _ (by decide)) e2
  have f1 := number_at _ (Nat.mod_lt _ (by decide)) e1
  have f0 := number_at _ (Nat.mod_lt _ (by decide)) e0
  generalize dig (a / 16777216 % 256) = d3 at *
  generalize dig (a / 65536 % 256) = d2 at *
  generalize dig (a / 256 % 256) = d1 at *
  generalize dig (a % 256) = d0 at *
  conv => whnf
  refine ⟨by decide, ?_⟩
  conv => whnf
  refine CallVC.pure f3 rfl ?_
  rintro _ rfl
  conv => whnf
  refine ⟨str_le (b := [46]) (by simp; omega), ?_⟩
  rw [dot_app (b := ⟨#[46]⟩) rfl]
  conv => whnf
  refine ⟨by decide, ?_⟩
  conv => whnf
  refine ⟨by decide, ?_⟩
  conv => whnf
  refine CallVC.pure f2 rfl ?_
  rintro _ rfl
  conv => whnf
  refine ⟨str_le (by simp; omega), ?_⟩
  rw [strB_append]
  conv => whnf
  refine ⟨str_le (b := [46]) (by simp; omega), ?_⟩
  rw [dot_app (b := ⟨#[46]⟩) rfl]
  conv => whnf
  refine ⟨by decide, ?_⟩
  conv => whnf
  refine ⟨by decide, ?_⟩
  conv => whnf
  refine CallVC.pure f1 rfl ?_
  rintro _ rfl
  conv => whnf
  refine ⟨str_le (by simp; omega), ?_⟩
  rw [strB_append]
  conv => whnf
  refine ⟨str_le (b := [46]) (by simp; omega), ?_⟩
  rw [dot_app (b := ⟨#[46]⟩) rfl]
  conv => whnf
  refine ⟨by decide, ?_⟩
  conv => whnf
  refine CallVC.pure f0 rfl ?_
  rintro _ rfl
  conv => whnf
  refine ⟨str_le (by simp; omega), ?_⟩
  rw [strB_append]
  conv => whnf

theorem pfold_take {l : List Nat} {k x : Nat} {s s' : PS} (hx : l[k]? = some x) (hs : pfold (l.take k) ⟨0, 0, 0, false⟩ = some s) (h : pstep s x = some s') : pfold (l.take (k + 1)) ⟨0, 0, 0, false⟩ = some s' := by
  rw [List.take_add_one, hx, pfold_app, hs]
  show pfold [x] s = _
  rw [pfold, h]; rfl
theorem pfold_stop {l : List Nat} {k x : Nat} {s : PS} (hx : l[k]? = some x) (hs : pfold (l.take k) ⟨0, 0, 0, false⟩ = some s) (h : pstep s x = none) : pParse l = none := by
  have e : l = l.take k ++ x :: l.drop (k + 1) := take_drop_at hx
  have : pfold l ⟨0, 0, 0, false⟩ = none := by
    rw [e, pfold_app, hs]
    show pfold (x :: _) s = _
    rw [pfold, h]
  unfold pParse
  rw [this]

def addrD : Option Nat → D
  | some v => .tup [u32D v, intD 0]
  | none => .tup [u32D 0, intD 3]

set_option maxHeartbeats 1000000 in
theorem parse_fn (hj : JoinC) (l : List Nat) (hl : Byt l) : Fn Tryz.prog 27 [strD l] fun d => d = addrD (pParse l) := by
  refine fnOf [] Tryz.func27 rfl (by kernel_rfl) (Nat.le_of_ble_eq_true rfl) ?_
  conv => whnf
  refine op_rangeStr ttH rfl rfl rfl ?_
  conv => whnf
  refine ⟨Nat × PS, fun g => ⟨[(11, .loc 0 0), (7, boolD g.2.so), (6, intD g.2.p), (5, u32D g.2.n), (4, u32D g.2.a), (0, strD l)], [(0, strI (strB l) g.1)], 1, ([], 0)⟩,
    fun g => g.1 ≤ l.length ∧ pfold (l.take g.1) ⟨0, 0, 0, false⟩ = some g.2 ∧ PInv g.2, fun g => l.length - g.1, ⟨(0, ⟨0, 0, 0, false⟩), [], [], ?_, Nat.zero_le _, rfl, .start⟩, ?_⟩
  · repeat' (first | exact trivial | exact .inl (DLe.refl _) | exact .inl (DLe.nil _ _) | (refine .inr ⟨rfl, _, ?_, rfl⟩; rfl) | exact rfl | exact Nat.zero_le _ | constructor)
  · rintro ⟨k, s⟩ ⟨hk, hs, hi⟩
    dsimp only at hk hs hi
    obtain ⟨sa, sn, sp, so⟩ := s
    have hn := hi.n; have ha := hi.a24; have hp := hi.p
    dsimp only at hn ha hp
    dsimp only
    conv => whnf
    refine op_nextStr rfl rfl rfl (fun c w hlt hd => ?_) (fun hge => ?_)
    · rw [strB_size] at hlt
      obtain ⟨x, hx⟩ : ∃ x, l[k]? = some x := ⟨_, List.getElem?_eq_getElem hlt⟩
      have hx256 := hl.get hx
      by_cases hx7 : x < 128
      · rw [decode_low hl hx hx7] at hd
        injection hd with hd1 hd2; subst hd1 hd2
        have hstop : pstep ⟨sa, sn, sp, so⟩ x = none → pParse l = none := pfold_stop hx hs
        have hgo : ∀ s', pstep ⟨sa, sn, sp, so⟩ x = some s' → pfold (l.take (k + 1)) ⟨0, 0, 0, false⟩ = some s' ∧ PInv s' := fun s' h => ⟨pfold_take hx hs h, hi.step h⟩
        unfold pstep isDig at hstop hgo
        cases g1 : decide (48 ≤ x) && decide (x ≤ 57) with
        | true =>
          rw [g1] at hstop hgo
          simp only [Bool.and_eq_true, decide_eq_true_eq] at g1
          have e : IntKind.u32.wrap (IntKind.u32.wrap ((sn : Int) * 10) + IntKind.u32.wrap (IntKind.i32.wrap ((x : Int) - 48))) = ((sn * 10 + (x - 48) : Nat) : Int) := by
            rw [IntWalk.i32_in _ (by omega), u32_small (n := (x : Int) - 48) (by omega), u32_small (n := (sn : Int) * 10) (by omega), u32_small (by omega)]; omega
          conv => whnf
          refine Fork.intro (fun g => ?_) (fun g => absurd (of_decide_eq_false g) (by omega))
          conv => whnf
          refine Fork.intro (fun g => ?_) (fun g => absurd (of_decide_eq_false g) (by omega))
          conv => whnf
          rw [e]
          cases g2 : decide (255 < sn * 10 + (x - 48)) with
          | true =>
            rw [g2] at hstop
            rw [hstop rfl]
            refine Fork.intro (fun g => ?_) (fun g => absurd (of_decide_eq_false g) (by have := of_decide_eq_true g2; omega))
            conv => whnf
            rfl
          | false =>
            rw [g2] at hgo
            obtain ⟨h1, h2⟩ := hgo _ rfl
            refine Fork.intro (fun g => absurd (of_decide_eq_true g) (by have := of_decide_eq_false g2; omega)) (fun g => ?_)
            conv => whnf
            refine ⟨(k + 1, ⟨sa, sn * 10 + (x - 48), sp, true⟩), [], [], ?_, ⟨hlt, h1, h2⟩, by show l.length - (k + 1) < l.length - k; omega⟩
            repeat' (first | exact trivial | exact .inl (DLe.refl _) | exact .inl (DLe.nil _ _) | (refine .inr ⟨rfl, _, ?_, rfl⟩; rfl) | exact rfl | exact Nat.zero_le _ | constructor)
        | false =>
          rw [g1] at hstop hgo
          have g1' : ¬ (48 ≤ x ∧ x ≤ 57) := by
            intro h; rw [decide_eq_true h.1, decide_eq_true h.2] at g1; cases g1
          cases g2 : decide (x = 46) && so && decide (sp < 3) with
          | true =>
            rw [g2] at hgo
            obtain ⟨h1, h2⟩ := hgo _ rfl
            simp only [Bool.and_eq_true, decide_eq_true_eq] at g2
            obtain ⟨⟨hx46, rfl⟩, hp3⟩ := g2
            subst hx46
            have e := u32_put sa sn ha (by omega)
            have e2 : IntKind.i64.wrap ((sp : Int) + 1) = ((sp + 1 : Nat) : Int) := wrap_next (n := 10) (by omega) (by decide)
            conv => whnf
            cases g3 : decide ((sp : Int) < 3) with
            | false => exact absurd (of_decide_eq_false g3) (by omega)
            | true =>
            conv => whnf
            refine ⟨by decide, ?_⟩
            conv => whnf
            rw [e, e2]
            refine ⟨(k + 1, ⟨sa * 256 + sn, 0, sp + 1, false⟩), [], [], ?_, ⟨hlt, h1, h2⟩, by show l.length - (k + 1) < l.length - k; omega⟩
            repeat' (first | exact trivial | exact .inl (DLe.refl _) | exact .inl (DLe.nil _ _) | (refine .inr ⟨rfl, _, ?_, rfl⟩; rfl) | exact rfl | exact Nat.zero_le _ | constructor)
          | false =>
            rw [g2] at hstop
            rw [hstop rfl]
            conv => whnf
            cases gA : decide ((48 : Int) ≤ x) with
            | true =>
              conv => whnf
              cases gB : decide ((x : Int) ≤ 57) with
              | true => exact absurd ⟨by have := of_decide_eq_true gA; omega, by have := of_decide_eq_true gB; omega⟩ g1'
              | false =>
                conv => whnf
                cases gC : decide ((x : Int) = 46) with
                | false =>
                  conv => whnf
                  rfl
                | true =>
                  have hx46 : x = 46 := by have := of_decide_eq_true gC; omega
                  rw [decide_eq_true hx46] at g2
                  cases so with
                  | false =>
                    conv => whnf
                    rfl
                  | true =>
                    have h3 : ¬ sp < 3 := fun h => by rw [decide_eq_true h] at g2; cases g2
                    conv => whnf
                    cases gD : decide ((sp : Int) < 3) with
                    | true => exact absurd (of_decide_eq_true gD) (by omega)
                    | false =>
                      conv => whnf
                      rfl
            | false =>
              conv => whnf
              cases gC : decide ((x : Int) = 46) with
              | false =>
                conv => whnf
                rfl
              | true =>
                have hx46 : x = 46 := by have := of_decide_eq_true gC; omega
                rw [decide_eq_true hx46] at g2
                cases so with
                | false =>
                  conv => whnf
                  rfl
                | true =>
                  have h3 : ¬ sp < 3 := fun h => by rw [decide_eq_true h] at g2; cases g2
                  conv => whnf
                  cases gD : decide ((sp : Int) < 3) with
                  | true => exact absurd (of_decide_eq_true gD) (by omega)
                  | false =>
                    conv => whnf
                    rfl
      · have hc := decode_high hl hx hx7 hd
        have hz : pParse l = none := pfold_stop hx hs (by
          unfold pstep isDig
          rw [decide_eq_false (by omega : ¬ x ≤ 57), Bool.and_false]
          simp only []
          rw [decide_eq_false (by omega : ¬ x = 46)]
          rfl)
        rw [hz]
        conv => whnf
        refine Fork.intro (fun g => ?_) (fun g => absurd (of_decide_eq_false g) (by omega))
        conv => whnf
        refine Fork.intro (fun g => absurd (of_decide_eq_true g) (by omega)) (fun g => ?_)
        conv => whnf
        refine Fork.intro (fun g => absurd (of_decide_eq_true g) (by omega)) (fun g => ?_)
        conv => whnf
        rfl
    · rw [strB_size] at hge
      have hk' : k = l.length := by omega
      rw [hk', List.take_length] at hs
      have e := u32_put sa sn ha (by omega)
      have hres : pParse l = match decide (txt (sa * 256 + sn) = l) with
        | true => some (sa * 256 + sn)
        | false => none := by unfold pParse; rw [hs]; rfl
      have ht := text_fn hj (sa * 256 + sn) (by omega)
      rw [hres]
      conv => whnf
      refine ⟨by decide, ?_⟩
      conv => whnf
      rw [e]
      conv => whnf
      refine CallVC.pure ht rfl ?_
      rintro _ rfl
      conv => whnf
      rw [strB_beq (txt_byt _) hl]
      cases decide (txt (sa * 256 + sn) = l) with
      | true =>
        conv => whnf
        rfl
      | false =>
        conv => whnf
        rfl
end Go.Proofs.YtooaeccmkgockaaGreatDoor.V
