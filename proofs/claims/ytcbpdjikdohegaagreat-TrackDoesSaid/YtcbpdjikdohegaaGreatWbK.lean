/-
  An alarm is set. Conditions: ticks not too great, rows not too long.
-/
import Derived.Test.YtcbpdjikdohegaaGreatK3
import Derived.Test.YtcbpdjikdohegaaGreatK4
namespace Go.Proofs.YtcbpdjikdohegaaGreat.V
open Go.RowKit
attribute [local irreducible] Fn FnN OpVC Ob

theorem lay_vc (F : List (Nat × D)) (now : Int) (R : Nat → List Al) (T U : List Al) (M : List ME) (c : Nat) (o2 : LO) (G : List Nat × Nat) (a : Al) {K : D → St → Prop}
    (hF : F.all (fun p => cutOk 6 5 p.2) = true) (hG : Nat.ble G.2 5 = true) (ho : ∀ r z n, LOLe r z n o2 o2) (hn : 0 ≤ now ∧ now ≤ 1099511627776) (ht : 0 ≤ a.at_ ∧ a.at_ ≤ 1099511627776) (hl : ∀ k, (R k).length ≤ 1000)
    (hK : K (.tup []) ⟨F, WH now (upd R (plc now a.at_) (R (plc now a.at_) ++ [a])) T U M c o2, 53, G⟩) : CallVC Tryz.prog false 62 [.loc 0 0, .agg (alD a)] ⟨F, WH now R T U M c o2, 53, G⟩ K := by
  have hp := plp_in now a.at_ ht.1
  have hp16 : plp now a.at_ = 0 ∨ plp now a.at_ = 1 ∨ plp now a.at_ = 2 ∨ plp now a.at_ = 3 ∨ plp now a.at_ = 4 ∨ plp now a.at_ = 5 ∨ plp now a.at_ = 6 ∨ plp now a.at_ = 7 ∨ plp now a.at_ = 8 ∨ plp now a.at_ = 9 ∨ plp now a.at_ = 10 ∨ plp now a.at_ = 11 ∨ plp now a.at_ = 12 ∨ plp now a.at_ = 13 ∨ plp now a.at_ = 14 ∨ plp now a.at_ = 15 := by omega
  have hk : ∀ r p : Int, plr now a.at_ = r → plp now a.at_ = p → plc now a.at_ = (r * 16 + p).toNat := fun r p h1 h2 => by unfold plc; rw [h1, h2]
  rcases plr_in now a.at_ with hr | hr | hr
  · rcases hp16 with h | h | h | h | h | h | h | h | h | h | h | h | h | h | h | h
    · rw [hk _ _ hr h] at hK; exact lay_0 F now R T U M c o2 G a hr h hF hG ho hn ht (hl 0) hK
    · rw [hk _ _ hr h] at hK; exact lay_1 F now R T U M c o2 G a hr h hF hG ho hn ht (hl 1) hK
    · rw [hk _ _ hr h] at hK; exact lay_2 F now R T U M c o2 G a hr h hF hG ho hn ht (hl 2) hK
    · rw [hk _ _ hr h] at hK; exact lay_3 F now R T U M c o2 G a hr h hF hG ho hn ht (hl 3) hK
    · rw [hk _ _ hr h] at hK; exact lay_4 F now R T U M c o2 G a hr h hF hG ho hn ht (hl 4) hK
    · rw [hk _ _ hr h] at hK; exact lay_5 F now R T U M c o2 G a hr h hF hG ho hn ht (hl 5) hK
    · rw [hk _ _ hr h] at hK; exact lay_6 F now R T U M c o2 G a hr h hF hG ho hn ht (hl 6) hK
    · rw [hk _ _ hr h] at hK; exact lay_7 F now R T U M c o2 G a hr h hF hG ho hn ht (hl 7) hK
    · rw [hk _ _ hr h] at hK; exact lay_8 F now R T U M c o2 G a hr h hF hG ho hn ht (hl 8) hK
    · rw [hk _ _ hr h] at hK; exact lay_9 F now R T U M c o2 G a hr h hF hG ho hn ht (hl 9) hK
    · rw [hk _ _ hr h] at hK; exact lay_10 F now R T U M c o2 G a hr h hF hG ho hn ht (hl 10) hK
    · rw [hk _ _ hr h] at hK; exact lay_11 F now R T U M c o2 G a hr h hF hG ho hn ht (hl 11) hK
    · rw [hk _ _ hr h] at hK; exact lay_12 F now R T U M c o2 G a hr h hF hG ho hn ht (hl 12) hK
    · rw [hk _ _ hr h] at hK; exact lay_13 F now R T U M c o2 G a hr h hF hG ho hn ht (hl 13) hK
    · rw [hk _ _ hr h] at hK; exact lay_14 F now R T U M c o2 G a hr h hF hG ho hn ht (hl 14) hK
    · rw [hk _ _ hr h] at hK; exact lay_15 F now R T U M c o2 G a hr h hF hG ho hn ht (hl 15) hK
  · rcases hp16 with h | h | h | h | h | h | h | h | h | h | h | h | h | h | h | h
    · rw [hk _ _ hr h] at hK; exact lay_16 F now R T U M c o2 G a hr h hF hG ho hn ht (hl 16) hK
    · rw [hk _ _ hr h] at hK; exact lay_17 F now R T U M c o2 G a hr h hF hG ho hn ht (hl 17) hK
    · rw [hk _ _ hr h] at hK; exact lay_18 F now R T U M c o2 G a hr h hF hG ho hn ht (hl 18) hK
    · rw [hk _ _ hr h] at hK; exact lay_19 F now R T U M c o2 G a hr h hF hG ho hn ht (hl 19) hK
    · rw [hk _ _ hr h] at hK; exact lay_20 F now R T U M c o2 G a hr h hF hG ho hn ht (hl 20) hK
    · rw [hk _ _ hr h] at hK; exact lay_21 F now R T U M c o2 G a hr h hF hG ho hn ht (hl 21) hK
    · rw [hk _ _ hr h] at hK; exact lay_22 F now R T U M c o2 G a hr h hF hG ho hn ht (hl 22) hK
    · rw [hk _ _ hr h] at hK; exact lay_23 F now R T U M c o2 G a hr h hF hG ho hn ht (hl 23) hK
    · rw [hk _ _ hr h] at hK; exact lay_24 F now R T U M c o2 G a hr h hF hG ho hn ht (hl 24) hK
    · rw [hk _ _ hr h] at hK; exact lay_25 F now R T U M c o2 G a hr h hF hG ho hn ht (hl 25) hK
    · rw [hk _ _ hr h] at hK; exact lay_26 F now R T U M c o2 G a hr h hF hG ho hn ht (hl 26) hK
    · rw [hk _ _ hr h] at hK; exact lay_27 F now R T U M c o2 G a hr h hF hG ho hn ht (hl 27) hK
    · rw [hk _ _ hr h] at hK; exact lay_28 F now R T U M c o2 G a hr h hF hG ho hn ht (hl 28) hK
    · rw [hk _ _ hr h] at hK; exact lay_29 F now R T U M c o2 G a hr h hF hG ho hn ht (hl 29) hK
    · rw [hk _ _ hr h] at hK; exact lay_30 F now R T U M c o2 G a hr h hF hG ho hn ht (hl 30) hK
    · rw [hk _ _ hr h] at hK; exact lay_31 F now R T U M c o2 G a hr h hF hG ho hn ht (hl 31) hK
  · rcases hp16 with h | h | h | h | h | h | h | h | h | h | h | h | h | h | h | h
    · rw [hk _ _ hr h] at hK; exact lay_32 F now R T U M c o2 G a hr h hF hG ho hn ht (hl 32) hK
    · rw [hk _ _ hr h] at hK; exact lay_33 F now R T U M c o2 G a hr h hF hG ho hn ht (hl 33) hK
    · rw [hk _ _ hr h] at hK; exact lay_34 F now R T U M c o2 G a hr h hF hG ho hn ht (hl 34) hK
    · rw [hk _ _ hr h] at hK; exact lay_35 F now R T U M c o2 G a hr h hF hG ho hn ht (hl 35) hK
    · rw [hk _ _ hr h] at hK; exact lay_36 F now R T U M c o2 G a hr h hF hG ho hn ht (hl 36) hK
    · rw [hk _ _ hr h] at hK; exact lay_37 F now R T U M c o2 G a hr h hF hG ho hn ht (hl 37) hK
    · rw [hk _ _ hr h] at hK; exact lay_38 F now R T U M c o2 G a hr h hF hG ho hn ht (hl 38) hK
    · rw [hk _ _ hr h] at hK; exact lay_39 F now R T U M c o2 G a hr h hF hG ho hn ht (hl 39) hK
    · rw [hk _ _ hr h] at hK; exact lay_40 F now R T U M c o2 G a hr h hF hG ho hn ht (hl 40) hK
    · rw [hk _ _ hr h] at hK; exact lay_41 F now R T U M c o2 G a hr h hF hG ho hn ht (hl 41) hK
    · rw [hk _ _ hr h] at hK; exact lay_42 F now R T U M c o2 G a hr h hF hG ho hn ht (hl 42) hK
    · rw [hk _ _ hr h] at hK; exact lay_43 F now R T U M c o2 G a hr h hF hG ho hn ht (hl 43) hK
    · rw [hk _ _ hr h] at hK; exact lay_44 F now R T U M c o2 G a hr h hF hG ho hn ht (hl 44) hK
    · rw [hk _ _ hr h] at hK; exact lay_45 F now R T U M c o2 G a hr h hF hG ho hn ht (hl 45) hK
    · rw [hk _ _ hr h] at hK; exact lay_46 F now R T U M c o2 G a hr h hF hG ho hn ht (hl 46) hK
    · rw [hk _ _ hr h] at hK; exact lay_47 F now R T U M c o2 G a hr h hF hG ho hn ht (hl 47) hK

def setW (now : Int) (M : List ME) (a : Al) : Bool := match decide (a.at_ ≤ now) with
  | true => false
  | false => match decide (4095 < a.at_ - now) with
    | true => false
    | false => match (mfind a.id M).isSome with
      | true => false
      | false => true

theorem imap_ok : imapOk Tryz.prog 83 = true := by kernel_rfl

theorem set_vc (F : List (Nat × D)) (now : Int) (R : Nat → List Al) (T U : List Al) (M : List ME) (c : Nat) (o2 : LO) (G : List Nat × Nat) (a : Al) {K : D → St → Prop}
    (hF : F.all (fun p => cutOk 6 5 p.2) = true) (hG : Nat.ble G.2 5 = true) (ho : ∀ r z n, LOLe r z n o2 o2) (hn : 0 ≤ now ∧ now ≤ 1099511600000) (ha : a.at_ ≤ 9223372036854775807) (hl : ∀ k, (R k).length ≤ 1000)
    (h0 : setW now M a = false → K (boolD false) ⟨F, WH now R T U M c o2, 53, G⟩)
    (h1 : setW now M a = true → K (boolD true) ⟨F, WH now (upd R (plc now a.at_) (R (plc now a.at_) ++ [a])) T U (M ++ [(a.id, a.at_, c)]) (c + 1) o2, 53, G⟩) :
    CallVC Tryz.prog false 48 [.loc 0 0, .agg (alD a)] ⟨F, WH now R T U M c o2, 53, G⟩ K := by
  refine toIn 5 [] Tryz.func48 rfl (by kernel_rfl) (Nat.le_of_ble_eq_true rfl) (by decide) hG rfl hF ?_
  unfold setW at h0 h1
  conv => whnf
  cases g1 : decide (a.at_ ≤ now) with
  | true =>
    rw [g1] at h0
    conv => whnf
    refine ⟨[], [], boolD false, WH now R T U M c o2, 53, ?_, h0 rfl⟩
    repeat' (first | exact trivial | exact .inl (DLe.refl _) | exact .inl (DLe.nil _ _) | (refine .inr ⟨rfl, _, ?_, rfl⟩; rfl) | exact rfl | exact Nat.zero_le _ | constructor)
    exact ho _ _ _
  | false =>
    have hgt := of_decide_eq_false g1
    have e1 : IntKind.i64.wrap (a.at_ - now) = a.at_ - now := IntWalk.i64_in _ (by omega)
    rw [g1] at h0 h1
    conv => whnf
    rw [e1]
    cases g2 : decide (4095 < a.at_ - now) with
    | true =>
      rw [g2] at h0
      conv => whnf
      refine ⟨[], [], boolD false, WH now R T U M c o2, 53, ?_, h0 rfl⟩
      repeat' (first | exact trivial | exact .inl (DLe.refl _) | exact .inl (DLe.nil _ _) | (refine .inr ⟨rfl, _, ?_, rfl⟩; rfl) | exact rfl | exact Nat.zero_le _ | constructor)
      exact ho _ _ _
    | false =>
      have hle := of_decide_eq_false g2
      rw [g2] at h0 h1
      conv => whnf
      refine op_lookup rfl imap_ok rfl rfl rfl ?_
      conv => whnf
      cases g3 : (mfind a.id M).isSome with
      | true =>
        rw [g3] at h0
        conv => whnf
        refine ⟨[], [], boolD false, WH now R T U M c o2, 53, ?_, h0 rfl⟩
        repeat' (first | exact trivial | exact .inl (DLe.refl _) | exact .inl (DLe.nil _ _) | (refine .inr ⟨rfl, _, ?_, rfl⟩; rfl) | exact rfl | exact Nat.zero_le _ | constructor)
        exact ho _ _ _
      | false =>
        have g4 : mfind a.id M = none := by simpa using g3
        rw [g3] at h1
        conv => whnf
        refine op_mapUpdate rfl imap_ok rfl rfl rfl rfl (fun _ => ?_) (fun h => absurd g4 h)
        conv => whnf
        refine CallVC.cov (args1 := [.loc 0 0, .agg (alD a)]) [] [] ⟨[], WH now R T U (M ++ [(a.id, a.at_, c)]) (c + 1) o2, 53, (upto 5 0, 5)⟩ ?_ ?_ ?_
        · repeat' (first | exact trivial | exact .inl (DLe.refl _) | exact .inl (DLe.nil _ _) | (refine .inr ⟨rfl, _, ?_, rfl⟩; rfl) | exact rfl | exact Nat.zero_le _ | constructor)
          exact ho _ _ _
        · repeat' (first | exact trivial | exact .inl (DLe.refl _) | exact .inl (DLe.nil _ _) | (refine .inr ⟨rfl, _, ?_, rfl⟩; rfl) | exact rfl | exact Nat.zero_le _ | constructor)
        · refine lay_vc [] now R T U _ _ o2 _ a rfl rfl ho (by omega) (by omega) hl ?_
          conv => whnf
          refine ⟨[], [], boolD true, _, 53, ?_, h1 rfl⟩
          repeat' (first | exact trivial | exact .inl (DLe.refl _) | exact .inl (DLe.nil _ _) | (refine .inr ⟨rfl, _, ?_, rfl⟩; rfl) | exact rfl | exact Nat.zero_le _ | constructor)
          exact ho _ _ _
end Go.Proofs.YtcbpdjikdohegaaGreat.V
