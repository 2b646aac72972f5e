/-
  A place of a later row is poured. Conditions: ticks not too great, rows not too long.
-/
import Derived.Test.YtcbpdjikdohegaaK4
import Derived.Test.YtcbpdjikdohegaaK5
namespace Go.Proofs.Ytcbpdjikdohegaa.V
open Go.RowKit
attribute [local irreducible] Fn FnN OpVC Ob RowFn

theorem pour_vc (F : List (Nat × D)) (now : Int) (R : Nat → List Al) (T U : List Al) (M : List ME) (c : Nat) (o2 : LO) (G : List Nat × Nat) (r p : Int) (k : Nat) (hk : (k : Int) = 16 * r + p) (hr : r = 1 ∨ r = 2) (hp : 0 ≤ p ∧ p < 16) {K : D → St → Prop} (hF : F.all (fun p => cutOk 6 4 p.2) = true) (hG : Nat.ble G.2 4 = true) (ho : ∀ r z n, LOLe r z n o2 o2) (hn : 0 ≤ now ∧ now ≤ 1099511627776) (hat : ∀ k a, a ∈ R k → 0 ≤ a.at_ ∧ a.at_ ≤ 1099511627776) (hl : ∀ j, (R j).length ≤ 100)
    (hK : K (.tup []) ⟨F, WH now (pourR now k R) (R k) U M c o2, 53, G⟩) : CallVC Try.prog false 83 [.loc 0 0, intD r, intD p] ⟨F, WH now R T U M c o2, 53, G⟩ K := by
  have hp16 : p = 0 ∨ p = 1 ∨ p = 2 ∨ p = 3 ∨ p = 4 ∨ p = 5 ∨ p = 6 ∨ p = 7 ∨ p = 8 ∨ p = 9 ∨ p = 10 ∨ p = 11 ∨ p = 12 ∨ p = 13 ∨ p = 14 ∨ p = 15 := by omega
  rcases hr with rfl | rfl
  · rcases hp16 with rfl | rfl | rfl | rfl | rfl | rfl | rfl | rfl | rfl | rfl | rfl | rfl | rfl | rfl | rfl | rfl
    · obtain rfl : k = 16 := by omega
      exact pour_16 F now R T U M c o2 G hF hG ho hn (hat _) hl hK
    · obtain rfl : k = 17 := by omega
      exact pour_17 F now R T U M c o2 G hF hG ho hn (hat _) hl hK
    · obtain rfl : k = 18 := by omega
      exact pour_18 F now R T U M c o2 G hF hG ho hn (hat _) hl hK
    · obtain rfl : k = 19 := by omega
      exact pour_19 F now R T U M c o2 G hF hG ho hn (hat _) hl hK
    · obtain rfl : k = 20 := by omega
      exact pour_20 F now R T U M c o2 G hF hG ho hn (hat _) hl hK
    · obtain rfl : k = 21 := by omega
      exact pour_21 F now R T U M c o2 G hF hG ho hn (hat _) hl hK
    · obtain rfl : k = 22 := by omega
      exact pour_22 F now R T U M c o2 G hF hG ho hn (hat _) hl hK
    · obtain rfl : k = 23 := by omega
      exact pour_23 F now R T U M c o2 G hF hG ho hn (hat _) hl hK
    · obtain rfl : k = 24 := by omega
      exact pour_24 F now R T U M c o2 G hF hG ho hn (hat _) hl hK
    · obtain rfl : k = 25 := by omega
      exact pour_25 F now R T U M c o2 G hF hG ho hn (hat _) hl hK
    · obtain rfl : k = 26 := by omega
      exact pour_26 F now R T U M c o2 G hF hG ho hn (hat _) hl hK
    · obtain rfl : k = 27 := by omega
      exact pour_27 F now R T U M c o2 G hF hG ho hn (hat _) hl hK
    · obtain rfl : k = 28 := by omega
      exact pour_28 F now R T U M c o2 G hF hG ho hn (hat _) hl hK
    · obtain rfl : k = 29 := by omega
      exact pour_29 F now R T U M c o2 G hF hG ho hn (hat _) hl hK
    · obtain rfl : k = 30 := by omega
      exact pour_30 F now R T U M c o2 G hF hG ho hn (hat _) hl hK
    · obtain rfl : k = 31 := by omega
      exact pour_31 F now R T U M c o2 G hF hG ho hn (hat _) hl hK
  · rcases hp16 with rfl | rfl | rfl | rfl | rfl | rfl | rfl | rfl | rfl | rfl | rfl | rfl | rfl | rfl | rfl | rfl
    · obtain rfl : k = 32 := by omega
      exact pour_32 F now R T U M c o2 G hF hG ho hn (hat _) hl hK
    · obtain rfl : k = 33 := by omega
      exact pour_33 F now R T U M c o2 G hF hG ho hn (hat _) hl hK
    · obtain rfl : k = 34 := by omega
      exact pour_34 F now R T U M c o2 G hF hG ho hn (hat _) hl hK
    · obtain rfl : k = 35 := by omega
      exact pour_35 F now R T U M c o2 G hF hG ho hn (hat _) hl hK
    · obtain rfl : k = 36 := by omega
      exact pour_36 F now R T U M c o2 G hF hG ho hn (hat _) hl hK
    · obtain rfl : k = 37 := by omega
      exact pour_37 F now R T U M c o2 G hF hG ho hn (hat _) hl hK
    · obtain rfl : k = 38 := by omega
      exact pour_38 F now R T U M c o2 G hF hG ho hn (hat _) hl hK
    · obtain rfl : k = 39 := by omega
      exact pour_39 F now R T U M c o2 G hF hG ho hn (hat _) hl hK
    · obtain rfl : k = 40 := by omega
      exact pour_40 F now R T U M c o2 G hF hG ho hn (hat _) hl hK
    · obtain rfl : k = 41 := by omega
      exact pour_41 F now R T U M c o2 G hF hG ho hn (hat _) hl hK
    · obtain rfl : k = 42 := by omega
      exact pour_42 F now R T U M c o2 G hF hG ho hn (hat _) hl hK
    · obtain rfl : k = 43 := by omega
      exact pour_43 F now R T U M c o2 G hF hG ho hn (hat _) hl hK
    · obtain rfl : k = 44 := by omega
      exact pour_44 F now R T U M c o2 G hF hG ho hn (hat _) hl hK
    · obtain rfl : k = 45 := by omega
      exact pour_45 F now R T U M c o2 G hF hG ho hn (hat _) hl hK
    · obtain rfl : k = 46 := by omega
      exact pour_46 F now R T U M c o2 G hF hG ho hn (hat _) hl hK
    · obtain rfl : k = 47 := by omega
      exact pour_47 F now R T U M c o2 G hF hG ho hn (hat _) hl hK
end Go.Proofs.Ytcbpdjikdohegaa.V
