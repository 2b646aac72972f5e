/-
  The wheel goes on by one tick, and by many. Conditions: ticks not too great, not too many alarms.
  The document's wheel: one stopped, the wheel goes on; rows of alarms are the same; the law's own looking. Conditions: rows not too long, ticks not too great.
  Deeds with a wheel, each told in one way whether it does anything or not; a row in order stays in order. Conditions: rows not too long, ticks not too great.
-/
import Derived.Test.YtcbpdjikdohegaaGreatK9
import Derived.Test.YtcbpdjikdohegaaGreatK10
import Derived.Test.YtcbpdjikdohegaaGreatK5
import Derived.Test.YtcbpdjikdohegaaGreatWtK
namespace Go.Proofs.YtcbpdjikdohegaaGreat.V
open Go.RowKit
attribute [local irreducible] Fn FnN OpVC Ob RowFn

theorem due_row {now : Int} {R : Nat → List Al} {M : List ME} {L : List Al} (h : WInv now R M L) (hs : Sorted L) : (L.takeWhile (upTo (now + 1))).Perm (readyR (now + 1) R (k0 (now + 1))) ∧ (L.takeWhile (upTo (now + 1))).Pairwise fun a b => a.id < b.id := by
  obtain ⟨h1, h2, h3⟩ := h.tick (List.Perm.refl _)
  obtain ⟨h4, h5⟩ := take_filter (t := now + 1) hs
  have e1 : ∀ x, x ∈ L → upTo (now + 1) x = isAt (now + 1) x := fun x hx => by
    have := h.due hx
    exact decide_eq_decide.2 (by omega)
  rw [List.filter_congr e1] at h4
  rw [← h4]
  refine ⟨h2, List.Pairwise.imp_of_mem (fun {a b} ha hb hab => ?_) (List.Pairwise.sublist List.filter_sublist hs)⟩
  have g1 : a.at_ = now + 1 := of_decide_eq_true (List.mem_filter.1 ha).2
  have g2 : b.at_ = now + 1 := of_decide_eq_true (List.mem_filter.1 hb).2
  have := ahead_iff.1 hab
  omega
theorem WInv.mid_len {now : Int} {R : Nat → List Al} {M : List ME} {L : List Al} (h : WInv now R M L) (k : Nat) : (pour2 (now + 1) R k).length ≤ L.length := by
  obtain ⟨h1, h2⟩ := h.mid
  by_cases hk : k < 48
  · have := (allR_out (pour2 (now + 1) R) hk).length_eq
    rw [List.length_append, h2.length_eq] at this
    omega
  · have : pour2 (now + 1) R k = [] := List.eq_nil_iff_forall_not_mem.2 fun a ha => hk (by have := h1 k a ha; unfold okX at this; omega)
    rw [this]; exact Nat.zero_le _
theorem WInv.mid_mem {now : Int} {R : Nat → List Al} {M : List ME} {L : List Al} (h : WInv now R M L) {k : Nat} {a : Al} (ha : a ∈ pour2 (now + 1) R k) : a ∈ L := by
  obtain ⟨h1, h2⟩ := h.mid
  exact h2.mem_iff.1 (mem_allR.2 ⟨k, by have := h1 k a ha; unfold okX at this; omega, ha⟩)
theorem WInv.mem {now : Int} {R : Nat → List Al} {M : List ME} {L : List Al} (h : WInv now R M L) {k : Nat} {a : Al} (ha : a ∈ R k) : a ∈ L :=
  h.perm.mem_iff.1 (mem_allR.2 ⟨k, (okAt_lt (h.row k a ha)).2, ha⟩)

theorem tick_vc (F : List (Nat × D)) (now : Int) (R : Nat → List Al) (T U : List Al) (M : List ME) (c : Nat) (o2 : LO) (G : List Nat × Nat) (L : List Al) {K : D → St → Prop} (hF : F.all (fun p => cutOk 6 4 p.2) = true) (hG : Nat.ble G.2 4 = true) (ho : ∀ r z n, LOLe r z n o2 o2) (hi : WInv now R M L) (hs : Sorted L) (hL : L.length ≤ 100) (hn1 : now ≤ 1099511600000) (hat : ∀ a, a ∈ L → a.at_ ≤ 1099511620000)
    (hK : K (.grow 4) ⟨F, WH (now + 1) (upd (readyR (now + 1) R) (k0 (now + 1)) []) (L.takeWhile (upTo (now + 1))) U (mdels (L.takeWhile (upTo (now + 1))) M) c o2, 53, G⟩) :
    CallVC Tryz.prog false 53 [.loc 0 0] ⟨F, WH now R T U M c o2, 53, G⟩ K := by
  have hn0 := hi.n0
  obtain ⟨hSp, hS⟩ := due_row hi hs
  have hn : 0 ≤ now ∧ now ≤ 1099511620000 := ⟨hn0, by omega⟩
  have hlen : (readyR (now + 1) R (k0 (now + 1))).length ≤ 1000000 := by
    rw [← hSp.length_eq]
    have := (List.takeWhile_sublist (upTo (now + 1)) (l := L)).length_le
    omega
  have hl : ∀ j, (R j).length ≤ 100 := fun j => by have := hi.rows_len j; omega
  have ha : ∀ k a, a ∈ R k → 0 ≤ a.at_ ∧ a.at_ ≤ 1099511627776 := fun k a h => by
    have := hi.due (hi.mem h); have := hat a (hi.mem h); omega
  have hp16 : (now + 1) % 16 = 0 ∨ (now + 1) % 16 = 1 ∨ (now + 1) % 16 = 2 ∨ (now + 1) % 16 = 3 ∨ (now + 1) % 16 = 4 ∨ (now + 1) % 16 = 5 ∨ (now + 1) % 16 = 6 ∨ (now + 1) % 16 = 7 ∨ (now + 1) % 16 = 8 ∨ (now + 1) % 16 = 9 ∨ (now + 1) % 16 = 10 ∨ (now + 1) % 16 = 11 ∨ (now + 1) % 16 = 12 ∨ (now + 1) % 16 = 13 ∨ (now + 1) % 16 = 14 ∨ (now + 1) % 16 = 15 := by omega
  by_cases h0 : (now + 1) % 16 = 0
  · have ek : k0 (now + 1) = 0 := by unfold k0; omega
    have d1 : decide ((now + 1) % 16 = 0) = true := decide_eq_true h0
    rw [ek] at hSp hK hlen
    by_cases h1 : (now + 1) % 256 = 0
    · have hl1 : ∀ j, (pour2 (now + 1) R j).length ≤ 100 := fun j => by have := hi.mid_len j; omega
      have ha1 : ∀ k a, a ∈ pour2 (now + 1) R k → 0 ≤ a.at_ ∧ a.at_ ≤ 1099511627776 := fun k a h => by
        have := hi.due (hi.mid_mem h); have := hat a (hi.mid_mem h); omega
      have e1 : pour2 (now + 1) R = pourR (now + 1) (k2 (now + 1)) R := by unfold pour2; rw [decide_eq_true h1]
      have e2 : readyR (now + 1) R = pourR (now + 1) (k1 (now + 1)) (pour2 (now + 1) R) := by unfold readyR pour1; rw [d1]
      exact tick_0a F now R T U M c o2 G _ hF hG ho hn _ _ e1 e2 h1 hlen ha hl ha1 hl1 hS hSp hK
    · have e1 : pour2 (now + 1) R = R := by unfold pour2; rw [decide_eq_false h1]
      have e2 : readyR (now + 1) R = pourR (now + 1) (k1 (now + 1)) R := by unfold readyR pour1; rw [d1, e1]
      exact tick_0b F now R T U M c o2 G _ hF hG ho hn _ e2 h0 h1 hlen ha hl hS hSp hK
  · have e1 : readyR (now + 1) R = R := by
      unfold readyR pour1 pour2
      rw [decide_eq_false h0, decide_eq_false (by omega)]
    rw [e1] at hSp hK hlen
    rcases hp16 with hp | hp | hp | hp | hp | hp | hp | hp | hp | hp | hp | hp | hp | hp | hp | hp
    · exact absurd hp h0
    · rw [show k0 (now + 1) = 1 by unfold k0; omega] at hSp hK hlen
      exact tick_1 F now R T U M c o2 G _ hF hG ho hn hp hlen hS hSp hK
    · rw [show k0 (now + 1) = 2 by unfold k0; omega] at hSp hK hlen
      exact tick_2 F now R T U M c o2 G _ hF hG ho hn hp hlen hS hSp hK
    · rw [show k0 (now + 1) = 3 by unfold k0; omega] at hSp hK hlen
      exact tick_3 F now R T U M c o2 G _ hF hG ho hn hp hlen hS hSp hK
    · rw [show k0 (now + 1) = 4 by unfold k0; omega] at hSp hK hlen
      exact tick_4 F now R T U M c o2 G _ hF hG ho hn hp hlen hS hSp hK
    · rw [show k0 (now + 1) = 5 by unfold k0; omega] at hSp hK hlen
      exact tick_5 F now R T U M c o2 G _ hF hG ho hn hp hlen hS hSp hK
    · rw [show k0 (now + 1) = 6 by unfold k0; omega] at hSp hK hlen
      exact tick_6 F now R T U M c o2 G _ hF hG ho hn hp hlen hS hSp hK
    · rw [show k0 (now + 1) = 7 by unfold k0; omega] at hSp hK hlen
      exact tick_7 F now R T U M c o2 G _ hF hG ho hn hp hlen hS hSp hK
    · rw [show k0 (now + 1) = 8 by unfold k0; omega] at hSp hK hlen
      exact tick_8 F now R T U M c o2 G _ hF hG ho hn hp hlen hS hSp hK
    · rw [show k0 (now + 1) = 9 by unfold k0; omega] at hSp hK hlen
      exact tick_9 F now R T U M c o2 G _ hF hG ho hn hp hlen hS hSp hK
    · rw [show k0 (now + 1) = 10 by unfold k0; omega] at hSp hK hlen
      exact tick_10 F now R T U M c o2 G _ hF hG ho hn hp hlen hS hSp hK
    · rw [show k0 (now + 1) = 11 by unfold k0; omega] at hSp hK hlen
      exact tick_11 F now R T U M c o2 G _ hF hG ho hn hp hlen hS hSp hK
    · rw [show k0 (now + 1) = 12 by unfold k0; omega] at hSp hK hlen
      exact tick_12 F now R T U M c o2 G _ hF hG ho hn hp hlen hS hSp hK
    · rw [show k0 (now + 1) = 13 by unfold k0; omega] at hSp hK hlen
      exact tick_13 F now R T U M c o2 G _ hF hG ho hn hp hlen hS hSp hK
    · rw [show k0 (now + 1) = 14 by unfold k0; omega] at hSp hK hlen
      exact tick_14 F now R T U M c o2 G _ hF hG ho hn hp hlen hS hSp hK
    · rw [show k0 (now + 1) = 15 by unfold k0; omega] at hSp hK hlen
      exact tick_15 F now R T U M c o2 G _ hF hG ho hn hp hlen hS hSp hK

def clampN (n : Int) : Int := min (max n 0) 4095
structure WS where
  now : Int
  R : Nat → List Al
  T : List Al
  U : List Al
  M : List ME
  L : List Al
def WS.tick (s : WS) : WS := ⟨s.now + 1, upd (readyR (s.now + 1) s.R) (k0 (s.now + 1)) [], s.L.takeWhile (upTo (s.now + 1)), s.U ++ s.L.takeWhile (upTo (s.now + 1)), mdels (s.L.takeWhile (upTo (s.now + 1))) s.M, s.L.dropWhile (upTo (s.now + 1))⟩
def WS.ticks (s : WS) : Nat → WS
  | 0 => s
  | i + 1 => (s.ticks i).tick
theorem ticks_spec (s : WS) (hi : WInv s.now s.R s.M s.L) (hs : Sorted s.L) : ∀ i : Nat, (s.ticks i).now = s.now + i ∧ WInv (s.ticks i).now (s.ticks i).R (s.ticks i).M (s.ticks i).L ∧ (s.ticks i).L = s.L.dropWhile (upTo (s.now + i)) ∧ (s.ticks i).U = s.U ++ s.L.takeWhile (upTo (s.now + i))
  | 0 => by
    show s.now = s.now + (0 : Int) ∧ WInv s.now s.R s.M s.L ∧ s.L = s.L.dropWhile (upTo (s.now + (0 : Int))) ∧ s.U = s.U ++ s.L.takeWhile (upTo (s.now + (0 : Int)))
    rw [Int.add_zero]
    have hno : ∀ a, a ∈ s.L → upTo s.now a = false := fun a ha => decide_eq_false (by have := hi.due ha; omega)
    refine ⟨rfl, hi, ?_⟩
    generalize s.L = L at hno
    cases L with
    | nil => exact ⟨rfl, by simp⟩
    | cons a r =>
      have h1 := hno a (.head _)
      rw [List.takeWhile_cons_of_neg (by simp [h1]), List.dropWhile_cons_of_neg (by simp [h1]), List.append_nil]
      exact ⟨rfl, rfl⟩
  | i + 1 => by
    obtain ⟨h1, h2, h3, h4⟩ := ticks_spec s hi hs i
    have hs' : Sorted (s.ticks i).L := by rw [h3]; exact hs.drop _
    obtain ⟨_, hI2⟩ := h2.tick_sorted hs' (due_row h2 hs').1 (due_row h2 hs').2
    have hmore := take_more (t := s.now + i) (u := s.now + i + 1) (by omega) s.L
    have e : (s.ticks (i + 1)) = (s.ticks i).tick := rfl
    rw [e, show s.now + ((i + 1 : Nat) : Int) = s.now + i + 1 by omega]
    unfold WS.tick
    refine ⟨by show (s.ticks i).now + 1 = _; rw [h1], hI2, ?_, ?_⟩
    · show (s.ticks i).L.dropWhile (upTo ((s.ticks i).now + 1)) = _
      rw [h1, h3]; exact hmore.2.symm
    · show (s.ticks i).U ++ (s.ticks i).L.takeWhile (upTo ((s.ticks i).now + 1)) = _
      rw [h1, h3, h4, List.append_assoc, ← hmore.1]

theorem turn_vc (F : List (Nat × D)) (now : Int) (R : Nat → List Al) (T U : List Al) (M : List ME) (c : Nat) (o2 : LO) (G : List Nat × Nat) (n : Int) (L : List Al) {K : D → St → Prop} (hF : F.all (fun p => cutOk 6 3 p.2) = true) (hG : Nat.ble G.2 3 = true) (ho : ∀ r z n, LOLe r z n o2 o2) (hi : WInv now R M L) (hs : Sorted L) (hL : L.length ≤ 100) (hn1 : now ≤ 1099511500000) (hat : ∀ a, a ∈ L → a.at_ ≤ 1099511620000)
    (hK : ∀ X, X = (WS.mk now R T [] M L).ticks (clampN n).toNat → K (.grow 3) ⟨F, WH X.now X.R X.T X.U X.M c o2, 53, G⟩) :
    CallVC Tryz.prog false 35 [.loc 0 0, intD n] ⟨F, WH now R T U M c o2, 53, G⟩ K := by
  have hc : 0 ≤ clampN n ∧ clampN n ≤ 4095 := by unfold clampN; omega
  have hn0 := hi.n0
  have hspec := ticks_spec (WS.mk now R T [] M L) hi hs
  refine toIn 3 [] Tryz.func35 rfl (by kernel_rfl) (Nat.le_of_ble_eq_true rfl) (by decide) hG rfl hF ?_
  conv => whnf
  refine ⟨Nat × WS, fun g => ⟨[(12, intD g.1), (11, intD (clampN n)), (5, .grow 3), (0, .loc 0 0)], WH g.2.now g.2.R g.2.T g.2.U g.2.M c o2, 53, (upto 3 0, 3)⟩,
    fun g => (g.1 : Int) ≤ clampN n ∧ g.2 = (WS.mk now R T [] M L).ticks g.1, fun g => (clampN n).toNat - g.1, ⟨(0, ⟨now, R, T, [], M, L⟩), [(3, 70)], [3], ?_, hc.1, rfl⟩, ?_⟩
  · repeat' (first | exact trivial | exact .inl (DLe.refl _) | exact .inl (DLe.nil _ _) | (refine .inr ⟨rfl, _, ?_, rfl⟩; rfl) | exact rfl | exact Nat.zero_le _ | constructor)
    exact ho _ _ _
  · rintro ⟨i, X⟩ ⟨hik, hX⟩
    obtain ⟨h1, h2, h3, h4⟩ := hspec i
    rw [← hX] at h1 h2 h3 h4
    replace hX : X = (WS.mk now R T [] M L).ticks i := hX
    replace hik : (i : Int) ≤ clampN n := hik
    have hstep : X.tick = (WS.mk now R T [] M L).ticks (i + 1) := by rw [hX]; rfl
    obtain ⟨xn, xR, xT, xU, xM, xL⟩ := X
    dsimp only at h1 h2 h3 h4
    have hL' : xL.length ≤ 100 := by rw [h3]; have := (List.dropWhile_sublist (upTo (now + i)) (l := L)).length_le; omega
    have hU' : xU.length ≤ 100 := by rw [h4]; have := (List.takeWhile_sublist (upTo (now + i)) (l := L)).length_le; simp only [List.nil_append]; omega
    have hs' : Sorted xL := by rw [h3]; exact hs.drop _
    have hat' : ∀ a, a ∈ xL → a.at_ ≤ 1099511620000 := fun a ha => hat a (by rw [h3] at ha; exact (List.dropWhile_sublist _).subset ha)
    have hDl : (xL.takeWhile (upTo (xn + 1))).length ≤ 100 := by have := (List.takeWhile_sublist (upTo (xn + 1)) (l := xL)).length_le; omega
    conv => whnf
    refine Fork.intro (fun g1 => ?_) (fun g1 => ?_)
    · have hlt : (i : Int) < clampN n := of_decide_eq_true g1
      conv => whnf
      refine CallVC.cov (args1 := [.loc 0 0]) [] [] ⟨[(14, .grow 3), (12, intD i), (11, intD (clampN n)), (5, .grow 3), (0, .loc 0 0)], WH xn xR xT xU xM c o2, 53, (upto 3 0, 3)⟩ ?_ ?_ (tick_vc _ xn xR xT xU xM c o2 _ xL rfl rfl ho h2 hs' hL' (by omega) hat' ?_)
      · repeat' (first | exact trivial | exact .inl (DLe.refl _) | exact .inl (DLe.nil _ _) | (refine .inr ⟨rfl, _, ?_, rfl⟩; rfl) | exact rfl | exact Nat.zero_le _ | constructor)
        exact ho _ _ _
      · repeat' (first | exact trivial | exact .inl (DLe.refl _) | exact .inl (DLe.nil _ _) | (refine .inr ⟨rfl, _, ?_, rfl⟩; rfl) | exact rfl | exact Nat.zero_le _ | constructor)
      · unfold WS.tick at hstep
        dsimp only at hstep
        generalize xL.takeWhile (upTo (xn + 1)) = D at hDl hstep ⊢
        generalize upd (readyR (xn + 1) xR) (k0 (xn + 1)) [] = R2 at hstep ⊢
        generalize mdels D xM = M2 at hstep ⊢
        conv => whnf
        refine ⟨Al, alD, xU ++ D, by rw [List.map_append], fun _ => rfl, by rw [List.length_append]; omega, by rw [List.length_append]; show _ * 16 ≤ _; omega, rfl, ?_⟩
        conv => whnf
        rw [wrap_next (show i < 5000 by omega) (by omega)]
        refine ⟨(i + 1, ⟨xn + 1, R2, D, xU ++ D, M2, xL.dropWhile (upTo (xn + 1))⟩), [(3, 53)], [], ?_, ⟨by show ((i + 1 : Nat) : Int) ≤ _; omega, hstep⟩, by show (clampN n).toNat - (i + 1) < (clampN n).toNat - i; omega⟩
        repeat' (first | exact trivial | exact .inl (DLe.refl _) | exact .inl (DLe.nil _ _) | (refine .inr ⟨rfl, _, ?_, rfl⟩; rfl) | exact rfl | exact Nat.zero_le _ | constructor)
        exact ho _ _ _
    · have hge : ¬ (i : Int) < clampN n := of_decide_eq_false g1
      have hin : i = (clampN n).toNat := by omega
      have := hK ⟨xn, xR, xT, xU, xM, xL⟩ (by rw [← hin]; exact hX)
      conv => whnf
      refine ⟨[], [], .grow 3, WH xn xR xT xU xM c o2, 53, ?_, this⟩
      repeat' (first | exact trivial | exact .inl (DLe.refl _) | exact .inl (DLe.nil _ _) | (refine .inr ⟨rfl, _, ?_, rfl⟩; rfl) | exact rfl | exact Nat.zero_le _ | constructor)
      exact ho _ _ _
end Go.Proofs.YtcbpdjikdohegaaGreat.V
namespace Go.Proofs.YtcbpdjikdohegaaGreat.V
open Go.RowKit
attribute [local irreducible] Fn FnN OpVC Ob RowFn

theorem outOf_none {n : Int} {L : List Al} (h : ∀ x, x ∈ L → isId n x = false) : outOf n L = L := List.filter_eq_self.2 fun x hx => by rw [h x hx]; rfl

def clampI (n : Int) : Int := match decide (n < 0) with
  | true => 0
  | false => match decide (4095 < n) with
    | true => 4095
    | false => n
theorem clampI_in (n : Int) : 0 ≤ clampI n ∧ clampI n ≤ 4095 ∧ clampI n = min (max n 0) 4095 := by
  unfold clampI
  split
  · rename_i h1; have := of_decide_eq_true h1; omega
  · rename_i h1; have := of_decide_eq_false h1
    split
    · rename_i h2; have := of_decide_eq_true h2; omega
    · rename_i h2; have := of_decide_eq_false h2; omega

end Go.Proofs.YtcbpdjikdohegaaGreat.V
namespace Go.Proofs.YtcbpdjikdohegaaGreat.V
open Go.RowKit
attribute [local irreducible] Fn FnN OpVC Ob RowFn

def setRr (now : Int) (R : Nat → List Al) (M : List ME) (a : Al) : Nat → List Al := match setW now M a with
  | true => upd R (plc now a.at_) (R (plc now a.at_) ++ [a])
  | false => R
def setMm (now : Int) (M : List ME) (a : Al) (c : Nat) : List ME := match setW now M a with
  | true => M ++ [(a.id, a.at_, c)]
  | false => M
def setCc (now : Int) (M : List ME) (a : Al) (c : Nat) : Nat := match setW now M a with
  | true => c + 1
  | false => c
theorem set_u (F : List (Nat × D)) (now : Int) (R : Nat → List Al) (T U : List Al) (M : List ME) (c : Nat) (o2 : LO) (G : List Nat × Nat) (a : Al) {K : D → St → Prop}
    (hF : F.all (fun p => cutOk 6 5 p.2) = true) (hG : Nat.ble G.2 5 = true) (ho : ∀ r z n, LOLe r z n o2 o2) (hn : 0 ≤ now ∧ now ≤ 1099511600000) (ha : a.at_ ≤ 9223372036854775807) (hl : ∀ k, (R k).length ≤ 1000)
    (h : K (boolD (setW now M a)) ⟨F, WH now (setRr now R M a) T U (setMm now M a c) (setCc now M a c) o2, 53, G⟩) :
    CallVC Tryz.prog false 48 [.loc 0 0, .agg (alD a)] ⟨F, WH now R T U M c o2, 53, G⟩ K := by
  unfold setRr setMm setCc at h
  refine set_vc F now R T U M c o2 G a hF hG ho hn ha hl (fun hs => ?_) (fun hs => ?_)
  · rw [hs] at h; exact h
  · rw [hs] at h; exact h
theorem setq_eq {now : Int} {R : Nat → List Al} {M : List ME} {L : List Al} (h : WInv now R M L) (a : Al) : setQ now L a = setW now M a := by
  unfold setQ setW
  cases h1 : decide (a.at_ ≤ now) with
  | true => rfl
  | false =>
    have : decide (now + 4095 < a.at_) = decide (4095 < a.at_ - now) := by
      apply decide_eq_decide.2; omega
    rw [this, h.has, findI_nonneg]
    rfl
theorem WInv.setu {now : Int} {R : Nat → List Al} {M : List ME} {L : List Al} (h : WInv now R M L) (a : Al) (c : Nat) : WInv now (setRr now R M a) (setMm now M a c) (setL now L a) := by
  unfold setRr setMm setL
  rw [setq_eq h a]
  cases hs : setW now M a with
  | false => exact h
  | true => exact (h.set c hs).perm_of (insF_perm a L).symm
theorem ahead_total {a x : Al} (h : aheadA a x = false) (hid : a.id ≠ x.id) : aheadA x a = true := by
  rw [ahead_iff]
  have h1 : ¬ (a.at_ < x.at_ ∨ a.at_ = x.at_ ∧ a.id < x.id) := fun e => by rw [ahead_iff.2 e] at h; cases h
  omega
theorem ahead_trans {a b c : Al} (h : aheadA a b = true) (k : aheadA b c = true) : aheadA a c = true := by
  rw [ahead_iff] at *; omega
theorem insP_shape (a : Al) (L : List Al) : ∀ k, k ≤ L.length → match (insP a L k).2 with
    | false => (insP a L k).1 = L.take k ∧ ∀ x, x ∈ L.take k → aheadA a x = false
    | true => ∃ u y v, L.take k = u ++ y :: v ∧ (insP a L k).1 = u ++ a :: y :: v ∧ (∀ x, x ∈ u → aheadA a x = false) ∧ aheadA a y = true
  | 0, _ => ⟨rfl, fun x hx => by cases hx⟩
  | k + 1, hk => by
    have ih := insP_shape a L k (by omega)
    have hx : L[k]? = some L[k] := List.getElem?_eq_getElem hk
    rw [insP, hx, take_snoc hx]
    generalize insP a L k = st at ih
    obtain ⟨o, i⟩ := st
    cases i with
    | true =>
      obtain ⟨u, y, v, h1, h2, h3, h4⟩ := ih
      exact ⟨u, y, v ++ [L[k]], by rw [h1]; simp, by show o ++ [L[k]] = _; rw [show o = _ from h2]; simp, h3, h4⟩
    | false =>
      obtain ⟨h1, h2⟩ := ih
      cases hA : aheadA a L[k] with
      | true =>
        simp only [hA]
        exact ⟨L.take k, L[k], [], rfl, by rw [show o = _ from h1]; simp, h2, hA⟩
      | false =>
        simp only [hA]
        refine ⟨by rw [show o = _ from h1], fun x hxm => ?_⟩
        rcases List.mem_append.1 hxm with h | h
        · exact h2 x h
        · obtain rfl : x = L[k] := by simpa using h
          exact hA
theorem insF_sorted {a : Al} {L : List Al} (hs : Sorted L) (hid : ∀ x, x ∈ L → a.id ≠ x.id) : Sorted (insF a L) := by
  have h := insP_shape a L L.length (Nat.le_refl _)
  rw [List.take_length] at h
  unfold insF
  generalize insP a L L.length = st at h
  obtain ⟨o, i⟩ := st
  cases i with
  | false =>
    obtain ⟨h1, h2⟩ := h
    show Sorted (o ++ [a])
    rw [show o = L from h1]
    exact List.pairwise_append.2 ⟨hs, List.pairwise_singleton _ _, fun x hx y hy => by
      obtain rfl : y = a := by simpa using hy
      exact ahead_total (h2 x hx) (hid x hx)⟩
  | true =>
    obtain ⟨u, y, v, h1, h2, h3, h4⟩ := h
    show Sorted o
    rw [show o = _ from h2]
    rw [h1] at hs hid
    obtain ⟨s1, s2, s3⟩ := List.pairwise_append.1 hs
    obtain ⟨s4, s5⟩ := List.pairwise_cons.1 s2
    refine List.pairwise_append.2 ⟨s1, List.pairwise_cons.2 ⟨fun x hx => ?_, s2⟩, fun x hx z hz => ?_⟩
    · rcases List.mem_cons.1 hx with rfl | hx
      · exact h4
      · exact ahead_trans h4 (s4 x hx)
    · rcases List.mem_cons.1 hz with rfl | hz
      · exact ahead_total (h3 x hx) (hid x (List.mem_append_left _ hx))
      · exact s3 x hx z hz
theorem setL_sorted {now : Int} {L : List Al} {a : Al} (hs : Sorted L) : Sorted (setL now L a) := by
  unfold setL
  cases hq : setQ now L a with
  | false => exact hs
  | true =>
    refine insF_sorted hs fun x hx he => ?_
    unfold setQ at hq
    split at hq
    · cases hq
    · split at hq
      · cases hq
      · split at hq
        · cases hq
        · rename_i h3
          rw [findI_nonneg] at h3
          exact List.any_eq_false.1 h3 x hx (decide_eq_true he.symm)

theorem mdel_id {n : Int} : ∀ {M : List ME}, mfind n M = none → mdel n M = M
  | [], _ => rfl
  | x :: r, h => by
    rw [mfind] at h
    by_cases hn : n = x.1
    · rw [if_pos hn] at h; cases h
    · rw [if_neg hn] at h; rw [mdel, if_neg hn, mdel_id h]
theorem stop_u (F : List (Nat × D)) (now : Int) (R : Nat → List Al) (T U : List Al) (M : List ME) (c : Nat) (o2 : LO) (G : List Nat × Nat) (n : Int) (L : List Al) {K : D → St → Prop}
    (hF : F.all (fun p => cutOk 6 5 p.2) = true) (hG : Nat.ble G.2 5 = true) (ho : ∀ r z n, LOLe r z n o2 o2) (hi : WInv now R M L) (hL : L.length ≤ 1000)
    (h : K (boolD (L.any (isId n))) ⟨F, WH now (fun j => outOf n (R j)) T U (mdel n M) c o2, 53, G⟩) :
    CallVC Tryz.prog false 33 [.loc 0 0, intD n] ⟨F, WH now R T U M c o2, 53, G⟩ K := by
  refine stop_vc F now R T U M c o2 G n hF hG ho (fun j => by have := hi.rows_len j; omega) (fun h0 => ?_) (fun h1 => ?_)
  · have hno : L.any (isId n) = false := by rw [← hi.has, h0]; rfl
    have e : (fun j => outOf n (R j)) = R := by
      funext j
      exact outOf_none fun x hx => by
        have := List.any_eq_false.1 hno x (hi.mem hx)
        simpa using this
    rw [hno, e, mdel_id h0] at h
    exact h
  · have hyes : L.any (isId n) = true := by rw [← hi.has]; exact h1
    rw [hyes] at h
    exact h
theorem now_rd (now : Int) (X : List D) : FnN Tryz.prog 41 [.fp (intD now :: X)] fun d => d = intD now := by
  refine fnNOf [] Tryz.func41 rfl (by kernel_rfl) (Nat.le_of_ble_eq_true rfl) ?_
  conv => whnf
  exact ⟨rfl, rfl⟩
end Go.Proofs.YtcbpdjikdohegaaGreat.V
