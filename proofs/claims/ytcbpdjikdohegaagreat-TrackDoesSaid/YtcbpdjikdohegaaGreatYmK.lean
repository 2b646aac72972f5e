/-
  Slots: all, one, new ones, by value. Conditions: slots stand right.
-/
import Derived.Test.YtcbpdjikdohegaaGreatYlK
namespace Go.Proofs.YtcbpdjikdohegaaGreat.V
open Go.RowKit
attribute [local irreducible] Fn FnN OpVC Ob ObS NewS

def enS (x : Sl) : En := ⟨x.f, 0, 0, x.v, false, false, 0, 0, 0⟩
abbrev rowsN (L : List En) : D := .rows En 13 enD L
theorem allCmp_fn (x y : EnS) : Fn Tryz.prog 59 [.agg (enD x.val), .agg (enD y.val)] fun d => d = intD (cmpI (flK x.val.f) (flK y.val.f)) := by
  refine fnOf [] Tryz.func59 rfl (by kernel_rfl) (Nat.le_of_ble_eq_true rfl) ?_
  conv => whnf
  refine CallVC.pure (flCmp_fn x.2 y.2) rfl ?_
  rintro _ rfl
  conv => whnf

theorem all_fn (lo hi : Int) (L : List Sl) (n : Nat) (hs : SlOk lo hi L n) (S : List En) (hS : S.Pairwise fun x y => flK x.f < flK y.f) (hp : S.Perm ((ents L).map enS)) : FnN Tryz.prog 43 [.fp (slX lo hi L n)] fun d => d = rowsN S := by
  refine fnNOf [] Tryz.func43 rfl (by kernel_rfl) (Nat.le_of_ble_eq_true rfl) ?_
  have hL := hs.le
  conv => whnf
  refine ⟨Nat, fun k => ⟨[(14, intD k), (13, intD L.length), (12, .rows Sl 7 slD L), (3, .grow 0)], [(0, .grow En 39 13 enD ((ents (L.take k)).map enS))], 1, ([], 0)⟩,
    fun k => k ≤ L.length, fun k => L.length - k, ⟨0, [], [0], ?_, Nat.zero_le _⟩, ?_⟩
  · repeat' (first | exact trivial | exact .inl (DLe.refl _) | exact .inl (DLe.nil _ _) | (refine .inr ⟨rfl, _, ?_, rfl⟩; rfl) | exact rfl | exact Nat.zero_le _ | constructor)
  · intro k hk
    replace hk : k ≤ L.length := hk
    conv => whnf
    cases g1 : decide ((k : Int) < L.length) with
    | true =>
      have hlt : k < L.length := by have := of_decide_eq_true g1; omega
      obtain ⟨x, hx⟩ : ∃ x, L[k]? = some x := ⟨_, List.getElem?_eq_getElem hlt⟩
      have htk : L.take (k + 1) = L.take k ++ [x] := by rw [List.take_add_one, hx]; rfl
      have hlen : ((ents (L.take k)).map enS).length ≤ k := by
        rw [List.length_map]
        exact Nat.le_trans (List.length_filter_le _ _) (by rw [List.length_take]; omega)
      have hstep : (ents (L.take (k + 1))).map enS = (ents (L.take k)).map enS ++ (match x.full with | true => [enS x] | false => []) := by
        rw [htk]; unfold ents
        rw [List.filter_append, List.map_append]
        cases h : x.full <;> simp [h]
      conv => whnf
      refine ⟨rfl, ⟨by omega, by omega⟩, fun y hy => ?_⟩
      obtain rfl : y = x := by rw [Int.toNat_natCast, hx] at hy; injection hy with hy; exact hy.symm
      conv => whnf
      cases g2 : y.full with
      | true =>
        rw [g2] at hstep
        conv => whnf
        refine ⟨Nat.le_of_ble_eq_true rfl, ?_⟩
        conv => whnf
        refine ⟨En, enD, (ents (L.take k)).map enS ++ [enS y], ?_, fun _ => rfl, ?_, ?_, rfl, ?_⟩
        · rw [List.map_append]; rfl
        · rw [List.length_append]; simp only [List.length_cons, List.length_nil]; omega
        · rw [List.length_append]; simp only [List.length_cons, List.length_nil]; omega
        rw [← hstep]
        conv => whnf
        rw [wrap_next (show k < 256 by omega) (by omega)]
        refine ⟨k + 1, [(0, 2)], [], ?_, hlt, by show L.length - (k + 1) < L.length - k; omega⟩
        repeat' (first | exact trivial | exact .inl (DLe.refl _) | exact .inl (DLe.nil _ _) | (refine .inr ⟨rfl, _, ?_, rfl⟩; rfl) | exact rfl | exact Nat.zero_le _ | constructor)
      | false =>
        rw [g2] at hstep
        have hstep : (ents (L.take (k + 1))).map enS = (ents (L.take k)).map enS := by rw [hstep]; simp
        conv => whnf
        rw [wrap_next (show k < 256 by omega) (by omega)]
        rw [← hstep]
        refine ⟨k + 1, [], [], ?_, hlt, by show L.length - (k + 1) < L.length - k; omega⟩
        repeat' (first | exact trivial | exact .inl (DLe.refl _) | exact .inl (DLe.nil _ _) | (refine .inr ⟨rfl, _, ?_, rfl⟩; rfl) | exact rfl | exact Nat.zero_le _ | constructor)
    | false =>
      have hin : k = L.length := by have := of_decide_eq_false g1; omega
      have ht : L.take k = L := by rw [hin, List.take_length]
      rw [ht]
      conv => whnf
      refine sortE_vc (key := fun x => flK x.f) (enters_of Tryz.func59 (by kernel_rfl) rfl) allCmp_fn rfl (fun x hx => ?_) (by rw [List.length_map]; exact Nat.le_trans (List.length_filter_le _ _) (by omega)) hS hp ?_
      · obtain ⟨y, hy, rfl⟩ := List.mem_map.1 hx
        exact hs.fl y ((List.mem_filter.1 hy).1)
      · conv => whnf
        exact ⟨fun _ => rfl, rfl⟩

theorem get_fn (lo hi : Int) (L : List Sl) (n : Nat) (hs : SlOk lo hi L n) {f : Fl} (hf : FlOk f) : FnN Tryz.prog 46 [.fp (slX lo hi L n), .agg (flD f)] fun d => d = match fnd L f (homeN lo hi L.length f) L.length 0 with
    | (_, _, false) => .tup [intD 0, boolD false]
    | (p, _, true) => .tup [intD (at_ L p).v, boolD true] := by
  refine fnNOf [] Tryz.func46 rfl (by kernel_rfl) (Nat.le_of_ble_eq_true rfl) ?_
  have hL : 0 < L.length ∧ L.length ≤ 256 := ⟨hs.ok.pos, hs.le⟩
  conv => whnf
  refine CallVC.look (find_fn lo hi L n hL hf) rfl ?_
  rintro _ rfl
  cases hq : fnd L f (homeN lo hi L.length f) L.length 0 with
  | mk p q =>
  obtain ⟨m, b⟩ := q
  cases b with
  | true =>
    obtain ⟨hp, _, _⟩ := find_is hL.1 hq
    dsimp only
    conv => whnf
    refine ⟨rfl, ⟨by omega, by omega⟩, fun y hy => ?_⟩
    have hy : at_ L p = y := by unfold at_; rw [Int.toNat_natCast] at hy; rw [hy]; rfl
    rw [hy]
    conv => whnf
    exact ⟨rfl, rfl⟩
  | false =>
    dsimp only
    conv => whnf
    exact ⟨rfl, rfl⟩
theorem sl_look {f : FuncId} {lo hi : Int} {L : List Sl} {n : Nat} {rest : List D} {Q : D → Prop} (h : FnN Tryz.prog f (.fp (slX lo hi L n) :: rest) Q) (hb : hasBody Tryz.prog f) : FnN Tryz.prog f (.sp (slA lo hi L n) :: rest) Q :=
  fnN_sp hb fun H nx hH => by obtain ⟨rfl, rfl⟩ := hH; exact h

def slN (n : Int) : Nat := (min (max n 1) 256).toNat
theorem slN_in (n : Int) : 1 ≤ slN n ∧ slN n ≤ 256 := by unfold slN; omega
theorem new_new (lo hi n : Int) : NewS Tryz.prog 24 [intD n, .agg [u64D lo, u64D hi]] fun A => A = slA lo hi (List.replicate (slN n) sl0) 0 := by
  refine newOf [(1, [0, 1, 2, 4, 3, 5, 6, 7])] Tryz.func24 rfl (by kernel_rfl) (by decide) (Nat.le_of_ble_eq_true rfl) ?_
  have hn := slN_in n
  have e : min (max n 1) 256 = (slN n : Int) := by unfold slN; omega
  conv => whnf
  refine op_makeSlice (n := min (max n 1) 256) (β := Sl) (enc := slD) (zz := sl0) ttH rfl rfl rfl rfl rfl (by decide) rfl ⟨by omega, by omega, by show _ * 32 ≤ _; omega⟩ rfl ?_
  conv => whnf
  refine ⟨[(0, 2), (1, 1)], [], slH lo hi (List.replicate (slN n) sl0) 0, 2, ?_, by decide, slF lo hi (List.replicate (slN n) sl0) 0, ⟨rfl, rfl⟩, rfl⟩
  repeat' (first | exact trivial | exact .inl (DLe.refl _) | exact .inl (DLe.nil _ _) | (refine .inr ⟨rfl, _, ?_, rfl⟩; rfl) | exact rfl | exact Nat.zero_le _ | constructor)
theorem new_ok (lo hi n : Int) : SlOk lo hi (List.replicate (slN n) sl0) 0 := by
  have hn := slN_in n
  have hlen : (List.replicate (slN n) sl0).length = slN n := List.length_replicate
  have hno : ∀ p, ¬ Full (List.replicate (slN n) sl0) p := fun p => by
    unfold Full at_
    rw [List.getElem?_replicate]
    split <;> decide
  refine ⟨⟨by omega, fun f => homeN_lt lo hi (by omega) f, fun p _ h => absurd h (hno p), fun p _ _ _ h => absurd h (hno p)⟩, fun x hx => ?_, by omega, ?_⟩
  · obtain rfl := List.eq_of_mem_replicate hx
    exact fl0_ok
  · unfold ents
    rw [List.filter_replicate]
    rfl
end Go.Proofs.YtcbpdjikdohegaaGreat.V
