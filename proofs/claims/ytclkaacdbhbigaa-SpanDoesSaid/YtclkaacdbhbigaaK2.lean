/-
  A set of numbers that came, by the program: the pieces of a range; a piece laid. Conditions: numbers are of their types; rows not too long.
  A set of numbers that came, by the program: pieces sorted; a piece laid. Conditions: numbers are of their types; rows not too long.
  A set of numbers that came, by the program: a range added; what came; how many. Conditions: numbers are of their types; rows not too long.
  The law SpanOrder, by value. Conditions: numbers are of their types; rows not too long.
-/
import Derived.Test.YtclkaacdbhbigaaK1
import Derived.Test.YtclkaacdbhbigaaVsK
import Derived.Test.YtclkaacdbhbigaaSt
import Derived.Test.YtclkaacdbhbigaaSl
import Derived.Handy
import Derived.Test.YtclkaacdbhbigaaCeL
namespace Go.Proofs.Ytclkaacdbhbigaa.V
open Go.RowKit Sp Go.Shelf Go.Sort Go.Lib
attribute [local irreducible] Fn CallVC OpVC Ob

def pcD (p : Pc) : List D := [intD p.fr, intD p.to]
def rgD (r : Rg) : List D := [.v (.int .u32 r.fr), .v (.int .u32 r.len)]
abbrev rowsP (L : List Pc) : D := .rows Pc 2 pcD L
abbrev rowsR (L : List Rg) : D := .rows Rg 2 rgD L
abbrev setD (base : Int) (L : List Pc) : List D := [.v (.int .u32 base), rowsP L]

theorem pieces_ob (base : Int) (L : List Pc) (r : Rg) (hr : r.ok) :
    Ob Try.prog 27 57 (setD base L) [.agg (rgD r)] fun d X' => d = rowsP (pcs base r) ∧ X' = setD base L := by
  refine Ob.exact (obOf [] Try.func27 rfl (by kernel_rfl) (Nat.le_of_ble_eq_true rfl) ?_)
  conv => whnf
  have hw : IntKind.i64.wrap (IntKind.u32.wrap (r.fr - base)) = way base r.fr := by rw [u32_wrap]; unfold way; rw [IntWalk.i64_in _ (by omega)]
  have hwb : 0 ≤ way base r.fr ∧ way base r.fr ≤ 4294967295 := by unfold way; omega
  have hl : IntKind.i64.wrap r.len = r.len := IntWalk.i64_in _ (by have := hr.len; omega)
  have hs : IntKind.i64.wrap (way base r.fr + r.len) = way base r.fr + r.len := IntWalk.i64_in _ (by have := hr.len; omega)
  have hlb := hr.len
  have hp : pcs base r = pcsAt (way base r.fr) (way base r.fr + r.len) := rfl
  rw [hp, hw, hl, hs]
  clear hp hw hl hs
  have hab : way base r.fr ≤ way base r.fr + r.len ∧ way base r.fr + r.len ≤ 8589934590 := by omega
  generalize way base r.fr + r.len = b at *
  generalize way base r.fr = a at *
  have h2 : IntKind.i64.wrap (b - 4294967296) = b - 4294967296 := IntWalk.i64_in _ (by omega)
  cases h1 : decide (a < 2147483648) <;> cases h3 : decide (a < b) <;> cases h4 : decide (4294967296 < b)
  all_goals
    unfold pcsAt
    rw [h1, h3, h4]
    conv => whnf
    try (rw [h3]; conv => whnf)
    try (rw [h4]; conv => whnf)
    try rw [h2]
  · exact ⟨DLe.nil _ _, rfl⟩
  · (refine ⟨Nat.le_of_ble_eq_true rfl, ?_⟩; conv => whnf)
    refine ⟨Pc, pcD, [⟨0, min (b - 4294967296) 2147483648⟩], rfl, fun _ => rfl, by simp, by simp, rfl, ?_⟩
    conv => whnf
    exact ⟨DLe.refl _, rfl⟩
  · exact ⟨DLe.nil _ _, rfl⟩
  · (refine ⟨Nat.le_of_ble_eq_true rfl, ?_⟩; conv => whnf)
    refine ⟨Pc, pcD, [⟨0, min (b - 4294967296) 2147483648⟩], rfl, fun _ => rfl, by simp, by simp, rfl, ?_⟩
    conv => whnf
    exact ⟨DLe.refl _, rfl⟩
  · exact ⟨DLe.nil _ _, rfl⟩
  · (refine ⟨Nat.le_of_ble_eq_true rfl, ?_⟩; conv => whnf)
    refine ⟨Pc, pcD, [⟨0, min (b - 4294967296) 2147483648⟩], rfl, fun _ => rfl, by simp, by simp, rfl, ?_⟩
    conv => whnf
    exact ⟨DLe.refl _, rfl⟩
  · (refine ⟨Nat.le_of_ble_eq_true rfl, ?_⟩; conv => whnf)
    refine ⟨Pc, pcD, [⟨a, min b 2147483648⟩], rfl, fun _ => rfl, by simp, by simp, rfl, ?_⟩
    conv => whnf
    rw [h4]
    conv => whnf
    exact ⟨DLe.refl _, rfl⟩
  · (refine ⟨Nat.le_of_ble_eq_true rfl, ?_⟩; conv => whnf)
    refine ⟨Pc, pcD, [⟨a, min b 2147483648⟩], rfl, fun _ => rfl, by simp, by simp, rfl, ?_⟩
    conv => whnf
    rw [h4]
    conv => whnf
    rw [h2]
    (refine ⟨Nat.le_of_ble_eq_true rfl, ?_⟩; conv => whnf)
    refine ⟨Pc, pcD, [⟨a, min b 2147483648⟩, ⟨0, min (b - 4294967296) 2147483648⟩], rfl, fun _ => rfl, by simp, by simp, rfl, ?_⟩
    conv => whnf
    exact ⟨DLe.refl _, rfl⟩
end Go.Proofs.Ytclkaacdbhbigaa.V
namespace Go.Proofs.Ytclkaacdbhbigaa.V
open Go.RowKit Sp Go.Shelf Go.Sort Go.Lib
attribute [local irreducible] Fn CallVC OpVC Ob

abbrev PcS := {p : Pc // 0 ≤ p.fr ∧ p.fr ≤ 2147483648}
instance : Inhabited PcS := ⟨⟨⟨0, 0⟩, by decide⟩⟩
def pcC (p : PcS) : List Value := [.int .i64 p.val.fr, .int .i64 p.val.to]
def cfP (x y : PcS) : Int := x.val.fr - y.val.fr
theorem ltP (x y : PcS) : ltOf cfP x y = decide (x.val.fr < y.val.fr) := decide_eq_decide.2 (by unfold cfP; omega)
theorem swoP : SWO (ltOf cfP) where
  irrefl x := by rw [ltP]; simp
  trans x y z h1 h2 := by rw [ltP] at *; exact decide_eq_true (Int.lt_trans (of_decide_eq_true h1) (of_decide_eq_true h2))
  ntrans x y z h1 h2 := by rw [ltP] at *; exact decide_eq_false (by have h1 := of_decide_eq_false h1; have h2 := of_decide_eq_false h2; omega)
theorem cmpP_any (x y : PcS) (W : World) : Calls Try.prog 36 #[.agg (pcC x).toArray, .agg (pcC y).toArray] W fun e w' => e = .returned (.int .i64 (cfP x y)) ∧ ∃ q os', w' = grow (W.drewN q) os' := by
  have hw : IntKind.i64.wrap (x.val.fr - y.val.fr) = cfP x y := by
    have h1 := x.2; have h2 := y.2
    rw [IntWalk.i64_in _ (by omega)]; rfl
  simp only [pcC]
  generalize x.val.fr = a at *
  generalize y.val.fr = b at *
  generalize cfP x y = r at *
  go_enter Try.func36, Try.ntmps36
  go_wp2
  go_ret
  exact ⟨rfl, 0, _, by rw [alloc_eq_grow, alloc_eq_grow, grow_grow]; rfl⟩

theorem sortP_vc {s : St} {id : Nat} {L S : List Pc} {K : D → St → Prop} (hid : lget s.H id = some (.grow Pc 60 2 pcD L)) (hL : ∀ x, x ∈ L → 0 ≤ x.fr ∧ x.fr ≤ 2147483648) (hpos : 0 < L.length) (hsz : L.length ≤ 1000000)
    (hS : S.Pairwise fun x y => x.fr < y.fr) (hp : S.Perm L) (h : K (.tup []) ⟨s.F, (id, .grow Pc 60 2 pcD S) :: s.H, s.nx, s.G⟩) :
    CallVC Try.prog false 35 [.grow id, .fn 36 [] []] s K := by
  obtain ⟨M, rfl⟩ := sub_list L hL
  rw [List.length_map] at hpos hsz
  refine sort_vc sortPL (β := PcS) (val := Subtype.val) pcC (fun _ => rfl) (fun _ => rfl) (by decide) (fun x v hv => by simp [pcC] at hv; rcases hv with rfl | rfl <;> rfl) Try.isAgg60 Try.sizeOf60 cfP swoP 36 (enters_of Try.func36 (by kernel_rfl) rfl) cmpP_any ⟨_, Try.func35, rfl⟩ hid hpos (by omega) fun M' hm hs => ?_
  rw [show M'.map Subtype.val = S from sorted_one hS ((hm.map _).trans hp.symm) fun i j x y hij hx hy => by
    obtain ⟨x', hx', rfl⟩ := map_get hx
    obtain ⟨y', hy', rfl⟩ := map_get hy
    have := hs i j x' y' hij hx' hy'
    have h2 : cfP y' x' = y'.val.fr - x'.val.fr := rfl
    omega]
  exact h

theorem lay_ob (base : Int) (L : List Pc) (p : Pc) (hL : Canon L) (hp : p.ok) (hl : L.length ≤ 1000) :
    Ob Try.prog 28 57 (setD base L) [.agg (pcD p)] fun d X' => d = intD (layN L p) ∧ X' = setD base (layF L p) := by
  refine obOf [] Try.func28 rfl (by kernel_rfl) (Nat.le_of_ble_eq_true rfl) ?_
  conv => whnf
  have hi := fun k hk => inv_to hL hp k hk
  have hlen := layTo_len L p
  have hstep : ∀ (k : Nat) x, L[k]? = some x → layTo L p (k + 1) = Sp.step (layTo L p k) x := fun k x hx => by rw [layTo, hx]
  have hbn : ∀ k, k ≤ L.length → (layTo L p k).p.ok ∧ -2147483648 ≤ (layTo L p k).n ∧ (layTo L p k).n ≤ 4294967296 := fun k hk => by
    have h := hi k hk
    have h1 := h.pok
    have h2 := h.num
    have hc1 := count_bound (L := (layTo L p k).out) ⟨(hL.sep.sublist (List.take_sublist k L)).sublist h.sub, fun x hx => hL.ok x (List.mem_of_mem_take (h.sub.subset hx))⟩
    have hc2 := count_bound (L := L.take k) ⟨hL.sep.sublist (List.take_sublist k L), fun x hx => hL.ok x (List.mem_of_mem_take hx)⟩
    have := h1.lo; have := h1.lt; have := h1.hi
    exact ⟨h1, by omega, by omega⟩
  have hw0 : IntKind.i64.wrap (p.to - p.fr) = p.to - p.fr := IntWalk.i64_in _ (by have := hp.lo; have := hp.lt; have := hp.hi; omega)
  rw [hw0]
  refine ⟨Nat, fun k => ⟨[(19, intD k), (18, intD L.length), (17, rowsP L), (6, .grow 2), (5, intD (layTo L p k).n), (3, .loc 1 0), (0, .loc 0 0)], [(0, .cells 57 (setD base L)), (1, .cells 60 (pcD (layTo L p k).p)), (2, .grow Pc 60 2 pcD (layTo L p k).out)], 3, ([0], 1)⟩,
    fun k => k ≤ L.length, fun k => L.length - k, ⟨0, [], [2], ?_, Nat.zero_le _⟩, ?_⟩
  · repeat' (first | exact trivial | exact .inl (DLe.refl _) | exact .inl (DLe.nil _ _) | (refine .inr ⟨rfl, _, ?_, rfl⟩; rfl) | exact rfl | exact Nat.zero_le _ | constructor)
  · intro k hk
    obtain ⟨hpo, hn1, hn2⟩ := hbn k hk
    have hpl := hpo.lo; have hpt := hpo.lt; have hph := hpo.hi
    have hlk := hlen k
    have hs := hstep k
    conv => whnf
    refine Fork.intro (fun h1 => ?_) (fun h1 => ?_)
    · have hlt : (k : Int) < L.length := of_decide_eq_true h1
      conv => whnf
      refine ⟨rfl, ⟨by omega, hlt⟩, fun x hx => ?_⟩
      have hxk : L[k]? = some x := by simpa using hx
      have hxo := hL.ok x (List.mem_of_getElem? hxk)
      have hxl := hxo.lo; have hxt := hxo.lt; have hxh := hxo.hi
      have hs := hs x hxk
      conv => whnf
      generalize hs2 : layTo L p (k + 1) = s' at *
      generalize hsk : layTo L p k = s at *
      have hst : s' = match decide (x.to < s.p.fr) || decide (s.p.to < x.fr) with
        | true => ⟨s.out ++ [x], s.p, s.n⟩
        | false => ⟨s.out, ⟨min x.fr s.p.fr, max x.to s.p.to⟩, s.n - max (min x.to s.p.to - max x.fr s.p.fr) 0⟩ := hs
      cases h2 : decide (x.to < s.p.fr) with
      | true =>
        rw [h2] at hst
        conv => whnf
        (refine ⟨Nat.le_of_ble_eq_true rfl, ?_⟩; conv => whnf)
        refine ⟨Pc, pcD, s.out ++ [x], by rw [List.map_append]; rfl, fun _ => rfl, by rw [List.length_append]; show _ + 1 ≤ _; omega, by rw [List.length_append]; show (_ + 1) * 16 ≤ _; omega, rfl, ?_⟩
        conv => whnf
        rw [wrap_next (show k < 1000 by omega) (by omega)]
        refine ⟨k + 1, [(2, 4)], [], ?_, by show k + 1 ≤ _; omega, by show L.length - (k + 1) < L.length - k; omega⟩
        show Cover _ _ _ ⟨[_, _, _, _, (5, intD (layTo L p (k + 1)).n), _, _], [_, (1, .cells _ (pcD (layTo L p (k + 1)).p)), (2, .grow _ _ _ _ (layTo L p (k + 1)).out)], _, _⟩
        rw [hs2, hst]
        repeat' (first | exact trivial | exact .inl (DLe.refl _) | exact .inl (DLe.nil _ _) | (refine .inr ⟨rfl, _, ?_, rfl⟩; rfl) | exact rfl | exact Nat.zero_le _ | constructor)
      | false =>
        conv => whnf
        cases h3 : decide (s.p.to < x.fr) with
        | true =>
          rw [h2, h3] at hst
          conv => whnf
          (refine ⟨Nat.le_of_ble_eq_true rfl, ?_⟩; conv => whnf)
          refine ⟨Pc, pcD, s.out ++ [x], by rw [List.map_append]; rfl, fun _ => rfl, by rw [List.length_append]; show _ + 1 ≤ _; omega, by rw [List.length_append]; show (_ + 1) * 16 ≤ _; omega, rfl, ?_⟩
          conv => whnf
          rw [wrap_next (show k < 1000 by omega) (by omega)]
          refine ⟨k + 1, [(2, 4)], [], ?_, by show k + 1 ≤ _; omega, by show L.length - (k + 1) < L.length - k; omega⟩
          show Cover _ _ _ ⟨[_, _, _, _, (5, intD (layTo L p (k + 1)).n), _, _], [_, (1, .cells _ (pcD (layTo L p (k + 1)).p)), (2, .grow _ _ _ _ (layTo L p (k + 1)).out)], _, _⟩
          rw [hs2, hst]
          repeat' (first | exact trivial | exact .inl (DLe.refl _) | exact .inl (DLe.nil _ _) | (refine .inr ⟨rfl, _, ?_, rfl⟩; rfl) | exact rfl | exact Nat.zero_le _ | constructor)
        | false =>
          rw [h2, h3] at hst
          conv => whnf
          rw [wrap_next (show k < 1000 by omega) (by omega)]
          have e1 : IntKind.i64.wrap (min x.to s.p.to - max x.fr s.p.fr) = min x.to s.p.to - max x.fr s.p.fr := IntWalk.i64_in _ (by omega)
          have e2 : IntKind.i64.wrap (s.n - max (IntKind.i64.wrap (min x.to s.p.to - max x.fr s.p.fr)) 0) = s.n - max (min x.to s.p.to - max x.fr s.p.fr) 0 := by rw [e1]; exact IntWalk.i64_in _ (by omega)
          refine ⟨k + 1, [], [], ?_, by show k + 1 ≤ _; omega, by show L.length - (k + 1) < L.length - k; omega⟩
          show Cover _ _ _ ⟨[_, _, _, _, (5, intD (layTo L p (k + 1)).n), _, _], [_, (1, .cells _ (pcD (layTo L p (k + 1)).p)), (2, .grow _ _ _ _ (layTo L p (k + 1)).out)], _, _⟩
          rw [hs2, hst]
          repeat' (first | exact trivial | exact .inl (DLe.refl _) | exact .inl (DLe.nil _ _) | (refine .inr ⟨rfl, _, ?_, rfl⟩; rfl) | exact rfl | exact Nat.zero_le _ | constructor)
          exact DLe.of_eq (congrArg intD e2)
    · have hge : ¬ (k : Int) < L.length := of_decide_eq_false h1
      have hk2 : k = L.length := by omega
      have hN : layN L p = (layTo L p k).n := by rw [hk2]; rfl
      have hF : layF L p = ins (layTo L p k).p (layTo L p k).out := by rw [hk2]; rfl
      have hcan := (lay_all hL hp).1
      rw [hF] at hcan
      rw [hN, hF]
      have hpm := ins_perm (layTo L p k).p (layTo L p k).out
      generalize layTo L p k = s at *
      conv => whnf
      (refine ⟨Nat.le_of_ble_eq_true rfl, ?_⟩; conv => whnf)
      refine ⟨Pc, pcD, s.out ++ [s.p], by rw [List.map_append]; rfl, fun _ => rfl, by rw [List.length_append]; show _ + 1 ≤ _; omega, by rw [List.length_append]; show (_ + 1) * 16 ≤ _; omega, rfl, ?_⟩
      conv => whnf
      have hS : (ins s.p s.out).Pairwise fun x y => x.fr < y.fr := by
        refine List.Pairwise.imp_of_mem (fun {x y} hx _ h => ?_) hcan.sep
        have := (hcan.ok x hx).lt; omega
      refine sortP_vc rfl (fun x hx => ?_) (by simp) (by rw [List.length_append]; show _ + 1 ≤ _; omega) hS hpm ?_
      · have := hcan.ok x (hpm.mem_iff.2 hx)
        have h1 := this.lo; have h2 := this.lt; have h3 := this.hi
        exact ⟨by omega, by omega⟩
      conv => whnf

      exact ⟨rfl, rfl⟩
end Go.Proofs.Ytclkaacdbhbigaa.V
namespace Go.Proofs.Ytclkaacdbhbigaa.V
open Go.RowKit Sp
attribute [local irreducible] Fn CallVC OpVC Ob

theorem take_snoc {α : Type} {L : List α} {k : Nat} {x : α} (h : L[k]? = some x) : L.take (k + 1) = L.take k ++ [x] := by
  rw [List.take_add_one, h]; rfl

theorem add_ob (base : Int) (L : List Pc) (r : Rg) (hL : Canon L) (hl : L.length ≤ 900) (hr : r.ok) :
    Ob Try.prog 12 57 (setD base L) [.agg (rgD r)] fun d X' => d = intD (addN L (pcs base r)) ∧ X' = setD base (addF L (pcs base r)) := by
  refine obOf [] Try.func12 rfl (by kernel_rfl) (Nat.le_of_ble_eq_true rfl) ?_
  conv => whnf
  refine CallVC.ob (pieces_ob base L r hr) rfl rfl rfl ?_
  rintro _ _ ⟨rfl, rfl⟩
  have hpo := pcs_ok base r
  have hpl := pcs_len base r
  generalize pcs base r = ps at *
  conv => whnf
  have hall : ∀ k, Canon (addF L (ps.take k)) ∧ (addF L (ps.take k)).length ≤ 1000 ∧ -2147483648 ≤ addN L (ps.take k) ∧ addN L (ps.take k) ≤ 2147483648 := fun k => by
    obtain ⟨h1, _, h3⟩ := add_all (ps.take k) hL fun p hp => hpo p (List.mem_of_mem_take hp)
    have h4 := count_bound h1
    have h5 := count_bound hL
    have h6 := add_len (ps.take k) L
    have h7 : (ps.take k).length ≤ ps.length := by rw [List.length_take]; omega
    exact ⟨h1, by omega, by omega, by omega⟩
  have hsN : ∀ (k : Nat) p, ps[k]? = some p → addN L (ps.take (k + 1)) = addN L (ps.take k) + layN (addF L (ps.take k)) p := fun k p hp => by
    rw [take_snoc hp, addN_append]
    show _ + (layN _ p + 0) = _
    omega
  have hsF : ∀ (k : Nat) p, ps[k]? = some p → addF L (ps.take (k + 1)) = layF (addF L (ps.take k)) p := fun k p hp => by
    rw [take_snoc hp, addF_append]; rfl
  refine ⟨Nat, fun k => ⟨[(15, intD k), (14, intD ps.length), (13, rowsP ps), (5, intD (addN L (ps.take k))), (0, .loc 0 0)], [(0, .cells 57 (setD base (addF L (ps.take k))))], 1, ([0], 1)⟩,
    fun k => k ≤ ps.length, fun k => ps.length - k, ⟨0, [], [], ?_, Nat.zero_le _⟩, ?_⟩
  · repeat' (first | exact trivial | exact .inl (DLe.refl _) | exact .inl (DLe.nil _ _) | (refine .inr ⟨rfl, _, ?_, rfl⟩; rfl) | exact rfl | exact Nat.zero_le _ | constructor)
  · intro k hk
    conv => whnf
    refine Fork.intro (fun h1 => ?_) (fun h1 => ?_)
    · have hlt : (k : Int) < ps.length := of_decide_eq_true h1
      conv => whnf
      refine ⟨rfl, ⟨by omega, hlt⟩, fun p hp => ?_⟩
      have hpk : ps[k]? = some p := by simpa using hp
      obtain ⟨hc, hcl, hn1, hn2⟩ := hall k
      obtain ⟨_, _, hm1, hm2⟩ := hall (k + 1)
      have e1 := hsN k p hpk
      have e2 := hsF k p hpk
      conv => whnf
      refine CallVC.ob (lay_ob base _ p hc (hpo p (List.mem_of_getElem? hpk)) hcl) rfl rfl rfl ?_
      rintro _ _ ⟨rfl, rfl⟩
      rw [← e2]
      conv => whnf
      rw [wrap_next (show k < 1000 by omega) (by omega), IntWalk.i64_in (addN L (ps.take k) + layN (addF L (ps.take k)) p) (by omega), ← e1]
      refine ⟨k + 1, [], [], ?_, by show k + 1 ≤ _; omega, by show ps.length - (k + 1) < ps.length - k; omega⟩
      repeat' (first | exact trivial | exact .inl (DLe.refl _) | exact .inl (DLe.nil _ _) | (refine .inr ⟨rfl, _, ?_, rfl⟩; rfl) | exact rfl | exact Nat.zero_le _ | constructor)
    · have hge : ¬ (k : Int) < ps.length := of_decide_eq_false h1
      have he : ps.take k = ps := List.take_of_length_le (by omega)
      rw [he]
      conv => whnf
      exact ⟨rfl, rfl⟩

/-- A piece as a range. -/
def rgOf (base : Int) (p : Pc) : Rg := ⟨(base + p.fr) % 4294967296, p.to - p.fr⟩

theorem ranges_ob (base : Int) (L : List Pc) (hL : Canon L) (hl : L.length ≤ 1000) :
    Ob Try.prog 23 57 (setD base L) [] fun d X' => d = rowsR (L.map (rgOf base)) ∧ X' = setD base L := by
  refine obOf [] Try.func23 rfl (by kernel_rfl) (Nat.le_of_ble_eq_true rfl) ?_
  conv => whnf
  refine ⟨Nat, fun k => ⟨[(14, intD k), (13, intD L.length), (12, rowsP L), (3, .grow 1), (0, .loc 0 0)], [(0, .cells 57 (setD base L)), (1, .grow Rg 32 2 rgD ((L.take k).map (rgOf base)))], 2, ([0], 1)⟩,
    fun k => k ≤ L.length, fun k => L.length - k, ⟨0, [], [1], ?_, Nat.zero_le _⟩, ?_⟩
  · repeat' (first | exact trivial | exact .inl (DLe.refl _) | exact .inl (DLe.nil _ _) | (refine .inr ⟨rfl, _, ?_, rfl⟩; rfl) | exact rfl | exact Nat.zero_le _ | constructor)
  · intro k hk
    conv => whnf
    refine Fork.intro (fun h1 => ?_) (fun h1 => ?_)
    · have hlt : (k : Int) < L.length := of_decide_eq_true h1
      conv => whnf
      refine ⟨rfl, ⟨by omega, hlt⟩, fun x hx => ?_⟩
      have hxk : L[k]? = some x := by simpa using hx
      have hxo := hL.ok x (List.mem_of_getElem? hxk)
      have hxl := hxo.lo; have hxt := hxo.lt; have hxh := hxo.hi
      have hnext : (L.take (k + 1)).map (rgOf base) = (L.take k).map (rgOf base) ++ [rgOf base x] := by rw [take_snoc hxk, List.map_append]; rfl
      conv => whnf
      have e1 : IntKind.u32.wrap x.fr = x.fr := IntWalk.u32_in _ (by omega)
      have e2 : IntKind.i64.wrap (x.to - x.fr) = x.to - x.fr := IntWalk.i64_in _ (by omega)
      have e3 : IntKind.u32.wrap (x.to - x.fr) = x.to - x.fr := IntWalk.u32_in _ (by omega)
      rw [e1, e2, e3, u32_wrap]
      (refine ⟨Nat.le_of_ble_eq_true rfl, ?_⟩; conv => whnf)
      refine ⟨Rg, rgD, (L.take k).map (rgOf base) ++ [rgOf base x], by rw [List.map_append]; rfl, fun _ => rfl, by rw [List.length_append, List.length_map, List.length_take]; show _ + 1 ≤ _; omega, by rw [List.length_append, List.length_map, List.length_take]; show (_ + 1) * 8 ≤ _; omega, rfl, ?_⟩
      rw [← hnext]
      conv => whnf
      rw [wrap_next (show k < 1000 by omega) (by omega)]
      refine ⟨k + 1, [(1, 3)], [], ?_, by show k + 1 ≤ _; omega, by show L.length - (k + 1) < L.length - k; omega⟩
      repeat' (first | exact trivial | exact .inl (DLe.refl _) | exact .inl (DLe.nil _ _) | (refine .inr ⟨rfl, _, ?_, rfl⟩; rfl) | exact rfl | exact Nat.zero_le _ | constructor)
    · have hge : ¬ (k : Int) < L.length := of_decide_eq_false h1
      have he : L.take k = L := List.take_of_length_le (by omega)
      rw [he]
      conv => whnf
      exact ⟨rfl, rfl⟩

theorem len_ob (base : Int) (L : List Pc) (hL : Canon L) (hl : L.length ≤ 1000) :
    Ob Try.prog 25 57 (setD base L) [] fun d X' => d = intD (count L) ∧ X' = setD base L := by
  refine obOf [] Try.func25 rfl (by kernel_rfl) (Nat.le_of_ble_eq_true rfl) ?_
  conv => whnf
  refine CallVC.ob (ranges_ob base L hL hl) rfl rfl rfl ?_
  rintro _ _ ⟨rfl, rfl⟩
  conv => whnf
  refine ⟨Nat, fun k => ⟨[(9, intD k), (8, intD L.length), (7, rowsR (L.map (rgOf base))), (3, intD (count (L.take k)))], [(0, .cells 57 (setD base L))], 1, ([0], 1)⟩,
    fun k => k ≤ L.length, fun k => L.length - k, ⟨0, [], [], ?_, Nat.zero_le _⟩, ?_⟩
  · rw [List.length_map]
    repeat' (first | exact trivial | exact .inl (DLe.refl _) | exact .inl (DLe.nil _ _) | (refine .inr ⟨rfl, _, ?_, rfl⟩; rfl) | exact rfl | exact Nat.zero_le _ | constructor)
  · intro k hk
    conv => whnf
    refine Fork.intro (fun h1 => ?_) (fun h1 => ?_)
    · have hlt : (k : Int) < L.length := of_decide_eq_true h1
      conv => whnf
      refine ⟨rfl, ⟨by omega, by rw [List.length_map]; exact hlt⟩, fun y hy => ?_⟩
      obtain ⟨x, hxk, rfl⟩ := map_get (show (L.map (rgOf base))[k]? = some y by simpa using hy)
      have hxo := hL.ok x (List.mem_of_getElem? hxk)
      have hxl := hxo.lo; have hxt := hxo.lt; have hxh := hxo.hi
      have c1 := count_bound (L := L.take k) ⟨hL.sep.sublist (List.take_sublist k L), fun x hx => hL.ok x (List.mem_of_mem_take hx)⟩
      have hnext : count (L.take (k + 1)) = count (L.take k) + (x.to - x.fr) := by rw [take_snoc hxk, count_append]; simp [count]
      conv => whnf
      have e2 : IntKind.i64.wrap (rgOf base x).len = x.to - x.fr := IntWalk.i64_in _ (by show _ ≤ x.to - x.fr ∧ x.to - x.fr ≤ _; omega)
      rw [wrap_next (show k < 1000 by omega) (by omega), e2, IntWalk.i64_in (count (L.take k) + (x.to - x.fr)) (by omega), ← hnext]
      refine ⟨k + 1, [], [], ?_, by show k + 1 ≤ _; omega, by show L.length - (k + 1) < L.length - k; omega⟩
      repeat' (first | exact trivial | exact .inl (DLe.refl _) | exact .inl (DLe.nil _ _) | (refine .inr ⟨rfl, _, ?_, rfl⟩; rfl) | exact rfl | exact Nat.zero_le _ | constructor)
    · have hge : ¬ (k : Int) < L.length := of_decide_eq_false h1
      have he : L.take k = L := List.take_of_length_le (by omega)
      rw [he]
      conv => whnf
      exact ⟨rfl, rfl⟩
end Go.Proofs.Ytclkaacdbhbigaa.V
namespace Go.Proofs.Ytclkaacdbhbigaa.V
open Go.RowKit Sp
attribute [local irreducible] Fn CallVC OpVC Ob

theorem span_lives (w : World) : Calls Try.prog 9 #[] w fun e w' => e = .returned (.bool true) ∧ Below w.heap.size w w' :=
  lives_of (steps := 100000) (d := 60) (by kernel_rfl) w
theorem slives_fn : Fn Try.prog 9 [] fun d => d = boolD true := by
  unfold Fn
  refine ⟨⟨_, Try.func9, rfl⟩, fun w B vs _ hr => ?_⟩
  have : vs = [] := List.eq_nil_of_length_eq_zero hr.1
  subst this
  exact (span_lives w).mono fun e w' ⟨h1, h2⟩ => ⟨_, _, rfl, h1, h2, .v⟩

def intsD (n : Int) : List D := [intD n]
abbrev rowsI (L : List Int) : D := .rows Int 1 intsD L
theorem eqRgOk : eqOk Try.prog 32 [1, 1] = true := by kernel_rfl

/-- Ranges as pieces, one behind the other. -/
def allP (base : Int) (M : List Rg) : List Pc := M.flatMap (pcs base)
theorem allP_snoc (base : Int) (M : List Rg) (r : Rg) : allP base (M ++ [r]) = allP base M ++ pcs base r := by
  unfold allP; rw [List.flatMap_append]; simp
theorem allP_len (base : Int) : ∀ M : List Rg, (allP base M).length ≤ 2 * M.length
  | [] => by simp [allP]
  | r :: M => by
    have h1 := allP_len base M
    have h2 := pcs_len base r
    unfold allP at *
    rw [List.flatMap_cons, List.length_append]
    simp only [List.length_cons]
    omega
theorem allP_ok (base : Int) (M : List Rg) : ∀ p, p ∈ allP base M → p.ok := by
  intro p hp
  unfold allP at hp
  obtain ⟨r, _, h⟩ := List.mem_flatMap.1 hp
  exact pcs_ok base r p h

/-- What stands behind adding ranges to nothing. -/
structure AddOk (base : Int) (M : List Rg) : Prop where
  can : Canon (addF [] (allP base M))
  len : (addF [] (allP base M)).length ≤ 2 * M.length
  lo : 0 ≤ addN [] (allP base M)
  hi : addN [] (allP base M) ≤ 2147483648
  num : addN [] (allP base M) = count (addF [] (allP base M))
theorem add_ok (base : Int) (M : List Rg) : AddOk base M := by
  obtain ⟨h1, _, h3⟩ := add_all (allP base M) canon_nil (allP_ok base M)
  have h4 := count_bound h1
  have h5 := add_len (allP base M) []
  have h6 := allP_len base M
  have e0 : count [] = 0 := rfl
  simp only [List.length_nil, Nat.zero_add] at h5
  exact ⟨h1, by omega, by omega, by omega, by omega⟩
theorem add_next (base : Int) (M : List Rg) (r : Rg) : addF [] (allP base (M ++ [r])) = addF (addF [] (allP base M)) (pcs base r) ∧ addN [] (allP base (M ++ [r])) = addN [] (allP base M) + addN (addF [] (allP base M)) (pcs base r) := by
  rw [allP_snoc]
  exact ⟨addF_append _ _ _, addN_append _ _ _⟩

/-- The range with a number, if there is one of the first thirty. -/
def pickR (l : List Rg) (j : Int) : List Rg := match decide (0 ≤ j), decide (j < l.length), decide (j < 30) with
  | true, true, true => (l[j.toNat]?).toList
  | _, _, _ => []
theorem pickR_sub {l : List Rg} {j : Int} {r : Rg} (h : r ∈ pickR l j) : r ∈ l.take 30 := by
  unfold pickR at h
  split at h
  · rename_i h1 h2 h3
    have h1 := of_decide_eq_true h1; have h2 := of_decide_eq_true h2; have h3 := of_decide_eq_true h3
    have hr : l[j.toNat]? = some r := by simpa using h
    exact List.mem_of_getElem? (i := j.toNat) (by rw [List.getElem?_take, if_pos (by omega)]; exact hr)
  · cases h
theorem pickR_len (l : List Rg) (j : Int) : (pickR l j).length ≤ 1 := by
  unfold pickR
  split
  · cases l[j.toNat]? <;> simp
  · simp
theorem picks_len (l : List Rg) : ∀ M : List Int, (M.flatMap (pickR l)).length ≤ M.length
  | [] => by simp
  | j :: M => by
    have h1 := picks_len l M
    have h2 := pickR_len l j
    rw [List.flatMap_cons, List.length_append]
    simp only [List.length_cons]
    omega

theorem spanOrder_fn (base : Int) (l : List Rg) (by' : List Int) (hl : ∀ r, r ∈ l → r.ok) (hll : l.length ≤ 9223372036854775807) :
    Fn Try.prog 5 [.v (.int .u32 base), rowsR l, rowsI by'] fun d => d = boolD true := by
  refine fnOf [] Try.func5 rfl (by kernel_rfl) (Nat.le_of_ble_eq_true rfl) ?_
  conv => whnf
  refine goIn [] Try.func10 rfl (by kernel_rfl) (Nat.le_of_ble_eq_true rfl) ?_
  conv => whnf
  refine goIn [] Try.func10 rfl (by kernel_rfl) (Nat.le_of_ble_eq_true rfl) ?_
  conv => whnf
  have hA := fun M => add_ok base M
  -- the first loop: one behind the other
  refine ⟨Nat, fun i => ⟨[(11, intD i), (10, intD 0), (9, intD (addN [] (allP base (l.take i)))), (8, .loc 1 0), (7, .loc 0 0), (2, rowsI by'), (1, rowsR l)], [(0, .cells 57 (setD base (addF [] (allP base (l.take i))))), (1, .cells 57 (setD base ([])))], 2, ([], 0)⟩,
    fun i => i ≤ l.length ∧ i ≤ 30, fun i => 30 - i, ⟨0, [], [], ?_, Nat.zero_le _, Nat.zero_le _⟩, ?_⟩
  · repeat' (first | exact trivial | exact .inl (DLe.refl _) | exact .inl (DLe.nil _ _) | (refine .inr ⟨rfl, _, ?_, rfl⟩; rfl) | exact rfl | exact Nat.zero_le _ | constructor)
  rintro i ⟨hi, hi30⟩
  have hi' : (l.take i).length = i := by rw [List.length_take]; omega
  have hadd := add_next base (l.take i)
  have hsn : ∀ r, l[i]? = some r → l.take (i + 1) = l.take i ++ [r] := fun r h => take_snoc h
  have hai := hA (l.take i)
  have hai' := hA (l.take (i + 1))
  conv => whnf
  have stop : (¬ (i : Int) < l.length ∨ ¬ (i : Int) < 30) → l.take i = l.take 30 := fun h => by
    rcases h with h | h
    · rw [List.take_of_length_le (by omega), List.take_of_length_le (by omega)]
    · rw [show i = 30 by omega]
  refine Fork.intro (fun h1 => ?_) (fun h1 => ?_)
  have hlt : (i : Int) < l.length := of_decide_eq_true h1
  conv => whnf
  refine Fork.intro (fun h2 => ?_) (fun h2 => ?_)
  · have hlt2 : (i : Int) < 30 := of_decide_eq_true h2
    conv => whnf
    refine ⟨rfl, ⟨by omega, hlt⟩, fun r hr => ?_⟩
    have hri : l[i]? = some r := by simpa using hr
    obtain ⟨e1, e2⟩ := hadd r
    rw [← hsn r hri] at e1 e2
    have := hai'.lo; have := hai'.hi; have := hai.len
    conv => whnf
    refine CallVC.ob (add_ob base _ r hai.can (by omega) (hl r (List.mem_of_getElem? hri))) rfl rfl rfl ?_
    rintro _ _ ⟨rfl, rfl⟩
    conv => whnf
    rw [← e1, IntWalk.i64_in (addN [] (allP base (l.take i)) + addN (addF [] (allP base (l.take i))) (pcs base r)) (by omega), ← e2, wrap_next (show i < 30 by omega) (by omega)]
    refine ⟨i + 1, [], [], ?_, ⟨by omega, by omega⟩, by show 30 - (i + 1) < 30 - i; omega⟩
    repeat' (first | exact trivial | exact .inl (DLe.refl _) | exact .inl (DLe.nil _ _) | (refine .inr ⟨rfl, _, ?_, rfl⟩; rfl) | exact rfl | exact Nat.zero_le _ | constructor)
  all_goals
    have he : l.take i = l.take 30 := by first | exact stop (.inr (of_decide_eq_false h2)) | exact stop (.inl (of_decide_eq_false h1))
    rw [he]
    clear he stop hadd hsn hai hai' hi' hi hi30 h1
    conv => whnf
    -- the second loop: some, in any order, however often
    refine ⟨Nat, fun k => ⟨[(12, intD k), (10, intD (addN [] (allP base ((by'.take k).flatMap (pickR l))))), (9, intD (addN [] (allP base (l.take 30)))), (8, .loc 1 0), (7, .loc 0 0), (2, rowsI by'), (1, rowsR l)], [(0, .cells 57 (setD base (addF [] (allP base (l.take 30))))), (1, .cells 57 (setD base (addF [] (allP base ((by'.take k).flatMap (pickR l))))))], 2, ([], 0)⟩,
      fun k => k ≤ by'.length ∧ k ≤ 30, fun k => 30 - k, ⟨0, [], [], ?_, Nat.zero_le _, Nat.zero_le _⟩, ?_⟩
    · repeat' (first | exact trivial | exact .inl (DLe.refl _) | exact .inl (DLe.nil _ _) | (refine .inr ⟨rfl, _, ?_, rfl⟩; rfl) | exact rfl | exact Nat.zero_le _ | constructor)
    rintro k ⟨hk, hk30⟩
    conv => whnf
    refine Fork.intro (fun g1 => ?_) (fun g1 => ?_)
    have hkt : (k : Int) < by'.length := of_decide_eq_true g1
    conv => whnf
    refine Fork.intro (fun g2 => ?_) (fun g2 => ?_)
    · have hkt2 : (k : Int) < 30 := of_decide_eq_true g2
      conv => whnf
      refine ⟨rfl, ⟨by omega, hkt⟩, fun j hj => ?_⟩
      have hjk : by'[k]? = some j := by simpa using hj
      have hnext : (by'.take (k + 1)).flatMap (pickR l) = (by'.take k).flatMap (pickR l) ++ pickR l j := by rw [take_snoc hjk, List.flatMap_append]; simp
      have hlen := picks_len l (by'.take k)
      have hlen2 : (by'.take k).length ≤ 30 := by rw [List.length_take]; omega
      have hbi := hA ((by'.take k).flatMap (pickR l))
      have hbi' := hA ((by'.take k).flatMap (pickR l) ++ pickR l j)
      rw [hnext.symm] at hbi'
      have hskip : pickR l j = [] → Cover [] [] ⟨[(12, intD ((k + 1 : Nat) : Int)), (10, intD (addN [] (allP base ((by'.take k).flatMap (pickR l))))), (9, intD (addN [] (allP base (l.take 30)))), (8, .loc 1 0), (7, .loc 0 0), (2, rowsI by'), (1, rowsR l)], [(0, .cells 57 (setD base (addF [] (allP base (l.take 30))))), (1, .cells 57 (setD base (addF [] (allP base ((by'.take k).flatMap (pickR l))))))], 2, ([], 0)⟩
          ⟨[(12, intD ((k + 1 : Nat) : Int)), (10, intD (addN [] (allP base ((by'.take (k + 1)).flatMap (pickR l))))), (9, intD (addN [] (allP base (l.take 30)))), (8, .loc 1 0), (7, .loc 0 0), (2, rowsI by'), (1, rowsR l)], [(0, .cells 57 (setD base (addF [] (allP base (l.take 30))))), (1, .cells 57 (setD base (addF [] (allP base ((by'.take (k + 1)).flatMap (pickR l))))))], 2, ([], 0)⟩ := fun h => by
        rw [hnext, h, List.append_nil]
        repeat' (first | exact trivial | exact .inl (DLe.refl _) | exact .inl (DLe.nil _ _) | (refine .inr ⟨rfl, _, ?_, rfl⟩; rfl) | exact rfl | exact Nat.zero_le _ | constructor)
      have hp0 : decide (0 ≤ j) = false → pickR l j = [] := fun h => by unfold pickR; rw [h]
      have hp1 : decide (j < l.length) = false → pickR l j = [] := fun h => by unfold pickR; rw [h]; split <;> first | rfl | contradiction
      have hp2 : decide (j < 30) = false → pickR l j = [] := fun h => by unfold pickR; rw [h]; split <;> first | rfl | contradiction
      conv => whnf
      refine Fork.intro (fun g3 => ?_) (fun g3 => ?_)
      · have hj0 : 0 ≤ j := of_decide_eq_true g3
        conv => whnf
        refine ⟨rfl, ⟨by omega, hkt⟩, fun j' hj' => ?_⟩
        obtain rfl : j = j' := Option.some.inj (hjk.symm.trans (by simpa using hj'))
        conv => whnf
        cases g4 : decide (j < l.length) with
        | false =>
          conv => whnf
          rw [wrap_next (show k < 30 by omega) (by omega)]
          exact ⟨k + 1, [], [], hskip (hp1 g4), ⟨by omega, by omega⟩, by show 30 - (k + 1) < 30 - k; omega⟩
        | true =>
          have hjl : j < l.length := of_decide_eq_true g4
          conv => whnf
          refine ⟨rfl, ⟨by omega, hkt⟩, fun j' hj' => ?_⟩
          obtain rfl : j = j' := Option.some.inj (hjk.symm.trans (by simpa using hj'))
          conv => whnf
          cases g5 : decide (j < 30) with
          | false =>
            conv => whnf
            rw [wrap_next (show k < 30 by omega) (by omega)]
            exact ⟨k + 1, [], [], hskip (hp2 g5), ⟨by omega, by omega⟩, by show 30 - (k + 1) < 30 - k; omega⟩
          | true =>
            conv => whnf
            refine ⟨rfl, ⟨by omega, hkt⟩, fun j' hj' => ?_⟩
            obtain rfl : j = j' := Option.some.inj (hjk.symm.trans (by simpa using hj'))
            conv => whnf
            refine ⟨rfl, ⟨by omega, hjl⟩, fun r hr => ?_⟩
            have hpk : pickR l j = [r] := by unfold pickR; rw [decide_eq_true hj0, g4, g5]; simp only; rw [hr]; rfl
            rw [hpk] at hnext
            obtain ⟨e1, e2⟩ := add_next base ((by'.take k).flatMap (pickR l)) r
            rw [← hnext] at e1 e2
            have := hbi'.lo; have := hbi'.hi; have := hbi.len
            conv => whnf
            refine CallVC.ob (add_ob base _ r hbi.can (by omega) (hl r (List.mem_of_getElem? hr))) rfl rfl rfl ?_
            rintro _ _ ⟨rfl, rfl⟩
            conv => whnf
            rw [← e1, IntWalk.i64_in (addN [] (allP base ((by'.take k).flatMap (pickR l))) + addN (addF [] (allP base ((by'.take k).flatMap (pickR l)))) (pcs base r)) (by omega), ← e2, wrap_next (show k < 30 by omega) (by omega)]
            refine ⟨k + 1, [], [], ?_, ⟨by omega, by omega⟩, by show 30 - (k + 1) < 30 - k; omega⟩
            repeat' (first | exact trivial | exact .inl (DLe.refl _) | exact .inl (DLe.nil _ _) | (refine .inr ⟨rfl, _, ?_, rfl⟩; rfl) | exact rfl | exact Nat.zero_le _ | constructor)
      · have hj0 : decide (0 ≤ j) = false := g3
        conv => whnf
        rw [wrap_next (show k < 30 by omega) (by omega)]
        exact ⟨k + 1, [], [], hskip (hp0 hj0), ⟨by omega, by omega⟩, by show 30 - (k + 1) < 30 - k; omega⟩
    all_goals
      have hQl : ((by'.take k).flatMap (pickR l)).length ≤ 30 := by
        have h1 := picks_len l (by'.take k)
        have h2 : (by'.take k).length ≤ 30 := by rw [List.length_take]; omega
        omega
      have hQs : ∀ r, r ∈ (by'.take k).flatMap (pickR l) → r ∈ l.take 30 := fun r hr => by
        obtain ⟨j, _, h⟩ := List.mem_flatMap.1 hr
        exact pickR_sub h
      generalize (by'.take k).flatMap (pickR l) = Q at *
      clear hk hk30 g1
      conv => whnf
      rw [IntWalk.i64_in ((l.length : Int) - 1) (by omega)]
      have hfull : (l.take 30).drop l.length = [] := List.drop_eq_nil_of_le (by rw [List.length_take]; omega)
      -- the third loop: all, from the last one on
      refine ⟨Nat, fun m => ⟨[(13, intD ((m : Int) - 1)), (10, intD (addN [] (allP base (Q ++ ((l.take 30).drop m).reverse)))), (9, intD (addN [] (allP base (l.take 30)))), (8, .loc 1 0), (7, .loc 0 0), (1, rowsR l)], [(0, .cells 57 (setD base (addF [] (allP base (l.take 30))))), (1, .cells 57 (setD base (addF [] (allP base (Q ++ ((l.take 30).drop m).reverse)))))], 2, ([], 0)⟩,
        fun m => m ≤ l.length, fun m => m, ⟨l.length, [], [], ?_, Nat.le_refl _⟩, ?_⟩
      · dsimp only
        rw [hfull, List.reverse_nil, List.append_nil]
        repeat' (first | exact trivial | exact .inl (DLe.refl _) | exact .inl (DLe.nil _ _) | (refine .inr ⟨rfl, _, ?_, rfl⟩; rfl) | exact rfl | exact Nat.zero_le _ | constructor)
      intro m hm
      conv => whnf
      refine Fork.intro (fun g3 => ?_) (fun g3 => ?_)
      · have hm0 : (m : Int) - 1 ≥ 0 := of_decide_eq_true g3
        obtain ⟨m, rfl⟩ : ∃ k, m = k + 1 := ⟨m - 1, by omega⟩
        clear g3
        have hm1 : (((m + 1 : Nat) : Int) - 1) = (m : Int) := by omega
        rw [hm1]
        have hmw : IntKind.i64.wrap ((m : Int) - 1) = (m : Int) - 1 := IntWalk.i64_in _ (by omega)
        conv => whnf
        refine Fork.intro (fun g4 => ?_) (fun g4 => ?_)
        · have hm30 : (m : Int) < 30 := of_decide_eq_true g4
          conv => whnf
          refine ⟨rfl, ⟨by omega, by omega⟩, fun r hr => ?_⟩
          have hrm : l[m]? = some r := by simpa using hr
          have hdrop : (l.take 30).drop m = r :: (l.take 30).drop (m + 1) := by
            have h1 : (l.take 30)[m]? = some r := by rw [List.getElem?_take, if_pos (by omega)]; exact hrm
            obtain ⟨h2, h3⟩ := List.getElem?_eq_some_iff.1 h1
            rw [List.drop_eq_getElem_cons h2, h3]
          have hB : Q ++ ((l.take 30).drop m).reverse = (Q ++ ((l.take 30).drop (m + 1)).reverse) ++ [r] := by rw [hdrop, List.reverse_cons, List.append_assoc]
          have hBl : (Q ++ ((l.take 30).drop (m + 1)).reverse).length ≤ 60 := by
            rw [List.length_append, List.length_reverse, List.length_drop, List.length_take]; omega
          have hbi := hA (Q ++ ((l.take 30).drop (m + 1)).reverse)
          have hbi' := hA (Q ++ ((l.take 30).drop m).reverse)
          obtain ⟨e1, e2⟩ := add_next base (Q ++ ((l.take 30).drop (m + 1)).reverse) r
          rw [← hB] at e1 e2
          have := hbi'.lo; have := hbi'.hi; have := hbi.len
          conv => whnf
          refine CallVC.ob (add_ob base _ r hbi.can (by omega) (hl r (List.mem_of_getElem? hrm))) rfl rfl rfl ?_
          rintro _ _ ⟨rfl, rfl⟩
          conv => whnf
          rw [← e1, IntWalk.i64_in (addN [] (allP base (Q ++ ((l.take 30).drop (m + 1)).reverse)) + addN (addF [] (allP base (Q ++ ((l.take 30).drop (m + 1)).reverse))) (pcs base r)) (by omega), ← e2, hmw]
          refine ⟨m, [], [], ?_, by show m ≤ _; omega, by show m < m + 1; omega⟩
          repeat' (first | exact trivial | exact .inl (DLe.refl _) | exact .inl (DLe.nil _ _) | (refine .inr ⟨rfl, _, ?_, rfl⟩; rfl) | exact rfl | exact Nat.zero_le _ | constructor)
        · have hm30 : ¬ (m : Int) < 30 := of_decide_eq_false g4
          have hd0 : (l.take 30).drop m = [] := List.drop_eq_nil_of_le (by rw [List.length_take]; omega)
          have hd1 : (l.take 30).drop (m + 1) = [] := List.drop_eq_nil_of_le (by rw [List.length_take]; omega)
          conv => whnf
          rw [hmw]
          refine ⟨m, [], [], ?_, by show m ≤ _; omega, by show m < m + 1; omega⟩
          show Cover _ _ _ ⟨[_, (10, intD (addN [] (allP base (Q ++ ((l.take 30).drop m).reverse)))), _, _, _, _], [_, (1, .cells _ (setD base (addF [] (allP base (Q ++ ((l.take 30).drop m).reverse)))))], _, _⟩
          rw [hd0, hd1]
          repeat' (first | exact trivial | exact .inl (DLe.refl _) | exact .inl (DLe.nil _ _) | (refine .inr ⟨rfl, _, ?_, rfl⟩; rfl) | exact rfl | exact Nat.zero_le _ | constructor)
      have hmn : ¬ (m : Int) - 1 ≥ 0 := of_decide_eq_false g3
      obtain rfl : m = 0 := by omega
      obtain ⟨s1, s2, s3⟩ : addF [] (allP base (l.take 30)) = addF [] (allP base (Q ++ ((l.take 30).drop 0).reverse)) ∧ addN [] (allP base (l.take 30)) = addN [] (allP base (Q ++ ((l.take 30).drop 0).reverse)) ∧ addN [] (allP base (l.take 30)) = count (addF [] (allP base (l.take 30))) :=
        add_same (allP_ok base _) fun p => by
          unfold allP
          rw [List.mem_flatMap, List.mem_flatMap, List.drop_zero]
          constructor
          · rintro ⟨r, h1, h2⟩
            exact ⟨r, List.mem_append_right _ (List.mem_reverse.2 h1), h2⟩
          · rintro ⟨r, h1, h2⟩
            rcases List.mem_append.1 h1 with h1 | h1
            · exact ⟨r, hQs r h1, h2⟩
            · exact ⟨r, List.mem_reverse.1 h1, h2⟩
      rw [← s1, ← s2, s3]
      have hai := hA (l.take 30)
      have hac := hai.can
      have hal : (addF [] (allP base (l.take 30))).length ≤ 1000 := by
        have h1 := hai.len
        have h2 : (l.take 30).length ≤ 30 := by rw [List.length_take]; omega
        omega
      clear hai s1 s2 s3 hA hQs hQl hm g3 hmn hfull
      generalize addF [] (allP base (l.take 30)) = F at *
      conv => whnf
      refine CallVC.ob (ranges_ob base F hac hal) rfl rfl rfl ?_
      rintro _ _ ⟨rfl, rfl⟩
      conv => whnf
      refine CallVC.ob (ranges_ob base F hac hal) rfl rfl rfl ?_
      rintro _ _ ⟨rfl, rfl⟩
      conv => whnf
      have hRl : (F.map (rgOf base)).length ≤ 1000 := by rw [List.length_map]; exact hal
      generalize F.map (rgOf base) = R at *
      rw [show (!decide ((R.length : Int) = (R.length : Int))) = false by simp]
      conv => whnf
      rw [show (!decide (count F = count F)) = false by simp]
      conv => whnf
      refine CallVC.ob (len_ob base F hac hal) rfl rfl rfl ?_
      rintro _ _ ⟨rfl, rfl⟩
      conv => whnf
      rw [show (!decide (count F = count F)) = false by simp]
      conv => whnf
      refine ⟨Nat, fun i => ⟨[(16, intD i), (15, rowsR R), (14, rowsR R)], [], 0, ([], 0)⟩, fun i => i ≤ R.length, fun i => R.length - i, ⟨0, [], [], ?_, Nat.zero_le _⟩, ?_⟩
      · repeat' (first | exact trivial | exact .inl (DLe.refl _) | exact .inl (DLe.nil _ _) | (refine .inr ⟨rfl, _, ?_, rfl⟩; rfl) | exact rfl | exact Nat.zero_le _ | constructor)
      intro i hi
      conv => whnf
      refine Fork.intro (fun g5 => ?_) (fun g5 => ?_)
      · have hlt : (i : Int) < R.length := of_decide_eq_true g5
        conv => whnf
        refine ⟨rfl, ⟨by omega, hlt⟩, fun r hr => ?_⟩
        conv => whnf
        refine ⟨rfl, ⟨by omega, hlt⟩, fun r' hr' => ?_⟩
        obtain rfl : r = r' := Option.some.inj (hr.symm.trans hr')
        conv => whnf
        refine ⟨eqRgOk, rfl, ?_⟩
        conv => whnf
        rw [show eqD [D.v (Value.int IntKind.u32 r.fr), D.v (Value.int IntKind.u32 r.len)] [D.v (Value.int IntKind.u32 r.fr), D.v (Value.int IntKind.u32 r.len)] = true by simp [eqD]]
        conv => whnf
        rw [wrap_next (show i < 1000 by omega) (by omega)]
        refine ⟨i + 1, [], [], ?_, by show i + 1 ≤ _; omega, by show R.length - (i + 1) < R.length - i; omega⟩
        repeat' (first | exact trivial | exact .inl (DLe.refl _) | exact .inl (DLe.nil _ _) | (refine .inr ⟨rfl, _, ?_, rfl⟩; rfl) | exact rfl | exact Nat.zero_le _ | constructor)
      · conv => whnf
        refine CallVC.pure slives_fn rfl ?_
        rintro _ rfl
        conv => whnf
end Go.Proofs.Ytclkaacdbhbigaa.V
