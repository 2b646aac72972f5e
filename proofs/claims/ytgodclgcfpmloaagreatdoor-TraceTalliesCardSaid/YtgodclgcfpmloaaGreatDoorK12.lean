/-
  slices.Sort on a row of texts of one's own, that nobody writes from then on, by the shelf's contract. Conditions: the texts are bytes.
  What a frame is, by the document; how many frames are what, by the program. Conditions: bytes, not too many; numbers of their types.
  How many frames are what: the program's, by value. Conditions: bytes, not too many; numbers of their types.
-/
import Derived.Test.YtgodclgcfpmloaaGreatDoorK4
import Derived.Test.YtgodclgcfpmloaaGreatDoorK3
import Derived.Shelf.SortM.Plain
import Derived.Shelf.SortM.SortNone
import Derived.Test.YtgodclgcfpmloaaGreatDoorK11
namespace Go.Proofs.YtgodclgcfpmloaaGreatDoor.V
open Go.RowKit
def strLe (a b : List Nat) : Prop := a.map UInt8.ofNat ≤ b.map UInt8.ofNat
section
variable {P : Program} {E : Env} {s : St} {σ : Nat → Nat} {τ : Nat → Value} {a : Act} {w : World}

open Go.Shelf Go.Sort Go.Lib in
theorem sortS_vc {ρ : Ren} (L0 : SlLaysM.n6 P ρ) (hb : hasBody P (ρ.f 6)) {id el j : Nat} {M : List (List Nat)} {K : D → St → Prop} (hid : lget s.H id = some (.grow (List Nat) el 1 strE M)) (hF : lget s.F j = some (.grow id)) (hM : ∀ x, x ∈ M → Byt x) (hpos : 0 < M.length) (hsz : M.length < 1000000)
    (h : ∀ M' : List (List Nat), M'.Perm M → M'.Pairwise strLe → K (.tup []) ⟨(j, .rows (List Nat) 1 strE M') :: s.F, (id, .dead) :: (id, .grow (List Nat) el 1 strE M') :: s.H, s.nx, s.G⟩) : CallVC P false (ρ.f 6) [.grow id] s K := by
  refine ⟨hb, fun E σ τ a w args' hs hr => ?_⟩
  obtain ⟨hal, har⟩ := hr
  obtain ⟨va, rfl⟩ : ∃ va, args' = [va] := by
    match args', hal with
    | [x], _ => exact ⟨x, rfl⟩
  have ha := har 0 _ va rfl rfl
  have hav : va = τ id := by
    cases ha with
    | grow hg => exact hg.2
  subst hav
  obtain ⟨hmine, xs, ⟨hxl, hown⟩, hlen0, hrep0⟩ := hs.heap.grow id _ _ _ _ _ hid
  rcases hown with ⟨_, hn⟩ | ⟨b, cap, cur, hv, _, hg, hcap, hmax, hcs, htk⟩
  · omega
  let ss : List (List UInt8) := M.map fun x => x.map UInt8.ofNat
  have hss : ss.length = M.length := List.length_map _
  have hcell : ∀ (i : Nat) (x : List Nat), M[i]? = some x → cur[i]? = some (.string (strB x)) := by
    intro i x hx
    have hi : i < M.length := (List.getElem?_eq_some_iff.1 hx).1
    have hxs : xs[i]? = some xs[i] := List.getElem?_eq_getElem (by rw [hxl]; omega)
    have h5 := hrep0 i x 0 (strD x) xs[i] hx rfl (by rw [Nat.mul_one, Nat.add_zero]; exact hxs)
    have h6 := rep_v h5
    have h7 : cur[i]? = some xs[i] := by
      rw [← Array.getElem?_toList, ← hxs, ← htk, List.getElem?_take_of_lt (by omega)]
    rw [h7, h6]
  have hH : Holds encStr w b 0 ss.toArray := by
    intro t ht
    have ht : t < M.length := by simpa [ss] using ht
    have hx : M[t]? = some M[t] := List.getElem?_eq_getElem ht
    refine ⟨?_, by simp [World.frozen?, hg]⟩
    rw [getElem!_pos ss.toArray t (by simpa [ss] using ht)]
    simp only [World.cell?, hg, Nat.zero_add, hcell t _ hx]
    simp [ss, encStr, strB]
  have hblk : b < w.heap.size := (Array.getElem?_eq_some_iff.1 hg).1
  have hcon := AnyM.slices_Sort_string L0 b 0 cap ss w hH hblk (by rw [hss]; omega)
  rw [hss] at hcon
  rw [hv]
  refine hcon.mono fun e w' hh => ?_
  obtain ⟨rfl, n, os, rfl⟩ := hh
  let ms := ss.mergeSort fun x y => decide (x ≤ y)
  let M' : List (List Nat) := ms.map fun x => x.map UInt8.toNat
  have hperm0 : ms.Perm ss := List.mergeSort_perm _ _
  have hback : ∀ x : List Nat, Byt x → (x.map UInt8.ofNat).map UInt8.toNat = x := by
    intro x hx
    rw [List.map_map]
    refine (List.map_congr_left fun c hc => ?_).trans (List.map_id x)
    show (UInt8.ofNat c).toNat = c
    rw [UInt8.toNat_ofNat', Nat.mod_eq_of_lt (hx c hc)]
  have hMM : ss.map (fun x => x.map UInt8.toNat) = M := by
    show (M.map _).map _ = M
    rw [List.map_map]
    exact (List.map_congr_left fun x hx => hback x (hM x hx)).trans (List.map_id M)
  have hperm : M'.Perm M := by
    have := hperm0.map fun x => x.map UInt8.toNat
    rwa [hMM] at this
  have hfor : ∀ x : List UInt8, (x.map UInt8.toNat).map UInt8.ofNat = x := by
    intro x
    rw [List.map_map]
    refine (List.map_congr_left fun c _ => ?_).trans (List.map_id x)
    show UInt8.ofNat c.toNat = c
    exact UInt8.ofNat_toNat
  have hsort : M'.Pairwise strLe := by
    have tr : ∀ x y z : List UInt8, decide (x ≤ y) = true → decide (y ≤ z) = true → decide (x ≤ z) = true := fun x y z h1 h2 => decide_eq_true (List.le_trans (of_decide_eq_true h1) (of_decide_eq_true h2))
    have to : ∀ x y : List UInt8, (decide (x ≤ y) || decide (y ≤ x)) = true := fun x y => by
      rcases List.le_total x y with h | h
      · rw [decide_eq_true h]; rfl
      · rw [decide_eq_true h, Bool.or_true]
    have hp : ms.Pairwise fun x y => decide (x ≤ y) = true := List.pairwise_mergeSort tr to ss
    show (ms.map _).Pairwise _
    rw [List.pairwise_map]
    refine hp.imp fun {x y} hxy => ?_
    show (x.map UInt8.toNat).map UInt8.ofNat ≤ (y.map UInt8.toNat).map UInt8.ofNat
    rw [hfor, hfor]
    exact of_decide_eq_true hxy
  have hml : ms.length = M.length := by rw [hperm0.length_eq, hss]
  have hM'l : M'.length = M.length := by show (ms.map _).length = _; rw [List.length_map, hml]
  have hM'i : ∀ (i : Nat) x, M'[i]? = some x → ∃ y, ms[i]? = some y ∧ x = y.map UInt8.toNat ∧ encStr y = .string (strB x) := by
    intro i x hx
    have hx : (ms.map fun x => x.map UInt8.toNat)[i]? = some x := hx
    rw [List.getElem?_map] at hx
    cases hq : ms[i]? with
    | none => rw [hq] at hx; cases hx
    | some y =>
      rw [hq] at hx
      simp only [Option.map_some, Option.some.injEq] at hx
      refine ⟨y, rfl, hx.symm, ?_⟩
      rw [← hx]
      show Value.string _ = Value.string (⟨((y.map UInt8.toNat).map UInt8.ofNat).toArray⟩)
      rw [hfor]
  let w1 := putRow encStr (Sort.ahead w n) b 0 ms.toArray
  have hg1 : (Sort.ahead w n).heap[b]? = some (.cells cur el (0, 0)) := hg
  have hc1 : w1.heap[b]? = some (.cells (putCells encStr 0 ms.toArray cur) el (0, 0)) := mapBlock_at hg1
  have hput : ∀ (i : Nat) x, M'[i]? = some x → (putCells encStr 0 ms.toArray cur)[i]? = some (.string (strB x)) := by
    intro i x hx
    have hi : i < M.length := by rw [← hM'l]; exact (List.getElem?_eq_some_iff.1 hx).1
    obtain ⟨y, h1, _, h3⟩ := hM'i i x hx
    have hcl : i < cur.size := by rw [hcs]; omega
    unfold putCells
    rw [Array.getElem?_mapIdx, Array.getElem?_eq_getElem hcl]
    simp only [Option.map_some, Nat.zero_le, true_and, Nat.zero_add, Nat.sub_zero]
    rw [if_pos (by simpa [hml] using hi), getElem!_pos ms.toArray i (by simpa [hml] using hi)]
    have hy : ms[i]? = some ms[i] := List.getElem?_eq_getElem (by omega)
    rw [h1] at hy
    injection hy with hy
    simp only [List.getElem_toArray]
    rw [← hy, h3]
  have hsr : SR E ⟨s.F, (id, .grow (List Nat) el 1 strE M') :: s.H, s.nx, s.G⟩ σ τ a w1 := by
    refine over_world hs hid hM'l (fun i x _ => rfl) hv hg hcap hmax hcs hc1 (by simp [putCells]) (Nat.le_add_right _ _) rfl rfl rfl (by simp [w1, putRow, mapBlock, Sort.ahead]) (fun j hj => mapBlock_other _ _ _ _ hj) (fun i x j d u hx hd2 hu => ?_)
    match j, hd2 with
    | 0, hd2 =>
      simp only [strE, List.getElem?_cons_zero, Option.some.injEq] at hd2
      subst hd2
      rw [Nat.mul_one, Nat.add_zero, hput i x hx] at hu
      injection hu with hu
      rw [← hu]
      exact .v
    | j + 1, hd2 => simp [strE] at hd2
  have hbel : Under w1.heap.size w1 (grow w1 os) := by
    refine ⟨⟨rfl, rfl, rfl, by simp [Sort.grow], fun j hj => ?_⟩, Nat.le_refl _⟩
    show (w1.heap ++ os)[j]? = _
    rw [Array.getElem?_append_left hj]
  have hown1 : owned ((id, LO.grow (List Nat) el 1 strE M') :: s.H) σ τ id b := .inr (.inl ⟨_, _, _, _, _, lget_same _ _ _, by rw [hv]; rfl⟩)
  have hk := kill_state hsr hown1 (w' := w1) rfl rfl rfl rfl (Nat.le_refl _) (fun _ _ => rfl)
  have hrows : Rep (ctxOf E ((id, LO.dead) :: (id, LO.grow (List Nat) el 1 strE M') :: s.H) s.nx σ τ w1) (.rows (List Nat) 1 strE M') (τ id) := by
    rw [hv, ← hM'l]
    refine .rows b 0 (fun i _ => ((putCells encStr 0 ms.toArray cur)[i]?).getD undef) (by rw [hM'l]; exact hcap) (fun _ => ⟨rfl, ?_⟩) (fun i x _ => rfl) (fun i x j d hx hd => ?_) (fun i x j d hx hd => ?_)
    · refine ⟨.inr ?_, by show b < w1.heap.size; exact (Array.getElem?_eq_some_iff.1 hc1).1, fun k ho => ?_⟩
      · exact hmine b (by rw [hv]; rfl)
      · obtain ⟨o1, o2⟩ := owned_gone (s := ⟨s.F, (id, LO.grow (List Nat) el 1 strE M') :: s.H, s.nx, s.G⟩) ho
        exact o2 (hsr.heap.apart k id b o1 hown1)
    · match j, hd with
      | 0, hd =>
        have h6 := hput i x hx
        show w1.cell? ⟨b, 0 + i * 1 + 0, none⟩ = _
        rw [show 0 + i * 1 + 0 = i by omega]
        simp only [World.cell?, hc1, h6, Option.getD_some]
        rfl
      | j + 1, hd => simp [strE] at hd
    · match j, hd with
      | 0, hd =>
        simp only [strE, List.getElem?_cons_zero, Option.some.injEq] at hd
        subst hd
        rw [hput i x hx]
        exact .v
      | j + 1, hd => simp [strE] at hd
  have hslot : a.tmps.getD j undef = τ id := by
    have := hs.slots j (.grow id) hF
    cases this with
    | grow hg => exact hg.2
  have hk2 : SR E ⟨(j, .rows (List Nat) 1 strE M') :: s.F, (id, LO.dead) :: (id, LO.grow (List Nat) el 1 strE M') :: s.H, s.nx, s.G⟩ σ τ a w1 := by
    refine ⟨hk.heap, hk.defers, hk.size, fun i d hd => ?_, hk.ghost, hk.room⟩
    by_cases hi : i = j
    · subst hi
      rw [lget_same] at hd
      injection hd with hd
      subst hd
      rw [hslot]
      exact hrows
    · rw [lget_ne _ _ hi] at hd
      exact hk.slots i d hd
  exact ⟨.tup [], _, σ, τ, _, h M' hperm hsort, rfl, below_state hk2 hbel, .tup rfl (fun j d u hd hu => by cases hd), fun hg => by cases hg⟩

theorem owned_gone2 {r : Nat} {o' : LO} {j n : Nat} (h : owned ((r, .dead) :: (r, o') :: s.H) σ τ j n) : owned s.H σ τ j n ∧ j ≠ r := by
  obtain ⟨h1, hj⟩ := owned_gone (s := ⟨s.F, (r, o') :: s.H, s.nx, s.G⟩) h
  refine ⟨?_, hj⟩
  rcases h1 with ⟨el', l', h1, h2⟩ | ⟨α, el', e, enc, L, h1, h2⟩ | ⟨o, h1, h2⟩
  · rw [lget_ne _ _ hj] at h1; exact .inl ⟨_, _, h1, h2⟩
  · rw [lget_ne _ _ hj] at h1; exact .inr (.inl ⟨_, _, _, _, _, h1, h2⟩)
  · rw [lget_ne _ _ hj] at h1; exact .inr (.inr ⟨_, h1, h2⟩)
theorem forget_state (hs : SR E s σ τ a w) {r : Nat} {o : LO} (hr : lget s.H r = some o) (o' : LO) : SR E ⟨s.F, (r, .dead) :: (r, o') :: s.H, s.nx, s.G⟩ σ τ a w := by
  have hle : (ctxOf E s.H s.nx σ τ w).Le (ctxOf E ((r, .dead) :: (r, o') :: s.H) s.nx σ τ w) :=
    ⟨fun k o hk ho => ho, fun k hk => ⟨hk.1, hk.2.1, fun j ho => hk.2.2 j (owned_gone2 ho).1⟩, fun _ _ _ h => h, fun _ _ h => h, fun _ _ _ h => h⟩
  refine ⟨⟨hs.heap.kept, hs.heap.few, fun j el l h => ?_, fun j α el e enc L h => ?_, fun i j k h1 h2 => hs.heap.apart i j k (owned_gone2 h1).1 (owned_gone2 h2).1, fun j o h => ?_, hs.heap.slices, fun j o h => ?_⟩, hs.defers, hs.size, fun i d h => (hs.slots i d h).mono hle, hs.ghost_le (s' := ⟨s.F, (r, .dead) :: (r, o') :: s.H, s.nx, s.G⟩) rfl hle, hs.room⟩
  · have hj : j ≠ r := by rintro rfl; rw [lget_same] at h; cases h
    rw [lget_ne _ _ hj, lget_ne _ _ hj] at h
    obtain ⟨h1, c, h2, h3, h4⟩ := hs.heap.cells j el l h
    exact ⟨h1, c, h2, h3, fun q d u hd hu => (h4 q d u hd hu).mono hle⟩
  · have hj : j ≠ r := by rintro rfl; rw [lget_same] at h; cases h
    rw [lget_ne _ _ hj, lget_ne _ _ hj] at h
    obtain ⟨h1, xs, h2, h3, h4⟩ := hs.heap.grow j α el e enc L h
    exact ⟨h1, xs, h2, h3, fun q x y d u hx hd hu => (h4 q x y d u hx hd hu).mono hle.still⟩
  · by_cases hj : j = r
    · subst hj
      exact hs.heap.below j _ hr
    · rw [lget_ne _ _ hj, lget_ne _ _ hj] at h; exact hs.heap.below j o h
  · have hj : j ≠ r := by rintro rfl; rw [lget_same] at h; cases h
    rw [lget_ne _ _ hj, lget_ne _ _ hj] at h
    obtain ⟨h1, h2⟩ := hs.heap.obj j o h
    exact ⟨h1, OA.at_le h2 (fun k hk => rfl) hle.still⟩

open Go.Shelf Go.Sort Go.Lib in
theorem sortS_none {ρ : Ren} (L0 : SlLaysM.n6 P ρ) (hb : hasBody P (ρ.f 6)) {id el j : Nat} {K : D → St → Prop} (hid : lget s.H id = some (.grow (List Nat) el 1 strE [])) (hF : lget s.F j = some (.grow id))
    (h : K (.tup []) ⟨(j, .rows (List Nat) 1 strE []) :: s.F, (id, .dead) :: (id, .grow (List Nat) el 1 strE []) :: s.H, s.nx, s.G⟩) : CallVC P false (ρ.f 6) [.grow id] s K := by
  refine ⟨hb, fun E σ τ a w args' hs hr => ?_⟩
  obtain ⟨hal, har⟩ := hr
  obtain ⟨va, rfl⟩ : ∃ va, args' = [va] := by
    match args', hal with
    | [x], _ => exact ⟨x, rfl⟩
  have ha := har 0 _ va rfl rfl
  have hav : va = τ id := by
    cases ha with
    | grow hg => exact hg.2
  subst hav
  obtain ⟨_, xs, ⟨hxl, hown⟩, _, _⟩ := hs.heap.grow id _ _ _ _ _ hid
  obtain ⟨p, c, hv⟩ : ∃ p c, τ id = .slice p 0 c := by
    rcases hown with ⟨hv, _⟩ | ⟨b, cap, cur, hv, _⟩
    · exact ⟨_, _, hv⟩
    · exact ⟨_, _, hv⟩
  rw [hv]
  refine (AnyM.slices_Sort_string_none L0 p c w).mono fun e w' ⟨h1, h2⟩ => ?_
  subst h2
  have hslot : a.tmps.getD j undef = τ id := by
    have := hs.slots j (.grow id) hF
    cases this with
    | grow hg => exact hg.2
  have hs2 := forget_state hs hid (.grow (List Nat) el 1 strE [])
  have hk2 : SR E ⟨(j, .rows (List Nat) 1 strE []) :: s.F, (id, .dead) :: (id, .grow (List Nat) el 1 strE []) :: s.H, s.nx, s.G⟩ σ τ a w' := by
    refine ⟨hs2.heap, hs2.defers, hs2.size, fun i d hd => ?_, hs2.ghost, hs2.room⟩
    by_cases hi : i = j
    · subst hi
      rw [lget_same] at hd
      injection hd with hd
      subst hd
      rw [hslot, hv]
      exact .rows (L := []) 0 0 (fun _ _ => .nilIface) (Nat.zero_le _) (fun h => absurd rfl h) (fun i x h => by simp at h) (fun i x j d h => by simp at h) (fun i x j d h => by simp at h)
    · rw [lget_ne _ _ hi] at hd
      exact hs2.slots i d hd
  exact ⟨.tup [], _, σ, τ, _, h, h1, hk2, .tup rfl (fun j d u hd hu => by cases hd), fun hg => by cases hg⟩

open Go.Shelf Go.Sort Go.Lib in
theorem sortS_any {ρ : Ren} (L0 : SlLaysM.n6 P ρ) (hb : hasBody P (ρ.f 6)) {id el j : Nat} {M : List (List Nat)} {K : D → St → Prop} (hid : lget s.H id = some (.grow (List Nat) el 1 strE M)) (hF : lget s.F j = some (.grow id)) (hM : ∀ x, x ∈ M → Byt x) (hsz : M.length < 1000000)
    (h : ∀ M' : List (List Nat), M'.Perm M → M'.Pairwise strLe → K (.tup []) ⟨(j, .rows (List Nat) 1 strE M') :: s.F, (id, .dead) :: (id, .grow (List Nat) el 1 strE M') :: s.H, s.nx, s.G⟩) : CallVC P false (ρ.f 6) [.grow id] s K := by
  cases M with
  | nil => exact sortS_none L0 hb hid hF (h [] (.refl _) .nil)
  | cons x r => exact sortS_vc L0 hb hid hF hM (Nat.succ_pos _) hsz h
end
end Go.Proofs.YtgodclgcfpmloaaGreatDoor.V
namespace Go.Proofs.YtgodclgcfpmloaaGreatDoor.V
open Go.RowKit
attribute [local irreducible] Fn FnN FnR OpVC DLe

theorem rKind_fn (x : Snt) (hb : Byt x.frame) (hl : x.frame.length ≤ 100000) : Fn Tryz.prog 5 [.agg (sntD x)] fun d => d = strD (kindFr x.frame) := by
  refine fnOf [] Tryz.func5 rfl (by kernel_rfl) (Nat.le_of_ble_eq_true rfl) ?_
  have hline := rLine_fn x hb hl
  obtain ⟨k1, k2, k3⟩ := kindFr_ok x.frame
  unfold lineK at hline
  generalize kindFr x.frame = kw at *
  conv => whnf
  refine CallVC.pure hline rfl ?_
  rintro _ ⟨n, r, rfl, n1, n2, r1, r2⟩
  have hlb : Byt (n :: 32 :: (kw ++ 32 :: r)) := .cons n1 (.cons (by decide) (k1.append (.cons (by decide) r1)))
  have hll : (n :: 32 :: (kw ++ 32 :: r)).length = kw.length + r.length + 3 := by simp only [List.length_cons, List.length_append]; omega
  have hat : ∀ k, (n :: 32 :: (kw ++ 32 :: r))[2 + k]? = (kw ++ 32 :: r)[k]? := fun k => by rw [Nat.add_comm]; rfl
  have hex : ((n :: 32 :: (kw ++ 32 :: r)).take (2 + kw.length)).drop 2 = kw := by
    rw [Nat.add_comm]
    show ((kw ++ 32 :: r).take kw.length) = kw
    exact List.take_left
  generalize n :: 32 :: (kw ++ 32 :: r) = line at *
  conv => whnf
  refine ⟨Nat, fun k => ⟨[(4, intD (2 + k : Nat)), (3, strD line)], [], 0, ([], 0)⟩, fun k => k ≤ kw.length, fun k => kw.length - k, ⟨0, [], [], ?_, Nat.zero_le _⟩, ?_⟩
  · repeat' (first | exact trivial | exact .inl (DLe.refl _) | exact .inl (DLe.nil _ _) | (refine .inr ⟨rfl, _, ?_, rfl⟩; rfl) | exact rfl | exact .inl rfl | exact .inr ⟨rfl, rfl, rfl, rfl⟩ | exact Nat.zero_le _ | constructor)
  intro k hk
  replace hk : k ≤ kw.length := hk
  have e0 : IntKind.i64.wrap (((2 + k : Nat) : Int) + 1) = ((2 + (k + 1) : Nat) : Int) := by rw [IntWalk.i64_in _ (by omega)]; omega
  have hlt : 2 + k < line.length := by omega
  obtain ⟨y, hy⟩ : ∃ y, line[2 + k]? = some y := ⟨_, List.getElem?_eq_getElem hlt⟩
  conv => whnf
  rw [strB_size]
  refine Fork.intro (fun _ => ?_) (fun q => absurd (of_decide_eq_false q) (by omega))
  conv => whnf
  rw [strB_size]
  refine ⟨⟨by omega, by omega⟩, fun c hc => ?_⟩
  have hc := strB_get hlb hc
  have hc : some y = some c.toNat := hy.symm.trans hc
  injection hc with hc
  rw [hat] at hy
  conv => whnf
  rw [← hc]
  refine Fork.intro (fun q => ?_) (fun q => ?_)
  · have q : ¬ y = 32 := by have := ndT q; omega
    have hk2 : k < kw.length := by
      rcases Nat.lt_or_eq_of_le hk with h | h
      · exact h
      · subst h
        rw [List.getElem?_append_right (Nat.le_refl _), Nat.sub_self] at hy
        injection hy with hy
        exact absurd hy.symm q
    conv => whnf
    rw [e0]
    refine ⟨k + 1, [], [], ?_, by show k + 1 ≤ kw.length; omega, by show kw.length - (k + 1) < kw.length - k; omega⟩
    repeat' (first | exact trivial | exact .inl (DLe.refl _) | exact .inl (DLe.nil _ _) | (refine .inr ⟨rfl, _, ?_, rfl⟩; rfl) | exact rfl | exact .inl rfl | exact .inr ⟨rfl, rfl, rfl, rfl⟩ | exact Nat.zero_le _ | constructor)
  · have q : y = 32 := by have := ndF q; omega
    have hk2 : k = kw.length := by
      rcases Nat.lt_or_eq_of_le hk with h | h
      · rw [List.getElem?_append_left h] at hy
        exact absurd q (k3 y (List.mem_of_getElem? hy))
      · exact h
    subst hk2
    conv => whnf
    rw [strB_size]
    refine ⟨⟨by omega, by omega, by omega⟩, ?_⟩
    rw [strB_extract, show (line.take (Int.toNat ((2 + kw.length : Nat) : Int))).drop (Int.toNat 2) = kw from hex]
    conv => whnf
    try rfl
theorem fewT_fn (l : List Nat) (n : Nat) (hl : n ≤ 1000000) : Fn Tryz.prog 4 [octR l, intD n] fun d => d = octR (l.take n) := by
  refine fnOf [] Tryz.func4 rfl (by kernel_rfl) (Nat.le_of_ble_eq_true rfl) ?_
  conv => whnf
  refine Fork.intro (fun q => ?_) (fun q => ?_)
  · have q := of_decide_eq_true q
    conv => whnf
    refine ⟨rfl, ⟨by decide, by omega, by omega⟩, ?_⟩
    conv => whnf
    try rfl
  · have q := of_decide_eq_false q
    rw [List.take_of_length_le (by omega)]
    conv => whnf

/-! ### Tallies -/
def kinds7 : List (List Nat) := [wArp, wIcmp, wIp, wIpip, wRaw, wTcp, wUdp]
theorem kindFr_mem (b : List Nat) : kindFr b ∈ kinds7 := by
  unfold kindFr kindPk kindPl kinds7
  repeat' split
  · simp
  · simp
  · generalize (bodyOf _).1 = x
    cases x <;> simp [kindB]
  · simp
theorem kinds7_sorted : kinds7.Pairwise fun a b => strLe a b ∧ ¬ strLe b a := by
  unfold kinds7 strLe
  decide
def blocks (c : List Nat → Nat) : List (List Nat) → List (List Nat)
  | [] => []
  | w :: r => List.replicate (c w) w ++ blocks c r
def tallyL (c : List Nat → Nat) : List (List Nat) → List (List Nat)
  | [] => []
  | w :: r => match decide (0 < c w) with
    | true => (w ++ 58 :: dgs (c w)) :: tallyL c r
    | false => tallyL c r
theorem blocks_mem {c : List Nat → Nat} : ∀ {W : List (List Nat)} {x : List Nat}, x ∈ blocks c W → x ∈ W
  | [], x, h => absurd h List.not_mem_nil
  | w :: r, x, h => by
    rcases List.mem_append.1 h with h | h
    · rw [(List.mem_replicate.1 h).2]; exact List.mem_cons_self
    · exact List.mem_cons_of_mem _ (blocks_mem h)
theorem blocks_count {c : List Nat → Nat} : ∀ {W : List (List Nat)}, W.Nodup → ∀ x, (blocks c W).count x = if x ∈ W then c x else 0
  | [], _, x => by simp [blocks]
  | w :: r, h, x => by
    rw [blocks, List.count_append, List.count_replicate, blocks_count (List.nodup_cons.1 h).2]
    have hw := (List.nodup_cons.1 h).1
    by_cases hx : w = x
    · subst hx
      simp [hw]
    · have : (w == x) = false := by simpa using hx
      rw [this]
      simp [Ne.symm hx]
theorem strLe_anti {a b : List Nat} (ha : Byt a) (hb : Byt b) (h : strLe a b) (k : strLe b a) : a = b := map_inj ha hb (List.le_antisymm h k)
theorem blocks_sorted {c : List Nat → Nat} : ∀ {W : List (List Nat)}, W.Pairwise (fun a b => strLe a b ∧ ¬ strLe b a) → (blocks c W).Pairwise strLe
  | [], _ => .nil
  | w :: r, h => by
    obtain ⟨h1, h2⟩ := List.pairwise_cons.1 h
    refine List.pairwise_append.2 ⟨?_, blocks_sorted h2, fun x hx y hy => ?_⟩
    · refine List.pairwise_replicate.2 (.inr ?_)
      unfold strLe
      exact List.le_refl _
    · rw [(List.mem_replicate.1 hx).2]
      exact (h1 y (blocks_mem hy)).1
theorem sorted_same {p : List Nat → List Nat → Prop} (anti : ∀ a b, Byt a → Byt b → p a b → p b a → a = b) : ∀ {A B : List (List Nat)}, (∀ x, x ∈ A → Byt x) → A.Perm B → A.Pairwise p → B.Pairwise p → A = B
  | [], B, _, h, _, _ => (List.nil_perm.1 h).symm ▸ rfl
  | a :: A, [], _, h, _, _ => absurd h.symm (by simp)
  | a :: A, b :: B, hb, h, hA, hB => by
    obtain ⟨a1, a2⟩ := List.pairwise_cons.1 hA
    obtain ⟨b1, b2⟩ := List.pairwise_cons.1 hB
    have e : a = b := by
      have m1 : a ∈ b :: B := h.mem_iff.1 List.mem_cons_self
      have m2 : b ∈ a :: A := h.mem_iff.2 List.mem_cons_self
      rcases List.mem_cons.1 m1 with h1 | h1
      · exact h1
      rcases List.mem_cons.1 m2 with h2 | h2
      · exact h2.symm
      exact anti a b (hb a List.mem_cons_self) (hb b (List.mem_cons_of_mem _ h2)) (a1 b h2) (b1 a h1)
    subst e
    rw [sorted_same anti (fun x hx => hb x (List.mem_cons_of_mem _ hx)) (List.Perm.cons_inv h) a2 b2]
theorem sorted_blocks {M M' : List (List Nat)} (hp : M'.Perm M) (hs : M'.Pairwise strLe) (hm : ∀ x, x ∈ M → x ∈ kinds7) : M' = blocks (fun w => M.count w) kinds7 := by
  have hb : ∀ x, x ∈ kinds7 → Byt x := by
    intro x hx
    unfold kinds7 at hx
    simp only [List.mem_cons, List.not_mem_nil, or_false] at hx
    rcases hx with rfl | rfl | rfl | rfl | rfl | rfl | rfl <;> exact byt_of rfl
  refine sorted_same (fun a b h1 h2 h3 h4 => strLe_anti h1 h2 h3 h4) (fun x hx => hb x (hm x (hp.mem_iff.1 hx))) (hp.trans ?_) hs (blocks_sorted kinds7_sorted)
  refine List.perm_iff_count.2 fun x => ?_
  rw [blocks_count (by decide)]
  split
  · rfl
  · rename_i h
    exact List.count_eq_zero.2 fun hx => h (hm x hx)
end Go.Proofs.YtgodclgcfpmloaaGreatDoor.V
namespace Go.Proofs.YtgodclgcfpmloaaGreatDoor.V
open Go.RowKit
attribute [local irreducible] Fn FnN FnR OpVC DLe

abbrev rowsS (L : List Snt) : D := .rows Snt 2 sntD L
def sntsOk (L : List Snt) : Prop := ∀ x, x ∈ L → Byt x.frame ∧ x.frame.length ≤ 100000
def kindsOf (L : List Snt) : List (List Nat) := L.map fun x => kindFr x.frame
def tallyT (L : List Snt) : List Nat := joinN [32] (tallyL (fun w => (kindsOf L).count w) kinds7)
theorem word_len : ∀ w, w ∈ kinds7 → Byt w ∧ w.length ≤ 4 := by
  intro w hw
  unfold kinds7 at hw
  simp only [List.mem_cons, List.not_mem_nil, or_false] at hw
  rcases hw with rfl | rfl | rfl | rfl | rfl | rfl | rfl <;> exact ⟨byt_of rfl, by decide⟩
theorem tallyL_ok {c : List Nat → Nat} (hc : ∀ w, c w < 4294967296) : ∀ {W : List (List Nat)}, (∀ w, w ∈ W → Byt w ∧ w.length ≤ 4) → ∀ x, x ∈ tallyL c W → Byt x ∧ x.length ≤ 15
  | [], _, x, hx => absurd hx List.not_mem_nil
  | w :: r, hW, x, hx => by
    unfold tallyL at hx
    have ih := tallyL_ok hc (W := r) (fun w hw => hW w (List.mem_cons_of_mem _ hw)) x
    split at hx
    · rcases List.mem_cons.1 hx with rfl | hx
      · have h1 := hW w List.mem_cons_self
        have h2 := hc w
        have h3 := dgs_len 9 (c w) (by omega)
        exact ⟨h1.1.append (.cons (by decide) (dgs_byt _)), by rw [List.length_append, List.length_cons]; omega⟩
      · exact ih hx
    · exact ih hx
theorem tallyL_len {c : List Nat → Nat} : ∀ {W : List (List Nat)}, (tallyL c W).length ≤ W.length
  | [] => Nat.le_refl _
  | w :: r => by
    have := tallyL_len (c := c) (W := r)
    unfold tallyL
    split <;> simp only [List.length_cons] <;> omega
def TalAt (c : List Nat → Nat) (g : List (List Nat) × List (List Nat)) : Prop := g.2 ++ tallyL c g.1 = tallyL c kinds7 ∧ g.1.Nodup ∧ (∀ x, x ∈ g.1 → x ∈ kinds7) ∧ (blocks c g.1).length ≤ 20
theorem tally_pos {c : List Nat → Nat} {w : List Nat} {r : List (List Nat)} (h : 0 < c w) : tallyL c (w :: r) = (w ++ 58 :: dgs (c w)) :: tallyL c r := by
  show (match decide (0 < c w) with | true => _ | false => _) = _
  rw [decide_eq_true h]
theorem tally_neg {c : List Nat → Nat} {w : List Nat} {r : List (List Nat)} (h : ¬ 0 < c w) : tallyL c (w :: r) = tallyL c r := by
  show (match decide (0 < c w) with | true => _ | false => _) = _
  rw [decide_eq_false h]
theorem TalAt.none {c : List Nat → Nat} : ∀ {r : List (List Nat)}, blocks c r = [] → tallyL c r = []
  | [], _ => rfl
  | w :: r, h => by
    obtain ⟨h1, h2⟩ := List.append_eq_nil_iff.1 h
    have h3 : c w = 0 := by simpa using congrArg List.length h1
    rw [tally_neg (by omega)]
    exact TalAt.none h2
theorem TalAt.step {c : List Nat → Nat} {o : List (List Nat)} : ∀ {r : List (List Nat)}, TalAt c (r, o) → 0 < (blocks c r).length → ∃ w r', TalAt c (r', o ++ [w ++ 58 :: dgs (c w)]) ∧ blocks c r = List.replicate (c w) w ++ blocks c r' ∧ 0 < c w ∧ w ∈ kinds7 ∧ w ∉ blocks c r' ∧ (∀ x, x ∈ blocks c r' → x ∈ kinds7) ∧ r'.length < r.length
  | [], _, h => absurd h (Nat.lt_irrefl 0)
  | w :: r, ⟨h1, h2, h3, h4⟩, h => by
    dsimp only at h1 h2 h3 h4
    obtain ⟨h5, h6⟩ := List.nodup_cons.1 h2
    have h7 : ∀ x, x ∈ r → x ∈ kinds7 := fun x hx => h3 x (List.mem_cons_of_mem _ hx)
    have h4' : (List.replicate (c w) w ++ blocks c r).length ≤ 20 := h4
    rw [List.length_append, List.length_replicate] at h4'
    by_cases hc : 0 < c w
    · rw [tally_pos hc] at h1
      exact ⟨w, r, ⟨by rw [← h1]; simp, h6, h7, by show (blocks c r).length ≤ 20; omega⟩, rfl, hc, h3 w List.mem_cons_self, fun h => h5 (blocks_mem h), fun x hx => h7 x (blocks_mem hx), Nat.lt_succ_self _⟩
    · rw [tally_neg hc] at h1
      have hc : c w = 0 := by omega
      have hb : blocks c (w :: r) = blocks c r := by
        show List.replicate (c w) w ++ blocks c r = _
        rw [hc]; rfl
      obtain ⟨w', r', g1, g2, g3, g4, g5, g6, g7⟩ := TalAt.step (r := r) ⟨h1, h6, h7, by show (blocks c r).length ≤ 20; omega⟩ (by rw [← hb]; exact h)
      exact ⟨w', r', g1, by rw [hb]; exact g2, g3, g4, g5, g6, Nat.lt_succ_of_lt g7⟩
theorem wordsR_fn (L : List (List Nat)) (hL : ∀ x, x ∈ L → Byt x) (h1 : L.length ≤ 1000) (h2 : (joinN [32] L).length ≤ 1000000) : Fn Tryz.prog 14 [rowsT L] fun d => d = strD (joinN [32] L) := by
  have hj := join_c L [32] hL (.cons (by decide) .nil) h1 h2
  refine fnOf [] Tryz.func14 rfl (by kernel_rfl) (Nat.le_of_ble_eq_true rfl) ?_
  conv => whnf
  refine CallVC.look hj rfl ?_
  rintro _ rfl
  conv => whnf
set_option maxHeartbeats 8000000 in
theorem tally_fn (L : List Snt) (hL : sntsOk L) (hl : L.length ≤ 20) : Fn Tryz.prog 7 [rowsS L] fun d => d = strD (tallyT L) := by
  refine fnOf [] Tryz.func7 rfl (by kernel_rfl) (Nat.le_of_ble_eq_true rfl) ?_
  have hkind : ∀ x, x ∈ L → Fn Tryz.prog 11 [.agg (sntD x)] fun d => d = strD (kindFr x.frame) := fun x hx => kindT_fn x (hL x hx).1 (hL x hx).2
  have hkl : (kindsOf L).length = L.length := List.length_map _
  conv => whnf
  refine ⟨Nat, fun k => ⟨[(10, intD k), (9, intD L.length), (8, rowsS L), (3, .grow 0)], [(0, .grow (List Nat) 9 1 strE ((kindsOf L).take k))], 1, ([], 0)⟩, fun k => k ≤ L.length, fun k => L.length - k, ⟨0, [], [0], ?_, Nat.zero_le _⟩, ?_⟩
  · repeat' (first | exact trivial | exact .inl (DLe.refl _) | exact .inl (DLe.nil _ _) | (refine .inr ⟨rfl, _, ?_, rfl⟩; rfl) | exact rfl | exact .inl rfl | exact .inr ⟨rfl, rfl, rfl, rfl⟩ | exact Nat.zero_le _ | constructor)
  intro k hk
  replace hk : k ≤ L.length := hk
  have e0 := wrapN (n := k) (by omega)
  conv => whnf
  refine Fork.intro (fun q => ?_) (fun q => ?_)
  · have q : k < L.length := by have := of_decide_eq_true q; omega
    obtain ⟨x, hx⟩ : ∃ x, L[k]? = some x := ⟨_, List.getElem?_eq_getElem q⟩
    have hk1 := hkind x (List.mem_of_getElem? hx)
    have ht : (kindsOf L).take (k + 1) = (kindsOf L).take k ++ [kindFr x.frame] := by
      rw [List.take_add_one]
      congr 1
      unfold kindsOf
      rw [List.getElem?_map, hx]; rfl
    have hk2 : ((kindsOf L).take (k + 1)).length ≤ 20 := by rw [List.length_take]; omega
    conv => whnf
    refine ⟨rfl, ⟨by omega, by omega⟩, fun y hy => ?_⟩
    obtain rfl : x = y := Option.some.inj (hx.symm.trans hy)
    conv => whnf
    (refine CallVC.pure (hk1) rfl ?_; rintro _ rfl; conv => whnf)
    (refine ⟨Nat.le_of_ble_eq_true rfl, ?_⟩; conv => whnf)
    refine ⟨List Nat, strE, (kindsOf L).take (k + 1), by rw [ht, List.map_append]; rfl, fun _ => rfl, by omega, (by show _ * 16 ≤ _; omega), rfl, ?_⟩
    conv => whnf
    rw [e0]
    refine ⟨k + 1, [(0, 2)], [], ?_, by show k + 1 ≤ L.length; omega, by show L.length - (k + 1) < L.length - k; omega⟩
    repeat' (first | exact trivial | exact .inl (DLe.refl _) | exact .inl (DLe.nil _ _) | (refine .inr ⟨rfl, _, ?_, rfl⟩; rfl) | exact rfl | exact .inl rfl | exact .inr ⟨rfl, rfl, rfl, rfl⟩ | exact Nat.zero_le _ | constructor)
  · have q : k = L.length := by have := of_decide_eq_false q; omega
    subst q
    rw [List.take_of_length_le (by omega)]
    have hmem : ∀ x, x ∈ kindsOf L → x ∈ kinds7 := fun x hx => by
      obtain ⟨y, _, rfl⟩ := List.mem_map.1 hx
      exact kindFr_mem _
    have hbyt : ∀ x, x ∈ kindsOf L → Byt x := fun x hx => (word_len x (hmem x hx)).1
    unfold tallyT
    generalize kindsOf L = M at *
    conv => whnf
    refine sortS_any sortSL ⟨_, Tryz.func12, rfl⟩ (j := 3) rfl rfl hbyt (by omega) ?_
    intro M' hp hs
    have hM' := sorted_blocks hp hs hmem
    have hlen := hp.length_eq
    generalize hc : (fun w => M.count w) = c at *
    have hcb : ∀ w, c w ≤ 20 := fun w => by
      rw [← hc]
      have := List.count_le_length (a := w) (l := M)
      show M.count w ≤ 20
      omega
    subst hM'
    conv => whnf
    refine ⟨List (List Nat) × List (List Nat), fun g => ⟨[(6, .grow 1), (3, .rows (List Nat) 1 strE (blocks c g.1))], [(1, .grow (List Nat) 9 1 strE g.2)], 2, ([], 0)⟩, TalAt c, fun g => g.1.length, ⟨(kinds7, []), [], [1], ?_, ⟨rfl, by decide, fun x hx => hx, by show (blocks c kinds7).length ≤ 20; omega⟩⟩, ?_⟩
    · repeat' (first | exact trivial | exact .inl (DLe.refl _) | exact .inl (DLe.nil _ _) | (refine .inr ⟨rfl, _, ?_, rfl⟩; rfl) | exact rfl | exact .inl rfl | exact .inr ⟨rfl, rfl, rfl, rfl⟩ | exact Nat.zero_le _ | constructor)
    rintro ⟨r, o⟩ hg
    have hol : o.length ≤ 7 := by
      have h1 := congrArg List.length hg.1
      have h2 := tallyL_len (c := c) (W := kinds7)
      rw [List.length_append] at h1
      have h3 : kinds7.length = 7 := rfl
      dsimp only at h1
      omega
    have hmax := hg.2.2.2
    dsimp only at hmax ⊢
    have hrun : 0 < (blocks c r).length → _ := TalAt.step hg
    have hstop : blocks c r = [] → _ := TalAt.none
    generalize hK : blocks c r = K at *
    conv => whnf
    refine Fork.intro (fun q => ?_) (fun q => ?_)
    · have q : 0 < K.length := by have := of_decide_eq_true q; omega
      obtain ⟨w, r', h1, h2, h3, h4, h5, h6, h7⟩ := hrun q
      have hw := word_len w h4
      have hcw := hcb w
      have hKl : K.length = c w + (blocks c r').length := by rw [h2, List.length_append, List.length_replicate]
      have hK0 : ∀ i, i < c w → K[i]? = some w := fun i hi => by
        rw [h2, List.getElem?_append_left (by rw [List.length_replicate]; exact hi), List.getElem?_replicate_of_lt hi]
      have hK1 : ∀ i x, K[i]? = some x → Byt x ∧ x.length ≤ 4 ∧ (c w ≤ i → x ≠ w) := fun i x hx => by
        rw [h2] at hx
        rcases Nat.lt_or_ge i (c w) with hi | hi
        · rw [List.getElem?_append_left (by rw [List.length_replicate]; exact hi), List.getElem?_replicate_of_lt hi] at hx
          injection hx with hx
          subst hx
          exact ⟨hw.1, hw.2, fun h => absurd hi (by omega)⟩
        · rw [List.getElem?_append_right (by rw [List.length_replicate]; exact hi)] at hx
          have hm := List.mem_of_getElem? hx
          have := word_len x (h6 x hm)
          exact ⟨this.1, this.2, fun _ e => h5 (e ▸ hm)⟩
      have hdig := digitsT_fn (c w) (by omega)
      have hdl := dgs_len 9 (c w) (by omega)
      have hol2 : (o ++ [w ++ 58 :: dgs (c w)]).length ≤ 8 := by rw [List.length_append]; show _ + 1 ≤ _; omega
      have hdrop : K.drop (c w) = blocks c r' := by rw [h2, List.drop_left' List.length_replicate]
      conv => whnf
      refine ⟨Nat, fun n => ⟨[(7, intD n), (6, .grow 1), (3, .rows (List Nat) 1 strE K)], [(1, .grow (List Nat) 9 1 strE o)], 2, ([], 0)⟩, fun n => 1 ≤ n ∧ n ≤ c w, fun n => c w - n, ⟨1, [], [], ?_, ⟨Nat.le_refl _, h3⟩⟩, ?_⟩
      · repeat' (first | exact trivial | exact .inl (DLe.refl _) | exact .inl (DLe.nil _ _) | (refine .inr ⟨rfl, _, ?_, rfl⟩; rfl) | exact rfl | exact .inl rfl | exact .inr ⟨rfl, rfl, rfl, rfl⟩ | exact Nat.zero_le _ | constructor)
      intro n ⟨hn1, hn2⟩
      have e1 : IntKind.i64.wrap ((n : Int) + 1) = ((n + 1 : Nat) : Int) := wrapN (n := n) (by omega)
      conv => whnf
      refine Fork.intro (fun q => ?_) (fun q => ?_)
      · have q : n < K.length := by have := of_decide_eq_true q; omega
        conv => whnf
        refine ⟨rfl, ⟨by omega, by omega⟩, fun y hy => ?_⟩
        obtain ⟨y1, y2, y3⟩ := hK1 n y hy
        conv => whnf
        refine ⟨rfl, ⟨by omega, by omega⟩, fun z hz => ?_⟩
        obtain rfl : w = z := Option.some.inj ((hK0 0 h3).symm.trans hz)
        conv => whnf
        rw [strB_beq y1 hw.1]
        refine Fork.intro (fun q2 => ?_) (fun q2 => ?_)
        · have q2 : y = w := of_decide_eq_true q2
          conv => whnf
          rw [e1]
          refine ⟨n + 1, [], [], ?_, ⟨by omega, ?_⟩, ?_⟩
          · repeat' (first | exact trivial | exact .inl (DLe.refl _) | exact .inl (DLe.nil _ _) | (refine .inr ⟨rfl, _, ?_, rfl⟩; rfl) | exact rfl | exact .inl rfl | exact .inr ⟨rfl, rfl, rfl, rfl⟩ | exact Nat.zero_le _ | constructor)
          · rcases Nat.lt_or_eq_of_le hn2 with h | h
            · omega
            · exact absurd q2 (y3 (by omega))
          · rcases Nat.lt_or_eq_of_le hn2 with h | h
            · show c w - (n + 1) < c w - n; omega
            · exact absurd q2 (y3 (by omega))
        · have q2 : ¬ y = w := of_decide_eq_false q2
          have hn : n = c w := by
            rcases Nat.lt_or_eq_of_le hn2 with h | h
            · exact absurd (Option.some.inj (hy.symm.trans (hK0 n h))) q2
            · exact h
          subst hn
          conv => whnf
          refine ⟨rfl, ⟨by omega, by omega⟩, fun z hz => ?_⟩
          obtain rfl : w = z := Option.some.inj ((hK0 0 h3).symm.trans hz)
          conv => whnf
          refine ⟨str_le (a := w) (b := [58]) (by show w.length + 1 ≤ _; omega), ?_⟩
          rw [show strB w ++ (⟨#[58]⟩ : ByteArray) = strB (w ++ [58]) from strB_append w [58]]
          conv => whnf
          rw [u32_small (n := ((c w : Nat) : Int)) (by omega)]
          (refine CallVC.pure (hdig) rfl ?_; rintro _ rfl; conv => whnf)
          refine ⟨str_le (a := w ++ [58]) (by rw [List.length_append]; show w.length + 1 + _ ≤ _; omega), ?_⟩
          rw [strB_append, show (w ++ [58]) ++ dgs (c w) = w ++ 58 :: dgs (c w) by simp]
          (refine ⟨Nat.le_of_ble_eq_true rfl, ?_⟩; conv => whnf)
          refine ⟨List Nat, strE, o ++ [w ++ 58 :: dgs (c w)], by rw [List.map_append]; rfl, fun _ => rfl, by omega, (by show _ * 16 ≤ _; omega), rfl, ?_⟩
          conv => whnf
          refine ⟨rfl, ⟨by omega, by omega, by omega⟩, ?_⟩
          rw [show (K.take (Int.toNat (K.length : Int))).drop (Int.toNat ((c w : Nat) : Int)) = blocks c r' by rw [show Int.toNat (K.length : Int) = K.length from rfl, show Int.toNat ((c w : Nat) : Int) = c w from rfl, List.take_length]; exact hdrop]
          conv => whnf
          refine ⟨(r', o ++ [w ++ 58 :: dgs (c w)]), [(1, 2)], [], ?_, h1, h7⟩
          repeat' (first | exact trivial | exact .inl (DLe.refl _) | exact .inl (DLe.nil _ _) | (refine .inr ⟨rfl, _, ?_, rfl⟩; rfl) | exact rfl | exact .inl rfl | exact .inr ⟨rfl, rfl, rfl, rfl⟩ | exact Nat.zero_le _ | constructor)
      · have hn : n = c w := by have := of_decide_eq_false q; omega
        subst hn
        conv => whnf
        refine ⟨rfl, ⟨by omega, by omega⟩, fun z hz => ?_⟩
        obtain rfl : w = z := Option.some.inj ((hK0 0 h3).symm.trans hz)
        conv => whnf
        refine ⟨str_le (a := w) (b := [58]) (by show w.length + 1 ≤ _; omega), ?_⟩
        rw [show strB w ++ (⟨#[58]⟩ : ByteArray) = strB (w ++ [58]) from strB_append w [58]]
        conv => whnf
        rw [u32_small (n := ((c w : Nat) : Int)) (by omega)]
        (refine CallVC.pure (hdig) rfl ?_; rintro _ rfl; conv => whnf)
        refine ⟨str_le (a := w ++ [58]) (by rw [List.length_append]; show w.length + 1 + _ ≤ _; omega), ?_⟩
        rw [strB_append, show (w ++ [58]) ++ dgs (c w) = w ++ 58 :: dgs (c w) by simp]
        (refine ⟨Nat.le_of_ble_eq_true rfl, ?_⟩; conv => whnf)
        refine ⟨List Nat, strE, o ++ [w ++ 58 :: dgs (c w)], by rw [List.map_append]; rfl, fun _ => rfl, by omega, (by show _ * 16 ≤ _; omega), rfl, ?_⟩
        conv => whnf
        refine ⟨rfl, ⟨by omega, by omega, by omega⟩, ?_⟩
        rw [show (K.take (Int.toNat (K.length : Int))).drop (Int.toNat ((c w : Nat) : Int)) = blocks c r' by rw [show Int.toNat (K.length : Int) = K.length from rfl, show Int.toNat ((c w : Nat) : Int) = c w from rfl, List.take_length]; exact hdrop]
        conv => whnf
        refine ⟨(r', o ++ [w ++ 58 :: dgs (c w)]), [(1, 2)], [], ?_, h1, h7⟩
        repeat' (first | exact trivial | exact .inl (DLe.refl _) | exact .inl (DLe.nil _ _) | (refine .inr ⟨rfl, _, ?_, rfl⟩; rfl) | exact rfl | exact .inl rfl | exact .inr ⟨rfl, rfl, rfl, rfl⟩ | exact Nat.zero_le _ | constructor)
    · have q : K.length = 0 := by have := of_decide_eq_false q; omega
      have ho : o = tallyL c kinds7 := by
        rw [← hg.1, hstop (List.length_eq_zero_iff.1 q), List.append_nil]
      subst ho
      have hto := tallyL_ok (c := c) (fun w => by have := hcb w; omega) word_len
      have hj : (joinN [32] (tallyL c kinds7)).length ≤ 1000000 := by
        have h9 := join_lenM 15 (tallyL c kinds7) fun x hx => (hto x hx).2
        omega
      have hwd := wordsR_fn (tallyL c kinds7) (fun x hx => (hto x hx).1) (by omega) hj
      conv => whnf
      refine CallVC.look (FnN.of_flat hwd fun d hd => by subst hd; rfl) rfl ?_
      rintro _ rfl
      conv => whnf
end Go.Proofs.YtgodclgcfpmloaaGreatDoor.V
