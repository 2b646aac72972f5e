/-
  The plain law of a track: what its slots, its row, its free places, its alarms have in common, deed by deed. No condition.
-/
import Derived.Test.YtcbpdjikdohegaaGreatK15
import Derived.Test.YtcbpdjikdohegaaGreatK5
namespace Go.Proofs.YtcbpdjikdohegaaGreat.V

def bAt (B : List En) (i : Int) : En := (B[i.toNat]?).getD en0
theorem bAt_get {B : List En} {i : Int} (h0 : 0 ≤ i) (h1 : i < B.length) : B[i.toNat]? = some (bAt B i) := by
  unfold bAt
  rw [List.getElem?_eq_getElem (by omega)]; rfl
theorem bAt_same {B : List En} {i : Int} (e : En) (h0 : 0 ≤ i) (h1 : i < B.length) : bAt (B.set i.toNat e) i = e := by
  unfold bAt
  rw [List.getElem?_set, if_pos rfl, if_pos (by omega)]; rfl
theorem bAt_ne {B : List En} {i j : Int} (e : En) (h0 : 0 ≤ i) (hj : 0 ≤ j) (h : j ≠ i) : bAt (B.set i.toNat e) j = bAt B j := by
  unfold bAt
  rw [List.getElem?_set, if_neg (by omega)]

structure TInv (lo hi : Int) (N : Nat) (L : List Sl) (n : Nat) (B : List En) (Fr : List Int) (now : Int) (W : List Al) (S0 S : List En) : Prop where
  rel : SRel lo hi N L n S0
  len : B.length = N
  all : S = S0.map fun x => bAt B x.at_
  num : (S0.map (·.at_) ++ Fr).Perm ((List.range N).map Int.ofNat)
  own : ∀ x, x ∈ S0 → (bAt B x.at_).f = x.f
  al : W.Perm (S0.map fun x => ⟨x.at_, (bAt B x.at_).at_⟩)
  lim : ∀ x, x ∈ S → now < x.at_ ∧ x.at_ ≤ now + 4095

section
variable {lo hi : Int} {N : Nat} {L : List Sl} {n : Nat} {B : List En} {Fr : List Int} {now : Int} {W : List Al} {S0 S : List En}

theorem TInv.num_in (h : TInv lo hi N L n B Fr now W S0 S) {i : Int} (hi : i ∈ S0.map (·.at_) ++ Fr) : 0 ≤ i ∧ i < N := by
  obtain ⟨j, hj, rfl⟩ := List.mem_map.1 (h.num.mem_iff.1 hi)
  have := List.mem_range.1 hj
  exact ⟨Int.natCast_nonneg _, Int.ofNat_lt.2 this⟩
theorem TInv.at_in (h : TInv lo hi N L n B Fr now W S0 S) {x : En} (hx : x ∈ S0) : 0 ≤ x.at_ ∧ x.at_ < N := h.num_in (List.mem_append_left _ (List.mem_map.2 ⟨x, hx, rfl⟩))
theorem TInv.nodup (h : TInv lo hi N L n B Fr now W S0 S) : (S0.map (·.at_) ++ Fr).Nodup := by
  refine h.num.nodup_iff.2 ?_
  refine List.Pairwise.map _ (fun a b hab => ?_) (List.nodup_range (n := N))
  intro e
  exact hab (Int.ofNat.inj e)
theorem TInv.inj (h : TInv lo hi N L n B Fr now W S0 S) {a b : Nat} {x y : En} (ha : S0[a]? = some x) (hb : S0[b]? = some y) (he : x.at_ = y.at_) : a = b := by
  have h1 := (List.nodup_append.1 h.nodup).1
  have ha' : (S0.map (·.at_))[a]? = some x.at_ := by rw [List.getElem?_map, ha]; rfl
  have hb' : (S0.map (·.at_))[b]? = some x.at_ := by rw [List.getElem?_map, hb, he]; rfl
  obtain ⟨hal, hae⟩ := List.getElem?_eq_some_iff.1 ha'
  obtain ⟨hbl, hbe⟩ := List.getElem?_eq_some_iff.1 hb'
  rcases Nat.lt_trichotomy a b with hab | hab | hab
  · exact absurd (hae.trans hbe.symm) (List.pairwise_iff_getElem.1 h1 a b hal hbl hab)
  · exact hab
  · exact absurd (hbe.trans hae.symm) (List.pairwise_iff_getElem.1 h1 b a hbl hal hab)
theorem TInv.free_len (h : TInv lo hi N L n B Fr now W S0 S) : S0.length + Fr.length = N ∧ S.length = S0.length ∧ n = S0.length ∧ N ≤ 256 ∧ L.length = N ∧ W.length = S0.length := by
  have h1 := h.num.length_eq
  rw [List.length_append, List.length_map, List.length_map, List.length_range] at h1
  have h2 := congrArg List.length h.all
  rw [List.length_map] at h2
  have h3 := h.rel.size
  have h4 := h.rel.ok.le
  have h5 := h.rel.len
  have h6 := h.al.length_eq
  rw [List.length_map] at h6
  omega

theorem find_map {g : En → En} {f : Fl} : ∀ {S : List En}, (∀ x, x ∈ S → (g x).f = x.f) → (S.map g).findIdx? (isFl f) = S.findIdx? (isFl f)
  | [], _ => rfl
  | x :: r, h => by
    rw [List.map_cons, List.findIdx?_cons, List.findIdx?_cons, find_map fun y hy => h y (.tail _ hy)]
    unfold isFl
    rw [h x (.head _)]
theorem TInv.find (h : TInv lo hi N L n B Fr now W S0 S) (f : Fl) : S.findIdx? (isFl f) = S0.findIdx? (isFl f) := by rw [h.all]; exact find_map h.own
theorem TInv.find_not (h : TInv lo hi N L n B Fr now W S0 S) {f : Fl} {p m : Nat} (hq : fnd L f (homeN lo hi L.length f) L.length 0 = (p, m, false)) : S.findIdx? (isFl f) = none := (h.find f).trans (h.rel.find_not hq)
theorem TInv.find_is (h : TInv lo hi N L n B Fr now W S0 S) {f : Fl} {p m : Nat} (hq : fnd L f (homeN lo hi L.length f) L.length 0 = (p, m, true)) :
    ∃ k, S.findIdx? (isFl f) = some k ∧ S0[k]? = some (enS (at_ L p)) ∧ S[k]? = some (bAt B (at_ L p).v) ∧ (at_ L p).f = f ∧ 0 ≤ (at_ L p).v ∧ (at_ L p).v < N := by
  obtain ⟨k, h1, h2⟩ := h.rel.find_is hq
  have h3 := h.at_in (List.mem_of_getElem? h2)
  exact ⟨k, (h.find f).trans h1, h2, by rw [h.all, List.getElem?_map, h2]; rfl, (V.find_is h.rel.ok.ok.pos hq).2.2, h3⟩

theorem TInv.flok (h : TInv lo hi N L n B Fr now W S0 S) : ∀ x, x ∈ S → FlOk x.f := fun x hx => by
  rw [h.all] at hx
  obtain ⟨y, hy, rfl⟩ := List.mem_map.1 hx
  rw [h.own y hy]
  exact h.rel.flok y hy
theorem TInv.so (h : TInv lo hi N L n B Fr now W S0 S) : S.Pairwise fun x y => flK x.f < flK y.f := by
  rw [h.all]
  refine List.pairwise_map.2 ?_
  refine List.Pairwise.imp_of_mem (fun {a b} ha hb hab => ?_) h.rel.so
  rw [h.own a ha, h.own b hb]
  exact hab

/-! ### Where a flow's entry goes -/
def jOf (f : Fl) (S : List En) : Nat := (S.takeWhile fun x => !decide (flK f < flK x.f)).length
theorem jOf_at (f : Fl) : ∀ S : List En, InsAt f S (jOf f S)
  | [] => ⟨Nat.le_refl _, fun m u h => absurd h (Nat.not_lt_zero _), fun u h => by cases h⟩
  | x :: r => by
    have ih := jOf_at f r
    unfold jOf at *
    cases h : decide (flK f < flK x.f) with
    | true =>
      rw [List.takeWhile_cons_of_neg (by simp [h])]
      refine ⟨Nat.zero_le _, fun m u hm => absurd hm (Nat.not_lt_zero _), fun u hu => ?_⟩
      injection hu with hu; subst hu
      exact of_decide_eq_true h
    | false =>
      rw [List.takeWhile_cons_of_pos (by simp [h]), List.length_cons]
      refine ⟨by have := ih.le; simp only [List.length_cons]; omega, fun m u hm hu => ?_, fun u hu => ih.hi u (by simpa using hu)⟩
      cases m with
      | zero => injection hu with hu; subst hu; exact of_decide_eq_false h
      | succ m => exact ih.lo m u (by omega) (by simpa using hu)
theorem InsAt.uniq {f : Fl} {S : List En} {i j : Nat} (h : InsAt f S i) (k : InsAt f S j) : i = j := by
  have key : ∀ {a b : Nat}, InsAt f S a → InsAt f S b → ¬ a < b := fun {a b} ha hb hab => by
    have hal : a < S.length := Nat.lt_of_lt_of_le hab hb.le
    have hu : S[a]? = some S[a] := List.getElem?_eq_getElem hal
    exact hb.lo a _ hab hu (ha.hi _ hu)
  have := key h k
  have := key k h
  omega
theorem jOf_map {g : En → En} {f : Fl} : ∀ {S : List En}, (∀ x, x ∈ S → (g x).f = x.f) → jOf f (S.map g) = jOf f S
  | [], _ => rfl
  | x :: r, h => by
    have ih := jOf_map (f := f) (S := r) fun y hy => h y (.tail _ hy)
    unfold jOf at *
    rw [List.map_cons, List.takeWhile_cons, List.takeWhile_cons, h x (.head _)]
    split
    · rw [List.length_cons, List.length_cons, ih]
    · rfl

/-! ### Deeds -/
theorem TInv.add {i : Int} (h : TInv lo hi N L n B (i :: Fr) now W S0 S) {p m : Nat} (e : En) (hf : FlOk e.f) (hq : fnd L e.f (homeN lo hi L.length e.f) L.length 0 = (p, m, false)) (he : now < e.at_ ∧ e.at_ ≤ now + 4095) {W' : List Al} (hW : W'.Perm (⟨i, e.at_⟩ :: W)) :
    TInv lo hi N (L.set p ⟨e.f, i, true⟩) (n + 1) (B.set i.toNat e) Fr now W' (S0.take (jOf e.f S0) ++ enP e.f i :: S0.drop (jOf e.f S0)) (S.take (jOf e.f S) ++ e :: S.drop (jOf e.f S)) := by
  obtain ⟨l1, l2, l3, l4, l5, l6⟩ := h.free_len
  have hi := h.num_in (List.mem_append_right _ (.head _ : i ∈ i :: Fr))
  have hj : jOf e.f S = jOf e.f S0 := by rw [h.all]; exact jOf_map h.own
  have hnot : ∀ x, x ∈ S0 → x.at_ ≠ i := fun x hx e => by
    have := (List.nodup_append.1 h.nodup).2.2 x.at_ (List.mem_map.2 ⟨x, hx, rfl⟩) i (.head _)
    exact this e
  rw [List.length_cons] at l1
  have hB : ∀ x, x ∈ S0 → bAt (B.set i.toNat e) x.at_ = bAt B x.at_ := fun x hx => bAt_ne e hi.1 (h.at_in hx).1 (hnot x hx)
  have hBi : bAt (B.set i.toNat e) (enP e.f i).at_ = e := bAt_same e hi.1 (by rw [h.len]; exact hi.2)
  have hmem : ∀ x, x ∈ S0.take (jOf e.f S0) ++ enP e.f i :: S0.drop (jOf e.f S0) → x = enP e.f i ∨ x ∈ S0 := fun x hx => by
    rcases List.mem_append.1 hx with hx | hx
    · exact .inr (List.mem_of_mem_take hx)
    · rcases List.mem_cons.1 hx with hx | hx
      · exact .inl hx
      · exact .inr (List.mem_of_mem_drop hx)
  have hmap : ∀ {α : Type} (g : En → α) (g' : En → α) (a : α), (∀ x, x ∈ S0 → g' x = g x) → g' (enP e.f i) = a → ∀ j, (S0.take j ++ enP e.f i :: S0.drop j).map g' = (S0.map g).take j ++ a :: (S0.map g).drop j := fun g g' a h1 h2 j => by
    rw [List.map_append, List.map_cons, h2, List.map_congr_left (g := g) fun x hx => h1 x (List.mem_of_mem_take hx), List.map_congr_left (l := S0.drop j) (g := g) fun x hx => h1 x (List.mem_of_mem_drop hx), List.map_take, List.map_drop]
  have hperm : ∀ {α : Type} (l : List α) (a : α) (j : Nat), (l.take j ++ a :: l.drop j).Perm (a :: l) := fun l a j => by
    have := List.perm_middle (a := a) (l₁ := l.take j) (l₂ := l.drop j)
    rwa [List.take_append_drop] at this
  refine ⟨h.rel.put hf hq (by omega) (jOf_at e.f S0), by rw [List.length_set]; exact h.len, ?_, ?_, fun x hx => ?_, ?_, fun x hx => ?_⟩
  · rw [hj, hmap (fun x => bAt B x.at_) _ e hB hBi, ← h.all]
  · have e1 := hmap (fun x => x.at_) (fun x => x.at_) i (fun _ _ => rfl) rfl (jOf e.f S0)
    rw [e1]
    refine ((hperm _ _ _).append_right Fr).trans (.trans ?_ h.num)
    exact List.perm_middle.symm
  · rcases hmem x hx with rfl | hx
    · rw [hBi]; rfl
    · rw [hB x hx]; exact h.own x hx
  · have e1 := hmap (fun x => (⟨x.at_, (bAt B x.at_).at_⟩ : Al)) (fun x => ⟨x.at_, (bAt (B.set i.toNat e) x.at_).at_⟩) ⟨i, e.at_⟩ (fun x hx => by rw [hB x hx]) (by rw [hBi]; rfl) (jOf e.f S0)
    rw [e1]
    exact hW.trans ((h.al.cons _).trans (hperm _ _ _).symm)
  · rcases List.mem_append.1 hx with hx | hx
    · exact h.lim x (List.mem_of_mem_take hx)
    · rcases List.mem_cons.1 hx with rfl | hx
      · exact he
      · exact h.lim x (List.mem_of_mem_drop hx)

theorem map_set {α β : Type} (g : α → β) : ∀ (l : List α) (k : Nat) (a : α), (l.set k a).map g = (l.map g).set k (g a)
  | [], _, _ => rfl
  | _ :: _, 0, _ => rfl
  | x :: r, k + 1, a => by simp [map_set g r k a]
theorem out_map {g g' : En → Al} {v : Int} (hg : ∀ x : En, (g x).id = x.at_) : ∀ {S : List En} {k : Nat} {x : En}, S[k]? = some x → x.at_ = v → (∀ (j : Nat) y, j ≠ k → S[j]? = some y → y.at_ ≠ v ∧ g' y = g y) → (outOf v (S.map g)).Perm ((S.eraseIdx k).map g) ∧ (S.map g').Perm (g' x :: (S.eraseIdx k).map g)
  | [], k, x, h, _, _ => by cases h
  | a :: r, 0, x, h, hv, hne => by
    obtain rfl : a = x := by simpa using h
    have h1 : outOf v (r.map g) = r.map g := List.filter_eq_self.2 fun y hy => by
      obtain ⟨z, hz, rfl⟩ := List.mem_map.1 hy
      obtain ⟨j, hj⟩ := List.mem_iff_getElem?.1 hz
      have := (hne (j + 1) z (by omega) (by simpa using hj)).1
      unfold isId; rw [hg]; simp [this]
    have h2 : r.map g' = r.map g := List.map_congr_left fun z hz => by
      obtain ⟨j, hj⟩ := List.mem_iff_getElem?.1 hz
      exact (hne (j + 1) z (by omega) (by simpa using hj)).2
    refine ⟨?_, ?_⟩
    · unfold outOf at *
      rw [List.map_cons, List.filter_cons_of_neg (by unfold isId; rw [hg]; simp [hv]), h1]
      exact .refl _
    · rw [List.map_cons, h2]; exact .refl _
  | a :: r, k + 1, x, h, hv, hne => by
    obtain ⟨i1, i2⟩ := out_map (g := g) (g' := g') hg (S := r) (k := k) (x := x) (by simpa using h) hv fun j y hj hy => hne (j + 1) y (by omega) (by simpa using hy)
    obtain ⟨h1, h2⟩ := hne 0 a (by omega) rfl
    refine ⟨?_, ?_⟩
    · unfold outOf at *
      rw [List.map_cons, List.filter_cons_of_pos (by unfold isId; rw [hg]; simp [h1]), List.eraseIdx_cons_succ, List.map_cons]
      exact i1.cons _
    · rw [List.map_cons, List.eraseIdx_cons_succ, List.map_cons, h2]
      exact (i2.cons _).trans (List.Perm.swap _ _ _)

theorem TInv.out (h : TInv lo hi N L n B Fr now W S0 S) {k : Nat} {x : En} (hx : S0[k]? = some x) (e : En) : (outOf x.at_ W).Perm ((S0.eraseIdx k).map fun x => ⟨x.at_, (bAt B x.at_).at_⟩) ∧ (S0.map fun y => (⟨y.at_, (bAt (B.set x.at_.toNat e) y.at_).at_⟩ : Al)).Perm (⟨x.at_, e.at_⟩ :: (S0.eraseIdx k).map fun x => ⟨x.at_, (bAt B x.at_).at_⟩) := by
  have hin := h.at_in (List.mem_of_getElem? hx)
  obtain ⟨h1, h2⟩ := out_map (g := fun x => (⟨x.at_, (bAt B x.at_).at_⟩ : Al)) (g' := fun y => ⟨y.at_, (bAt (B.set x.at_.toNat e) y.at_).at_⟩) (v := x.at_) (fun _ => rfl) hx rfl fun j y hj hy => by
    have hne : y.at_ ≠ x.at_ := fun e => hj (h.inj hy hx e)
    exact ⟨hne, by rw [bAt_ne e hin.1 (h.at_in (List.mem_of_getElem? hy)).1 hne]⟩
  rw [bAt_same e hin.1 (by rw [h.len]; exact hin.2)] at h2
  exact ⟨(h.al.filter _).trans h1, h2⟩

theorem TInv.keep (h : TInv lo hi N L n B Fr now W S0 S) {k : Nat} {x : En} (hx : S0[k]? = some x) (e : En) (hf : e.f = x.f) (he : now < e.at_ ∧ e.at_ ≤ now + 4095) {W' : List Al} (hW : W'.Perm (⟨x.at_, e.at_⟩ :: outOf x.at_ W)) :
    TInv lo hi N L n (B.set x.at_.toNat e) Fr now W' S0 (S.set k e) := by
  have hin := h.at_in (List.mem_of_getElem? hx)
  have hBx : bAt (B.set x.at_.toNat e) x.at_ = e := bAt_same e hin.1 (by rw [h.len]; exact hin.2)
  have hB : ∀ (j : Nat) y, j ≠ k → S0[j]? = some y → bAt (B.set x.at_.toNat e) y.at_ = bAt B y.at_ := fun j y hj hy => bAt_ne e hin.1 (h.at_in (List.mem_of_getElem? hy)).1 fun e => hj (h.inj hy hx e)
  obtain ⟨o1, o2⟩ := h.out hx e
  refine ⟨h.rel, by rw [List.length_set]; exact h.len, ?_, h.num, fun y hy => ?_, hW.trans ((o1.cons _).trans o2.symm), fun y hy => ?_⟩
  · rw [h.all]
    refine List.ext_getElem? fun j => ?_
    rw [List.getElem?_set, List.getElem?_map, List.getElem?_map]
    by_cases hj : k = j
    · subst hj
      rw [if_pos rfl, hx, Option.map_some, hBx, if_pos]
      rw [List.length_map]
      exact (List.getElem?_eq_some_iff.1 hx).1
    · rw [if_neg hj]
      cases hy : S0[j]? with
      | none => rfl
      | some y => rw [Option.map_some, Option.map_some, hB j y (Ne.symm hj) hy]
  · obtain ⟨j, hj⟩ := List.mem_iff_getElem?.1 hy
    by_cases hjk : j = k
    · subst hjk
      rw [hx] at hj; injection hj with hj; subst hj
      rw [hBx]; exact hf
    · rw [hB j y hjk hj]; exact h.own y hy
  · rcases List.mem_or_eq_of_mem_set hy with hy | rfl
    · exact h.lim y hy
    · exact he

theorem erase_map {α β : Type} (g : α → β) : ∀ (l : List α) (k : Nat), (l.eraseIdx k).map g = (l.map g).eraseIdx k
  | [], _ => rfl
  | _ :: _, 0 => rfl
  | x :: r, k + 1 => by simp [List.eraseIdx_cons_succ, erase_map g r k]
theorem TInv.empty (h : TInv lo hi N L n B Fr now W S0 S) {k : Nat} {x : En} (hx : S0[k]? = some x) {L' : List Sl} (hL : SRel lo hi N L' (n - 1) (S0.eraseIdx k)) (e : En) {W' : List Al} (hW : W'.Perm (outOf x.at_ W)) :
    TInv lo hi N L' (n - 1) (B.set x.at_.toNat e) (Fr ++ [x.at_]) now W' (S0.eraseIdx k) (S.eraseIdx k) := by
  have hin := h.at_in (List.mem_of_getElem? hx)
  have hB : ∀ y, y ∈ S0.eraseIdx k → bAt (B.set x.at_.toNat e) y.at_ = bAt B y.at_ ∧ y ∈ S0 := fun y hy => by
    obtain ⟨j, hj, hne⟩ := List.mem_eraseIdx_iff_getElem?.1 hy
    exact ⟨bAt_ne e hin.1 (h.at_in (List.mem_of_getElem? hne)).1 fun e => hj (h.inj hne hx e), List.mem_of_getElem? hne⟩
  obtain ⟨o1, _⟩ := h.out hx e
  refine ⟨hL, by rw [List.length_set]; exact h.len, ?_, ?_, fun y hy => ?_, ?_, fun y hy => h.lim y ((List.eraseIdx_sublist _ _).subset hy)⟩
  · rw [h.all, ← erase_map]
    exact (List.map_congr_left fun y hy => (hB y hy).1).symm
  · refine List.Perm.trans ?_ h.num
    have h1 : (x.at_ :: (S0.eraseIdx k).map (·.at_)).Perm (S0.map (·.at_)) := (erase_perm hx).map fun y : En => y.at_
    rw [← List.append_assoc]
    refine List.Perm.trans ?_ (h1.append_right Fr)
    rw [List.cons_append]
    exact (List.perm_append_comm).trans (.refl _)
  · rw [(hB y hy).1]; exact h.own y (hB y hy).2
  · refine hW.trans (o1.trans (List.Perm.of_eq ?_))
    exact List.map_congr_left fun y hy => by rw [(hB y hy).1]
end
end Go.Proofs.YtcbpdjikdohegaaGreat.V
