/-
  A row of one's own written over, in a world that is told by its cells. No condition.
  slices.SortFunc on a row of one's own, by the shelf's contract. Conditions: the comparison is a strict weak order; what it compares bears no place.
-/
import Derived.Test.YtfepckbhnghpeaaK1
import Derived.Sort.Row
import Derived.Sort.Grow
import Derived.Shelf.SlSortCmp.WholeK
namespace Go.Proofs.Ytfepckbhnghpeaa.V
open Go.RowKit

section
variable {P : Program} {E : Env} {s : St} {σ : Nat → Nat} {τ : Nat → Value} {a : Act} {w : World}

theorem over_world (hs : SR E s σ τ a w) {id : Nat} {β : Type} {el e : Nat} {enc : β → List D} {L L' : List β} (hid : lget s.H id = some (.grow β el e enc L)) (hL : L'.length = L.length) (hlen : ∀ (i : Nat) x, L'[i]? = some x → (enc x).length = e)
    {g cap : Nat} {cur c' : Array Value} (hv : τ id = .slice (some ⟨g, 0, none⟩) L.length cap) (hg : w.heap[g]? = some (.cells cur el (0, 0))) (hcap : L.length ≤ cap) (hmax : cap ≤ maxLen) (hcs : cur.size = cap * e) {w' : World}
    (q2 : w'.heap[g]? = some (.cells c' el (0, 0))) (q3 : c'.size = cur.size) (hdr : w.drawn ≤ w'.drawn) (q5 : w'.os = w.os) (q6 : w'.tape = w.tape) (q7 : w'.output = w.output) (q8 : w'.heap.size = w.heap.size) (q9 : ∀ k, k ≠ g → w'.heap[k]? = w.heap[k]?)
    (hnew : ∀ (i : Nat) x (j : Nat) d u, L'[i]? = some x → (enc x)[j]? = some d → c'[i * e + j]? = some u → Rep (ctxOf E s.H s.nx σ τ w).still d u) :
    SR E ⟨s.F, (id, .grow β el e enc L') :: s.H, s.nx, s.G⟩ σ τ a w' := by
  obtain ⟨hmine, _, _, _, _⟩ := hs.heap.grow id _ _ _ _ _ hid
  have hgb : (τ id).ownBlock = some g := by rw [hv]; rfl
  have howng : owned s.H σ τ id g := .inr (.inl ⟨_, _, _, _, _, hid, hgb⟩)
  have hce : L.length * e ≤ cap * e := Nat.mul_le_mul_right e hcap
  have hle : (ctxOf E s.H s.nx σ τ w).Le (ctxOf E ((id, .grow β el e enc L') :: s.H) s.nx σ τ w') := by
    refine ⟨fun b of hb hc => ?_, fun b hb => ?_, fun _ _ _ hv => hv, fun _ _ hv => hv, fun _ _ _ hv => hv⟩
    · have hne : b ≠ g := by rintro rfl; exact hb.2.2 id howng
      exact (q9 b hne).trans hc
    · exact ⟨hb.1, by show b < w'.heap.size; rw [q8]; exact hb.2.1, fun j ho => hb.2.2 j (owned_over hid ho)⟩
  refine ⟨⟨⟨q5.trans hs.heap.kept.os, q6.trans hs.heap.kept.tape, q7.trans hs.heap.kept.output, by rw [q8]; exact hs.heap.kept.size, fun k hk1 hn => ?_, Nat.le_trans hs.heap.kept.drawn hdr⟩, hs.heap.few, fun j el' l2 h => ?_, fun j α el' e' enc' L2 h => ?_, fun i j b h1 h2 => hs.heap.apart i j b (owned_over hid h1) (owned_over hid h2), fun j o h => ?_, hs.heap.slices, fun j o h => by
    have hj : j ≠ id := by rintro rfl; rw [lget_same] at h; cases h
    rw [lget_ne _ _ hj] at h
    obtain ⟨h1, h2⟩ := hs.heap.obj j o h
    exact ⟨fun k hkf => ⟨(h1 k hkf).1, by rw [q8]; exact (h1 k hkf).2⟩, OA.at_mono h2 (fun k hkf => q9 k fun he => hj (hs.heap.apart j id k (.inr (.inr ⟨_, h, hkf⟩)) (he ▸ howng))) (Nat.le_of_eq q8.symm) hle.still⟩⟩, hs.defers, hs.size, fun i d h => (hs.slots i d h).mono hle, hs.ghost_le rfl hle, hs.room⟩
  · have hne : k ≠ g := by
      rintro rfl
      rcases hmine k hgb with hm | hm
      · exact hn hm
      · omega
    exact (q9 k hne).trans (hs.heap.kept.block k hk1 hn)
  · have hj : j ≠ id := by rintro rfl; rw [lget_same] at h; cases h
    rw [lget_ne _ _ hj] at h
    obtain ⟨h1, c2, h2, h3, h4⟩ := hs.heap.cells j el' l2 h
    have hne : σ j ≠ g := fun he => hj (hs.heap.apart j id (σ j) (.inl ⟨_, _, h, rfl⟩) (he ▸ howng))
    exact ⟨h1, c2, (q9 _ hne).trans h2, h3, fun i d u hd hu => (h4 i d u hd hu).mono hle⟩
  · by_cases hj : j = id
    · subst hj
      rw [lget_same] at h
      injection h with h; injection h with e1 e2 e3 e4 e5
      subst e1 e2 e3
      have e4 := eq_of_heq e4
      have e5 := eq_of_heq e5
      subst e4 e5
      have h9 : c'.toList.length = c'.size := by simp
      have h10 : (c'.toList.take (L'.length * e)).length = L'.length * e := by
        rw [List.length_take, h9, q3, hL]; omega
      refine ⟨hmine, c'.toList.take (L'.length * e), ⟨h10, .inr ⟨g, cap, c', by rw [hL]; exact hv, Nat.zero_le _, q2, by omega, hmax, by rw [q3]; exact hcs, rfl⟩⟩, hlen, fun i x k d u hx hd hu => ?_⟩
      have hi : i < L.length := by have := (List.getElem?_eq_some_iff.1 hx).1; omega
      have hk : k < e := by have := (List.getElem?_eq_some_iff.1 hd).1; rw [hlen i x hx] at this; exact this
      have hb : i * e + e ≤ L.length * e := by
        have := Nat.mul_le_mul_right e (show i + 1 ≤ L.length from hi)
        rw [Nat.succ_mul] at this; exact this
      rw [hL, List.getElem?_take_of_lt (by omega), Array.getElem?_toList] at hu
      exact (hnew i x k d u hx hd hu).mono hle.still
    · rw [lget_ne _ _ hj] at h
      obtain ⟨h1, xs2, ⟨h2, h2'⟩, h3, h4⟩ := hs.heap.grow j α el' e' enc' L2 h
      refine ⟨h1, xs2, ⟨h2, ?_⟩, h3, fun i x k d u hx hd hu => (h4 i x k d u hx hd hu).mono hle.still⟩
      rcases h2' with h2' | ⟨g2, cap2, cur2, hv2, hb2, hg2, hr2⟩
      · exact .inl h2'
      · refine .inr ⟨g2, cap2, cur2, hv2, hb2, (q9 g2 ?_).trans hg2, hr2⟩
        rintro rfl
        exact hj (hs.heap.apart j id _ (.inr (.inl ⟨α, el', e', enc', L2, h, by rw [hv2]; rfl⟩)) howng)
  · by_cases hj : j = id
    · subst hj; exact hs.heap.below j _ hid
    · rw [lget_ne _ _ hj] at h; exact hs.heap.below j o h

open Go.Sort in
theorem mapBlock_other (w : World) (blk k : Nat) (f : Array Value → Array Value) (h : k ≠ blk) : (mapBlock w blk f).heap[k]? = w.heap[k]? := by
  unfold mapBlock
  rw [Array.getElem?_modify, if_neg (fun e => h e.symm)]
open Go.Sort in
theorem mapBlock_at {w : World} {blk : Nat} {f : Array Value → Array Value} {c : Array Value} {el : TypeId} {fr : Nat × Nat} (h : w.heap[blk]? = some (.cells c el fr)) : (mapBlock w blk f).heap[blk]? = some (.cells (f c) el fr) := by
  unfold mapBlock
  rw [Array.getElem?_modify, if_pos rfl, h]
  rfl
end
end Go.Proofs.Ytfepckbhnghpeaa.V
namespace Go.Proofs.Ytfepckbhnghpeaa.V
open Go.RowKit

section
variable {P : Program} {E : Env} {s : St} {σ : Nat → Nat} {τ : Nat → Value} {a : Act} {w : World}

open Go.Sort in
theorem under_grow {w w' : World} (h : Under w.heap.size w w') : ∃ q os', w' = grow (w.drewN q) os' := by
  refine ⟨w'.drawn - w.drawn, w'.heap.extract w.heap.size w'.heap.size, ?_⟩
  have hh : w'.heap = w.heap ++ w'.heap.extract w.heap.size w'.heap.size := by
    apply Array.ext_getElem?
    intro i
    have hs := h.size
    by_cases hi : i < w.heap.size
    · rw [Array.getElem?_append_left hi]; exact h.block i hi
    · rw [Array.getElem?_append_right (by omega), Array.getElem?_extract]
      split
      · congr 1; omega
      · rename_i hge
        exact Array.getElem?_eq_none (by omega)
  have hd : w.drawn + (w'.drawn - w.drawn) = w'.drawn := by have := h.drawn; omega
  obtain ⟨a, b, c, d, e⟩ := w'
  have h1 := h.os; have h2 := h.tape; have h3 := h.output
  simp only at h1 h2 h3 hd hh
  unfold grow World.drewN
  simp only
  rw [hd, ← hh, h1, h2, h3]
open Go.Shelf Go.Sort Go.Lib in
theorem sort_vc {ρ : Ren} (L0 : SlLaysF0.n6 P ρ) {α β : Type} [Inhabited β] {k el : Nat} {encD : α → List D} {val : β → α} (encV : β → List Value) (henc : ∀ x, encD (val x) = (encV x).map .v) (hk : ∀ x, (encV x).length = k) (hk0 : 0 < k) (h1 : ∀ x, ∀ v ∈ encV x, v.oneCell' = true)
    (aE : ∀ w, (isAgg (ρ.t 24)).run P w = .ok true w) (zE : ∀ w, (Go.sizeOf (ρ.t 24)).run P w = .ok k w) (cf : β → β → Int) (hO : SWO (ltOf cf)) (g : Nat) (eg : ∀ args w, (callFunc g args).run P w = .ok (.enter g args) w)
    (hcmp : ∀ (x y : β) (W : World), Calls P g #[.agg (encV x).toArray, .agg (encV y).toArray] W fun e w' => e = .returned (.int .i64 (cf x y)) ∧ ∃ q os', w' = grow (W.drewN q) os') (hb : hasBody P (ρ.f 6))
    {id : Nat} {M : List β} {K : D → St → Prop} (hid : lget s.H id = some (.grow α el k encD (M.map val))) (hpos : 0 < M.length) (hsz : M.length < 4611686018427387904)
    (h : ∀ M' : List β, M'.Perm M → (∀ (i j : Nat) x y, i < j → M'[i]? = some x → M'[j]? = some y → 0 ≤ cf y x) → K (.tup []) ⟨s.F, (id, .grow α el k encD (M'.map val)) :: s.H, s.nx, s.G⟩) : CallVC P false (ρ.f 6) [.grow id, .fn g [] []] s K := by
  refine ⟨hb, fun E σ τ a w args' hs hr => ?_⟩
  obtain ⟨hal, har⟩ := hr
  obtain ⟨va, vb, rfl⟩ : ∃ va vb, args' = [va, vb] := by
    match args', hal with
    | [x, y], _ => exact ⟨x, y, rfl⟩
  have ha := har 0 _ va rfl rfl
  have hf := har 1 _ vb rfl rfl
  have hfv : vb = .func (.func g) #[] #[] := by
    cases hf with
    | fn e1 e2 e3 e4 =>
      rename_i x y
      have : x = #[] := Array.eq_empty_of_size_eq_zero e1
      subst this
      have : y = #[] := Array.eq_empty_of_size_eq_zero e2
      subst this
      rfl
  subst hfv
  have hav : va = τ id := by
    cases ha with
    | grow hg => exact hg.2
  subst hav
  obtain ⟨hmine, xs, ⟨hxl, hown⟩, hlen0, hrep0⟩ := hs.heap.grow id _ _ _ _ _ hid
  have hML : (M.map val).length = M.length := List.length_map _
  rcases hown with ⟨_, hn⟩ | ⟨b, cap, cur, hv, _, hg, hcap, hmax, hcs, htk⟩
  · omega
  have hd : M.toArray.size = M.length := by simp
  have hcell : ∀ (i j : Nat) (x : β), M[i]? = some x → j < k → cur[i * k + j]? = (encV x)[j]? := by
    intro i j x hx hj
    have hi : i < M.length := (List.getElem?_eq_some_iff.1 hx).1
    have hbn : i * k + k ≤ M.length * k := by
      have := Nat.mul_le_mul_right k (show i + 1 ≤ M.length from hi)
      rw [Nat.succ_mul] at this; exact this
    have hcu : (encV x)[j]? = some ((encV x)[j]'(by rw [hk]; exact hj)) := List.getElem?_eq_getElem _
    have hcz : i * k + j < xs.length := by rw [hxl, hML]; omega
    have hxs : xs[i * k + j]? = some xs[i * k + j] := List.getElem?_eq_getElem hcz
    have h5 := hrep0 i (val x) j (.v ((encV x)[j]'(by rw [hk]; exact hj))) xs[i * k + j] (by rw [List.getElem?_map, hx]; rfl) (by rw [henc, List.getElem?_map, hcu]; rfl) hxs
    have h6 := rep_v h5
    have h7 : cur[i * k + j]? = some xs[i * k + j] := by
      rw [← Array.getElem?_toList, ← hxs, ← htk, List.getElem?_take_of_lt (by omega)]
    rw [h7, h6, hcu]
  have hdm : ∀ t, t < M.length * k → t / k < M.length ∧ t % k < k ∧ t / k * k + t % k = t := fun t ht => ⟨Nat.div_lt_of_lt_mul (by rw [Nat.mul_comm]; exact ht), Nat.mod_lt _ hk0, Nat.div_add_mod' t k⟩
  have hH : HoldsK encV k w b 0 M.toArray := by
    intro t ht
    rw [size_flatK, hd] at ht
    obtain ⟨e1, e2, e3⟩ := hdm t ht
    refine ⟨?_, by simp [World.frozen?, hg]⟩
    have h5 := hcell (t / k) (t % k) M[t / k] (List.getElem?_eq_getElem e1) e2
    rw [e3] at h5
    rw [get_flatK _ _ _ _ (by rw [hd]; exact ht)]
    have h6 : M.toArray[t / k]! = M[t / k] := by rw [getElem!_pos M.toArray (t / k) (by rw [hd]; exact e1)]; simp
    rw [h6, getElem!_pos (encV M[t / k]) (t % k) (by rw [hk]; exact e2)]
    simp only [World.cell?, hg, Nat.zero_add, h5]
    exact List.getElem?_eq_getElem _
  have hblk : b < w.heap.size := (Array.getElem?_eq_some_iff.1 hg).1
  have hcon := AnyQ.slices_SortFunc L0 k aE zE encV hk h1 cf hO g #[] b 0 cap M.toArray w eg (fun m os dk _ x y => by simpa using hcmp x y _) hH hblk (by rw [hd]; exact hsz)
  rw [hd] at hcon
  have hvv : τ id = .slice (some ⟨b, 0, none⟩) M.length cap := by rw [hv, hML]
  rw [hvv]
  refine hcon.mono fun e w' hh => ?_
  obtain ⟨rfl, d', n, os, ⟨p1, p2, p3⟩, p4, rfl⟩ := hh
  have hd' : d'.toList.length = M.length := by rw [Array.length_toList, p1, hd]
  have hperm : d'.toList.Perm M := by
    have e1 : d'.extract 0 M.length = d' := by rw [← hd, ← p1]; exact Array.extract_size
    have e2 : M.toArray.extract 0 M.length = M.toArray := by rw [← hd]; exact Array.extract_size
    rw [e1, e2] at p3
    simpa using p3
  let w1 := putRowK encV k (Sort.ahead w n) b 0 d'
  have hg1 : (Sort.ahead w n).heap[b]? = some (.cells cur el (0, 0)) := hg
  have hc1 : w1.heap[b]? = some (.cells (putCells _root_.id 0 (flatK encV k d') cur) el (0, 0)) := mapBlock_at hg1
  have hfs : (flatK encV k d').size = M.length * k := by rw [size_flatK, p1, hd]
  have hsr : SR E ⟨s.F, (id, .grow α el k encD (d'.toList.map val)) :: s.H, s.nx, s.G⟩ σ τ a w1 := by
    refine over_world hs hid (by rw [List.length_map, hd', hML]) (fun i x hx => ?_) hv hg (by rw [hML] at hcap ⊢; exact hcap) hmax hcs hc1 (by simp [putCells]) (Nat.le_add_right _ _) rfl rfl rfl (by simp [w1, putRowK, Sort.ahead]) (fun j hj => mapBlock_other _ _ _ _ hj) (fun i x j d u hx hd2 hu => ?_)
    · rw [List.getElem?_map] at hx
      cases hq : d'.toList[i]? with
      | none => rw [hq] at hx; cases hx
      | some y => rw [hq] at hx; simp only [Option.map_some, Option.some.injEq] at hx; subst hx; rw [henc, List.length_map, hk]
    · rw [List.getElem?_map] at hx
      cases hq : d'.toList[i]? with
      | none => rw [hq] at hx; cases hx
      | some y =>
        rw [hq] at hx
        simp only [Option.map_some, Option.some.injEq] at hx
        subst hx
        have hi : i < M.length := by have := (List.getElem?_eq_some_iff.1 hq).1; omega
        have hj : j < k := by have := (List.getElem?_eq_some_iff.1 hd2).1; rw [henc, List.length_map, hk] at this; exact this
        have hbn : i * k + k ≤ M.length * k := by
          have := Nat.mul_le_mul_right k (show i + 1 ≤ M.length from hi)
          rw [Nat.succ_mul] at this; exact this
        have hcl : i * k + j < cur.size := by rw [hcs]; have := Nat.mul_le_mul_right k hcap; rw [hML] at this; omega
        have hpc : (putCells _root_.id 0 (flatK encV k d') cur)[i * k + j]? = some ((flatK encV k d')[i * k + j]!) := by
          unfold putCells
          rw [Array.getElem?_mapIdx, Array.getElem?_eq_getElem hcl]
          simp only [Option.map_some, Nat.zero_le, true_and, Nat.zero_add, Nat.sub_zero, _root_.id]
          rw [if_pos (by rw [hfs]; omega)]
        rw [hpc] at hu
        injection hu with hu
        have e1 : (i * k + j) / k = i := by rw [Nat.mul_comm, Nat.mul_add_div hk0, Nat.div_eq_of_lt hj, Nat.add_zero]
        have e2 : (i * k + j) % k = j := by rw [Nat.mul_comm, Nat.mul_add_mod, Nat.mod_eq_of_lt hj]
        rw [get_flatK _ _ _ _ (by rw [p1, hd]; omega), e1, e2] at hu
        have e3 : d'[i]! = y := by
          have h8 : i < d'.size := by rw [p1, hd]; exact hi
          rw [getElem!_pos d' i h8]
          rw [List.getElem?_eq_getElem (by rw [Array.length_toList]; exact h8)] at hq
          injection hq with hq
        rw [e3, getElem!_pos (encV y) j (by rw [hk]; exact hj)] at hu
        rw [henc, List.getElem?_map, List.getElem?_eq_getElem (by rw [hk]; exact hj)] at hd2
        simp only [Option.map_some, Option.some.injEq] at hd2
        subst hd2
        rw [← hu]
        exact .v
  have hbel : Under w1.heap.size w1 (sortWorldK encV k w b 0 n d' os) := by
    refine ⟨⟨rfl, rfl, rfl, by simp [sortWorldK, Sort.grow, w1], fun j hj => ?_⟩, Nat.le_refl _⟩
    show (w1.heap ++ os)[j]? = _
    rw [Array.getElem?_append_left hj]
  refine ⟨.tup [], _, σ, τ, _, h d'.toList hperm (fun i j x y hij hx hy => ?_), rfl, below_state hsr hbel, .tup rfl (fun j d u hd hu => by cases hd), fun hg => by cases hg⟩
  have hjs : j < d'.size := by have := (List.getElem?_eq_some_iff.1 hy).1; rwa [Array.length_toList] at this
  have h9 := p4 i j (Nat.zero_le _) hij (by rw [p1, hd] at hjs; exact hjs)
  have ex : d'[i]! = x := by
    rw [getElem!_pos d' i (by omega)]
    rw [List.getElem?_eq_getElem (by rw [Array.length_toList]; omega)] at hx
    injection hx with hx
  have ey : d'[j]! = y := by
    rw [getElem!_pos d' j hjs]
    rw [List.getElem?_eq_getElem (by rw [Array.length_toList]; omega)] at hy
    injection hy with hy
  rw [ex, ey] at h9
  have h9 : decide (cf y x < 0) = false := h9
  have := of_decide_eq_false h9
  omega
end
end Go.Proofs.Ytfepckbhnghpeaa.V
