/-
  The plain law of open addressing: which places are full hangs on the homes alone. No condition.
-/
import Derived.Test.YtcbpdjikdohegaaVw
namespace Go.Proofs.Ytcbpdjikdohegaa.V

theorem nodup_len {α : Type} [DecidableEq α] : ∀ {a b : List α}, a.Nodup → (∀ x, x ∈ a → x ∈ b) → a.length ≤ b.length
  | [], _, _, _ => Nat.zero_le _
  | x :: r, b, h, hs => by
    obtain ⟨h1, h2⟩ := List.nodup_cons.1 h
    have hx : x ∈ b := hs x (.head _)
    have ih := nodup_len (b := b.erase x) h2 fun y hy => (List.mem_erase_of_ne (show y ≠ x from fun e => h1 (by rw [← e]; exact hy))).2 (hs y (.tail _ hy))
    have := List.length_erase_of_mem hx
    have := List.length_pos_of_mem hx
    simp only [List.length_cons]; omega

/-- How far one place is behind another one, round and round. -/
def dist (N a p : Nat) : Nat := (p + N - a) % N
theorem dist_lt {N a p : Nat} (h : 0 < N) : dist N a p < N := Nat.mod_lt _ h
theorem mod_one {N x : Nat} (h : x < 2 * N) : (x < N ∧ x % N = x) ∨ (N ≤ x ∧ x % N = x - N) := by
  by_cases hx : x < N
  · exact .inl ⟨hx, Nat.mod_eq_of_lt hx⟩
  · refine .inr ⟨by omega, ?_⟩
    rw [Nat.mod_eq_sub_mod (by omega), Nat.mod_eq_of_lt (by omega)]
theorem dist_cases {N a p : Nat} (ha : a < N) (hp : p < N) : (a ≤ p ∧ dist N a p = p - a) ∨ (p < a ∧ dist N a p = p + N - a) := by
  unfold dist
  rcases mod_one (N := N) (x := p + N - a) (by omega) with ⟨h1, h2⟩ | ⟨h1, h2⟩ <;> rw [h2] <;> omega
theorem add_cases {N a i : Nat} (ha : a < N) (hi : i < N) : (a + i < N ∧ (a + i) % N = a + i) ∨ (N ≤ a + i ∧ (a + i) % N = a + i - N) := mod_one (by omega)
theorem dist_add {N a p : Nat} (ha : a < N) (hp : p < N) : (a + dist N a p) % N = p := by
  rcases dist_cases ha hp with ⟨h1, h2⟩ | ⟨h1, h2⟩ <;> rw [h2]
  · rw [show a + (p - a) = p by omega, Nat.mod_eq_of_lt hp]
  · rw [show a + (p + N - a) = p + N by omega, Nat.add_mod_right, Nat.mod_eq_of_lt hp]
theorem add_dist {N a i : Nat} (ha : a < N) (hi : i < N) : dist N a ((a + i) % N) = i := by
  rcases add_cases ha hi with ⟨h1, h2⟩ | ⟨h1, h2⟩ <;> rw [h2]
  · rcases dist_cases ha h1 with ⟨h3, h4⟩ | ⟨h3, h4⟩ <;> omega
  · rcases dist_cases (p := a + i - N) ha (by omega) with ⟨h3, h4⟩ | ⟨h3, h4⟩ <;> omega
theorem dist_inj {N a p q : Nat} (ha : a < N) (hp : p < N) (hq : q < N) (h : dist N a p = dist N a q) : p = q := by
  rw [← dist_add ha hp, ← dist_add ha hq, h]

/-- Who is where: homes, and places; none twice; nothing empty on the way. -/
structure Laid (N : Nat) (A : List (Nat × Nat)) : Prop where
  home : ∀ x, x ∈ A → x.1 < N
  place : ∀ x, x ∈ A → x.2 < N
  once : (A.map Prod.snd).Nodup
  way : ∀ x, x ∈ A → ∀ i, i < dist N x.1 x.2 → (x.1 + i) % N ∈ A.map Prod.snd

/-- Going back from a place that is full: where the full ones begin. -/
theorem run_start {N e : Nat} (O : Nat → Prop) (he : e < N) (heO : O e) (hno : ∃ x, x < N ∧ ¬ O x) : ∃ s d, s < N ∧ d + 1 < N ∧ (s + d) % N = e ∧ (∀ i, i ≤ d → O ((s + i) % N)) ∧ ¬ O ((s + (N - 1)) % N) := by
  have hdec : ∀ T, (∀ t, t ≤ T → O ((e + N - t) % N)) ∨ ∃ t, t ≤ T ∧ (∀ u, u < t → O ((e + N - u) % N)) ∧ ¬ O ((e + N - t) % N) := by
    intro T
    induction T with
    | zero =>
      refine .inl fun t ht => ?_
      obtain rfl : t = 0 := by omega
      rw [Nat.sub_zero, Nat.add_mod_right, Nat.mod_eq_of_lt he]; exact heO
    | succ T ih =>
      rcases ih with ih | ⟨t, h1, h2, h3⟩
      · by_cases hT : O ((e + N - (T + 1)) % N)
        · refine .inl fun t ht => ?_
          by_cases h : t = T + 1
          · rw [h]; exact hT
          · exact ih t (by omega)
        · exact .inr ⟨T + 1, Nat.le_refl _, fun u hu => ih u (by omega), hT⟩
      · exact .inr ⟨t, by omega, h2, h3⟩
  rcases hdec N with hall | ⟨t, h1, h2, h3⟩
  · obtain ⟨x, hx, hxO⟩ := hno
    refine absurd ?_ hxO
    by_cases hxe : x ≤ e
    · have := hall (e - x) (by omega)
      rw [show e + N - (e - x) = x + N by omega, Nat.add_mod_right, Nat.mod_eq_of_lt hx] at this
      exact this
    · have := hall (e + N - x) (by omega)
      rw [show e + N - (e + N - x) = x by omega, Nat.mod_eq_of_lt hx] at this
      exact this
  · have ht0 : t ≠ 0 := by
      rintro rfl
      rw [Nat.sub_zero, Nat.add_mod_right, Nat.mod_eq_of_lt he] at h3
      exact h3 heO
    have htN : t < N := by
      by_cases h : t = N
      · subst h
        rw [Nat.add_sub_cancel, Nat.mod_eq_of_lt he] at h3
        exact absurd heO h3
      · omega
    -- the first full one
    have key : ∀ i, i ≤ t → ((e + N - (t - 1)) % N + i) % N = (e + N + i - (t - 1)) % N := fun i _ => by
      rw [Nat.mod_add_mod]
      congr 1
      omega
    refine ⟨(e + N - (t - 1)) % N, t - 1, Nat.mod_lt _ (by omega), by omega, ?_, fun i hi => ?_, ?_⟩
    · rw [Nat.mod_add_mod, show e + N - (t - 1) + (t - 1) = e + N by omega, Nat.add_mod_right, Nat.mod_eq_of_lt he]
    · rw [Nat.mod_add_mod, show e + N - (t - 1) + i = e + N - (t - 1 - i) by omega]
      exact h2 _ (by omega)
    · rw [Nat.mod_add_mod, show e + N - (t - 1) + (N - 1) = e + N - t + N by omega, Nat.add_mod_right]
      exact h3

theorem map_filter_len {α β : Type} (f : α → β) (p : β → Bool) (l : List α) : ((l.map f).filter p).length = (l.filter fun x => p (f x)).length := by
  rw [List.filter_map, List.length_map]; rfl

theorem laid_full {N : Nat} {A B : List (Nat × Nat)} (hA : Laid N A) (hB : Laid N B) (hp : (A.map Prod.fst).Perm (B.map Prod.fst)) {e : Nat} (he : e < N) (hAe : e ∉ A.map Prod.snd) (hBe : e ∈ B.map Prod.snd) : False := by
  have hlen : A.length = B.length := by have := hp.length_eq; simpa using this
  have hAN : A.length < N := by
    have h1 : (e :: A.map Prod.snd).Nodup := List.nodup_cons.2 ⟨hAe, hA.once⟩
    have := nodup_len (b := List.range N) h1 fun x hx => by
      rcases List.mem_cons.1 hx with rfl | hx
      · exact List.mem_range.2 he
      · obtain ⟨y, hy, rfl⟩ := List.mem_map.1 hx
        exact List.mem_range.2 (hA.place y hy)
    simp at this; omega
  obtain ⟨x, hx, hxB⟩ : ∃ x, x < N ∧ ¬ x ∈ B.map Prod.snd := Classical.byContradiction fun hc => by
    have := nodup_len (a := List.range N) (b := B.map Prod.snd) List.nodup_range fun x hx => Classical.byContradiction fun h => hc ⟨x, List.mem_range.1 hx, h⟩
    simp at this; omega
  obtain ⟨s, d, hs, hd, hse, hrun, hend⟩ := run_start (fun x => x ∈ B.map Prod.snd) he hBe ⟨x, hx, hxB⟩
  have hN : 0 < N := by omega
  have hde : dist N s e = d := by rw [← hse]; exact add_dist hs (by omega)
  -- of the second, more than d have their homes here
  have hB2 : d + 1 ≤ (B.filter fun y => decide (dist N s y.1 ≤ d)).length := by
    have h1 : (List.range (d + 1)).length ≤ ((B.filter fun y => decide (dist N s y.2 ≤ d)).map fun y => dist N s y.2).length := by
      refine nodup_len List.nodup_range fun i hi => ?_
      have hi := List.mem_range.1 hi
      obtain ⟨y, hy, hy2⟩ := List.mem_map.1 (hrun i (by omega))
      have : dist N s y.2 = i := by rw [hy2]; exact add_dist hs (by omega)
      exact List.mem_map.2 ⟨y, List.mem_filter.2 ⟨hy, decide_eq_true (by omega)⟩, this⟩
    rw [List.length_range, List.length_map] at h1
    refine Nat.le_trans h1 ?_
    refine List.Sublist.length_le ?_
    have : (B.filter fun y => decide (dist N s y.2 ≤ d)) = (B.filter fun y => decide (dist N s y.1 ≤ d)).filter fun y => decide (dist N s y.2 ≤ d) := by
      rw [List.filter_filter]
      refine List.filter_congr fun y hy => ?_
      by_cases hyd : dist N s y.2 ≤ d
      · rw [decide_eq_true hyd, Bool.true_and]
        refine (decide_eq_true (Classical.byContradiction fun hgt => hend ?_)).symm
        have hy1 := hB.home y hy
        have hy2 := hB.place y hy
        have := hB.way y hy (N - 1 - dist N s y.1) (by
          have := dist_lt (N := N) (a := s) (p := y.1) hN
          rcases dist_cases hs hy1 with ⟨g1, g2⟩ | ⟨g1, g2⟩ <;> rcases dist_cases hs hy2 with ⟨g3, g4⟩ | ⟨g3, g4⟩ <;> rcases dist_cases hy1 hy2 with ⟨g5, g6⟩ | ⟨g5, g6⟩ <;> omega)
        have e1 : (y.1 + (N - 1 - dist N s y.1)) % N = (s + (N - 1)) % N := by
          have h2 := dist_add hs hy1
          have := dist_lt (N := N) (a := s) (p := y.1) hN
          rw [← Nat.mod_eq_of_lt hy1, Nat.mod_add_mod, Nat.mod_eq_of_lt hy1]
          rcases dist_cases hs hy1 with ⟨g1, g2⟩ | ⟨g1, g2⟩
          · congr 1; omega
          · rw [show y.1 + (N - 1 - dist N s y.1) = s + (N - 1) - N by omega]
            rw [← Nat.add_mod_right, show s + (N - 1) - N + N = s + (N - 1) by omega]
        rw [e1] at this
        exact this
      · rw [decide_eq_false hyd, Bool.false_and]
    rw [this]
    exact List.filter_sublist
  -- of the first, no more than d
  have hA2 : (A.filter fun y => decide (dist N s y.1 ≤ d)).length ≤ d := by
    have h1 : ((A.filter fun y => decide (dist N s y.1 ≤ d)).map fun y => dist N s y.2).length ≤ (List.range d).length := by
      refine nodup_len ?_ fun i hi => ?_
      · have hsub : ((A.filter fun y => decide (dist N s y.1 ≤ d)).map Prod.snd).Nodup := List.Nodup.sublist (List.filter_sublist.map _) hA.once
        have : ((A.filter fun y => decide (dist N s y.1 ≤ d)).map fun y => dist N s y.2) = (((A.filter fun y => decide (dist N s y.1 ≤ d)).map Prod.snd).map (dist N s)) := by rw [List.map_map]; rfl
        rw [this]
        refine List.pairwise_map.2 (List.Pairwise.imp_of_mem (fun {a b} ha hb hab hc => hab ?_) hsub)
        have hpl : ∀ z, z ∈ ((A.filter fun y => decide (dist N s y.1 ≤ d)).map Prod.snd) → z < N := fun z hz => by
          obtain ⟨y, hy, rfl⟩ := List.mem_map.1 hz
          exact hA.place y (List.mem_filter.1 hy).1
        exact dist_inj hs (hpl a ha) (hpl b hb) hc
      · obtain ⟨y, hy, rfl⟩ := List.mem_map.1 hi
        obtain ⟨hy, hyd⟩ := List.mem_filter.1 hy
        have hyd := of_decide_eq_true hyd
        have hy1 := hA.home y hy
        have hy2 := hA.place y hy
        refine List.mem_range.2 (Classical.byContradiction fun hge => hAe ?_)
        by_cases heq : dist N s y.2 = d
        · rw [← dist_inj hs hy2 he (heq.trans hde.symm)]
          exact List.mem_map.2 ⟨y, hy, rfl⟩
        · have := hA.way y hy (d - dist N s y.1) (by
            rcases dist_cases hs hy1 with ⟨g1, g2⟩ | ⟨g1, g2⟩ <;> rcases dist_cases hs hy2 with ⟨g3, g4⟩ | ⟨g3, g4⟩ <;> rcases dist_cases hy1 hy2 with ⟨g5, g6⟩ | ⟨g5, g6⟩ <;> omega)
          have e1 : (y.1 + (d - dist N s y.1)) % N = e := by
            rw [← hse]
            rcases dist_cases hs hy1 with ⟨g1, g2⟩ | ⟨g1, g2⟩
            · congr 1; omega
            · rw [show y.1 + (d - dist N s y.1) = s + d - N by omega, ← Nat.add_mod_right, show s + d - N + N = s + d by omega]
          rw [e1] at this
          exact this
    rw [List.length_map, List.length_range] at h1
    exact h1
  have h1 := map_filter_len Prod.fst (fun a => decide (dist N s a ≤ d)) A
  have h2 := map_filter_len Prod.fst (fun a => decide (dist N s a ≤ d)) B
  have h3 := (hp.filter fun a => decide (dist N s a ≤ d)).length_eq
  omega
/-- Which places are full hangs on the homes alone. -/
theorem laid_same {N : Nat} {A B : List (Nat × Nat)} (hA : Laid N A) (hB : Laid N B) (hp : (A.map Prod.fst).Perm (B.map Prod.fst)) {e : Nat} (he : e < N) : e ∈ A.map Prod.snd ↔ e ∈ B.map Prod.snd :=
  ⟨fun h => Classical.byContradiction fun h2 => laid_full hB hA hp.symm he h2 h, fun h => Classical.byContradiction fun h2 => laid_full hA hB hp he h2 h⟩
end Go.Proofs.Ytcbpdjikdohegaa.V
