/-
  The same, part 4: slices, indices, fields, maps, closures, copy. No condition but that the types' zero values bear no address.
-/
import Derived.Test.YtfghccppoilfhaaCeC
namespace Go.Proofs.Ytfghccppoilfhaa
open Go.RowKit

section
variable {P : Program} {W : Ref} {σ : Ren}

def SimF (P : Program) (W : Ref) {α β : Type} (σ : Ren) (f : AM → Option (α × AM)) (t : Sem β) (R : Ren → α → β → Prop) : Prop :=
  ∀ m w a m', WR W σ m w → f m = some (a, m') → ∃ σ' b w', Ext σ σ' ∧ t.run P w = .ok b w' ∧ WR W σ' m' w' ∧ R σ' a b ∧ Quiet σ σ' m m' w w'

theorem Sim.f {α β : Type} {s : Sem α} {t : Sem β} {R : Ren → α → β → Prop} (h : Sim P W σ s t R) : SimF P W σ (arun P s) t R := h

theorem Sim.asIntOf {v v' : Value} (h : RelV σ v v') : Sim P W σ (Go.asIntOf v) (Go.asIntOf v') fun _ a b => a = b := by
  cases h with
  | int k n => exact Sim.pure rfl
  | _ => exact Sim.none fun m => rfl

theorem Sim.asInt {v v' : Value} (h : RelV σ v v') : Sim P W σ (Go.asInt v) (Go.asInt v') fun _ a b => a = b := by
  unfold Go.asInt
  exact Sim.bind (Sim.asIntOf h) fun σ' a b _ hab => by subst hab; exact Sim.pure rfl

def absBound : Option Value → Nat → Option Nat
  | none, d => some d
  | some (.int _ i), _ => if 0 ≤ i then some i.toNat else none
  | some _, _ => none

def absBounds (len cap : Nat) (lo hi mx : Option Value) : Option (Nat × Nat × Nat) :=
  match absBound mx cap, absBound hi len, absBound lo 0 with
  | some m, some h, some l => if m ≤ cap ∧ (hi.isSome = true → h ≤ m) ∧ (mx.isSome = true → hi.isSome = true) ∧ (lo.isSome = true → l ≤ h) then some (l, h, m) else none
  | _, _, _ => none

theorem run_sliceBound {k : IntKind} {i : Int} {y : Nat} (c : BoundsCode) (h0 : 0 ≤ i) (h1 : i.toNat ≤ y) (w : World) : (Instr.sliceBound (.int k i) y c).run P w = .ok i.toNat w := by
  have h2 : i ≤ (y : Int) := by omega
  simp [Instr.sliceBound, Go.asIntOf, h0, h2]

theorem run_absBounds {b : Bool} {len cap : Nat} {lo hi mx : Option Value} {l h m : Nat} (hb : absBounds len cap lo hi mx = some (l, h, m)) (w : World) :
    (Instr.sliceBounds b len cap lo hi mx).run P w = .ok (l, h, m) w := by
  unfold absBounds at hb
  split at hb
  · rename_i m1 h1 l1 e1 e2 e3
    split at hb
    · rename_i hc
      obtain ⟨c1, c2, c3, c4⟩ := hc
      simp only [Option.some.injEq, Prod.mk.injEq] at hb
      obtain ⟨rfl, rfl, rfl⟩ := hb
      have int_of : ∀ {v : Value} {d n : Nat}, absBound (some v) d = some n → ∃ k i, v = .int k i ∧ 0 ≤ i ∧ i.toNat = n := by
        intro v d n hv
        cases v <;> simp [absBound] at hv
        rename_i k i
        exact ⟨k, i, rfl, hv.1, hv.2⟩
      unfold Instr.sliceBounds
      cases mx with
      | none =>
        simp only [absBound, Option.some.injEq] at e1
        subst e1
        cases hi with
        | none =>
          simp only [absBound, Option.some.injEq] at e2
          subst e2
          cases lo with
          | none => simp only [absBound, Option.some.injEq] at e3; subst e3; simp
          | some v =>
            obtain ⟨k, i, rfl, g1, g2⟩ := int_of e3
            subst g2
            simp [run_sliceBound _ g1 (c4 rfl)]
        | some u =>
          obtain ⟨ku, iu, rfl, u1, u2⟩ := int_of e2
          subst u2
          cases lo with
          | none => simp only [absBound, Option.some.injEq] at e3; subst e3; simp [run_sliceBound _ u1 (c2 rfl)]
          | some v =>
            obtain ⟨k, i, rfl, g1, g2⟩ := int_of e3
            subst g2
            simp [run_sliceBound _ g1 (c4 rfl), run_sliceBound _ u1 (c2 rfl)]
      | some x =>
        obtain ⟨kx, ix, rfl, x1, x2⟩ := int_of e1
        subst x2
        cases hi with
        | none => have := c3 rfl; simp at this
        | some u =>
          obtain ⟨ku, iu, rfl, u1, u2⟩ := int_of e2
          subst u2
          cases lo with
          | none => simp only [absBound, Option.some.injEq] at e3; subst e3; simp [run_sliceBound _ u1 (c2 rfl), run_sliceBound _ x1 c1]
          | some v =>
            obtain ⟨k, i, rfl, g1, g2⟩ := int_of e3
            subst g2
            simp [run_sliceBound _ g1 (c4 rfl), run_sliceBound _ u1 (c2 rfl), run_sliceBound _ x1 c1]
    · cases hb
  · cases hb

def RelOV (σ : Ren) (o o' : Option Value) : Prop := match o, o' with
  | none, none => True
  | some v, some v' => RelV σ v v'
  | _, _ => False

theorem absBound_rel {o o' : Option Value} {d n : Nat} (h : RelOV σ o o') (hb : absBound o d = some n) : o' = o := by
  cases o <;> cases o' <;> simp only [RelOV] at h
  · rfl
  · rename_i v v'
    cases v <;> simp [absBound] at hb
    cases h; rfl

theorem absBounds_rel {len cap : Nat} {lo hi mx lo' hi' mx' : Option Value} {x : Nat × Nat × Nat} (hb : absBounds len cap lo hi mx = some x) (h1 : RelOV σ lo lo') (h2 : RelOV σ hi hi') (h3 : RelOV σ mx mx') :
    lo' = lo ∧ hi' = hi ∧ mx' = mx := by
  unfold absBounds at hb
  split at hb
  · rename_i m1 h1' l1 e1 e2 e3
    exact ⟨absBound_rel h1 e3, absBound_rel h2 e2, absBound_rel h3 e1⟩
  · cases hb

theorem absBounds_le {len cap : Nat} {lo hi mx : Option Value} {l h m : Nat} (hb : absBounds len cap lo hi mx = some (l, h, m)) : m ≤ cap ∧ (mx = none → m = cap) ∧ (lo = none → l = 0) ∧ (lo ≠ none → l ≤ h) ∧ (hi ≠ none → h ≤ m) ∧ (hi = none → h = len ∧ mx = none) := by
  unfold absBounds at hb
  split at hb
  · rename_i m1 h1 l1 e1 e2 e3
    split at hb
    · rename_i hc
      obtain ⟨c1, c2, c3, c4⟩ := hc
      simp only [Option.some.injEq, Prod.mk.injEq] at hb
      obtain ⟨rfl, rfl, rfl⟩ := hb
      refine ⟨c1, ?_, ?_, ?_, ?_, ?_⟩
      · rintro rfl; simpa [absBound] using e1.symm
      · rintro rfl; simpa [absBound] using e3.symm
      · intro h; exact c4 (by cases lo <;> simp_all)
      · intro h; exact c2 (by cases hi <;> simp_all)
      · rintro rfl
        refine ⟨by simpa [absBound] using e2.symm, ?_⟩
        cases mx with
        | none => rfl
        | some v => have := c3 rfl; simp at this
    · cases hb
  · cases hb

def absSlice (P : Program) (t : TypeId) (x : Value) (lo hi mx : Option Value) : Option Value :=
  match P.underlying t, x with
  | some (.array n elem), .pointer (some a) => match absBounds n n lo hi mx, P.info? elem with
    | some (l, h, k), some i => if n < capU then some (.slice (some (if k = l then a else a.add (l * i.size))) (h - l) (k - l)) else none
    | _, _ => none
  | some (.slice elem), .slice none len cap => match absBounds len cap lo hi mx, P.info? elem with
    | some (l, h, k), some _ => some (.slice none (h - l) (k - l))
    | _, _ => none
  | some (.slice elem), .slice (some a) len cap =>
    if a.block = somewhere then match absBounds 0 0 lo hi mx, P.info? elem with
      | some (_, _, _), some _ => if len = 0 ∧ a.spot = none ∧ (a.off = 0 ∨ mx.isSome = false) then some (.slice (some a) 0 (if mx.isSome = true then 0 else cap)) else none
      | _, _ => none
    else if capU ≤ cap then match absBounds len len lo hi mx, P.info? elem with
      | some (l, h, k), some i => if cap = capU + i.size ∧ l ≤ h ∧ h ≤ len then
          (if mx.isSome = true then some (.slice (some (if k = l then a else a.add (l * i.size))) (h - l) (k - l))
          else if l < len then some (.slice (some (a.add (l * i.size))) (h - l) cap) else some (.slice (some ⟨somewhere, a.block + 1, none⟩) 0 cap)) else none
      | _, _ => none
    else match absBounds len cap lo hi mx, P.info? elem with
      | some (l, h, k), some i => some (.slice (some (if k = l then a else a.add (l * i.size))) (h - l) (k - l))
      | _, _ => none
  | _, _ => none

theorem RelA.iteAdd {a a' : Addr} (h : RelA σ a a') (c : Prop) [Decidable c] (n : Nat) : RelA σ (if c then a else a.add n) (if c then a' else a'.add n) := by
  split
  · exact h
  · exact h.add n

theorem RelA.slice {a a' : Addr} (h : RelA σ a a') (l c : Nat) (hc : c < capU) : RelV σ (.slice (some a) l c) (.slice (some a') l c) := by
  obtain ⟨e, h1, h2, rfl⟩ := h
  obtain ⟨b, o, s⟩ := a
  simp only at h2; subst h2
  exact .slice l c c h1 (fun _ => rfl) (fun h => absurd h (by omega))

theorem run_slice_some {t elem : TypeId} {i : TypeInfo} (ht : P.underlying t = some (.slice elem)) (hi : P.info? elem = some i) {a : Option Addr} {len cap : Nat} {lo hi' mx : Option Value} {l h m : Nat}
    (hb : absBounds len cap lo hi' mx = some (l, h, m)) (w : World) : (Instr.sliceAt t (.slice a len cap) lo hi' mx).run P w = .ok (.slice (if m = l then a else a.map (·.add (l * i.size))) (h - l) (m - l)) w := by
  simp [Instr.sliceAt, Instr.slice, run_underlying ht, run_absBounds hb, Go.sizeOf, typeInfo, hi]

theorem run_slice_arr {t elem : TypeId} {n : Nat} {i : TypeInfo} (ht : P.underlying t = some (.array n elem)) (hi : P.info? elem = some i) {a : Addr} {lo hi' mx : Option Value} {l h m : Nat}
    (hb : absBounds n n lo hi' mx = some (l, h, m)) (w : World) : (Instr.sliceAt t (.pointer (some a)) lo hi' mx).run P w = .ok (.slice (some (if m = l then a else a.add (l * i.size))) (h - l) (m - l)) w := by
  simp [Instr.sliceAt, Instr.sureAddr, run_underlying ht, run_absBounds hb, Go.sizeOf, typeInfo, hi]

theorem Sim.part {c c' : Array Value} (h : RelVs σ c c') (t : TypeId) (off : Nat) : Sim P W σ (Go.part t c off) (Go.part t c' off) RelV := by
  unfold Go.part
  refine Sim.bind Sim.isAgg fun σ1 b b' hx1 hb => ?_
  subst hb
  cases b with
  | true =>
    simp only [if_true]
    refine Sim.bind Sim.sizeOf fun σ2 n n' hx2 hn => ?_
    subst hn
    exact Sim.pure (((h.ext hx1).ext hx2).extract _ _).mkAgg
  | false =>
    simp only [Bool.false_eq_true, if_false]
    cases hv : c[off]? with
    | none => exact Sim.none fun m => rfl
    | some v =>
      obtain ⟨v', h1, h2⟩ := (h.ext hx1).get hv
      rw [h1]; exact Sim.pure h2

theorem Sim.asAgg {v v' : Value} (h : RelV σ v v') : Sim P W σ (Go.asAgg v) (Go.asAgg v') RelVs := by
  cases h with
  | agg hc hc' => exact Sim.pure ⟨hc, hc'⟩
  | _ => exact Sim.none fun m => rfl

theorem Sim.field {v v' : Value} (h : RelV σ v v') (t : TypeId) (f : Nat) : Sim P W σ (Instr.field t v f) (Instr.field t v' f) RelV := by
  unfold Instr.field
  refine Sim.bind Sim.under fun σ1 d d' hx1 hd => ?_
  obtain ⟨rfl, _⟩ := hd
  cases d with
  | struct fs =>
    simp only
    cases hf : fs[f]? with
    | none => exact Sim.none fun m => rfl
    | some fl => exact Sim.bind (Sim.asAgg (h.ext hx1)) fun σ2 c c' _ hc => Sim.part hc _ _
  | _ => exact Sim.none fun m => rfl

theorem Sim.extract {v v' : Value} (h : RelV σ v v') (i : Nat) : Sim P W σ (Instr.extract v i) (Instr.extract v' i) RelV := by
  unfold Instr.extract
  cases h with
  | tuple hc hc' =>
    rename_i c c'
    simp only
    cases hv : c[i]? with
    | none => exact Sim.none fun m => rfl
    | some x =>
      obtain ⟨x', h1, h2⟩ := (⟨hc, hc'⟩ : RelVs σ c c').get hv
      rw [h1]; exact Sim.pure h2
  | _ => exact Sim.none fun m => rfl


theorem RelV.slice_inv {a : Addr} {l c : Nat} {v : Value} (hne : a.block ≠ somewhere) (h : RelV σ (.slice (some a) l c) v) :
    ∃ a' c', v = .slice (some a') l c' ∧ RelA σ a a' ∧ (c < capU → c' = c) ∧ (capU ≤ c → ∃ e, σ.ent a.block = some e ∧ l ≤ c' ∧ c' < 9223372036854775808 ∧ 0 < e.esz ∧ c = capU + e.esz ∧ a.off + e.sh + c' * e.esz = e.csize) := by
  cases h with
  | slice l c c' h hc hu => exact ⟨_, c', rfl, ⟨_, h, rfl, rfl⟩, hc, fun hh => ⟨_, h, hu hh⟩⟩
  | empty c c' a hc => exact absurd rfl hne
  | tail c' a h hz hr => exact absurd rfl hne

theorem absBounds_more {len cap cap' : Nat} {lo hi mx : Option Value} {l h m : Nat} (hb : absBounds len cap lo hi mx = some (l, h, m)) (hc : cap ≤ cap') :
    absBounds len cap' lo hi mx = some (l, h, if mx.isSome = true then m else cap') := by
  unfold absBounds at hb ⊢
  split at hb
  · rename_i m1 h1 l1 e1 e2 e3
    split at hb
    · rename_i hh
      obtain ⟨c1, c2, c3, c4⟩ := hh
      simp only [Option.some.injEq, Prod.mk.injEq] at hb
      obtain ⟨rfl, rfl, rfl⟩ := hb
      rw [e2, e3]
      cases mx with
      | none =>
        simp only [absBound, Option.some.injEq] at e1
        simp only [absBound, Option.isSome_none, Bool.false_eq_true, if_false]
        rw [if_pos ⟨Nat.le_refl _, (fun h => by have := c2 h; omega), (fun h => by simp at h), c4⟩]
      | some v =>
        have e4 : absBound (some v) cap' = some m1 := by cases v <;> simp_all [absBound]
        rw [e4]
        simp only [Option.isSome_some, if_true]
        rw [if_pos ⟨by omega, c2, fun _ => c3 rfl, c4⟩]
    · cases hb
  · cases hb

theorem RelA.sliceU {a a' : Addr} (h : RelA σ a a') {e : Ent} (he : σ.ent a.block = some e) {l c' : Nat} (h1 : l ≤ c') (h2 : c' < 9223372036854775808) (h0 : 0 < e.esz) (h3 : a.off + e.sh + c' * e.esz = e.csize) :
    RelV σ (.slice (some a) l (capU + e.esz)) (.slice (some a') l c') := by
  obtain ⟨e1, h4, h5, rfl⟩ := h
  rw [he] at h4; injection h4 with h4; subst h4
  obtain ⟨b, o, s⟩ := a
  simp only at h5; subst h5
  exact .slice l (capU + e.esz) c' he (fun h => absurd h (by omega)) (fun _ => ⟨h1, h2, h0, rfl, h3⟩)

theorem addr_add_zero (a : Addr) : a.add 0 = a := by simp [Addr.add]
theorem addr_add_off {a : Addr} (n : Nat) : (a.add n).off = a.off + n := by
  unfold Addr.add; split <;> simp_all
theorem addr_add_block {a : Addr} (n : Nat) : (a.add n).block = a.block := by
  unfold Addr.add; split <;> rfl

theorem absSlice_sound (hs0 : σ.ent somewhere = none) {t : TypeId} {x x' v : Value} {lo lo' hi hi' mx mx' : Option Value} (hx : RelV σ x x') (h1 : RelOV σ lo lo') (h2 : RelOV σ hi hi') (h3 : RelOV σ mx mx')
    (h : absSlice P t x lo hi mx = some v) : ∃ v', (∀ w : World, (Instr.sliceAt t x' lo' hi' mx').run P w = .ok v' w) ∧ RelV σ v v' := by
  unfold absSlice at h
  split at h
  · rename_i n elem a ht
    split at h
    · rename_i l hh k i hb hi
      split at h
      · rename_i hn
        injection h with h; subst h
        obtain ⟨rfl, rfl, rfl⟩ := absBounds_rel hb h1 h2 h3
        obtain ⟨a', rfl, ha⟩ := hx.addr
        have := (absBounds_le hb).1
        exact ⟨_, fun w => run_slice_arr ht hi hb w, RelA.slice (ha.iteAdd _ _) _ _ (by omega)⟩
      · cases h
    · cases h
  · rename_i elem len cap ht
    split at h
    · rename_i l hh k i hb hi
      injection h with h; subst h
      obtain ⟨rfl, rfl, rfl⟩ := absBounds_rel hb h1 h2 h3
      cases hx
      have := fun w : World => run_slice_some ht hi (a := none) hb w
      simp only [Option.map_none, ite_self] at this
      exact ⟨_, this, .nilSlice _ _⟩
    · cases h
  · rename_i elem a len cap ht
    split at h
    · rename_i hs
      split at h
      · rename_i l hh k i hb hi
        split at h
        · rename_i hc
          obtain ⟨rfl, hspot, hoff⟩ := hc
          injection h with h; subst h
          obtain ⟨rfl, rfl, rfl⟩ := absBounds_rel hb h1 h2 h3
          have hk := absBounds_le hb
          have hl0 : l = 0 := by
            rcases Classical.em (lo' = none) with e | e
            · exact hk.2.2.1 e
            · have a1 := hk.2.2.2.1 e
              rcases Classical.em (hi' = none) with e' | e'
              · have := (hk.2.2.2.2.2 e').1; omega
              · have := hk.2.2.2.2.1 e'; omega
          have hh0 : hh = 0 := by
            rcases Classical.em (hi' = none) with e' | e'
            · exact (hk.2.2.2.2.2 e').1
            · have := hk.2.2.2.2.1 e'; omega
          subst hl0 hh0
          cases hx with
          | slice l c c' h hc hu => simp only at hs; rw [hs, hs0] at h; cases h
          | empty c c' a hc =>
            have hr := fun w : World => run_slice_some ht hi (a := some a) (absBounds_more hb (Nat.zero_le c')) w
            simp only [Option.map_some, Nat.zero_mul, addr_add_zero, ite_self, Nat.sub_zero] at hr
            refine ⟨_, hr, ?_⟩
            cases mx' with
            | none => simp only [Option.isSome_none, Bool.false_eq_true, if_false]; exact .empty _ _ _ hc
            | some u =>
              have hk0 : k = 0 := by omega
              subst hk0
              simp only [Option.isSome_some, if_true]; exact .empty _ _ _ (fun _ => rfl)
          | tail c' a hh hz hr =>
            have hr' := fun w : World => run_slice_some ht hi (a := some a) (absBounds_more hb (Nat.zero_le c')) w
            simp only [Option.map_some, Nat.zero_mul, addr_add_zero, ite_self, Nat.sub_zero] at hr'
            refine ⟨_, hr', ?_⟩
            cases mx' with
            | none => simp only [Option.isSome_none, Bool.false_eq_true, if_false]; exact .tail _ _ hh hz hr
            | some u => simp at hoff
        · cases h
      · cases h
    · rename_i hs
      obtain ⟨a', c', rfl, ha, hc, hu⟩ := hx.slice_inv hs
      split at h
      · rename_i hcap
        obtain ⟨e, he, hle, hlt, hez0, hce, hroom⟩ := hu hcap
        split at h
        · rename_i l hh k i hb hi
          split at h
          · rename_i hcc
            obtain ⟨hf, hlh, hhl⟩ := hcc
            obtain ⟨rfl, rfl, rfl⟩ := absBounds_rel hb h1 h2 h3
            have hk := absBounds_le hb
            have hez : e.esz = i.size := by omega
            have hr := fun w : World => run_slice_some ht hi (a := some a') (absBounds_more hb hle) w
            simp only [Option.map_some] at hr
            split at h
            · rename_i hm
              injection h with h; subst h
              simp only [if_pos hm] at hr
              have e2 : (if k = l then some a' else some (a'.add (l * i.size))) = some (if k = l then a' else a'.add (l * i.size)) := by split <;> rfl
              simp only [e2] at hr
              exact ⟨_, hr, RelA.slice (ha.iteAdd _ _) _ _ (by unfold capU; omega)⟩
            · rename_i hm
              simp only [if_neg hm] at hr
              split at h
              · rename_i hll
                injection h with h; subst h
                simp only [if_neg (show ¬ c' = l by omega)] at hr
                rw [hce]
                refine ⟨_, hr, (ha.add (l * i.size)).sliceU (e := e) (by rw [addr_add_block]; exact he) (by omega) (by omega) hez0 ?_⟩
                rw [addr_add_off]
                rw [hez] at hroom ⊢
                have : c' = l + (c' - l) := by omega
                have h5 : c' * i.size = l * i.size + (c' - l) * i.size := by rw [← Nat.add_mul, ← this]
                omega
              · rename_i hll
                injection h with h; subst h
                have hz : hh - l = 0 := by omega
                simp only [hz] at hr
                rw [hce]
                by_cases hcl : c' = l
                · simp only [if_pos hcl] at hr
                  exact ⟨_, hr, .tail _ _ he hez0 (.inl (by omega))⟩
                · simp only [if_neg hcl] at hr
                  refine ⟨_, hr, .tail _ _ he hez0 (.inr ?_)⟩
                  obtain ⟨e1, z1, z2, rfl⟩ := ha
                  rw [he] at z1; injection z1 with z1; subst z1
                  refine ⟨a.off + l * i.size, ?_, by omega, ?_⟩
                  · unfold Addr.add
                    split
                    · simp_all
                    · simp only [Addr.mk.injEq, true_and, and_true]; omega
                  · rw [hez] at hroom ⊢
                    have : c' = l + (c' - l) := by omega
                    have h5 : c' * i.size = l * i.size + (c' - l) * i.size := by rw [← Nat.add_mul, ← this]
                    omega
          · cases h
        · cases h
      · split at h
        · rename_i l hh k i hb hi
          injection h with h; subst h
          obtain ⟨rfl, rfl, rfl⟩ := absBounds_rel hb h1 h2 h3
          have hce : c' = cap := hc (by omega)
          subst hce
          have := (absBounds_le hb).1
          have hr := fun w : World => run_slice_some ht hi (a := some a') hb w
          simp only [Option.map_some] at hr
          have e : (if k = l then some a' else some (a'.add (l * i.size))) = some (if k = l then a' else a'.add (l * i.size)) := by split <;> rfl
          simp only [e] at hr
          exact ⟨_, hr, RelA.slice (ha.iteAdd _ _) _ _ (by omega)⟩
        · cases h
  · cases h

def absIndexAddr (P : Program) (t : TypeId) (x i : Value) : Option Value :=
  match P.underlying t, x, i with
  | some (.array len elem), .pointer (some a), .int _ i => match P.info? elem with
    | some q => if 0 ≤ i ∧ i < (len : Int) then some (.pointer (some (a.add (i.toNat * q.size)))) else none
    | none => none
  | some (.slice elem), .slice (some a) len _, .int _ i => match P.info? elem with
    | some q => if 0 ≤ i ∧ i < (len : Int) then some (.pointer (some (a.add (i.toNat * q.size)))) else none
    | none => none
  | _, _, _ => none

theorem absIndexAddr_sound {t : TypeId} {x x' i i' v : Value} (hx : RelV σ x x') (hi : RelV σ i i') (h : absIndexAddr P t x i = some v) : ∃ v', (∀ w : World, (Instr.indexAt t x' i').run P w = .ok v' w) ∧ RelV σ v v' := by
  unfold absIndexAddr at h
  split at h
  · rename_i len elem a k n ht
    split at h
    · rename_i q hq
      split at h
      · rename_i hc
        injection h with h; subst h
        obtain ⟨a', rfl, ha⟩ := hx.addr
        cases hi
        exact ⟨_, fun w => by simp [Instr.indexAt, Instr.sureAddr, Go.asIntOf, run_underlying ht, Go.sizeOf, typeInfo, hq, hc], (ha.add _).ptr⟩
      · cases h
    · cases h
  · rename_i elem a len c k n ht
    split at h
    · rename_i q hq
      split at h
      · rename_i hc
        injection h with h; subst h
        cases hi
        cases hx with
        | slice l c c' h hc' hu =>
          rename_i b o e
          have ha : RelA σ ⟨b, o, none⟩ ⟨e.blk, o + e.sh, none⟩ := ⟨e, h, rfl, rfl⟩
          exact ⟨_, fun w => by simp [Instr.indexAt, Instr.sureAddr, Go.asIntOf, run_underlying ht, Go.sizeOf, typeInfo, hq, hc], (ha.add _).ptr⟩
        | empty c c' a hc' => omega
        | tail c' a h' hz hr => omega
      · cases h
    · cases h
  · cases h

def absFieldAddr (P : Program) (s : TypeId) (x : Value) (f : Nat) : Option Value :=
  match P.underlying s, x with
  | some (.struct fs), .pointer (some a) => match fs[f]? with
    | some fl => match P.info? fl.type with
      | some q => if q.size = 0 then none else some (.pointer (some (a.add fl.offset)))
      | none => none
    | none => none
  | _, _ => none

theorem absFieldAddr_sound {s : TypeId} {x x' v : Value} {f : Nat} (hx : RelV σ x x') (h : absFieldAddr P s x f = some v) : ∃ v', (∀ w : World, (Instr.fieldAt s x' f).run P w = .ok v' w) ∧ RelV σ v v' := by
  unfold absFieldAddr at h
  split at h
  · rename_i fs a ht
    split at h
    · rename_i fl hf
      split at h
      · rename_i q hq
        split at h
        · cases h
        · rename_i hc
          injection h with h; subst h
          obtain ⟨a', rfl, ha⟩ := hx.addr
          exact ⟨_, fun w => by simp [Instr.fieldAt, Instr.sureAddr, run_underlying ht, hf, Go.fieldPlace, Go.sizeOf, typeInfo, hq, hc], (ha.add _).ptr⟩
      · cases h
    · cases h
  · cases h

def absPart (P : Program) (t : TypeId) (c : Array Value) (off : Nat) : Option Value :=
  match P.underlying t with
  | some (.struct _) => match P.info? t with
    | some i => some (.agg (c.extract off (off + i.size)))
    | none => none
  | some (.array _ _) => match P.info? t with
    | some i => some (.agg (c.extract off (off + i.size)))
    | none => none
  | some _ => c[off]?
  | none => none

theorem absPart_sound {c c' : Array Value} (h : RelVs σ c c') {t : TypeId} {off : Nat} {v : Value} (hv : absPart P t c off = some v) : ∃ v', (∀ w : World, (Go.part t c' off).run P w = .ok v' w) ∧ RelV σ v v' := by
  unfold absPart at hv
  split at hv
  · rename_i fs ht
    split at hv
    · rename_i i hi
      injection hv with hv; subst hv
      exact ⟨_, fun w => by simp [Go.part, Go.isAgg, run_underlying ht, Go.sizeOf, typeInfo, hi], (h.extract _ _).mkAgg⟩
    · cases hv
  · rename_i n e ht
    split at hv
    · rename_i i hi
      injection hv with hv; subst hv
      exact ⟨_, fun w => by simp [Go.part, Go.isAgg, run_underlying ht, Go.sizeOf, typeInfo, hi], (h.extract _ _).mkAgg⟩
    · cases hv
  · rename_i d h1 h2 ht
    obtain ⟨v', g1, g2⟩ := h.get hv
    refine ⟨v', fun w => ?_, g2⟩
    have : (Go.isAgg t).run P w = .ok false w := by
      unfold Go.isAgg
      rw [Sem.run_bind, run_underlying ht]
      cases d <;> first | rfl | exact absurd rfl (h1 _) | exact absurd rfl (h2 _ _)
    simp [Go.part, this, g1]
  · cases hv

def absIndex (P : Program) (t : TypeId) (x i : Value) : Option Value :=
  match P.underlying t, x, i with
  | some (.array len elem), .agg cs, .int _ i => match P.info? elem with
    | some q => if 0 ≤ i ∧ i < (len : Int) then absPart P elem cs (i.toNat * q.size) else none
    | none => none
  | _, _, _ => none

theorem absIndex_sound {t : TypeId} {x x' i i' v : Value} (hx : RelV σ x x') (hi : RelV σ i i') (h : absIndex P t x i = some v) :
    ∃ v', (∀ w : World, (Instr.index t x' i').run P w = .ok v' w) ∧ RelV σ v v' := by
  unfold absIndex at h
  split at h
  · rename_i len elem cs k n ht
    split at h
    · rename_i q hq
      split at h
      · rename_i hc
        cases hi
        cases hx with
        | agg h1 h2 =>
          obtain ⟨v', e1, e2⟩ := absPart_sound ⟨h1, h2⟩ h
          exact ⟨v', fun w => by simp [Instr.index, Go.asIntOf, run_underlying ht, Go.sizeOf, typeInfo, hq, hc, e1], e2⟩
      · cases h
    · cases h
  · cases h

def absField (P : Program) (t : TypeId) (x : Value) (f : Nat) : Option Value :=
  match P.underlying t, x with
  | some (.struct fs), .agg cs => match fs[f]? with
    | some fl => absPart P fl.type cs fl.offset
    | none => none
  | _, _ => none

theorem absField_sound {t : TypeId} {x x' v : Value} {f : Nat} (hx : RelV σ x x') (h : absField P t x f = some v) : ∃ v', (∀ w : World, (Instr.field t x' f).run P w = .ok v' w) ∧ RelV σ v v' := by
  unfold absField at h
  split at h
  · rename_i fs cs ht
    split at h
    · rename_i fl hf
      cases hx with
      | agg h1 h2 =>
        obtain ⟨v', e1, e2⟩ := absPart_sound ⟨h1, h2⟩ h
        exact ⟨v', fun w => by simp [Instr.field, run_underlying ht, hf, Go.asAgg, e1], e2⟩
    · cases h
  · cases h

def absExtract (t : Value) (i : Nat) : Option Value :=
  match t with
  | .tuple vs => vs[i]?
  | _ => none

theorem absExtract_sound {x x' v : Value} {i : Nat} (hx : RelV σ x x') (h : absExtract x i = some v) : ∃ v', (∀ w : World, (Instr.extract x' i).run P w = .ok v' w) ∧ RelV σ v v' := by
  unfold absExtract at h
  split at h
  · rename_i vs
    cases hx with
    | tuple h1 h2 =>
      obtain ⟨v', e1, e2⟩ := (⟨h1, h2⟩ : RelVs σ _ _).get h
      exact ⟨v', fun w => by simp [Instr.extract, e1], e2⟩
  · cases h

def absBuild (P : Program) (t : TypeId) (ps : List (Nat × Value)) : Option Value :=
  match peel P (zeroValue t), P.underlying t with
  | some z, some (.struct fields) => if pureD 8 z = true then match peel P (fields.mapM fun f => (do pure (f.offset, ← Go.sizeOf f.type) : Sem (Nat × Nat))) with
    | some places => match Instr.fill (places[·]?) z.cells ps with
      | some c => some (.agg c)
      | none => none
    | none => none else none
  | some z, some (.array _ elem) => if pureD 8 z = true then match P.info? elem with
    | some i => match Instr.fill (fun k => some (k * i.size, i.size)) z.cells ps with
      | some c => some (.agg c)
      | none => none
    | none => none else none
  | _, _ => none

theorem absBuild_sound {t : TypeId} {ps ps' : Array (Nat × Value)} {v : Value} (hp : RelP σ ps.toList ps'.toList) (h : absBuild P t ps.toList = some v) : ∃ v', (∀ w : World, (Instr.build t ps').run P w = .ok v' w) ∧ RelV σ v v' := by
  unfold absBuild at h
  split at h
  · rename_i z fields hz ht
    split at h
    · rename_i hpu
      split at h
      · rename_i places hpl
        split at h
        · rename_i c hf
          injection h with h; subst h
          rcases rel_fill (σ := σ) (places[·]?) ps.toList ps'.toList z.cells z.cells hp (RelVs.cells (pure_rel 8 z hpu)) with ⟨r, r', h1, h2, h3⟩ | h1
          · rw [hf] at h1; injection h1 with h1; subst h1
            exact ⟨.agg r', fun w => by simp only [Instr.build, Sem.run_bind, peel_run hz, Result.andThen_ok, run_underlying ht, peel_run hpl, h2]; rfl, h3.mkAgg⟩
          · rw [hf] at h1; cases h1
        · cases h
      · cases h
    · cases h
  · rename_i z n elem hz ht
    split at h
    · rename_i hpu
      split at h
      · rename_i i hi
        split at h
        · rename_i c hf
          injection h with h; subst h
          rcases rel_fill (σ := σ) (fun k => some (k * i.size, i.size)) ps.toList ps'.toList z.cells z.cells hp (RelVs.cells (pure_rel 8 z hpu)) with ⟨r, r', h1, h2, h3⟩ | h1
          · rw [hf] at h1; injection h1 with h1; subst h1
            refine ⟨.agg r', fun w => ?_, h3.mkAgg⟩
            have hs : (Go.sizeOf elem).run P w = .ok i.size w := by simp [Go.sizeOf, typeInfo, hi]
            simp only [Instr.build, Sem.run_bind, peel_run hz, Result.andThen_ok, run_underlying ht, hs, h2]; rfl
          · rw [hf] at h1; cases h1
        · cases h
      · cases h
    · cases h
  · cases h
end
end Go.Proofs.Ytfghccppoilfhaa
