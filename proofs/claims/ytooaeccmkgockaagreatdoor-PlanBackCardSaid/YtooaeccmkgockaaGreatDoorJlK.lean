/-
  strings.Join, Split, Cut by value: Split's answer is a row of one's own. Conditions: texts not too long; the separator is one byte.
-/
import Derived.Test.YtooaeccmkgockaaGreatDoorJaK
import Derived.Test.YtooaeccmkgockaaGreatDoorAfK
import Derived.Test.YtooaeccmkgockaaGreatDoorVdr
import Derived.Test.YtooaeccmkgockaaGreatDoorK3
import Derived.Lib.SplitLaws
namespace Go.Proofs.YtooaeccmkgockaaGreatDoor.V
open Go.RowKit Go.Shelf Go.Lib
attribute [local irreducible] OpVC

theorem Builder_Extra_156 : Builder.Extra Tryz.prog lays156_ren := {
  sizeBuilder := by kernel_rfl
  liesBuilder := by kernel_rfl
  t5 := Tryz.underlying5
  a5 := Tryz.isAgg5
  z5 := Tryz.sizeOf5
  v5 := Tryz.zeroValue5
  infoByte := by kernel_rfl
  cellsByte := by kernel_rfl
  sizeByte := by kernel_rfl
  neB5 := by decide }

theorem interc_map {α β : Type} (f : α → β) (sep : List α) : ∀ L : List (List α), (sep.map f).intercalate (L.map (List.map f)) = (sep.intercalate L).map f
  | [] => rfl
  | [x] => by simp [List.intercalate]
  | x :: y :: r => by
    have := interc_map f sep (y :: r)
    simp only [List.intercalate, List.map_cons, List.intersperse, List.flatten_cons, List.map_append] at this ⊢
    rw [this]
theorem map_data (L : List (List Nat)) : (L.map strB).map (fun b => b.data.toList) = L.map (List.map UInt8.ofNat) := by
  rw [List.map_map]; rfl
theorem join_c : JoinC := by
  intro L sep hL hs hlen hjl
  refine ⟨⟨_, Tryz.func38, rfl⟩, fun w B args' hB hr => ?_⟩
  match args', hr with
  | [], hr => have := hr.1; simp at this
  | [_], hr => have := hr.1; simp at this
  | _ :: _ :: _ :: _, hr => have := hr.1; simp at this
  | [v0, v1], hr =>
  have h0 := hr.2 0 _ v0 rfl rfl
  have h1 := rep_v (hr.2 1 (strD sep) v1 rfl rfl)
  subst h1
  have hval : Lib.join ((L.map strB).map (fun b => b.data.toList)) (strB sep).data.toList = (joinN sep L).map UInt8.ofNat := by
    rw [map_data, strB_data]; exact interc_map _ _ _
  cases h0 with
  | rows b o g hc hp hl hcell hrep =>
    rename_i p c
    cases L with
    | nil =>
      refine (calls_under ((Any.strings_Join_none lays156 Builder_Extra_156 p c (strB sep) w).mono fun e w' ⟨h1, h2⟩ => ⟨h1, h2 ▸ Below.refl _ _⟩)).mono fun e w' ⟨h1, h2⟩ => ?_
      exact ⟨_, _, rfl, h1, h2, .v⟩
    | cons x r =>
      obtain ⟨hp1, hp2⟩ := hp (by simp)
      subst hp1
      have hcells : ∀ (j : Nat) y, ((x :: r).map strB)[j]? = some y → w.cell? ⟨b, o + j, none⟩ = some (.string y) := fun j y hy => by
        rw [List.getElem?_map] at hy
        cases hq : (x :: r)[j]? with
        | none => rw [hq] at hy; cases hy
        | some z =>
          rw [hq] at hy
          simp only [Option.map_some, Option.some.injEq] at hy
          subst hy
          have h4 := hcell j z 0 (strD z) hq rfl
          have h5 := rep_v (hrep j z 0 (strD z) hq rfl)
          rw [h5, Nat.mul_one, Nat.add_zero] at h4
          exact h4
      have hll : ((x :: r).map strB).length = (x :: r).length := by simp
      have hcall := Any.strings_Join lays156 Builder_Extra_156 b o c ((x :: r).map strB) (strB sep) w hcells (hB b hp2) (by rw [hll]; omega) (by rw [hll]; exact hc) (by rw [hval, List.length_map]; omega)
      rw [hll, hval] at hcall
      exact (calls_under hcall).mono fun e w' ⟨h1, h2⟩ => ⟨_, _, rfl, h1, h2, .v⟩

/-! ### Split -/
theorem isPre (c x : UInt8) (l : List UInt8) : [c].isPrefixOf (x :: l) = (c == x) := by simp [List.isPrefixOf]
theorem split_eq {c : Nat} (hc : c < 256) : ∀ l : List Nat, Byt l → splitK [UInt8.ofNat c] 0 ((l.map UInt8.ofNat).count (UInt8.ofNat c)) (l.map UInt8.ofNat) = (spl c l).map (List.map UInt8.ofNat)
  | [], _ => rfl
  | x :: l, h => by
    have ih := split_eq hc l h.tail
    have hx := h.head
    rw [List.map_cons]
    by_cases hxc : x = c
    · subst hxc
      rw [List.count_cons_self, splitK]
      have hi : index (UInt8.ofNat x :: l.map UInt8.ofNat) [UInt8.ofNat x] = 0 := by
        rw [index, isPre]; simp
      rw [hi, spl, splB, eqC_self]
      simp only []
      rw [List.map_cons, ← ih]
      rfl
    · have hne : UInt8.ofNat x ≠ UInt8.ofNat c := fun e => hxc (ofNat_inj hx hc e)
      rw [List.count_cons_of_ne hne, spl, splB, show eqC c x = false from decide_eq_false hxc]
      obtain ⟨p, r, hpr⟩ : ∃ p r, spl c l = p :: r := by
        cases hq : spl c l with
        | nil => exact absurd hq (splB_ne _ l)
        | cons p r => exact ⟨p, r, rfl⟩
      rw [spl] at hpr
      rw [spl, hpr] at ih
      rw [hpr]
      simp only [List.map_cons] at ih ⊢
      cases hk : (l.map UInt8.ofNat).count (UInt8.ofNat c) with
      | zero =>
        rw [hk, splitK] at ih
        injection ih with i1 i2
        rw [splitK, ← i1, ← i2]
      | succ k =>
        rw [hk, splitK] at ih
        rw [splitK]
        have hi : index (UInt8.ofNat x :: l.map UInt8.ofNat) [UInt8.ofNat c] = if index (l.map UInt8.ofNat) [UInt8.ofNat c] == -1 then -1 else index (l.map UInt8.ofNat) [UInt8.ofNat c] + 1 := by
          rw [index, isPre, if_neg (by simp; exact fun e => hne e.symm)]
        rw [hi]
        have hge := index_ge (l.map UInt8.ofNat) [UInt8.ofNat c]
        by_cases hm : index (l.map UInt8.ofNat) [UInt8.ofNat c] = -1
        · rw [hm] at ih ⊢
          simp only [beq_self_eq_true, if_true] at ih ⊢
          injection ih with i1 i2
          rw [← i1, ← i2]
        · have e1 : (index (l.map UInt8.ofNat) [UInt8.ofNat c] == -1) = false := beq_eq_false_iff_ne.2 hm
          have e2 : (index (l.map UInt8.ofNat) [UInt8.ofNat c] + 1 == -1) = false := beq_eq_false_iff_ne.2 (by omega)
          rw [e1] at ih ⊢
          simp only [Bool.false_eq_true, if_false] at ih ⊢
          rw [e2]
          simp only [Bool.false_eq_true, if_false]
          injection ih with i1 i2
          obtain ⟨i, hi⟩ := Int.eq_ofNat_of_zero_le (show 0 ≤ index (l.map UInt8.ofNat) [UInt8.ofNat c] by omega)
          rw [hi] at i1 i2 ⊢
          rw [show ((i : Int) + 1).toNat + 0 = i + 1 by omega, show ((i : Int) + 1).toNat + ([UInt8.ofNat c] : List UInt8).length = (i + 1) + 1 from (by show ((i : Int) + 1).toNat + 1 = _; omega)]
          rw [← i1, ← i2]
          simp

theorem gensplit_one (s : ByteArray) (c : UInt8) (w : World) (hs : s.size < 4294967281) :
    Calls Tryz.prog 49 #[.string s, .string ⟨#[c]⟩, .int .i64 (0 : Nat), .int .i64 (-1)] w fun e w' =>
      e = .returned (.slice (some ⟨w.heap.size, 0, none⟩) (Lib.splitB ⟨#[c]⟩ 0 (Lib.countB s ⟨#[c]⟩) s).length (Lib.countB s ⟨#[c]⟩ + 1)) ∧ w' = w.alloc (.cells (Lib.cellsOf (Lib.splitB ⟨#[c]⟩ 0 (Lib.countB s ⟨#[c]⟩) s) (Lib.countB s ⟨#[c]⟩ + 1)) 9) := by
  have hle := Lib.countB_le ⟨#[c]⟩ (Nat.le_refl _) s.size s (Nat.le_refl _)
  have hidx : ∀ x : ByteArray, Lib.indexB x ⟨#[c]⟩ = Lib.indexByte x.data.toList c := fun x => Lib.index_one x.data.toList c
  have hcnt : Lib.countB s ⟨#[c]⟩ = Lib.countByte s.data.toList c := Lib.count_one c s.data.toList
  have h := Any.strings_genSplit_core lays221 (by kernel_rfl) s ⟨#[c]⟩ 0 (-1) (Lib.countB s ⟨#[c]⟩ + 1) w hs (Nat.le_refl _) (Nat.zero_le _)
    (fun x cc hx => (Any.strings_Index_one { lays221 with } x c _).mono fun e w' ⟨h1, h2⟩ => ⟨by rw [h1, hidx], h2⟩)
    ((Any.strings_Count_one { lays221 with } s c w).mono fun e w' ⟨h1, h2⟩ => ⟨by rw [h1, hcnt], h2⟩)
    (by decide) (by decide) (by rw [if_pos (by decide)]; omega)
  rw [Nat.add_sub_cancel] at h
  exact h
theorem data_inj : ∀ a b : List ByteArray, a.map (fun b => b.data.toList) = b.map (fun b => b.data.toList) → a = b
  | [], [], _ => rfl
  | [], _ :: _, h => by simp at h
  | _ :: _, [], h => by simp at h
  | x :: a, y :: b, h => by
    simp only [List.map_cons, List.cons.injEq] at h
    rw [strB_ext h.1, data_inj a b h.2]
theorem gensplit_at (l : List Nat) (hl : Byt l) (hlen : l.length ≤ 100000) {c : Nat} (hc : c < 256) (w : World) :
    Calls Tryz.prog 49 #[.string (strB l), .string (strB [c]), .int .i64 (0 : Nat), .int .i64 (-1)] w fun e w' =>
      e = .returned (.slice (some ⟨w.heap.size, 0, none⟩) (spl c l).length (spl c l).length) ∧ w' = w.alloc (.cells ((spl c l).map fun x => Value.string (strB x)).toArray 9) := by
  have cc := gensplit_one (strB l) (UInt8.ofNat c) w (by rw [strB_size]; omega)
  have hn := Lib.splitB_all ⟨#[UInt8.ofNat c]⟩ (Nat.le_refl _) 0 _ (strB l) rfl
  have e2 : Lib.cellsOf (Lib.splitB ⟨#[UInt8.ofNat c]⟩ 0 (Lib.countB (strB l) ⟨#[UInt8.ofNat c]⟩) (strB l)) (Lib.countB (strB l) ⟨#[UInt8.ofNat c]⟩ + 1) = ((Lib.splitB ⟨#[UInt8.ofNat c]⟩ 0 (Lib.countB (strB l) ⟨#[UInt8.ofNat c]⟩) (strB l)).map Value.string).toArray := by
    have := Lib.cellsOf_full (Lib.splitB ⟨#[UInt8.ofNat c]⟩ 0 (Lib.countB (strB l) ⟨#[UInt8.ofNat c]⟩) (strB l))
    rwa [hn] at this
  rw [e2] at cc
  have hsp : Lib.splitB ⟨#[UInt8.ofNat c]⟩ 0 (Lib.countB (strB l) ⟨#[UInt8.ofNat c]⟩) (strB l) = (spl c l).map strB := by
    have h5 := Lib.splitB_data ⟨#[UInt8.ofNat c]⟩ 0 (Lib.countB (strB l) ⟨#[UInt8.ofNat c]⟩) (strB l)
    have h6 : Lib.countB (strB l) ⟨#[UInt8.ofNat c]⟩ = (l.map UInt8.ofNat).count (UInt8.ofNat c) := Lib.count_one (UInt8.ofNat c) (l.map UInt8.ofNat)
    rw [h6] at h5
    have h7 := h5.trans (split_eq hc l hl)
    rw [← map_data] at h7
    rw [h6]
    exact data_inj _ _ h7
  rw [hsp] at cc hn
  rw [List.length_map] at hn
  rw [List.map_map, List.length_map, ← hn] at cc
  exact cc

section
variable {E : Env} {s : St} {σ : Nat → Nat} {τ : Nat → Value} {a : Act} {w : World}
theorem strRow_state (hs : SR E s σ τ a w) (L : List (List Nat)) (hl : L.length ≤ 1000000) :
    ∃ τ', SR E ⟨s.F, (s.nx, .grow (List Nat) 9 1 strE L) :: s.H, s.nx + 1, s.G⟩ σ τ' a (w.alloc (.cells (L.map fun x => Value.string (strB x)).toArray 9)) ∧ τ' s.nx = .slice (some ⟨w.heap.size, 0, none⟩) L.length L.length := by
  have hml : (maxLen : Nat) = 9223372036854775807 := by decide
  have hown : (w.alloc (.cells (L.map fun x => Value.string (strB x)).toArray 9)).ownsRow 0 9 1 (.slice (some ⟨w.heap.size, 0, none⟩) L.length L.length) L.length (L.map fun x => Value.string (strB x)) := by
    refine ⟨by simp, .inr ⟨w.heap.size, _, _, rfl, Nat.zero_le _, heap_alloc_new w _, Nat.le_refl _, by rw [hml]; omega, by simp, ?_⟩⟩
    exact List.take_of_length_le (by simp)
  exact grow_state (dst := .v (.slice none 0 0)) (u := .slice none 0 0) (el := 9) (e := 1) (old := []) (w' := w.alloc (.cells (L.map fun x => Value.string (strB x)).toArray 9)) hs (by simp [ownRows]) .v (Nat.le_refl _) (World.grownBy_alloc w _ _) (.inr (.inr rfl)) ⟨_, _, _, rfl⟩ (β := List Nat) (enc := strE) (L := L) hown
    (fun i x hx => rfl) (fun i x j d v hx hd hv => by
      match j, hd with
      | 0, hd =>
        injection hd with hd; subst hd
        rw [Nat.mul_one, Nat.add_zero, List.getElem?_map, hx] at hv
        injection hv with hv; subst hv
        exact .v
      | _ + 1, hd => simp [strE] at hd)
end
theorem gensplit_vc (l : List Nat) (hl : Byt l) (hlen : l.length ≤ 100000) {c : Nat} (hc : c < 256) {g : Bool} {s : St} {K : D → St → Prop} (h : K (.grow s.nx) ⟨s.F, (s.nx, .grow (List Nat) 9 1 strE (spl c l)) :: s.H, s.nx + 1, s.G⟩) :
    CallVC Tryz.prog g 49 [strD l, strD [c], intD 0, intD (-1)] s K := by
  refine ⟨⟨_, Tryz.func49, rfl⟩, fun E σ τ a w args' hs hr => ?_⟩
  match args', hr with
  | [], hr => have := hr.1; simp at this
  | [_], hr => have := hr.1; simp at this
  | [_, _], hr => have := hr.1; simp at this
  | [_, _, _], hr => have := hr.1; simp at this
  | _ :: _ :: _ :: _ :: _ :: _, hr => have := hr.1; simp at this
  | [v0, v1, v2, v3], hr =>
  have h0 := rep_v (hr.2 0 (strD l) v0 rfl rfl)
  have h1 := rep_v (hr.2 1 (strD [c]) v1 rfl rfl)
  have h2 := rep_v (hr.2 2 (intD 0) v2 rfl rfl)
  have h3 := rep_v (hr.2 3 (intD (-1)) v3 rfl rfl)
  subst h0 h1 h2 h3
  refine (gensplit_at l hl hlen hc w).mono fun e w' ⟨h4, h5⟩ => ?_
  subst h5
  have hsl : (spl c l).length ≤ l.length + 1 := splB_len _ l
  obtain ⟨τ', h6, h7⟩ := strRow_state hs (spl c l) (by omega)
  refine ⟨_, _, σ, τ', _, h, h4, h6, .grow ⟨Nat.lt_succ_self _, h7.symm⟩, fun _ => (Below.refl _ _).alloc (Nat.le_refl _) _⟩
attribute [local irreducible] Fn FnN
theorem split_vc (l : List Nat) (hl : Byt l) (hlen : l.length ≤ 100000) {c : Nat} (hc : c < 256) {F : List (Nat × D)} {H : List (Nat × LO)} {nx : Nat} {G : List Nat × Nat} {K : D → St → Prop} (h : K (.grow nx) ⟨F, (nx, .grow (List Nat) 9 1 strE (spl c l)) :: H, nx + 1, G⟩) :
    CallVC Tryz.prog false 22 [strD l, strD [c]] ⟨F, H, nx, G⟩ K := by
  refine goIn [] Tryz.func22 rfl (by kernel_rfl) (Nat.le_of_ble_eq_true rfl) ?_
  conv => whnf
  refine gensplit_vc l hl hlen hc ?_
  conv => whnf
  exact h

/-! ### Cut -/
def ixN (c : Nat) : List Nat → Nat → Int
  | [], _ => -1
  | x :: l, k => match decide (x = c) with
    | true => k
    | false => ixN c l (k + 1)
theorem ixN_at (c : Nat) : ∀ (l : List Nat) (k : Nat), (ixN c l k = -1 ∧ cutL c l = l ∧ cutR c l = []) ∨ ∃ i : Nat, ixN c l k = (k + i : Nat) ∧ i < l.length ∧ cutL c l = l.take i ∧ cutR c l = l.drop (i + 1)
  | [], k => .inl ⟨rfl, rfl, rfl⟩
  | x :: l, k => by
    rw [ixN, cutL, cutR]
    cases decide (x = c) with
    | true => exact .inr ⟨0, rfl, Nat.succ_pos _, rfl, rfl⟩
    | false =>
      rcases ixN_at c l (k + 1) with ⟨h1, h2, h3⟩ | ⟨i, h1, h2, h3, h4⟩
      · refine .inl ⟨h1, ?_, h3⟩
        show x :: cutL c l = _
        rw [h2]
      · refine .inr ⟨i + 1, ?_, Nat.succ_lt_succ h2, ?_, h4⟩
        · show ixN c l (k + 1) = _
          rw [h1]; omega
        · show x :: cutL c l = _
          rw [h3]; rfl
theorem indexByte_eq {c : Nat} (hc : c < 256) : ∀ (l : List Nat) (k : Nat), Byt l → (Lib.indexByte (l.map UInt8.ofNat) (UInt8.ofNat c) = -1 ∧ ixN c l k = -1) ∨ (0 ≤ Lib.indexByte (l.map UInt8.ofNat) (UInt8.ofNat c) ∧ ixN c l k = k + Lib.indexByte (l.map UInt8.ofNat) (UInt8.ofNat c))
  | [], k, _ => .inl ⟨rfl, rfl⟩
  | x :: l, k, h => by
    have ih := indexByte_eq hc l (k + 1) h.tail
    rw [List.map_cons, Lib.indexByte, ixN]
    by_cases hx : x = c
    · subst hx
      rw [decide_eq_true rfl]
      simp
    · have hne : UInt8.ofNat x ≠ UInt8.ofNat c := fun e => hx (ofNat_inj h.head hc e)
      rw [decide_eq_false hx]
      have hb : (UInt8.ofNat x == UInt8.ofNat c) = false := beq_eq_false_iff_ne.2 hne
      simp only [hb]
      rcases ih with ⟨i1, i2⟩ | ⟨i1, i2⟩
      · exact .inl ⟨by simp [i1], i2⟩
      · have hb2 : (Lib.indexByte (l.map UInt8.ofNat) (UInt8.ofNat c) == -1) = false := beq_eq_false_iff_ne.2 (by omega)
        rw [hb2]
        simp only [Bool.false_eq_true, if_false]
        exact .inr ⟨by omega, by rw [i2]; omega⟩
theorem indexS_fn (l : List Nat) (hl : Byt l) {c : Nat} (hc : c < 256) : Fn Tryz.prog 79 [strD l, strD [c]] fun d => d = intD (ixN c l 0) := by
  unfold Fn
  refine ⟨⟨_, Tryz.func79, rfl⟩, fun w B args' hB hr => ?_⟩
  match args', hr with
  | [], hr => have := hr.1; simp at this
  | [_], hr => have := hr.1; simp at this
  | _ :: _ :: _ :: _, hr => have := hr.1; simp at this
  | [v0, v1], hr =>
  have h0 := rep_v (hr.2 0 (strD l) v0 rfl rfl)
  have h1 := rep_v (hr.2 1 (strD [c]) v1 rfl rfl)
  subst h0 h1
  refine (Any.stringslite_Index_one lays219 (strB l) (UInt8.ofNat c) w).mono fun e w' ⟨h1, h2⟩ => ?_
  subst h2
  refine ⟨_, _, rfl, h1, Under.refl _ _, ?_⟩
  have h3 : Lib.indexByte (strB l).data.toList (UInt8.ofNat c) = ixN c l 0 := by
    rw [strB_data]
    rcases indexByte_eq hc l 0 hl with ⟨h, k⟩ | ⟨_, k⟩
    · rw [h, k]
    · rw [k]; simp
  rw [h3]
  exact .v
theorem cut_fn (l : List Nat) (hl : Byt l) (hlen : l.length ≤ 100000) {c : Nat} (hc : c < 256) : Fn Tryz.prog 26 [strD l, strD [c]] fun d => ∃ b : Bool, d = .tup [strD (cutL c l), strD (cutR c l), boolD b] := by
  refine fnOf [] Tryz.func26 rfl (by kernel_rfl) (Nat.le_of_ble_eq_true rfl) ?_
  have hix := indexS_fn l hl hc
  conv => whnf
  refine goIn [] Tryz.func50 rfl (by kernel_rfl) (Nat.le_of_ble_eq_true rfl) ?_
  conv => whnf
  refine CallVC.pure hix rfl ?_
  rintro _ rfl
  have hsz : ((strB l).size : Int) = (l.length : Int) := by rw [strB_size]
  rcases ixN_at c l 0 with ⟨h1, h2, h3⟩ | ⟨i, h1, h2, h3, h4⟩
  · rw [h1, h2, h3]
    conv => whnf
    exact ⟨false, rfl⟩
  · rw [h1, h3, h4, Nat.zero_add]
    conv => whnf
    have e1 : IntKind.i64.wrap (((i : Nat) : Int) + 1) = ((i + 1 : Nat) : Int) := wrap_next (n := 100001) (by omega) (by decide)
    refine ⟨⟨by omega, by omega, by omega⟩, ?_⟩
    conv => whnf
    have e2 : IntKind.i64.wrap (((i : Nat) : Int) + (((strB [c]).size : Nat) : Int)) = ((i + 1 : Nat) : Int) := by rw [strB_size]; exact e1
    rw [e2]
    refine ⟨⟨by omega, by omega, by omega⟩, ?_⟩
    conv => whnf
    refine ⟨true, ?_⟩
    rw [show ((strB l).extract ((0 : Nat) : Int).toNat ((i : Nat) : Int).toNat) = strB (l.take i) from (by rw [strB_extract]; simp), show ((strB l).extract ((i + 1 : Nat) : Int).toNat (((strB l).size : Nat) : Int).toNat) = strB (l.drop (i + 1)) from (by rw [strB_extract, strB_size]; simp)]
    rfl
end Go.Proofs.YtooaeccmkgockaaGreatDoor.V
