/-
  strings.Join, IndexByte, Split as contracts by value. Conditions: texts not too long; the separator is one byte.
-/
import Derived.Test.YtbhmnloklpdmiaaDoorAh
import Derived.Test.YtbhmnloklpdmiaaDoorAb
import Derived.Test.YtbhmnloklpdmiaaDoorVdr
import Derived.Test.YtbhmnloklpdmiaaDoorAsl
namespace Go.Proofs.YtbhmnloklpdmiaaDoor.V
open Go.RowKit Go.Shelf Go.Lib
attribute [local irreducible] OpVC

theorem interc_map {α β : Type} (f : α → β) (sep : List α) : ∀ L : List (List α), (sep.map f).intercalate (L.map (List.map f)) = (sep.intercalate L).map f
  | [] => rfl
  | [x] => by simp [List.intercalate]
  | x :: y :: r => by
    have := interc_map f sep (y :: r)
    simp only [List.intercalate, List.map_cons, List.intersperse, List.flatten_cons, List.map_append] at this ⊢
    rw [this]
theorem map_data (L : List (List Nat)) : (L.map strB).map (fun b => b.data.toList) = L.map (List.map UInt8.ofNat) := by
  rw [List.map_map]; rfl
theorem join_c : JoinC := by
  intro L sep hL hs hlen hjl
  refine ⟨⟨_, Tryd.func26, rfl⟩, fun w B args' hB hr => ?_⟩
  match args', hr with
  | [], hr => have := hr.1; simp at this
  | [_], hr => have := hr.1; simp at this
  | _ :: _ :: _ :: _, hr => have := hr.1; simp at this
  | [v0, v1], hr =>
  have h0 := hr.2 0 _ v0 rfl rfl
  have h1 := rep_v (hr.2 1 (strD sep) v1 rfl rfl)
  subst h1
  have hval : Lib.join ((L.map strB).map (fun b => b.data.toList)) (strB sep).data.toList = (joinN sep L).map UInt8.ofNat := by
    rw [map_data, strB_data]; exact interc_map _ _ _
  cases h0 with
  | rows b o g hc hp hl hcell hrep =>
    rename_i p c
    cases L with
    | nil =>
      refine (calls_under ((Any.strings_Join_none lays156 Builder_Extra_156 p c (strB sep) w).mono fun e w' ⟨h1, h2⟩ => ⟨h1, h2 ▸ Below.refl _ _⟩)).mono fun e w' ⟨h1, h2⟩ => ?_
      exact ⟨_, _, rfl, h1, h2, .v⟩
    | cons x r =>
      obtain ⟨hp1, hp2⟩ := hp (by simp)
      subst hp1
      have hcells : ∀ (j : Nat) y, ((x :: r).map strB)[j]? = some y → w.cell? ⟨b, o + j, none⟩ = some (.string y) := fun j y hy => by
        rw [List.getElem?_map] at hy
        cases hq : (x :: r)[j]? with
        | none => rw [hq] at hy; cases hy
        | some z =>
          rw [hq] at hy
          simp only [Option.map_some, Option.some.injEq] at hy
          subst hy
          have h4 := hcell j z 0 (strD z) hq rfl
          have h5 := rep_v (hrep j z 0 (strD z) hq rfl)
          rw [h5, Nat.mul_one, Nat.add_zero] at h4
          exact h4
      have hll : ((x :: r).map strB).length = (x :: r).length := by simp
      have hcall := Any.strings_Join lays156 Builder_Extra_156 b o c ((x :: r).map strB) (strB sep) w hcells (hB b hp2) (by rw [hll]; omega) (by rw [hll]; exact hc) (by rw [hval, List.length_map]; omega)
      rw [hll, hval] at hcall
      exact (calls_under hcall).mono fun e w' ⟨h1, h2⟩ => ⟨_, _, rfl, h1, h2, .v⟩

/-! ### IndexByte -/
def figs : List Nat := [48, 49, 50, 51, 52, 53, 54, 55, 56, 57, 97, 98, 99, 100, 101, 102]
def ixD (c : Nat) : Int := match unhex c with
  | some k => k
  | none => -1
theorem ix_figs : ∀ c : Nat, c < 256 → Lib.indexByte (figs.map UInt8.ofNat) (UInt8.ofNat c) = ixD c := by decide +kernel
theorem index_fn (c : Nat) (hc : c < 256) : Fn Tryd.prog 29 [strD figs, .v (.int .u8 c)] fun d => d = .v (.int .i64 (ixD c)) := by
  refine ⟨⟨_, Tryd.func29, rfl⟩, fun w B args' hB hr => ?_⟩
  match args', hr with
  | [], hr => have := hr.1; simp at this
  | [_], hr => have := hr.1; simp at this
  | _ :: _ :: _ :: _, hr => have := hr.1; simp at this
  | [v0, v1], hr =>
  have h0 := rep_v (hr.2 0 (strD figs) v0 rfl rfl)
  have h1 := rep_v (hr.2 1 (.v (.int .u8 c)) v1 rfl rfl)
  subst h0 h1
  refine (Any.strings_IndexByte lays137 (strB figs) c w).mono fun e w' ⟨h1, h2⟩ => ?_
  subst h2
  refine ⟨_, _, rfl, h1, Under.refl _ _, ?_⟩
  rw [strB_data, show ((c : Int).toNat.toUInt8) = UInt8.ofNat c from rfl, ix_figs c hc]
  exact .v

/-! ### Split -/
theorem isPre (c x : UInt8) (l : List UInt8) : [c].isPrefixOf (x :: l) = (c == x) := by simp [List.isPrefixOf]
theorem split_eq : ∀ l : List Nat, Byt l → splitK [58] 0 ((l.map UInt8.ofNat).count 58) (l.map UInt8.ofNat) = (splitC l).map (List.map UInt8.ofNat)
  | [], _ => rfl
  | x :: l, h => by
    have ih := split_eq l h.tail
    have hx := h.head
    rw [List.map_cons]
    by_cases h58 : x = 58
    · subst h58
      rw [show (UInt8.ofNat 58) = (58 : UInt8) from rfl, List.count_cons_self, splitK]
      have hi : index ((58 : UInt8) :: l.map UInt8.ofNat) [58] = 0 := by
        rw [index, isPre]; rfl
      rw [hi, splitC, decide_eq_true rfl]
      simp only []
      rw [List.map_cons, ← ih]
      rfl
    · have hne : UInt8.ofNat x ≠ 58 := fun e => h58 (ofNat_inj hx (by decide) (e.trans (show (58 : UInt8) = UInt8.ofNat 58 from rfl)))
      rw [List.count_cons_of_ne hne, splitC, decide_eq_false h58]
      obtain ⟨p, r, hpr⟩ : ∃ p r, splitC l = p :: r := by
        cases hq : splitC l with
        | nil => exact absurd hq (splitC_ne l)
        | cons p r => exact ⟨p, r, rfl⟩
      rw [hpr] at ih ⊢
      simp only [List.map_cons] at ih ⊢
      cases hk : (l.map UInt8.ofNat).count 58 with
      | zero =>
        rw [hk, splitK] at ih
        injection ih with i1 i2
        rw [splitK, ← i1, ← i2]
      | succ k =>
        rw [hk, splitK] at ih
        rw [splitK]
        have hi : index (UInt8.ofNat x :: l.map UInt8.ofNat) [58] = if index (l.map UInt8.ofNat) [58] == -1 then -1 else index (l.map UInt8.ofNat) [58] + 1 := by
          rw [index, isPre, if_neg (by simp; exact fun e => hne e.symm)]
        rw [hi]
        have hge := index_ge (l.map UInt8.ofNat) [58]
        by_cases hm : index (l.map UInt8.ofNat) [58] = -1
        · rw [hm] at ih ⊢
          simp only [beq_self_eq_true, if_true] at ih ⊢
          injection ih with i1 i2
          rw [← i1, ← i2]
        · have e1 : (index (l.map UInt8.ofNat) [58] == -1) = false := beq_eq_false_iff_ne.2 hm
          have e2 : (index (l.map UInt8.ofNat) [58] + 1 == -1) = false := beq_eq_false_iff_ne.2 (by omega)
          rw [e1] at ih ⊢
          simp only [Bool.false_eq_true, if_false] at ih ⊢
          rw [e2]
          simp only [Bool.false_eq_true, if_false]
          injection ih with i1 i2
          obtain ⟨i, hi⟩ := Int.eq_ofNat_of_zero_le (show 0 ≤ index (l.map UInt8.ofNat) [58] by omega)
          rw [hi] at i1 i2 ⊢
          rw [show ((i : Int) + 1).toNat + 0 = i + 1 by omega, show ((i : Int) + 1).toNat + ([58] : List UInt8).length = (i + 1) + 1 from (by show ((i : Int) + 1).toNat + 1 = _; omega)]
          rw [← i1, ← i2]
          simp

/-- strings.Split at one byte. -/
theorem gensplit_one (s : ByteArray) (c : UInt8) (w : World) (hs : s.size < 4294967281) :
    Calls Tryd.prog 34 #[.string s, .string ⟨#[c]⟩, .int .i64 (0 : Nat), .int .i64 (-1)] w fun e w' =>
      e = .returned (.slice (some ⟨w.heap.size, 0, none⟩) (Lib.splitB ⟨#[c]⟩ 0 (Lib.countB s ⟨#[c]⟩) s).length (Lib.countB s ⟨#[c]⟩ + 1)) ∧ w' = w.alloc (.cells (Lib.cellsOf (Lib.splitB ⟨#[c]⟩ 0 (Lib.countB s ⟨#[c]⟩) s) (Lib.countB s ⟨#[c]⟩ + 1)) 9) := by
  have hle := Lib.countB_le ⟨#[c]⟩ (Nat.le_refl _) s.size s (Nat.le_refl _)
  have hidx : ∀ x : ByteArray, Lib.indexB x ⟨#[c]⟩ = Lib.indexByte x.data.toList c := fun x => Lib.index_one x.data.toList c
  have hcnt : Lib.countB s ⟨#[c]⟩ = Lib.countByte s.data.toList c := Lib.count_one c s.data.toList
  have h := Any.strings_genSplit_core lays221 (by kernel_rfl) s ⟨#[c]⟩ 0 (-1) (Lib.countB s ⟨#[c]⟩ + 1) w hs (Nat.le_refl _) (Nat.zero_le _)
    (fun x cc hx => (Any.strings_Index_one { lays221 with } x c _).mono fun e w' ⟨h1, h2⟩ => ⟨by rw [h1, hidx], h2⟩)
    ((Any.strings_Count_one { lays221 with } s c w).mono fun e w' ⟨h1, h2⟩ => ⟨by rw [h1, hcnt], h2⟩)
    (by decide) (by decide) (by rw [if_pos (by decide)]; omega)
  rw [Nat.add_sub_cancel] at h
  exact h
theorem data_inj : ∀ a b : List ByteArray, a.map (fun b => b.data.toList) = b.map (fun b => b.data.toList) → a = b
  | [], [], _ => rfl
  | [], _ :: _, h => by simp at h
  | _ :: _, [], h => by simp at h
  | x :: a, y :: b, h => by
    simp only [List.map_cons, List.cons.injEq] at h
    rw [strB_ext h.1, data_inj a b h.2]
theorem gensplit_fn (l : List Nat) (hl : Byt l) (hlen : l.length ≤ 1000) : Fn Tryd.prog 34 [strD l, strD [58], intD 0, intD (-1)] fun d => d = rowsT (splitC l) := by
  refine ⟨⟨_, Tryd.func34, rfl⟩, fun w B args' hB hr => ?_⟩
  match args', hr with
  | [], hr => have := hr.1; simp at this
  | [_], hr => have := hr.1; simp at this
  | [_, _], hr => have := hr.1; simp at this
  | [_, _, _], hr => have := hr.1; simp at this
  | _ :: _ :: _ :: _ :: _ :: _, hr => have := hr.1; simp at this
  | [v0, v1, v2, v3], hr =>
  have h0 := rep_v (hr.2 0 (strD l) v0 rfl rfl)
  have h1 := rep_v (hr.2 1 (strD [58]) v1 rfl rfl)
  have h2 := rep_v (hr.2 2 (intD 0) v2 rfl rfl)
  have h3 := rep_v (hr.2 3 (intD (-1)) v3 rfl rfl)
  subst h0 h1 h2 h3
  have hn := Lib.splitB_all ⟨#[58]⟩ (Nat.le_refl _) 0 _ (strB l) rfl
  have cc := gensplit_one (strB l) 58 w (by rw [strB_size]; omega)
  have e2 : Lib.cellsOf (Lib.splitB ⟨#[58]⟩ 0 (Lib.countB (strB l) ⟨#[58]⟩) (strB l)) (Lib.countB (strB l) ⟨#[58]⟩ + 1) = ((Lib.splitB ⟨#[58]⟩ 0 (Lib.countB (strB l) ⟨#[58]⟩) (strB l)).map Value.string).toArray := by
    have := Lib.cellsOf_full (Lib.splitB ⟨#[58]⟩ 0 (Lib.countB (strB l) ⟨#[58]⟩) (strB l))
    rwa [hn] at this
  rw [e2] at cc
  have hsp : Lib.splitB ⟨#[58]⟩ 0 (Lib.countB (strB l) ⟨#[58]⟩) (strB l) = (splitC l).map strB := by
    have h5 := Lib.splitB_data ⟨#[58]⟩ 0 (Lib.countB (strB l) ⟨#[58]⟩) (strB l)
    have h6 : Lib.countB (strB l) ⟨#[58]⟩ = (l.map UInt8.ofNat).count 58 := Lib.count_one 58 (l.map UInt8.ofNat)
    rw [h6] at h5
    have h7 := h5.trans (split_eq l hl)
    rw [← map_data] at h7
    rw [h6]
    exact data_inj _ _ h7
  rw [hsp] at cc hn
  rw [List.length_map] at hn
  refine cc.mono fun e w' ⟨h4, h5⟩ => ?_
  subst h5
  refine ⟨_, _, rfl, h4, ⟨(Below.refl _ _).alloc (Nat.le_refl _) _, Nat.le_refl _⟩, ?_⟩
  rw [List.length_map, ← hn]
  refine .rows w.heap.size 0 (fun i _ => ((((splitC l).map strB).map Value.string)[i]?).getD undef) (Nat.le_refl _) (fun _ => ⟨rfl, .inr ⟨Nat.le_refl _, by simp⟩⟩) (fun i x hx => rfl) (fun i x j d hx hd => ?_) (fun i x j d hx hd => ?_)
  · match j, hd with
    | 0, hd =>
      have hget : (((splitC l).map strB).map Value.string)[i]? = some (.string (strB x)) := by
        rw [List.getElem?_map, List.getElem?_map, hx]; rfl
      have hc : (w.alloc (.cells (((splitC l).map strB).map Value.string).toArray 9)).heap[w.heap.size]? = some (.cells (((splitC l).map strB).map Value.string).toArray 9 (0, 0)) := by
        show (w.heap.push _)[w.heap.size]? = _
        simp
      rw [Nat.mul_one, Nat.add_zero, Nat.zero_add, hget]
      show (World.cell? _ _) = _
      unfold World.cell?
      simp only [baseCtx]
      rw [hc]
      simp only [List.getElem?_toArray]
      rw [hget]
      rfl
    | _ + 1, hd => simp [strE] at hd
  · match j, hd with
    | 0, hd =>
      have hget : (((splitC l).map strB).map Value.string)[i]? = some (.string (strB x)) := by
        rw [List.getElem?_map, List.getElem?_map, hx]; rfl
      rw [hget]
      have hd : some (strD x) = some d := hd
      injection hd with hd; subst hd
      exact .v
    | _ + 1, hd => simp [strE] at hd
attribute [local irreducible] Fn FnN
theorem split_fn (l : List Nat) (hl : Byt l) (hlen : l.length ≤ 1000) : Fn Tryd.prog 28 [strD l, strD [58]] fun d => d = rowsT (splitC l) := by
  refine fnOf [] Tryd.func28 rfl (by kernel_rfl) (Nat.le_of_ble_eq_true rfl) ?_
  have h := gensplit_fn l hl hlen
  conv => whnf
  refine CallVC.pure h rfl ?_
  rintro _ rfl
  conv => whnf
end Go.Proofs.YtbhmnloklpdmiaaDoor.V
