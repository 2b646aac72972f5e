/-
  Wheels: what is asked without turning; ticks at which wheels begin; the map and the row know the same. Conditions: numbers are of their types.
-/
import Derived.Test.YtcbpdjikdohegaaWbK
namespace Go.Proofs.Ytcbpdjikdohegaa.V
open Go.RowKit
attribute [local irreducible] Fn FnN OpVC Ob

theorem len_rd (now : Int) (R : Nat → List Al) (T U : List Al) (M : List ME) (c : Nat) (o2 : LO) (G : List Nat × Nat) (F : List (Nat × D)) {K : D → St → Prop} (hF : F.all (fun p => cutOk 6 5 p.2) = true) (hG : Nat.ble G.2 5 = true) (ho : ∀ r z n, LOLe r z n o2 o2) (hK : K (intD M.length) ⟨F, WH now R T U M c o2, 53, G⟩) :
    CallVC Try.prog false 24 [.loc 0 0] ⟨F, WH now R T U M c o2, 53, G⟩ K := by
  refine toIn 5 [] Try.func24 rfl (by kernel_rfl) (Nat.le_of_ble_eq_true rfl) (by decide) hG rfl hF ?_
  conv => whnf
  have e : ((L : List ME) → ((L.map meV).toArray.size : Int) = L.length) := fun L => by simp
  rw [e]
  refine ⟨[], [], intD M.length, WH now R T U M c o2, 53, ?_, hK⟩
  repeat' (first | exact trivial | exact .inl (DLe.refl _) | exact .inl (DLe.nil _ _) | (refine .inr ⟨rfl, _, ?_, rfl⟩; rfl) | exact rfl | exact Nat.zero_le _ | constructor)
  exact ho _ _ _

theorem doc_ho (X : Int) (L : List Al) : ∀ r z n, LOLe r z n (docO X L) (docO X L) := fun _ _ _ => ⟨rfl, .inl (DLe.refl _), .inl (DLe.refl _), trivial⟩
theorem in_fn (n lo hi : Int) : Fn Try.prog 26 [intD n, intD lo, intD hi] fun d => d = intD (match decide (n < lo) with
    | true => lo
    | false => match decide (hi < n) with
      | true => hi
      | false => n) := by
  refine fnOf [] Try.func26 rfl (by kernel_rfl) (Nat.le_of_ble_eq_true rfl) ?_
  conv => whnf
  cases h1 : decide (n < lo) with
  | true => conv => whnf
  | false =>
    conv => whnf
    cases h2 : decide (hi < n) with
    | true => conv => whnf
    | false => conv => whnf

/-- A tick at which a wheel begins. -/
def newN (n : Int) : Int := match decide (n < 0) with
  | true => 0
  | false => match decide (1073741824 < n) with
    | true => 1073741824
    | false => n
theorem newN_in (n : Int) : 0 ≤ newN n ∧ newN n ≤ 1073741824 := by
  unfold newN
  split
  · omega
  · rename_i h1; have := of_decide_eq_false h1
    split
    · omega
    · rename_i h2; have := of_decide_eq_false h2; omega
theorem newN_min (n : Int) : min (max n 0) 1073741824 = newN n := by
  unfold newN
  split
  · rename_i h1; have := of_decide_eq_true h1; omega
  · rename_i h1; have := of_decide_eq_false h1
    split
    · rename_i h2; have := of_decide_eq_true h2; omega
    · rename_i h2; have := of_decide_eq_false h2; omega

/-- The map and the row know the same. -/
structure Like (M : List ME) (L : List Al) : Prop where
  has : ∀ n, (mfind n M).isSome = decide (0 ≤ findI (isId n) L)
  len : M.length = L.length
theorem like_set {now : Int} {M : List ME} {L : List Al} (h : Like M L) (a : Al) (ha : a.at_ ≤ 9223372036854775807) (hn : 0 ≤ now ∧ now ≤ 1073741824) : setQ now L a = setW now M a := by
  unfold setQ setW
  cases h1 : decide (a.at_ ≤ now) with
  | true => rfl
  | false =>
    have : decide (now + 4095 < a.at_) = decide (4095 < a.at_ - now) := by
      apply decide_eq_decide.2; omega
    rw [this, h.has]
    rfl
theorem findI_nonneg {α : Type} {p : α → Bool} {L : List α} : decide (0 ≤ findI p L) = L.any p := by
  unfold findI
  cases h : L.findIdx? p with
  | none =>
    have := List.findIdx?_eq_none_iff.1 h
    have h2 : L.any p = false := by rw [List.any_eq_false]; intro x hx; simp [this x hx]
    rw [h2]; rfl
  | some i =>
    obtain ⟨hi, h3, _⟩ := List.findIdx?_eq_some_iff_getElem.1 h
    have h2 : L.any p = true := by rw [List.any_eq_true]; exact ⟨L[i], List.getElem_mem _, h3⟩
    rw [h2]
    exact decide_eq_true (by show (0 : Int) ≤ (i : Int); omega)
theorem insP_mem (a : Al) (L : List Al) : ∀ k, k ≤ L.length → (insP a L k).1.Perm (match (insP a L k).2 with
    | true => a :: L.take k
    | false => L.take k)
  | 0, _ => by simp [insP]
  | k + 1, hk => by
    have ih := insP_mem a L k (by omega)
    have hx : L[k]? = some L[k] := List.getElem?_eq_getElem hk
    rw [insP, hx]
    have ht : L.take (k + 1) = L.take k ++ [L[k]] := by rw [List.take_add_one, hx]; rfl
    generalize insP a L k = st at ih
    obtain ⟨o, i⟩ := st
    cases i with
    | true =>
      simp only at ih ⊢
      rw [ht]
      exact ih.append_right [L[k]]
    | false =>
      simp only at ih ⊢
      split
      · simp only
        rw [ht]
        have h1 : (o ++ [a] ++ [L[k]]).Perm (a :: o ++ [L[k]]) := (List.perm_append_comm (l₁ := o) (l₂ := [a])).append_right _
        exact h1.trans (List.Perm.cons a (ih.append_right _))
      · simp only
        rw [ht]
        exact ih.append_right _
theorem insF_perm (a : Al) (L : List Al) : (insF a L).Perm (a :: L) := by
  have h := insP_mem a L L.length (Nat.le_refl _)
  rw [List.take_length] at h
  unfold insF
  generalize insP a L L.length = st at h
  obtain ⟨o, i⟩ := st
  cases i with
  | true => exact h
  | false => exact (h.append_right [a]).trans List.perm_append_comm
theorem mfind_push (n : Int) (x : ME) : ∀ M : List ME, mfind n (M ++ [x]) = match mfind n M with
    | some v => some v
    | none => if n = x.1 then some x.2.1 else none
  | [] => rfl
  | y :: r => by
    show (if n = y.1 then some y.2.1 else mfind n (r ++ [x])) = _
    rw [mfind_push n x r, mfind]
    split
    · rfl
    · rfl
theorem like_ins {M : List ME} {L : List Al} (h : Like M L) (a : Al) (c : Nat) : Like (M ++ [(a.id, a.at_, c)]) (insF a L) := by
  refine ⟨fun n => ?_, by rw [(insF_perm a L).length_eq]; simp [h.len]⟩
  rw [findI_nonneg, (insF_perm a L).any_eq, mfind_push, List.any_cons, ← findI_nonneg, ← h.has]
  cases mfind n M with
  | some v => simp
  | none =>
    by_cases hn : n = a.id
    · simp [hn, isId]
    · simp [hn, isId, Ne.symm hn]

theorem fn_of_flat {f : FuncId} {args : List Value} {v : Value} (hb : hasBody Try.prog f) (h : ∀ w, Calls Try.prog f args.toArray w fun e w' => e = .returned v ∧ Under w.heap.size w w') : Fn Try.prog f (args.map .v) fun d => d = .v v := by
  unfold Fn
  refine ⟨hb, fun w B vs _ hr => ?_⟩
  have : vs = args := by
    refine List.ext_getElem? fun i => ?_
    have hl : vs.length = args.length := by have := hr.1; simpa using this
    by_cases hi : i < args.length
    · have h1 : (args.map D.v)[i]? = some (.v args[i]) := by rw [List.getElem?_map, List.getElem?_eq_getElem hi]; rfl
      have h2 : vs[i]? = some vs[i] := List.getElem?_eq_getElem (by omega)
      have h3 := rep_v (hr.2 i _ _ h1 h2)
      rw [h2, h3, List.getElem?_eq_getElem hi]
    · rw [List.getElem?_eq_none (by omega), List.getElem?_eq_none (by omega)]
  subst this
  exact (h w).mono fun e w' ⟨h1, h2⟩ => ⟨_, _, rfl, h1, h2, .v⟩
theorem each_one {α : Type} {l : List α} {k : Nat} {a : α} {Q : α → Prop} (hak : l[k]? = some a) (h : Q a) : ∀ x, l[((k : Nat) : Int).toNat]? = some x → Q x := by
  intro x hx
  have hx' : l[k]? = some x := hx
  rw [hak] at hx'
  injection hx' with hx'
  exact hx' ▸ h

end Go.Proofs.Ytcbpdjikdohegaa.V
